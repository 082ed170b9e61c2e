/- Parts of a proof, joined. -/
import Derived.Lib.SlicesCompact
import Derived.Sort.Grow
import Derived.Sort.Row
import Derived.Test.YtlfkgkedfciccaaGreatH23
set_option linter.unusedSectionVars false
set_option linter.unusedVariables false
set_option linter.unusedSimpArgs false
set_option maxHeartbeats 0
set_option maxRecDepth 100000
noncomputable section
namespace Go.Fz.Sy
variable {P:Program} {φ:Ren} {K:Nat→Prop} {w:World} {R:Type}
abbrev Zp:Int->Value:=Value.int .i64
def Xp(l:List Int):List Int:=l.mergeSort fun x y=>decide (x<=y)
def MW(l:List Int):List Int:=Lib.compact l
def zmp(l:List Int):Bool:=Nat.ble l.length 1000000000
structure PZ(P:Program)(f:FuncId):Prop where
 fn:∃fn,P.funcs[f]?=some fn∧fn.body.isSome=true
 run:∀(blk off cap:Nat) (L:List Int) (w:World),Sort.Holds Zp w blk off L.toArray->blk < w.heap.size->L.length < 4611686018427387904->
  Calls P f #[.slice (some ⟨blk,off,none⟩) L.length cap] w fun e w'=>e=.returned (.tuple #[])∧∃n os,w'=Sort.grow (Sort.putRow Zp (Sort.ahead w n) blk off (L.mergeSort fun x y=>decide (x<=y)).toArray) os
 nil:∀(a:Option Addr) (cap:Nat) (w:World),Calls P f #[.slice a 0 cap] w fun e w'=>e=.returned (.tuple #[])∧w'=w
structure Ra(P:Program)(f:FuncId):Prop where
 fn:∃fn,P.funcs[f]?=some fn∧fn.body.isSome=true
 run:∀(blk off cap:Nat) (L:List Int) (w:World),Sort.Holds Zp w blk off L.toArray->L.length<=9223372036854775807->L.length<=cap->
  Calls P f #[.slice (some ⟨blk,off,none⟩) L.length cap] w fun e w'=>e=.returned (.slice (some ⟨blk,off,none⟩) (Lib.compact L).length cap)∧∃q,w'=Sort.putRow Zp (Sort.ahead w q) blk off (Lib.compact L++List.replicate (L.length - (Lib.compact L).length) 0).toArray
 nil:∀(a:Option Addr) (cap:Nat) (w:World),Calls P f #[.slice a 0 cap] w fun e w'=>e=.returned (.slice a 0 cap)∧w'=w
abbrev ziv:=List (FuncId×Bool)
def ziw(P:Program)(f:FuncId):Bool->Prop
 |true=>PZ P f
 |false=>Ra P f
def zix(P:Program)(s:ziv):Prop:=∀x∈s,ziw P x.1 x.2
def zdv(s:ziv)(f:FuncId):Option Bool:=match s with
 |[]=>none
 |x::r=>bif Nat.beq x.1 f then some x.2 else zdv r f
theorem ze6{f:FuncId}{b:Bool}:∀{s:ziv},zix P s->zdv s f=some b->ziw P f b
 |[],_,h=>by cases h
 |x::r,hs,h=>by
  have h:(bif Nat.beq x.1 f then some x.2 else zdv r f)=some b:=h;cases hb:Nat.beq x.1 f with
  |true=>
   rw[hb]at h;cases h;have:=zpK hb;subst this;exact hs x (by simp)
  |false=>
   rw[hb]at h;exact ze6 (fun y hy=>hs y (zqP _ hy)) h
def zmq(kind:Bool)(args:List SV)(H:SH)(nx:Nat)(k:KO R):Option R:=match args with
 |[.nils]=>bif kind then k (.tup []) H nx else k .nils H nx
 |[.own b]=>match zo H b with
  |some (.arr nn (.int .i64) l)=>bif zmp l then bif kind then k (.tup []) (jB H b (.arr nn (.int .i64) (Xp l))) nx
    else match kX (jB H b (.gone (rsz nn (.int .i64) l) l.length)) nx (.arr nn (.int .i64) (MW l))with
     |some H2=>k (.own nx) H2 (nx+1)
     |none=>none
   else none
  |_=>none
 |_=>none
theorem zbN(w:World)(os:Array Obj){c:Nat}(h:c < w.heap.size):(Sort.grow w os).heap[c]?=w.heap[c]?:=by show(w.heap++os)[c]?=_;grind
theorem Dn{H:Hp}{w':World}(g:zF φ H K w)(hs:w.heap.size<=w'.heap.size)(h:∀c,c < w.heap.size->w'.heap[c]?=w.heap[c]?):zF φ H K w':=by
 refine⟨fun b k hb=>?_,g.sep,g.prot,fun c hc=>by have:=g.kin c hc;omega,fun b L hL=>?_,g.fsep⟩
 ·obtain⟨L,h1,h2⟩:=g.rel b k hb;exact⟨L,h1,h2.congr (h _ h2.lt)⟩
 ·have h2:=g.fz b L hL;obtain⟨q1,q2,a,el,fr,q3,q4⟩:=h2;have hlt:b < w.heap.size:=(zqM.1 q3).1;exact⟨q1,q2,a,el,fr,by grind,q4⟩
theorem ak(w:World)(blk off:Nat)(d:Array Int)(c:Nat)(h:c≠blk):(Sort.putRow Zp w blk off d).heap[c]?=w.heap[c]?:=by show(w.heap.modify blk _)[c]?=_;grind
theorem mS(w:World)(blk off:Nat)(d:Array Int):(Sort.putRow Zp w blk off d).heap.size=w.heap.size:=by simp_all
theorem zdw(l:List Int):qm (.int .i64) l=l.map Zp:=by
 unfold qm;induction l with
 |nil=>rfl
 |cons x r ih=>rw[zss,zrG,ih];rfl
theorem zkm{H:Hp}{b:Nat}{l:List Int}{M:Loc}(g:zF φ H K w)(hb:H.get b=some (.cells (l.map Zp) false))(hM:φ b=some M) : ∃arr el,w.heap[M.blk]?=some (.cells arr el (0,0))∧M.lim<=arr.size∧Sort.Holds Zp w M.blk M.off l.toArray∧∀j,j < l.length->M.off+j < arr.size:=by
 obtain⟨arr,el,fr,e1,e2,e3⟩:=g.at hb hM;obtain⟨rfl,e4⟩:=e3 rfl;have hcell:∀j (hj:j < l.length),arr[M.off+j]?=some (Zp l[j]):=fun j hj=>by
  have hv:(l.map Zp)[j]?=some (Zp l[j]):=by simp[hj]
  obtain⟨v',q1,q2⟩:=e2 j _ hv;cases q2;exact q1
 refine⟨arr,el,e1,e4,fun j hj=>?_,fun j hj=>(zqM.1 (hcell j hj)).1⟩;have hj:j < l.length:=by simpa using hj
 refine⟨?_,?_⟩
 ·show(match w.heap[M.blk]? with | some (.cells c _ _)=>if(none:Option Nat).isSome then none else c[M.off+j]? | _=>none)=_;grind
 ·show(match w.heap[M.blk]? with | some (.cells _ _ (lo,hi))=>decide (lo<=M.off+j)&&decide (M.off+j < hi) | _=>false)=_;rw[e1];simp
theorem zhg{M:Loc}{arr:Array Value}{el:TypeId}{n:Nat}{d:Array Int}{l:List Int}(e1:w.heap[M.blk]?=some (.cells arr el (0,0)))(e4:M.lim<=arr.size)(hin:∀j,j < d.size->M.off+j < arr.size)(hl:∀(j:Nat) (x:Int),l[j]?=some x->d[j]?=some x) : ju φ (Sort.putRow Zp (Sort.ahead w n) M.blk M.off d) M (.cells (l.map Zp) false):=by
 refine⟨Sort.putCells Zp M.off d arr,el,(0,0),?_,fun j v hv=>?_,fun _=>⟨rfl,?_⟩⟩
 ·show((Sort.ahead w n).heap.modify M.blk _)[M.blk]?=_;rw[Array.getElem?_modify,zqI rfl];show Option.map _ w.heap[M.blk]?=_;rw[e1];rfl
 ·rw[zrF]at hv;cases hx:l[j]? with
  |none=>rw[hx]at hv;cases hv
  |some x=>
   rw[hx]at hv;simp only[zqQ,PL]at hv;subst hv;have hd:=hl j x hx;have hj:=(zqM.1 hd).1;have hin:=hin j hj;refine⟨Zp x,?_,.int _ _⟩;unfold Sort.putCells;rw[Array.getElem?_mapIdx,Array.getElem?_eq_getElem hin];have hc:M.off<=M.off+j∧M.off+j < M.off+d.size:=by omega
   simp only[zqQ,zqI hc,zsO];have:d[j]! = x:=by rw[getElem!_pos d j hj];exact(zqM.1 hd).2
   rw[this]
 grind[Sort.putCells]
theorem ze7{f:FuncId}(hs:PZ P f){arg:Value}(ha:∀(φ:Ren) v',zp φ arg v'->∃a c,v'=.slice a 0 c)(H:Hp)(nx:Nat):wM P f [arg] H nx (.tuple #[]) H nx:=by
 refine⟨FW _,fun φ w K us g hf hl=>?_⟩
 match us,hl with
 |[u],hl=>
  obtain⟨a,c',rfl⟩:=ha φ u hl.1
  refine zrs (hs.nil a c' w) ?_
  rintro e w' ⟨rfl,rfl⟩
  exact⟨_,φ,rfl,.tuple' trivial,Ext.refl _ _ _ _,g,qJ.refl _ _⟩
theorem zhh{ν:Nat->Bool}{H:SH}{b:Nat}{nn:Bool}(hb:zo H b=some (.arr nn (.int .i64) []))(φ:Ren)(v':Value)(h:zp φ (rho ν H b) v'):∃a c,v'=.slice a 0 c:=by
 rw[xX ν (nn:=nn) (t:=.int .i64) (l:=[]) (by rw[hb];rfl)]at h;cases nn with
 |false=>cases h;exact⟨_,_,rfl⟩
 |true=>
  have h:zp φ (.slice (some ⟨b,0,none⟩) 0 (qw+1)) v':=h;cases h<;>exact⟨_,_,rfl⟩
theorem zkn{ν:Nat->Bool}{H:SH}{b:Nat}{nn:Bool}{l:List Int}(hb:zo H b=some (.arr nn (.int .i64) l))(h0:l≠[]){φ:Ren}{v':Value}(h:zp φ (rho ν H b) v') : ∃M c',φ b=some M∧v'=.slice (some ⟨M.blk,M.off,none⟩) l.length c'∧l.length<=c'∧∀(φ':Ren) b' n,φ' b'=some M->n<=c'->zp φ' (.slice (some ⟨b',0,none⟩) n (qw+1)) (.slice (some ⟨M.blk,M.off,none⟩) n c'):=by
 have hl:0 < l.length:=zrT.2 h0;rw[xX ν (nn:=nn) (t:=.int .i64) (l:=l) (by rw[hb];rfl)]at h;have hn:jE nn l=false:=by
  cases l with
  |nil=>exact absurd rfl h0
  |cons x r=>cases nn<;>rfl
 rw[hn,zqD]at h;have h:zp φ (.slice (some ⟨b,0,none⟩) l.length (qw+1)) v':=h;generalize hnL:l.length=nL at h hl;generalize hcc:qw+1=cc at h;cases h with
 |sl _ _ _ _ M h hc=>omega
 |slO _ _ _ _ c' M h9 hc hn hl=>exact⟨M,c',h9,by simp,hn,fun φ' b' n hb' hn'=>by have:=zp.slO b' 0 n cc c' M hb' hc hn' hl;simpa using this⟩
 |slE=>omega
theorem MX(l:List Int):(Xp l).length=l.length:=List.length_mergeSort l
theorem ze8{l l':List Int}(nn:Bool)(h:l'.length=l.length):jE nn l'=jE nn l:=by cases nn<;>cases l<;>cases l'<;>first | rfl | simp at h
theorem ziy{f:FuncId}(hs:PZ P f){b:Nat}{H:SH}{nx:Nat}{nn:Bool}{l:List Int}(hb:zo H b=some (.arr nn (.int .i64) l))(hq:zmp l=true):cY P f [.own b] H nx (.tup []) (jB H b (.arr nn (.int .i64) (Xp l))) nx:=by
 have hlen:l.length<=1000000000:=zqH hq;have hreg:∀c,reg (zo (jB H b (.arr nn (.int .i64) (Xp l))) c)=reg (zo H c):=fun c=>by
  rw[qU];by_cases hc:c=b
  ·subst hc;rw[zqI rfl,hb];show some ((Xp l).length,rsz nn (.int .i64) (Xp l))=some (l.length,rsz nn (.int .i64) l);grind[rsz,MX,ze8]
  ·rw[zqu hc]
 have hnn:∀c,ji (zo (jB H b (.arr nn (.int .i64) (Xp l))) c)=true->ji (zo H c)=true:=fun c hc=>by
  rw[qU]at hc;by_cases hcb:c=b
  ·subst hcb;rw[zqI rfl,hb]at hc;rw[hb];exact hc
  grind
 refine⟨hs.fn,fun c z hz=>by rw[hreg c];exact hz,ZF hb (fun L=>by simp),FW _,fun ν hv=>⟨vy hreg hnn hv,?_⟩⟩;have hgood:∀φ K w,zF φ ((zK ν H).set b (.cells ((Xp l).map Zp) false)) K w->jE nn l=false->zF φ (zK ν (jB H b (.arr nn (.int .i64) (Xp l)))) K w:=fun φ K w g hn=>g.sub fun c k hc=>by grind[qe,qU,wu,Hp.get_set,qB,ze8,MX,Option.some.injEq,zdw]
 rw[wu hreg];by_cases h0:l=[]
 ·subst h0;have h1:=ze7 hs (arg:=rho ν H b) (zhh hb) (zK ν H) nx;have e:jB H b (.arr nn (.int .i64) (Xp []))=jB H b (.arr nn (.int .i64) []):=by simp[Xp]
  refine⟨FW _,fun φ w K us g hf hl=>zrs (h1.2 φ w K us g hf (by simpa[zu,den]using hl)) ?_⟩;rintro e w' ⟨v',φ',rfl,k1,k2,k3,k4⟩;refine⟨v',φ',rfl,by simpa[den,zu]using k1,k2,k3.sub fun c k hc=>?_,k4⟩;grind[qe,qU,wu,Xp]
 ·have hn:jE nn l=false:=by
   cases l with
   |nil=>exact absurd rfl h0
   |cons x r=>cases nn<;>rfl
  have hd:(zK ν H).get b=some (.cells (l.map Zp) false):=by rw[qe,hb];simp[qB,hn,zdw]
  refine⟨FW _,fun φ w K us g hf hl=>?_⟩
  match us,hl with
  |[u],hl=>
   obtain⟨hu,_⟩:=hl
   have hu:zp φ (rho ν H b) u:=by simpa only[den]using hu
   obtain⟨M,c',hM,rfl,hcl,_⟩:=zkn hb h0 hu
   obtain⟨arr,el,e1,e4,hH,hin⟩:=zkm g hd hM
   have hlt:M.blk < w.heap.size:=(zqM.1 e1).1
   refine zrs (hs.run M.blk M.off c' l w hH hlt (by omega)) ?_
   rintro e w' ⟨rfl,n,os,rfl⟩
   have hbr:=zhg (φ:=φ) (n:=n) (d:=(Xp l).toArray) (l:=Xp l) e1 e4 (fun j hj=>hin j (by grind[MX])) (fun j x hx=>by simpa using hx)
   have hM2:¬K M.blk:=g.prot b _ M hd rfl hM
   have ga:zF φ (zK ν H) K (Sort.ahead w n):=Dn g (FW _) fun c _=>rfl
   have g2:=zF.upd ga hd rfl hM (fun c hc=>ak _ _ _ (Xp l).toArray c hc) (mS _ _ _ _) hbr
   refine⟨.tuple #[],φ,rfl,by simp only[den,zu];exact .tuple' trivial,Ext.refl _ _ _ _,hgood φ K _ (Dn g2 (by simp_all) fun c hc=>zbN _ os hc) hn,?_⟩
   refine⟨rfl,rfl,rfl,?_,fun c hc=>?_⟩
   ·simp_all
   ·have hne:c≠M.blk:=fun e=>hM2 (e▸hc)
    have hcs:=g.kin c hc
    grind[Sort.grow,Sort.putRow,Sort.ahead,Xp,zbN,mS,ak]
theorem zmr(l:List Int):(Lib.compact l).length<=l.length:=by grind[Lib.compact,Lib.compactUpTo,List.length_map,List.length_filter_le,Lib.keeps,List.range]
theorem zoo{l:List Int}(h:l≠[]):Lib.compact l≠[]:=fun e=>by have hl:0 < l.length:=zrT.2 h;unfold Lib.compact Lib.compactUpTo at e;have h1:=List.map_eq_nil_iff.1 e;have h2:=(zsR.1 h1) 0 (by simpa using hl);exact h2 (by simp[Lib.keeps])
theorem ziz{f:FuncId}(hs:Ra P f){b:Nat}{H H2:SH}{nx:Nat}{nn:Bool}{l:List Int}(hb:zo H b=some (.arr nn (.int .i64) l))(hq:zmp l=true)(hnew:kX (jB H b (.gone (rsz nn (.int .i64) l) l.length)) nx (.arr nn (.int .i64) (MW l))=some H2):cY P f [.own b] H nx (.own nx) H2 (nx+1):=by
 have hlen:l.length<=1000000000:=zqH hq;obtain⟨q1,q2,q3⟩:=PJ hb hnew;refine⟨hs.fn,q1,q2,zqv _,fun ν hv=>?_⟩;obtain⟨q4,q5,q6,q7⟩:=q3 ν hv;refine⟨q4,zqv _,fun φ w K us g hf hl=>?_⟩
 match us,hl with
 |[u],hl=>
  obtain⟨hu,_⟩:=hl
  have hu:zp φ (rho ν H b) u:=by simpa only[den]using hu
  have hfr:=hf.at (FW nx) (zqL nx)
  have c0:Lib.compact ([]:List Int)=[]:=rfl
  by_cases h0:l=[]
  ·subst h0
   obtain⟨a,c,rfl⟩:=zhh hb φ u hu
   refine zrs (hs.nil a c w) ?_
   rintro e w' ⟨rfl,rfl⟩
   cases nn with
   |false=>
    obtain⟨e1,e2⟩:=q7 rfl;rw[xX ν (nn:=false) (t:=.int .i64) (l:=[]) (by rw[hb];rfl)]at hu;exact⟨_,φ,rfl,by simp only[den];rw[e1];exact hu,Ext.refl _ _ _ _,e2 φ K w' g,qJ.refl _ _⟩
   |true=>
    have hd:(zK ν H).get b=some (.cells [] false):=by rw[qe,hb];rfl
    obtain⟨φ',f1,f2,f3⟩:=CW g hfr.1 hfr.2 hd;rw[xX ν (nn:=true) (t:=.int .i64) (l:=[]) (by rw[hb];rfl)]at hu;have hu:zp φ (.slice (some ⟨b,0,none⟩) 0 (qw+1)) (.slice a 0 c):=hu;refine⟨_,φ',rfl,?_,f1,q6 φ' K w' (by simpa[MW,c0,qm]using f2),qJ.refl _ _⟩;simp only[den];rw[q5 rfl];show zp φ' (.slice (some ⟨nx,0,none⟩) 0 (qw+1)) (.slice a 0 c);generalize hcc:qw+1=cc at hu ⊢;generalize hz:(0:Nat)=z at hu ⊢;cases hu with
    |sl _ _ _ _ M h hc=>omega
    |slO _ _ _ _ c' M h9 hc hn hl=>exact .slO nx _ _ cc c M (f3 M h9) hc hn hl
    |slE _ _ _ a' M h9 hc=>exact .slE nx _ cc a' M (f3 M h9) hc
  ·have hn:jE nn l=false:=by
    cases l with
    |nil=>exact absurd rfl h0
    |cons x r=>cases nn<;>rfl
   have hd:(zK ν H).get b=some (.cells (l.map Zp) false):=by rw[qe,hb];simp[qB,hn,zdw]
   obtain⟨M,c',hM,rfl,hcl,hmk⟩:=zkn hb h0 hu
   obtain⟨arr,el,e1,e4,hH,hin⟩:=zkm g hd hM
   obtain⟨φ',f1,f2,f3⟩:=CW g hfr.1 hfr.2 hd
   refine zrs (hs.run M.blk M.off c' l w hH (by omega) hcl) ?_
   rintro e w' ⟨rfl,n,rfl⟩
   have hle:(Lib.compact l).length<=l.length:=zmr l
   have hne:Lib.compact l≠[]:=zoo h0
   have hnc:jE nn (MW l)=false:=by
    unfold MW;cases hc:Lib.compact l with
    |nil=>exact absurd hc hne
    |cons x r=>cases nn<;>rfl
   obtain⟨d,hdd⟩:∃d,d=(Lib.compact l++List.replicate (l.length - (Lib.compact l).length) 0).toArray:=⟨_,rfl⟩
   rw[<-hdd]
   have hds:d.size=l.length:=by rw[hdd];simp;omega
   have hdx:∀(j:Nat) (x:Int),(MW l)[j]?=some x->d[j]?=some x:=fun j x hx=>by have hj:=(zqr.1 hx).1;have hj:j < (Lib.compact l).length:=hj;rw[hdd];simp only[zrB];rw[zqT hj];exact hx
   clear hdd
   have hbr:=zhg (φ:=φ') (n:=n) (d:=d) (l:=MW l) e1 e4 (fun j hj=>hin j (by omega)) hdx
   have hb2:Hp.get ((nx,Blk.cells (l.map Zp) false)::(zK ν H).del b) nx=some (.cells (l.map Zp) false):=by rw[Hp.get_cons];simp
   have hM':=f3 M hM
   have hM2:¬K M.blk:=g.prot b _ M hd rfl hM
   have ga:zF φ' ((nx,Blk.cells (l.map Zp) false)::(zK ν H).del b) K (Sort.ahead w n):=Dn f2 (FW _) fun c _=>rfl
   have g2:=zF.upd ga hb2 rfl hM' (fun c hc=>ak _ _ _ d c hc) (mS _ _ _ _) hbr
   refine⟨_,φ',rfl,?_,f1,q6 φ' K _ (g2.sub fun c k hc=>?_),?_⟩
   ·simp only[den]
    rw[q5 hnc]
    exact hmk φ' nx _ hM' (zqw hle hcl)
   ·grind[Hp.get_cons,Hp.get_set,zdw]
   ·refine⟨rfl,rfl,rfl,?_,fun c hc=>?_⟩
    ·simp_all
    ·have hne:c≠M.blk:=fun e=>hM2 (e▸hc)
     rw[ak _ _ _ _ c hne]
     rfl
theorem zop{f:FuncId}{kind:Bool}(hs:ziw P f kind){args:List SV}{H:SH}{nx:Nat}{k:KO R}{r:R}(h:zmq kind args H nx k=some r):∃v H' nx',cY P f args H nx v H' nx'∧k v H' nx'=some r:=by
 unfold zmq at h;split at h
 ·cases kind with
  |true=>
   refine⟨_,_,_,⟨PZ.fn hs,jV.refl H,wc.refl H,FW _,fun ν hv=>⟨hv,?_⟩⟩,h⟩;simpa[zu,den]using ze7 (arg:=.slice none 0 0) hs (fun φ v' hv=>by cases hv;exact⟨_,_,rfl⟩) (zK ν H) nx
  |false=>
   refine⟨_,_,_,⟨Ra.fn hs,jV.refl H,wc.refl H,FW _,fun ν hv=>⟨hv,FW _,fun φ w K us g hf hl=>?_⟩⟩,h⟩
   match us,hl with
   |[u],hl=>
    obtain⟨hu,_⟩:=hl;have hu:zp φ (.slice none 0 0) u:=by simpa only[den]using hu
    cases hu;refine zrs (Ra.nil hs none 0 w) ?_;grind[den,Ext.refl,qJ.refl]
 ·split at h;case h_2=>cases h
  rename_i b nn l hb;have h6:=zT h;clear h;obtain⟨hq,h⟩:=h6;cases kind with
  |true=>exact⟨_,_,_,ziy hs hb hq,h⟩
  |false=>
   simp only[zqD]at h;split at h;case h_2=>cases h
   rename_i H2 hnew;exact⟨_,_,_,ziz hs hb hq hnew,h⟩
 ·cases h
theorem zms{f:FuncId}{args cs cs':List Value}{Hd:Hp}{nx':Nat}{v:Value}(hz:nx'<=FZ)(h:wM P f (.pointer (some ⟨0,0,none⟩)::args) [(0,.cells cs false)] 1 v Hd nx')(hd:Hd.get 0=some (.cells cs' false))(ha:∀φ φ0:Ren,(∀b L,φ (FZ+b)=some L->φ0 (FZ+b)=some L)->∀us,zD φ args us->zD φ0 args us)(hv:∀φ φ0:Ren,(∀b L,φ (FZ+b)=some L->φ0 (FZ+b)=some L)->∀v',zp φ v v'->zp φ0 v v')(hc:∀φ φ0:Ren,(∀b L,φ (FZ+b)=some L->φ0 (FZ+b)=some L)->∀(j:Nat) c v',cs[j]?=some c->zp φ c v'->zp φ0 c v')(hc':∀φ φ0:Ren,(∀b L,φ (FZ+b)=some L->φ0 (FZ+b)=some L)->∀(j:Nat) c v',cs'[j]?=some c->zp φ c v'->zp φ0 c v'){H:Hp}{b:Nat}(hb:H.get b=some (.cells cs false))(nx:Nat):wM P f (.pointer (some ⟨b,0,none⟩)::args) H nx v (H.set b (.cells cs' false)) nx:=by
 refine⟨FW _,fun φ w K us g hf hl=>?_⟩;obtain⟨L,hL,hB⟩:=g.rel b _ hb;have hFZ:0 < FZ:=by grind[FZ,Nat.two_pow_pos]
 let φ0:Ren:=fun n=>if FZ<=n then φ n else if n=0 then some L else none;have e0:∀n,φ0 (FZ+n)=φ (FZ+n):=fun n=>zqI (zrp FZ n);have e00:φ0 0=some L:=(zqu (Nat.not_le_of_gt hFZ)).trans (zqI rfl);let K0:Nat->Prop:=fun c=>c < w.heap.size∧c≠L.blk;have hget:∀c k,Hp.get [(0,Blk.cells cs false)] c=some k->c=0∧k=.cells cs false:=fun c k hk=>by grind[Hp.get_cons,Hp.get_nil]
 have hBF:∀(φa φb:Ren) (w:World) (ds:List Value),(∀(j:Nat) c v',ds[j]?=some c->zp φa c v'->zp φb c v')->ju φa w L (.cells ds false)->ju φb w L (.cells ds false):=fun φa φb w ds hh hB=>by obtain⟨arr,el,fr,b1,b2,b3⟩:=hB;exact⟨arr,el,fr,b1,fun j v hj=>let ⟨v',q1,q2⟩:=b2 j v hj;⟨v',q1,hh j v v' hj q2⟩,b3⟩
 have g0:zF φ0 [(0,.cells cs false)] K0 w:=by
  refine⟨fun c k hk=>?_,fun c d k k' M M' hk hk' hne=>?_,fun c k M hk hr hM=>?_,fun c hk=>hk.1,fun c M hM=>g.fz c M (by rw[<-e0];exact hM),fun c k M d N hk hr hM hN=>?_⟩
  ·grind
  ·grind
  ·grind
  ·obtain⟨rfl,rfl⟩:=hget c k hk;rw[e00]at hM;cases hM;exact g.fsep b _ L d N hb rfl hL (by rw[<-e0];exact hN)
 match us,hl with
 |u::us,hl=>
 obtain⟨hu,hl⟩:=hl;have hu2:zp φ0 (.pointer (some ⟨0,0,none⟩)) u:=by
  cases hu with
  |ptr _ _ M hM=>rw[hL]at hM;cases hM;exact .ptr 0 0 L e00
 refine zrs (h.2 φ0 w K0 (u::us) g0 ⟨hz,fun n hn hn2=>by grind⟩ ⟨hu2,ha φ φ0 (fun n M hM=>by rw[e0];exact hM) us hl⟩) ?_;rintro e w' ⟨v',φ',rfl,x1,x2,x3,x4⟩;let φ2:Ren:=fun n=>if FZ<=n then φ' n else φ n;have e2:∀n,φ2 (FZ+n)=φ' (FZ+n):=fun n=>zqI (zrp FZ n);have e3:∀n,n < FZ->φ2 n=φ n:=fun n hn=>by grind
 have hle:φ.le φ2:=fun n M hn=>by
  by_cases hz:FZ<=n
  ·simp only[φ2,hz,zqF];exact x2.1 n M (by simp only[φ0,hz,zqF];exact hn)
  grind
 have f0:φ' 0=some L:=by rw[x2.2.1 0 hFZ (.inl (by omega))];exact e00
 have hfs:∀c M,φ' (FZ+c)=some M->L.blk≠c:=fun c M hM=>x3.fsep 0 _ L c M hd rfl f0 hM;have hnew:∀c M,φ2 (FZ+c)=some M->φ (FZ+c)=some M∨¬c < w.heap.size:=fun c M hM=>by
  rw[e2]at hM;rcases x2.2.2 c M hM with h1 | h1
  all_goals grind
 have hφ2:∀c k M,H.get c=some k->φ2 c=some M->φ c=some M:=fun c k M hk hM=>by obtain⟨N,hN,_⟩:=g.rel c k hk;have:=hle c N hN;grind
 have hset:∀c k,(H.set b (.cells cs' false)).get c=some k->(c=b∧k=.cells cs' false)∨(c≠b∧H.get c=some k):=fun c k hk=>by grind[Hp.get_set]
 have hold:∀c k,(H.set b (.cells cs' false)).get c=some k->∃k0,H.get c=some k0∧k.rw=k0.rw:=fun c k hk=>by
  rcases hset c k hk with⟨rfl,rfl⟩ | ⟨_,h2⟩
  ·exact⟨_,hb,rfl⟩
  grind
 have hKL:¬K L.blk:=g.prot b _ L hb rfl hL;refine⟨v',φ2,rfl,hv φ' φ2 (fun n M hM=>by rw[e2];exact hM) v' x1,⟨hle,fun n hn _=>e3 n hn,fun n M hM=>(hnew n M hM).imp id fun h1 h2=>h1 (g.kin n h2)⟩,?_,⟨x4.os,x4.tape,x4.output,x4.size,fun c hc=>x4.kept c ⟨g.kin c hc,fun e=>hKL (e▸hc)⟩⟩⟩;refine⟨fun c k hk=>?_,fun c d k k' M M' hk hk' hne hkr hM hM'=>?_,fun c k M hk hkr hM=>?_,fun c hc=>zqC (g.kin c hc) x4.size,fun c M hM=>x3.fz c M (by rw[<-e2];exact hM),fun c k M d N hk hkr hM hN=>?_⟩
 ·rcases hset c k hk with⟨rfl,rfl⟩ | ⟨hne,h2⟩
  ·refine⟨L,hle c L hL,?_⟩;obtain⟨L',q1,q2⟩:=x3.rel 0 _ hd;grind
  ·obtain⟨M,hM,hB2⟩:=g.rel c k h2;have hne2:L.blk≠M.blk:=g.sep b c _ k L M hb h2 (fun e=>hne e.symm) rfl hL hM;exact⟨M,hle c M hM,(hB2.congr (x4.kept M.blk ⟨hB2.lt,fun e=>hne2 e.symm⟩)).mono hle⟩
 ·obtain⟨k0,h1,h1r⟩:=hold c k hk;obtain⟨k1,h2,_⟩:=hold d k' hk';exact g.sep c d k0 k1 M M' h1 h2 hne (by grind) (hφ2 c k0 M h1 hM) (hφ2 d k1 M' h2 hM')
 ·obtain⟨k0,h1,h1r⟩:=hold c k hk;exact g.prot c k0 M h1 (by grind) (hφ2 c k0 M h1 hM)
 ·obtain⟨k0,h1,h1r⟩:=hold c k hk;have hL1:=hφ2 c k0 M h1 hM;rcases hnew d N hN with h3 | h3
  ·exact g.fsep c k0 M d N h1 (by grind) hL1 h3
  ·have:=(g.at h1 hL1).lt;omega
structure QW where
 ty:Ty
 args:List VT
 res:List VT
 F:T ty->T (wA args)->Option (T ty×T (wA res))
def QW.Ok(P:Program)(f:FuncId)(c:QW):Prop:=(∃fn,P.funcs[f]?=some fn∧fn.body.isSome=true)∧∀x y z,c.F x y=some z->∃Hd nx',nx'<=FZ∧wM P f (.pointer (some ⟨0,0,none⟩)::zu (fun _=>bad) (jg c.args y)) [(0,.cells (qA c.ty x) false)] 1 (den (fun _=>bad) (VG (jg c.res z.2))) Hd nx'∧Hd.get 0=some (.cells (qA c.ty z.1) false)
theorem TY{arr:Array Value}:∀(cs:List Value) (off:Nat),(∀(j:Nat) v,cs[j]?=some v->∃v',arr[off+j]?=some v'∧zp φ v v')->∃us,zD φ cs us∧∀(j:Nat) u,us[j]?=some u->arr[off+j]?=some u
 |[],off,_=>⟨[],trivial,fun j u h=>by simp at h⟩
 |c::cs,off,h=>by
  obtain⟨v',h1,h2⟩:=h 0 c rfl;obtain⟨us,h3,h4⟩:=TY cs (off+1) fun j v hj=>by have:=h (j+1) v (by rw[zrg];exact hj);rwa [show off+(j+1)=off+1+j by omega]at this
  refine⟨v'::us,⟨h2,h3⟩,fun j u hu=>?_⟩;grind
theorem Rb{t:Ty}{l:List SV}{H H':SH}{x:T t}(h:cvE t (cvC t l H)=some (x,H')):yl H H'∧∀ν,zo0 ν H H' l (qA t x):=by unfold cvE at h;grind[Xz]
theorem ze9{H H':SH}(h:GLe H H'){b:Nat}{cs:List SV}(hb:zo H b=some (.vars cs)):zo H' b=some (.vars cs):=by rcases h b with h1 | ⟨nn,t,l,h1,_⟩;all_goals grind
def pcK(c:QW)(args:List SV)(H:SH)(nx:Nat)(k:KO R):Option R:=match args with
 |.ptr b o::rest=>bif Nat.beq o 0 then match zo H b with
   |some (.vars cs)=>match cvE c.ty (cvC c.ty cs H)with
    |some (x,H1)=>match gL c.args rest H1 with
     |some (y,H2)=>opt (c.F x y) fun z=>k (VG (jg c.res (p2 z))) (jB H2 b (.vars (jN c.ty (p1 z)))) nx
     |none=>none
    |none=>none
   |_=>none
  else none
 |_=>none
theorem zo8{f:FuncId}{c:QW}(hc:c.Ok P f){args:List SV}{H:SH}{nx:Nat}{k:KO R}{r:R}(h:pcK c args H nx k=some r):∃v H' nx',cY P f args H nx v H' nx'∧k v H' nx'=some r:=by
 unfold pcK at h;split at h;case h_2=>cases h
 rename_i b o rest;have h6:=zT h;clear h;obtain⟨ho,h⟩:=h6;have:=zpK ho;subst this;split at h;case h_2=>cases h
 rename_i cs hb;split at h;case h_2=>cases h
 rename_i x H1 hx;split at h;case h_2=>cases h
 rename_i y H2 hy;obtain⟨z,hz,h2⟩:=ug h;obtain⟨hg1,hr1⟩:=Rb hx;obtain⟨hg2,hr2⟩:=Ye hy;have hg:=hg1.trans hg2;have hb2:zo H2 b=some (.vars cs):=ze9 hg.1 hb;obtain⟨Hd,n1,hzn,hcall,hd0⟩:=hc.2 x y z hz;have hreg:=fun cc=>Va (ds:=jN c.ty z.1) hb2 cc;refine⟨_,_,_,⟨hc.1,fun cc q hq=>by rw[hreg];exact hg.1.regLe cc q hq,hg.1.lkeep.trans (ZF hb2 fun L=>by simp),FW _,fun ν hv=>⟨vy hreg (CR hb2) (hg.1.vn hv),FW _,fun φ w K us g hf hl=>?_⟩⟩,h2⟩;obtain⟨φ1,e1,g1⟩:=hg.2 ν φ K w g
 match us,hl with
 |u::us,hl=>
 obtain⟨hu,hl⟩:=hl;have hvn:=hg.1.vn hv;have hru:rho ν H2=rho ν H:=by funext q;exact congrFun (hg.1.rho ν) q
 have hl1:=hr2 ν H2 (GLe.refl _) φ1 K w nx us g1 hvn (by rw[show rho ν H1=rho ν H from hg1.1.rho ν];exact hl.mono (e1 0).1) (fun _=>bad);have hd1:(zK ν H2).get b=some (.cells (zu (rho ν H2) cs) false):=by rw[qe,hb2];rfl
 obtain⟨L,hL,hB⟩:=g1.rel b _ hd1;have hB2:ju φ1 w L (.cells (qA c.ty x) false):=by obtain⟨arr,el,fr,b1,b2,b3⟩:=hB;obtain⟨ws,q1,q2⟩:=TY _ _ b2;have q3:=hr1 ν H2 hg2.1 φ1 K w nx ws g1 hvn (by rw[<-hru];exact q1);refine⟨arr,el,fr,b1,fun j v hj=>?_,b3⟩;obtain⟨v',s1,s2⟩:=q3.get hj;grind
 have g2:zF φ1 ((zK ν H2).set b (.cells (qA c.ty x) false)) K w:=zF.upd g1 hd1 rfl hL (fun _ _=>rfl) rfl hB2;have hbx:((zK ν H2).set b (.cells (qA c.ty x) false)).get b=some (.cells (qA c.ty x) false):=by grind[Hp.get_set]
 have hone:=zms hzn hcall hd0 (fun φ φ0 hF us h=>gM hF c.args y h) (fun φ φ0 hF v' h=>PY hF c.res z.2 h)
  (fun φ φ0 hF j cc v' hj h=>xy hF c.ty x cc (zqy hj) v' h) (fun φ φ0 hF j cc v' hj h=>xy hF c.ty z.1 cc (zqy hj) v' h) hbx nx
 have hu1:zp φ1 (.pointer (some ⟨b,0,none⟩)) u:=by
  have:zp φ (.pointer (some ⟨b,0,none⟩)) u:=by simpa only[den]using hu
  exact this.mono (e1 0).1
 refine zrs (hone.2 φ1 w K (u::us) g2 (aP (mid:=0) hf e1) ⟨hu1,hl1⟩) ?_;rintro e w' ⟨v',φ',rfl,x1,x2,x3,x4⟩;refine⟨v',φ',rfl,?_,(e1 nx).comp x2,x3.sub fun cc kk hk=>?_,x4⟩
 ·grind[den,VG,jg,Yd,VH,bad]
 ·rw[qe,qU,wu hreg]at hk;grind[Hp.get_set,qB,Option.some.injEq,qO,wt,qe]
abbrev zfa:=List (FuncId×QW)
def ziA:zfa->FuncId->Option QW:=fun t f=>List.rec (motive:=fun _=>Option QW) none (fun x _ ih=>bif Nat.beq x.1 f then some x.2 else ih) t
theorem zmt{t:zfa}(h:∀x∈t,x.2.Ok P x.1){f:FuncId}{c:QW}:ziA t f=some c->c.Ok P f:=by induction t<;>grind[Nat.beq,ziA,Nat.eq_of_beq_eq_true,List.mem_cons_of_mem]
theorem uV:∀x∈([]:zfa),x.2.Ok P x.1:=fun x hx=>by cases hx
theorem gN{f:FuncId}{c:QW}{t:zfa}(h:c.Ok P f)(ht:∀x∈t,x.2.Ok P x.1):∀x∈(f,c)::t,x.2.Ok P x.1:=by grind
theorem zmu{f:FuncId}{args args2 ca cb:List Value}{Hd:Hp}{nx' m:Nat}{v v2:Value}{nx b:Nat}(hz:nx'<=FZ)(h:wM P f args [(0,.cells ca false)] 1 v Hd nx')(hd:Hd.get m=some (.cells cb false))(ha:∀(φ φ0:Ren) (L:Loc),(∀b L,φ (FZ+b)=some L->φ0 (FZ+b)=some L)->φ b=some L->φ0 0=some L->∀us,zD φ args2 us->zD φ0 args us)(hv:∀(φ φ0:Ren) (L:Loc),(∀b L,φ (FZ+b)=some L->φ0 (FZ+b)=some L)->φ m=some L->φ0 nx=some L->∀v',zp φ v v'->zp φ0 v2 v')(hc:∀φ φ0:Ren,(∀b L,φ (FZ+b)=some L->φ0 (FZ+b)=some L)->∀(j:Nat) c v',ca[j]?=some c->zp φ c v'->zp φ0 c v')(hc':∀φ φ0:Ren,(∀b L,φ (FZ+b)=some L->φ0 (FZ+b)=some L)->∀(j:Nat) c v',cb[j]?=some c->zp φ c v'->zp φ0 c v'){H:Hp}(hb:H.get b=some (.cells ca false)):wM P f args2 H nx v2 ((nx,.cells cb false)::H.del b) (nx+1):=by
 refine⟨zqv _,fun φ w K us g hf hl=>?_⟩;obtain⟨L,hL,hB⟩:=g.rel b _ hb;have hFZ:0 < FZ:=by grind[FZ,Nat.two_pow_pos]
 have hnx:φ nx=none∧nx < FZ:=hf.at (FW nx) (zqL nx);let φ0:Ren:=fun n=>if FZ<=n then φ n else if n=0 then some L else none;have e0:∀n,φ0 (FZ+n)=φ (FZ+n):=fun n=>zqI (zrp FZ n);have e00:φ0 0=some L:=(zqu (Nat.not_le_of_gt hFZ)).trans (zqI rfl);let K0:Nat->Prop:=fun c=>c < w.heap.size∧c≠L.blk;have hget:∀c k,Hp.get [(0,Blk.cells ca false)] c=some k->c=0∧k=.cells ca false:=fun c k hk=>by grind[Hp.get_cons,Hp.get_nil]
 have hBF:∀(φa φb:Ren) (w:World) (L:Loc) (ds:List Value),(∀(j:Nat) c v',ds[j]?=some c->zp φa c v'->zp φb c v')->ju φa w L (.cells ds false)->ju φb w L (.cells ds false):=fun φa φb w L ds hh hB=>by obtain⟨arr,el,fr,b1,b2,b3⟩:=hB;exact⟨arr,el,fr,b1,fun j v hj=>let ⟨v',q1,q2⟩:=b2 j v hj;⟨v',q1,hh j v v' hj q2⟩,b3⟩
 have g0:zF φ0 [(0,.cells ca false)] K0 w:=by
  refine⟨fun c k hk=>?_,fun c d k k' M M' hk hk' hne=>?_,fun c k M hk hr hM=>?_,fun c hk=>hk.1,fun c M hM=>g.fz c M (by rw[<-e0];exact hM),fun c k M d N hk hr hM hN=>?_⟩
  ·grind
  ·grind
  ·grind
  ·obtain⟨rfl,rfl⟩:=hget c k hk;rw[e00]at hM;cases hM;exact g.fsep b _ L d N hb rfl hL (by rw[<-e0];exact hN)
 refine zrs (h.2 φ0 w K0 us g0 ⟨hz,fun n hn hn2=>by grind⟩ (ha φ φ0 L (fun n M hM=>by rw[e0];exact hM) hL e00 us hl)) ?_;rintro e w' ⟨v',φ',rfl,x1,x2,x3,x4⟩;obtain⟨L',hL',hB'⟩:=x3.rel m _ hd;let φ2:Ren:=fun n=>if FZ<=n then φ' n else if n=nx then some L' else φ n;have e2:∀n,φ2 (FZ+n)=φ' (FZ+n):=fun n=>zqI (zrp FZ n);have e3:∀n,n < FZ->n≠nx->φ2 n=φ n:=fun n hn hn2=>by grind
 have e4:φ2 nx=some L':=by grind
 have hle:φ.le φ2:=fun n M hn=>by
  by_cases hz:FZ<=n
  ·simp only[φ2,hz,zqF];exact x2.1 n M (by simp only[φ0,hz,zqF];exact hn)
  grind
 have hLK:¬K0 L'.blk:=x3.prot m _ L' hd rfl hL';have hfs:∀c M,φ' (FZ+c)=some M->L'.blk≠c:=fun c M hM=>x3.fsep m _ L' c M hd rfl hL' hM;have hnew:∀c M,φ2 (FZ+c)=some M->φ (FZ+c)=some M∨¬(c < w.heap.size∧c≠L.blk):=fun c M hM=>by
  rw[e2]at hM;rcases x2.2.2 c M hM with h1 | h1
  all_goals grind
 have hset:∀c k,Hp.get ((nx,Blk.cells cb false)::H.del b) c=some k->(c=nx∧k=.cells cb false)∨(c≠nx∧c≠b∧H.get c=some k):=fun c k hk=>by grind[Hp.get_cons,Bool.false_eq_true,Hp.get_del]
 have hloc:∀c k M,H.get c=some k->φ2 c=some M->φ c=some M:=fun c k M hk hM=>by obtain⟨N,hN,_⟩:=g.rel c k hk;have:=hle c N hN;grind
 have hfar:∀c k M,H.get c=some k->c≠b->φ c=some M->M.blk < w.heap.size∧(M.blk≠L.blk):=fun c k M hk hne hM=>by refine⟨(g.at hk hM).lt,fun e=>?_⟩;exact g.sep b c _ k L M hb hk (fun e=>hne e.symm) rfl hL hM e.symm
 have hKL:¬K L.blk:=g.prot b _ L hb rfl hL;refine⟨v',φ2,rfl,hv φ' φ2 L' (fun n M hM=>by rw[e2];exact hM) hL' e4 v' x1,⟨hle,fun n hn ho=>e3 n hn (by omega),fun n M hM=>(hnew n M hM).imp id fun h1 h2=>h1 ⟨g.kin n h2,fun e=>hKL (e▸h2)⟩⟩,?_,⟨x4.os,x4.tape,x4.output,x4.size,fun c hc=>x4.kept c ⟨g.kin c hc,fun e=>hKL (e▸hc)⟩⟩⟩;refine⟨fun c k hk=>?_,fun c d k k' M M' hk hk' hne hkr hM hM'=>?_,fun c k M hk hkr hM=>?_,fun c hc=>zqC (g.kin c hc) x4.size,fun c M hM=>x3.fz c M (by rw[<-e2];exact hM),fun c k M d N hk hkr hM hN=>?_⟩
 ·rcases hset c k hk with⟨rfl,rfl⟩ | ⟨hne,hne2,h2⟩
  ·grind
  ·obtain⟨M,hM,hB2⟩:=g.rel c k h2;have hq:=hfar c k M h2 hne2 hM;exact⟨M,hle c M hM,(hB2.congr (x4.kept M.blk hq)).mono hle⟩
 ·rcases hset c k hk with⟨rfl,rfl⟩ | ⟨hn1,hn2,h2⟩
  ·grind
  ·have h3:=hloc c k M h2 hM;rcases hset d k' hk' with⟨rfl,rfl⟩ | ⟨hn3,hn4,h4⟩
   ·grind
   ·exact g.sep c d k k' M M' h2 h4 hne hkr h3 (hloc d k' M' h4 hM')
 ·rcases hset c k hk with⟨rfl,rfl⟩ | ⟨hn1,hn2,h2⟩
  ·rw[e4]at hM;cases hM;exact fun hK=>hLK ⟨g.kin _ hK,fun e=>hKL (e▸hK)⟩
  ·exact g.prot c k M h2 hkr (hloc c k M h2 hM)
 ·rcases hset c k hk with⟨rfl,rfl⟩ | ⟨hn1,hn2,h2⟩
  ·grind
  ·have h3:=hloc c k M h2 hM;have hq:=hfar c k M h2 hn2 h3;rcases hnew d N hN with h4 | h4
   ·exact g.fsep c k M d N h2 hkr h3 h4
   omega
structure Gy where
 pre:List VT
 t:Ty
 rest:Ty
 post:List VT
 F:T (wA pre)->List (T t)->T rest->T (wA post)->Option (List (T t)×T rest)
def rC(b n s:Nat):Value:=.slice (some ⟨b,0,none⟩) n (qw+s)
def Dp(b:Nat)(t rest:Ty)(l:List (T t))(y:T rest):Value:=.agg (rC b l.length (sz t)::qA rest y).toArray
def Gy.Ok(P:Program)(f:FuncId)(c:Gy):Prop:=(∃fn,P.funcs[f]?=some fn∧fn.body.isSome=true)∧∀x l y z r,c.F x l y z=some r->∃Hd nx' m,nx'<=FZ∧wM P f (zu (fun _=>bad) (jg c.pre x)++Dp 0 c.t c.rest l y::zu (fun _=>bad) (jg c.post z)) [(0,.cells (qm c.t l) false)] 1 (Dp m c.t c.rest r.1 r.2) Hd nx'∧Hd.get m=some (.cells (qm c.t r.1) false)
theorem Rc{φ:Ren}:∀{xs ys us:List Value},zD φ (xs++ys) us->∃u1 u2,us=u1++u2∧zD φ xs u1∧zD φ ys u2
 |[],ys,us,h=>⟨[],us,rfl,trivial,h⟩
 |x::xs,ys,u::us,h=>by obtain⟨u1,u2,rfl,h1,h2⟩:=Rc (xs:=xs) h.2;exact⟨u::u1,u2,rfl,⟨h.1,h1⟩,h2⟩
 |_::_,_,[],h=>h.elim
theorem zmv{φ φ0:Ren}{b c n s:Nat}{L:Loc}(h:φ b=some L)(h0:φ0 c=some L){v':Value}(hv:zp φ (rC b n s) v'):zp φ0 (rC c n s) v':=by
 unfold rC at hv ⊢;generalize hq:qw+s=q at hv ⊢;cases hv with
 |sl _ _ _ _ M hM hc=>
  omega
 |slO _ _ _ _ c' M hM hc hn hl=>
  rw[h]at hM;cases hM;exact .slO c 0 n q c' L h0 hc hn hl
 |slE _ _ _ a' M hM hc=>
  rw[h]at hM;cases hM;exact .slE c 0 q a' L h0 hc
theorem zfb{φ φ0:Ren}{b c:Nat}{t rest:Ty}{l:List (T t)}{y:T rest}{L:Loc}(hF:∀b L,φ (FZ+b)=some L->φ0 (FZ+b)=some L)(h:φ b=some L)(h0:φ0 c=some L){v':Value}(hv:zp φ (Dp b t rest l y) v'):zp φ0 (Dp c t rest l y) v':=by
 unfold Dp at hv ⊢;obtain⟨ys,rfl,hl⟩:=hv.agg_inv;refine .agg' ?_;cases hy:ys.toList with
 |nil=>rw[hy]at hl;exact hl.elim
 |cons u us=>
  rw[hy]at hl;have hl2:zD φ (qA rest y) us:=hl.2;refine⟨zmv h h0 hl.1,zD.of_get hl2.length fun i v v' hi hi'=>?_⟩;obtain⟨v2,q1,q2⟩:=hl2.get hi;grind[xy,List.mem_of_getElem?]
theorem IN{φ φ0:Ren}(hF:∀b L,φ (FZ+b)=some L->φ0 (FZ+b)=some L){t:Ty}{l:List (T t)}(j:Nat)(c v':Value)(hj:(qm t l)[j]?=some c)(h:zp φ c v'):zp φ0 c v':=by obtain⟨x,_,hx⟩:=List.mem_flatMap.1 (zqy hj);exact xy hF t x c hx v' h
def Ho:Nat->List SV->List SV
 |0,_=>[]
 |n+1,v::r=>v::Ho n r
 |_+1,[]=>[]
def Rd:Nat->List SV->List SV
 |0,l=>l
 |n+1,_::r=>Rd n r
 |_+1,[]=>[]
theorem zbO:∀(n:Nat) (l:List SV),Ho n l++Rd n l=l
 |0,_=>rfl
 |n+1,v::r=>by simp[Ho,Rd,zbO n r]
 |_+1,[]=>rfl
def ziB{α:Type}(nn:Bool)(l:List α):Bool:=bif nn then true else zg 0 (Int.ofNat l.length)
theorem zhi{α:Type}{nn:Bool}{l:List α}(h:ziB nn l=true):jE nn l=false:=by
 cases nn with
 |true=>rfl
 |false=>
  cases l with
  |nil=>
   grind[ziB,zg,wO]
  |cons x l=>rfl
def ocQ(c:Gy)(args:List SV):Bool:=match Rd c.pre.length args with
 |.agg (.own _::_)::_=>true
 |_=>false
def ocK(c:Gy)(args:List SV)(H:SH)(nx:Nat)(k:KO R):Option R:=match Rd c.pre.length args with
 |.agg (.own b::cs)::post=>match gL c.pre (Ho c.pre.length args) H with
  |some (x,H1)=>match cvE c.rest (cvC c.rest cs H1)with
   |some (y,H2)=>match gL c.post post H2 with
    |some (z,H3)=>match zo H3 b with
     |some (.arr nn t l)=>if h:t=c.t then bif ziB nn l then opt (c.F x (kW h l) y z) fun r=>bif ziB nn (p1 r)then match kX (jB H3 b (.gone (rsz nn t l) l.length)) nx (.arr nn c.t (p1 r))with
       |some H4=>k (.agg (.own nx::jN c.rest (p2 r))) H4 (nx+1)
       |none=>none
       else none
      else none
      else none
     |_=>none
    |none=>none
   |none=>none
  |none=>none
 |_=>none
theorem mU(ρ:Nat->Value):∀a b:List SV,zu ρ (a++b)=zu ρ a++zu ρ b
 |[],_=>rfl
 |x::a,b=>by simp[zu,mU ρ a b]
theorem IP{φ:Ren}{xs zs us:List Value}{y:Value}(h:zD φ (xs++y::zs) us):∃u1 u u2,us=u1++u::u2∧zD φ xs u1∧zp φ y u∧zD φ zs u2:=by
 obtain⟨u1,u2,rfl,h1,h2⟩:=Rc h
 match u2,h2 with
 |u::u2,h2=>exact⟨u1,u,u2,rfl,h1,h2.1,h2.2⟩
theorem zo9{f:FuncId}{c:Gy}(hc:c.Ok P f){args:List SV}{H:SH}{nx:Nat}{k:KO R}{r:R}(h:ocK c args H nx k=some r):∃v H' nx',cY P f args H nx v H' nx'∧k v H' nx'=some r:=by
 unfold ocK at h;split at h;case h_2=>cases h
 rename_i b cs post hargs;split at h;case h_2=>cases h
 rename_i x H1 hx;split at h;case h_2=>cases h
 rename_i y H2 hy;split at h;case h_2=>cases h
 rename_i z H3 hz;split at h;case h_2=>cases h
 rename_i nn t l hb;split at h;case isFalse=>cases h
 rename_i ht;have h7:=zT h;clear h;obtain⟨hnl,h⟩:=h7;have hnl:=zhi hnl;obtain⟨pre,t',rest,post',F⟩:=c;dsimp only at ht hargs hx hy hz h ⊢;subst ht;obtain⟨q,hq,h2⟩:=ug h;obtain⟨hnl2,h2⟩:=zT h2;have hnl2:=zhi hnl2;split at h2;case h_2=>cases h2
 rename_i H4 hnew;have hq:F x l y z=some q:=hq;obtain⟨hg1,hr1⟩:=Ye hx;obtain⟨hg2,hr2⟩:=Rb hy;obtain⟨hg3,hr3⟩:=Ye hz;have hg23:=hg2.trans hg3;have hg:=hg1.trans hg23;obtain⟨Hd,n1,m,hzn,hcall,hdm⟩:=hc.2 x l y z q hq;obtain⟨w1,w2,w3⟩:=PJ hb hnew;have eargs:args=Ho pre.length args++.agg (.own b::cs)::post:=by grind[zbO]
 refine⟨_,_,_,⟨hc.1,fun cc p hp=>w1 cc p (hg.1.regLe cc p hp),hg.1.lkeep.trans w2,zqv _,fun ν hv=>?_⟩,h2⟩;have hvn:=hg.1.vn hv;obtain⟨q4,q5,q6,_⟩:=w3 ν hvn;refine⟨q4,zqv _,fun φ w K us g hf hl=>?_⟩;obtain⟨φ1,e1,g1⟩:=hg.2 ν φ K w g;have ρ1:rho ν H1=rho ν H:=hg1.1.rho ν;have ρ2:rho ν H2=rho ν H1:=hg2.1.rho ν;have ρ3:rho ν H3=rho ν H2:=hg3.1.rho ν;have hd1:(zK ν H3).get b=some (.cells (qm t l) false):=by rw[qe,hb];simp[qB,hnl]
 have hown:rho ν H3 b=rC b l.length (sz t):=by rw[xX ν (nn:=nn) (t:=t) (l:=l) (by rw[hb];rfl),hnl];rfl
 have hl':zD φ1 (zu (rho ν H) (Ho pre.length args)++den (rho ν H) (.agg (.own b::cs))::zu (rho ν H) post) us:=by have:=hl.mono (e1 0).1;grind[mU,zu]
 obtain⟨u1,u,u2,rfl,k1,k2,k3⟩:=IP hl';have m1:=hr1 ν H3 hg23.1 φ1 K w nx u1 g1 hvn k1 (fun _=>bad);have m3:=hr3 ν H3 (GLe.refl _) φ1 K w nx u2 g1 hvn (by grind) (fun _=>bad);have m2:zp φ1 (Dp b t rest l y) u:=by
  simp only[den]at k2;obtain⟨ys,rfl,kl⟩:=k2.agg_inv;refine .agg' ?_;cases hys:ys.toList with
  |nil=>rw[hys]at kl;exact kl.elim
  |cons u us=>
   rw[hys]at kl;simp only[zu,den]at kl;refine⟨?_,hr2 ν H3 hg3.1 φ1 K w nx us g1 hvn (by rw[ρ1];exact kl.2)⟩;rw[<-hown,ρ3,ρ2,ρ1];exact kl.1
 have hone:=zmu (args2:=zu (fun _=>bad) (jg pre x)++Dp b t rest l y::zu (fun _=>bad) (jg post' z)) (v2:=Dp nx t rest q.1 q.2) (nx:=nx) hzn hcall hdm
  (fun φ φ0 L hF hL h0 us h=>by
   obtain⟨u1,u,u2,rfl,k1,k2,k3⟩:=IP h;exact(gM hF pre x k1).append ⟨zfb hF hL h0 k2,gM hF post' z k3⟩)
  (fun φ φ0 L hF hL h0 v' h=>zfb hF hL h0 h)
  (fun φ φ0 hF j cc v' hj h=>IN hF j cc v' hj h) (fun φ φ0 hF j cc v' hj h=>IN hF j cc v' hj h) hd1
 refine zrs (hone.2 φ1 w K (u1++u::u2) g1 (aP (mid:=0) hf e1) (m1.append ⟨m2,m3⟩)) ?_;rintro e w' ⟨v',φ',rfl,x1,x2,x3,x4⟩;refine⟨v',φ',rfl,?_,(e1 nx).trans x2 (FW _) (zqv _),q6 φ' K w' x3,x4⟩;have hw:rho ν H4 nx=rC nx q.1.length (sz t):=q5 hnl2;simp only[den,zu,hw];rw[qO,wt];exact x1
abbrev zfc:=List (FuncId×Gy)
def ziC:zfc->FuncId->Option Gy:=fun t f=>List.rec (motive:=fun _=>Option Gy) none (fun x _ ih=>bif Nat.beq x.1 f then some x.2 else ih) t
theorem zmw{t:zfc}(h:∀x∈t,x.2.Ok P x.1){f:FuncId}{c:Gy}:ziC t f=some c->c.Ok P f:=by induction t<;>grind[Nat.beq,ziC,Nat.eq_of_beq_eq_true,List.mem_cons_of_mem]
theorem uW:∀x∈([]:zfc),x.2.Ok P x.1:=fun x hx=>by cases hx
theorem zfd{f:FuncId}{c:Gy}{t:zfc}(h:c.Ok P f)(ht:∀x∈t,x.2.Ok P x.1):∀x∈(f,c)::t,x.2.Ok P x.1:=by grind
structure Lbs where
 s:ziv
 p:zfa
 o:zfc
structure rD(P:Program)(l:Lbs):Prop where
 s:zix P l.s
 p:∀x∈l.p,x.2.Ok P x.1
 o:∀x∈l.o,x.2.Ok P x.1
def zmx(l:Lbs)(f:FuncId)(args:List SV)(H:SH)(nx:Nat)(k:KO R)(e:Option R):Option R:=match zdv l.s f with
 |some b=>zmq b args H nx k
 |none=>match ziA l.p f with
  |some c=>pcK c args H nx k
  |none=>match ziC l.o f with
   |some c=>bif ocQ c args then ocK c args H nx k else e
   |none=>e
theorem zoq{l:Lbs}(hl:rD P l){f:FuncId}{args:List SV}{H:SH}{nx:Nat}{k:KO R}{e:Option R}{r:R}(h:zmx l f args H nx k e=some r):(∃v H' nx',cY P f args H nx v H' nx'∧k v H' nx'=some r)∨e=some r:=by
 unfold zmx at h;split at h
 ·rename_i b hb;exact .inl (zop (ze6 hl.s hb) h)
 ·split at h
  ·rename_i c hc;exact .inl (zo8 (zmt hl.p hc) h)
  ·split at h
   ·rename_i c hc;rcases vO h with⟨_,h⟩ | ⟨_,h⟩
    ·exact .inl (zo9 (zmw hl.o hc) h)
    ·exact .inr h
   ·exact .inr h
def zJ{X S:Type}(B:S->Option (X ⊕ S))(n:Nat):S->Option X:=
 Nat.rec (motive:=fun _=>S->Option X) (fun _=>none) (fun _ ih s=>match B s with
  |some (.inl x)=>some x
  |some (.inr s')=>ih s'
  |none=>none) n
theorem QX{X S:Type}(B:S->Option (X ⊕ S))(n:Nat)(s:S):zJ B (n+1) s=match B s with
  |some (.inl x)=>some x
  |some (.inr s')=>zJ B n s'
  |none=>none:=rfl
theorem IQ{X S:Type}{B:S->Option (X ⊕ S)}{c:Code}{F:Fence}{Inv:S->Act->World->Prop}{Fin:X->Exit->Act->World->Prop}
  (h:∀s r,B s=some r->∀a w,Inv s a w->c.wpIn F 0 P (fun e a' w'=>match r with | .inl x=>e≠.normal∧Fin x e a' w' | .inr s'=>e=.normal∧Inv s' a' w') a w) :
  ∀(N:Nat) (s:S) (x:X),zJ B N s=some x->∀a w,Inv s a w->Code.roundsIn F 0 P c (Fin x) N a w
 |0,s,x,hi,a,w,hI=>by cases hi
 |N+1,s,x,hi,a,w,hI=>by
  rw[QX]at hi;rw[zsf];split at hi
  ·rename_i y hB;cases hi;refine zqX (h s _ hB a w hI) ?_;intro e a' w' hq;obtain⟨he,hf⟩:=hq;cases e<;>first | exact absurd rfl he | exact hf
  ·rename_i s' hB;refine zqX (h s _ hB a w hI) ?_;intro e a' w' hq;obtain⟨rfl,hI'⟩:=hq;exact IQ h N s' x hi a' w' hI'
  ·cases hi
theorem zko{φ2 φ3:Ren}{Hs Ht:Hp}(g:zF φ2 Hs K w)(src:Nat->Nat)(h:∀b k,Ht.get b=some k->(∃k',Hs.get (src b)=some k'∧φ3 b=φ2 (src b)∧k'.rw=true∧∀L,ju φ2 w L k'->ju φ3 w L k)∨(k.rw=false∧∃L,φ3 b=some L∧ju φ3 w L k∧K L.blk))(hi:∀b c k k',Ht.get b=some k->Ht.get c=some k'->k.rw=true->k'.rw=true->b≠c->src b≠src c)(hrw:∀b k,Ht.get b=some k->k.rw=false->(∃L,φ3 b=some L∧ju φ3 w L k∧K L.blk))(hf:∀b,φ3 (FZ+b)=φ2 (FZ+b)):zF φ3 Ht K w:=by
 have hT:∀b k,Ht.get b=some k->k.rw=true->∃k',Hs.get (src b)=some k'∧φ3 b=φ2 (src b)∧k'.rw=true∧∀L,ju φ2 w L k'->ju φ3 w L k:=fun b k hb hk=>by grind
 refine⟨fun b k hb=>?_,fun b c k k' L L' hb hc hne hk hL hL'=>?_,fun b k L hb hk hL=>?_,g.kin,fun b L hL=>g.fz b L (by rw[<-hf];exact hL),fun b k L c M hb hk hL hM=>?_⟩
 ·rcases h b k hb with⟨k',h1,h2,h3,h4⟩ | ⟨_,L,h1,h2,_⟩
  ·obtain⟨L,hL,hB⟩:=g.rel _ _ h1;exact⟨L,by rw[h2];exact hL,h4 L hB⟩
  grind
 ·obtain⟨kb,b1,b2,b3,b4⟩:=hT b k hb hk;cases hk':k'.rw with
  |true=>
   obtain⟨kc,c1,c2,c3,c4⟩:=hT c k' hc hk';exact g.sep _ _ _ _ L L' b1 c1 (hi b c k k' hb hc hk hk' hne) b3 (by rw[<-b2];exact hL) (by grind)
  |false=>
   obtain⟨M,m1,m2,m3⟩:=hrw c k' hc hk';rw[hL']at m1;cases m1;intro e;exact g.prot _ _ L b1 b3 (by rw[<-b2];exact hL) (by rw[e];exact m3)
 ·obtain⟨kb,b1,b2,b3,b4⟩:=hT b k hb hk;exact g.prot _ _ L b1 b3 (by rw[<-b2];exact hL)
 ·obtain⟨kb,b1,b2,b3,b4⟩:=hT b k hb hk;exact g.fsep _ _ L c M b1 b3 (by rw[<-b2];exact hL) (by rw[<-hf];exact hM)
def KX(K:Nat->Prop)(φE:Ren)(HR:Hp)(n:Nat):Prop:=K n∨∃b k L,HR.get b=some k∧φE b=some L∧L.blk=n
theorem zfe{φE φ1:Ren}{HE HR H1 H2:Hp}{wE:World}(gE:zF φE HE K wE)(hle:φE.le φ1)(hfz:∀b L,φ1 (FZ+b)=some L->φE (FZ+b)=some L∨¬KX K φE HR b)(hw:qJ (KX K φE HR) wE w)(g:zF φ1 H1 (KX K φE HR) w)(h:∀b k,H2.get b=some k->(H1.get b=some k∧k.rw=true)∨(HE.get b=some k∧∃k',HR.get b=some k')):zF φ1 H2 K w:=by
 have hE:∀b k,HE.get b=some k->(∃k',HR.get b=some k')->∃L,φE b=some L∧φ1 b=some L∧ju φ1 w L k∧KX K φE HR L.blk:=fun b k hb hr=>by obtain⟨k',hr⟩:=hr;obtain⟨L,hL,hB⟩:=gE.rel b k hb;have hK:KX K φE HR L.blk:=.inr ⟨b,k',L,hr,hL,rfl⟩;exact⟨L,hL,hle b L hL,(ju.congr (hw.kept _ hK) hB).mono hle,hK⟩
 refine⟨fun b k hb=>?_,fun b c k k' L L' hb hc hne hk hL hL'=>?_,fun b k L hb hk hL=>?_,fun c hc=>g.kin c (.inl hc),g.fz,fun b k L c M hb hk hL hM=>?_⟩
 ·rcases h b k hb with⟨h1,_⟩ | ⟨h1,h2⟩
  ·exact g.rel b k h1
  grind
 ·rcases h b k hb with⟨h1,hk1⟩ | ⟨h1,h2⟩
  ·rcases h c k' hc with⟨c1,_⟩ | ⟨c1,c2⟩
   ·exact g.sep b c k k' L L' h1 c1 hne hk hL hL'
   ·obtain⟨M,e1,e2,e3,e4⟩:=hE c k' c1 c2;rw[hL']at e2;cases e2;intro e;exact g.prot b k L h1 hk hL (by rw[e];exact e4)
  ·obtain⟨M,e1,e2,e3,e4⟩:=hE b k h1 h2;rw[hL]at e2;cases e2;rcases h c k' hc with⟨c1,ck⟩ | ⟨c1,c2⟩
   ·intro e;exact g.prot c k' L' c1 ck hL' (by rw[<-e];exact e4)
   ·obtain⟨M',e1',e2',_,_⟩:=hE c k' c1 c2;rw[hL']at e2';cases e2';exact gE.sep b c k k' L L' h1 c1 hne hk e1 e1'
 ·rcases h b k hb with⟨h1,_⟩ | ⟨h1,h2⟩
  ·exact fun hK=>g.prot b k L h1 hk hL (.inl hK)
  ·obtain⟨M,e1,e2,e3,e4⟩:=hE b k h1 h2;rw[hL]at e2;cases e2;exact gE.prot b k L h1 hk e1
 ·rcases h b k hb with⟨h1,_⟩ | ⟨h1,h2⟩
  ·exact g.fsep b k L c M h1 hk hL hM
  ·obtain⟨M',e1,e2,e3,e4⟩:=hE b k h1 h2;rw[hL]at e2;cases e2;rcases hfz c M hM with h3 | h3
   ·exact gE.fsep b k L c M h1 hk e1 h3
   grind
def yd(l:List Nat)(n:Nat):Bool:=List.rec (motive:=fun _=>Bool) false (fun x _ ih=>bif Nat.beq x n then true else ih) l
theorem zkp(x:Nat)(l:List Nat)(n:Nat):yd (x::l) n=if x=n then true else yd l n:=by show(bif Nat.beq x n then true else yd l n)=_;rw[CN]
theorem gO(n:Nat):∀l:List Nat,yd l n=true↔n∈l
 |[]=>by simp[yd]
 |x::l=>by
  rw[zkp];by_cases h:x=n
  ·simp[h]
  ·rw[zqu h,gO n l];simp[zst h]
mutual
def VI(ns:List Nat)(lo:Nat):SV->Bool
 |.agg cs=>yS ns lo cs
 |.tup cs=>yS ns lo cs
 |.ptr b _=>Nat.blt b lo
 |.own b=>yd ns b
 |.elp b _ _ _=>Nat.blt b lo
 |.fn _ fs cs=>yS ns lo fs&&yS ns lo cs
 |.yld l=>Nat.blt l lo
 |.mp b=>Nat.blt b lo
 |.slv b _=>Nat.blt b lo
 |_=>true
def yS(ns:List Nat)(lo:Nat):List SV->Bool
 |[]=>true
 |v::r=>VI ns lo v&&yS ns lo r
end
theorem zkq{φ φ0:Ren}(hF:∀b L,φ (FZ+b)=some L->φ0 (FZ+b)=some L)(t:Ty)(l:List (T t))(full:Bool){v':Value}(h:zp φ (fzV (sz t) full (l.map (wv t))) v'):zp φ0 (fzV (sz t) full (l.map (wv t))) v':=by
 cases full with
 |false=>exact xy hF (.list t) l _ (by simp[qA,wv,fzV]) v' h
 |true=>
  unfold fzV at h ⊢;simp only[zqJ]at h ⊢;generalize hs:sz t=s at h ⊢;generalize he:(List.map (wv t) l).toArray=es at h ⊢;cases h with
  |fq _ _ b o L hL hn ho hsz h=>
   refine .fq _ _ b o L (hF b L hL) hn ho hsz fun j k e u u' h1 h2 h3=>?_;rw[<-he]at h1;simp only[zrB,zrF,zqp]at h1;obtain⟨x,hx,rfl⟩:=h1;refine xy hF t x u ?_ u' (h j k (wv t x) u u' (by rw[<-he];simp[hx]) h2 h3);grind[wv,Value.cells,List.mem_of_getElem?]
  |fq0 _ a=>exact .fq0 _ _
theorem zkr{φ φ0:Ren}(hF:∀b L,φ (FZ+b)=some L->φ0 (FZ+b)=some L)(t:Ty)(x:T t)(k:Nat){v':Value}(h:zp φ (.iface k (.iface 0 (wv t x))) v'):zp φ0 (.iface k (.iface 0 (wv t x))) v':=by
 generalize he:wv t x=e at h ⊢;cases h with
 |fp _ _ b o L hL ho h=>
  refine .fp _ _ b o L (hF b L hL) ho fun j u u' h1 h2=>?_;grind[xy,wv,Value.cells,List.mem_of_getElem?]
theorem zbP{φ2 φ3:Ren}{b o n c:Nat}(h:φ3 b=φ2 b){v':Value}(hv:zp φ2 (.slice (some ⟨b,o,none⟩) n c) v'):zp φ3 (.slice (some ⟨b,o,none⟩) n c) v':=by
 cases hv with
 |sl _ _ _ _ L hL hc=>exact .sl _ _ _ _ L (by rw[h];exact hL) hc
 |slO _ _ _ _ c' L hL hc hn hl=>exact .slO _ _ _ _ c' L (by rw[h];exact hL) hc hn hl
 |slE _ _ _ a' L hL hc=>exact .slE _ _ _ a' L (by rw[h];exact hL) hc
theorem zor{φ2 φ3:Ren}{ν:Nat->Bool}{H:SH}{b:Nat}(h:φ3 b=φ2 b){v':Value}(hv:zp φ2 (rho ν H b) v'):zp φ3 (rho ν H b) v':=by
 unfold rho at hv ⊢;split at hv
 ·cases hv;exact .slN _ _
 all_goals grind[zbP,IG]
section
variable {φ2 φ3:Ren} {ν:Nat→Bool} {H2 H3:SH} {ns:List Nat} {lo:Nat}
 (hφ:∀b,b < lo->φ3 b=φ2 b) (hF:∀b L,φ2 (FZ+b)=some L->φ3 (FZ+b)=some L)
 (hns:∀b∈ns,b < lo) (hr:∀b∈ns,reg (zo H3 b)=reg (zo H2 b))
include hφ hF hns hr
mutual
theorem Hq:∀(v:SV) (v':Value),VI ns lo v=true->zp φ2 (den (rho ν H2) v) v'->zp φ3 (den (rho ν H3) v) v'
 |.bool _,_,_,hv=>by simp only[den]at hv ⊢;cases hv;exact .bool _
 |.int _ _,_,_,hv=>by simp only[den]at hv ⊢;cases hv;exact .int _ _
 |.str _,_,_,hv=>by simp only[den]at hv ⊢;cases hv;exact .str _
 |.agg cs,v',hl,hv=>by simp only[den]at hv ⊢;simp only[VI]at hl;obtain⟨ys,rfl,hq⟩:=hv.agg_inv;exact .agg' (by simpa using Gz cs ys.toList hl (by simpa using hq))
 |.tup cs,v',hl,hv=>by simp only[den]at hv ⊢;simp only[VI]at hl;obtain⟨ys,rfl,hq⟩:=hv.tuple_inv;exact .tuple' (by simpa using Gz cs ys.toList hl (by simpa using hq))
 |.ptr b o,_,hl,hv=>by
  simp only[den]at hv ⊢;simp only[VI,zsM]at hl;cases hv with
  |ptr _ _ L hL=>exact .ptr _ _ L (by rw[hφ b hl];exact hL)
 |.nilp,_,_,hv=>by simp only[den]at hv ⊢;cases hv;exact .ptrN
 |.lst t l f,_,_,hv=>by simp only[den]at hv ⊢;exact zkq hF t l f hv
 |.own b,_,hl,hv=>by
  simp only[den]at hv ⊢;simp only[VI]at hl;have hb:=(gO _ _).1 hl;have:rho ν H3 b=rho ν H2 b:=by unfold rho;rw[hr b hb]
  rw[this];exact zor (hφ b (hns b hb)) hv
 |.nils,_,_,hv=>by simp only[den]at hv ⊢;cases hv;exact .slN _ _
 |.elp b s i k,_,hl,hv=>by
  simp only[den]at hv ⊢;simp only[VI,zsM]at hl;cases hv with
  |ptr _ _ L hL=>exact .ptr _ _ L (by rw[hφ b hl];exact hL)
 |.fel t x k,_,_,hv=>by simp only[den]at hv ⊢;exact zkr hF t x k hv
 |.fn f fs cs,v',hl,hv=>by simp only[den]at hv ⊢;simp only[VI,FT]at hl;obtain⟨fn',ys,us,rfl,hf,h1,h2⟩:=hv.func_inv;refine .func' ?_ (by simpa using Gz fs ys.toList hl.1 (by simpa using h1)) (by simpa using Gz cs us.toList hl.2 (by simpa using h2));cases hf;exact .func _
 |.yld l,_,hl,hv=>by
  simp only[den]at hv ⊢;simp only[VI,zsM]at hl;obtain⟨fn',ys,us,rfl,hf,h1,h2⟩:=hv.func_inv;cases hf with
  |yield _ L hL=>exact .func' (.yield _ L (by rw[hφ l hl];exact hL)) (by have:=h1.length;simp at this;simp[zsq this.symm,zD]) (by have:=h2.length;simp at this;simp[zsq this.symm,zD])
 |.nilf,_,_,hv=>by simp only[den]at hv ⊢;cases hv;exact .nilFunc
 |.nilm,_,_,hv=>by simp only[den]at hv ⊢;cases hv;exact .mapN
 |.mp b,_,hl,hv=>by
  simp only[den]at hv ⊢;simp only[VI,zsM]at hl;cases hv with
  |map _ L hL=>exact .map _ L (by rw[hφ b hl];exact hL)
 |.slv b n,_,hl,hv=>by simp only[den]at hv ⊢;simp only[VI,zsM]at hl;exact zbP (hφ b hl) hv
 |.junk,_,_,hv=>by simp only[den]at hv;exact(WO hv).elim
theorem Gz:∀(vs:List SV) (us:List Value),yS ns lo vs=true->zD φ2 (zu (rho ν H2) vs) us->zD φ3 (zu (rho ν H3) vs) us
 |[],[],_,hr=>trivial
 |[],_::_,_,hr=>by simp[zu,zD]at hr
 |v::vs,[],_,hr=>by simp[zu,zD]at hr
 |v::vs,u::us,hl,hr=>by simp only[yS,FT]at hl;simp only[zu,zD]at hr ⊢;exact⟨Hq v u hl.1 hr.1,Gz vs us hl.2 hr.2⟩
end
end
theorem da{ν:Nat->Bool}{H:SH}{v:SV}(h:den (rho ν H) v=Fz.junk):v=.junk:=by
 cases v<;>simp only[den,Fz.junk,reduceCtorEq]at h
 ·simp[fzV]at h
 ·exact absurd h (vv ν H _)
 ·rfl
end Go.Fz.Sy
namespace Go.Fz.Sy
variable {P:Program} {φ:Ren} {K:Nat→Prop} {w:World} {R:Type}
inductive CK where
 |d (t:Ty)
 |o (c:Nat) (nn:Bool) (t:Ty)
@[reducible] def CK.T:CK->Type
 |.d t=>Sy.T t
 |.o _ _ t=>List (Sy.T t)
@[reducible] def CS (l:List CK):Type:=List.rec (motive:=fun _=>Type) Unit (fun a _ ih=>a.T×ih) l
inductive DPl where
 |tmp (i:Nat) (vt:VT)
 |blk (b:Nat) (t:Ty)
 |frz (b:Nat) (ks:List CK)
 |npt (i:Nat)
inductive OPl where
 |otmp (i c:Nat) (nn:Bool) (t:Ty)
 |sblk (b:Nat) (ks:List CK)
 |arr (b:Nat) (nn:Bool) (t:Ty)
 |lp (l:Nat) (L:SL)
 |dfd (b:Nat)
 |mpl (b:Nat) (k:IntKind) (ag:Bool) (t:Ty)
@[reducible] def DPl.T:DPl->Type
 |.tmp _ vt=>Sy.T vt.ty
 |.blk _ t=>Sy.T t
 |.frz _ _=>Unit
 |.npt _=>Unit
@[reducible] def OPl.T:OPl->Type
 |.otmp _ _ _ t=>List (Sy.T t)
 |.sblk _ ks=>CS ks
 |.arr _ _ t=>List (Sy.T t)
 |.lp _ _=>Unit
 |.dfd _=>Unit
 |.mpl _ _ _ t=>List (Int×Sy.T t)
@[reducible] def DS (l:List DPl):Type:=List.rec (motive:=fun _=>Type) Unit (fun a _ ih=>a.T×ih) l
@[reducible] def OS (l:List OPl):Type:=List.rec (motive:=fun _=>Type) Unit (fun a _ ih=>a.T×ih) l
abbrev LSt:=LoopState×Option Code
def tmD:(dl:List DPl)->DS dl->List SV->List SV
 |[],_,tm=>tm
 |.tmp i vt::r,x,tm=>tmD r (p2 x) (lsS tm i (mkV vt (p1 x)))
 |.blk _ _::r,x,tm=>tmD r (p2 x) tm
 |.frz _ _::r,x,tm=>tmD r (p2 x) tm
 |.npt i::r,x,tm=>tmD r (p2 x) (lsS tm i .nilp)
def tmO:(ol:List OPl)->OS ol->List SV->List SV
 |[],_,tm=>tm
 |.otmp i c _ _::r,y,tm=>tmO r (p2 y) (lsS tm i (.own c))
 |.sblk _ _::r,y,tm=>tmO r (p2 y) tm
 |.arr _ _ _::r,y,tm=>tmO r (p2 y) tm
 |.lp _ _::r,y,tm=>tmO r (p2 y) tm
 |.dfd _::r,y,tm=>tmO r (p2 y) tm
 |.mpl _ _ _ _::r,y,tm=>tmO r (p2 y) tm
def hpD:(dl:List DPl)->DS dl->SH
 |[],_=>[]
 |.tmp _ _::r,x=>hpD r (p2 x)
 |.blk b t::r,x=>(b,.vars (jN t (p1 x)))::hpD r (p2 x)
 |.frz _ _::r,x=>hpD r (p2 x)
 |.npt _::r,x=>hpD r (p2 x)
def GA:(ks:List CK)->CS ks->List SV
 |[],_=>[]
 |.d t::r,x=>jN t (p1 x)++GA r (p2 x)
 |.o c _ _::r,x=>.own c::GA r (p2 x)
def Zf:(ks:List CK)->CS ks->SH
 |[],_=>[]
 |.d _::r,x=>Zf r (p2 x)
 |.o c nn t::r,x=>(c,.arr nn t (p1 x))::Zf r (p2 x)
def stO(L:SL):List LSt->SL
 |[]=>L
 |s::_=>{L with st:=s.1,pend:=s.2}
def hpO:(ol:List OPl)->List LSt->OS ol->SH
 |[],_,_=>[]
 |.otmp _ c nn t::r,vs,y=>(c,.arr nn t (p1 y))::hpO r vs (p2 y)
 |.sblk b ks::r,vs,y=>(b,.vars (GA ks (p1 y)))::(Zf ks (p1 y)++hpO r vs (p2 y))
 |.arr b nn t::r,vs,y=>(b,.arr nn t (p1 y))::hpO r vs (p2 y)
 |.lp l L::r,vs,y=>(l,.loop (stO L vs))::hpO r vs.tail (p2 y)
 |.dfd b::r,vs,y=>(b,.defd)::hpO r vs (p2 y)
 |.mpl b k ag t::r,vs,y=>(b,.mpb k ag t (p1 y))::hpO r vs (p2 y)
def Dq:(ks:List CK)->List SV->SH->Option SH
 |[],_,H=>some H
 |.d t::r,us,H=>match cvC t us H with
  |some (_,us1,H1)=>Dq r us1 H1
  |none=>none
 |.o _ _ _::r,_::us,H=>Dq r us H
 |.o _ _ _::_,[],_=>none
theorem rE:∀{ks:List CK} {us:List SV} {H H1:SH},Dq ks us H=some H1->yl H H1
 |[],us,H,H1,h=>by grind[Dq,yl.refl]
 |.d t::r,us,H,H1,h=>by
  simp only[Dq]at h;split at h
  ·rename_i x us1 H2 h2;obtain⟨cs,_,g,_⟩:=Xz t h2;exact g.trans (rE h)
  ·cases h
 |.o _ _ _::r,u::us,H,H1,h=>by simp only[Dq]at h;exact rE h
 |.o _ _ _::_,[],_,_,h=>by simp[Dq]at h
def pcC:(t:Ty)->List SV->SH->Option (T t×List SV)
 |.unit,l,H=>some ((),l)
 |.bool,l,H=>match l with
  |.bool b::r=>some (b,r)
  |_=>none
 |.int k,l,H=>match l with
  |.int k' n::r=>bif gH k k' then some (n,r)else none
  |_=>none
 |.str,l,H=>match l with
  |.str s::r=>some (s,r)
  |_=>none
 |.list t,l,H=>match l with
  |.lst t' x _::r=>if h:t'=t then some (kW h x,r)else none
  |.nils::r=>some (([]:List (T t)),r)
  |.own b::r=>match zo H b with
   |some (.fro _ t' x)=>if h:t'=t then bif Nat.blt 0 (sz t)then some (kW h x,r)else none else none
   |_=>none
  |_=>none
 |.pair a b,l,H=>match pcC a l H with
  |some (x,l1)=>match pcC b l1 H with
   |some (y,l2)=>some ((x,y),l2)
   |none=>none
  |none=>none
theorem zff:∀(t:Ty) {l r:List SV} {H:SH} {x:T t},pcC t l H=some (x,r)->cvC t l H=some (x,r,H)
 |.unit,l,r,H,x,h=>by simp only[pcC]at h;cases h;rfl
 |.bool,l,r,H,x,h=>by
  simp only[pcC]at h;split at h
  ·cases h;rfl
  ·cases h
 |.int k,l,r,H,x,h=>by simp only[pcC]at h;grind[cvC]
 |.str,l,r,H,x,h=>by
  simp only[pcC]at h;split at h
  ·cases h;rfl
  ·cases h
 |.list t,l,r,H,x,h=>by simp only[pcC]at h;grind[cvC]
 |.pair a b,l,r,H,x,h=>by
  simp only[pcC]at h;split at h;case h_2=>cases h
  rename_i h1;split at h;case h_2=>cases h
  rename_i h2;cases h;simp only[cvC,zff a h1,zff b h2]
def bkD:(dl:List DPl)->List SV->SH->Option (DS dl×SH)
 |[],_,H=>some ((),H)
 |.tmp i vt::r,tm,H=>match gl tm i with
  |some u=>match u with
   |.junk=>none
   |u=>match cvV vt u H with
    |some (x,H1)=>match bkD r tm H1 with
     |some (y,H2)=>some ((x,y),H2)
     |none=>none
    |none=>none
  |none=>none
 |.blk b t::r,tm,H=>match zo H b with
  |some (.vars cs)=>match cvE t (cvC t cs H)with
   |some (x,H1)=>match bkD r tm H1 with
    |some (y,H2)=>some ((x,y),H2)
    |none=>none
   |none=>none
  |_=>none
 |.frz b ks::r,tm,H=>match zo H b with
  |some (.vars us)=>match Dq ks us H with
   |some H1=>match bkD r tm H1 with
    |some (y,H2)=>some (((),y),H2)
    |none=>none
   |none=>none
  |_=>none
 |.npt i::r,tm,H=>match gl tm i with
  |some .nilp=>match bkD r tm H with
   |some (y,H2)=>some (((),y),H2)
   |none=>none
  |_=>none
def zpN{a b:Ty}(h:a=b)(x:List (Int×T a)):List (Int×T b):=Eq.rec (motive:=fun b _=>List (Int×T b)) x h
def ziD(a b:Bool):Bool:=bif a then b else !b
theorem oc{a b:Bool}(h:ziD a b=true):a=b:=by cases a<;>cases b<;>first | rfl | cases h
def rdO(nn:Bool)(t:Ty)(H:SH)(c:Nat):SV->Option (List (T t)×List (Nat×Nat))
 |.nils=>bif nn then none else some ([],[])
 |.own c'=>match zo H c' with
  |some (.arr nn' t' l)=>if h:t'=t then bif ziD nn' nn then some (kW h l,[(c,c')])else none else none
  |_=>none
 |_=>none
def rdK:(ks:List CK)->List SV->SH->Option (CS ks×List (Nat×Nat))
 |[],[],_=>some ((),[])
 |.d t::r,us,H=>match pcC t us H with
  |some (x,us1)=>match rdK r us1 H with
   |some (y,s)=>some ((x,y),s)
   |none=>none
  |none=>none
 |.o c nn t::r,u::us,H=>match rdO nn t H c u with
  |some (x,s1)=>match rdK r us H with
   |some (y,s)=>some ((x,y),s1++s)
   |none=>none
  |none=>none
 |_,_,_=>none
def ziE:Option Code->Option Code->Bool
 |none,none=>true
 |some .ret,some .ret=>true
 |some (.exit i),some (.exit j)=>Nat.beq i j
 |some (.goto i),some (.goto j)=>Nat.beq i j
 |_,_=>false
theorem zmy{a b:Option Code}(h:ziE a b=true):a=b:=by unfold ziE at h;grind[Nat.eq_of_beq_eq_true]
def zfg:LoopState->LoopState->Bool
 |.ready,.ready=>true
 |.busy,.busy=>true
 |.done,.done=>true
 |_,_=>false
theorem zks{a b:LoopState}(h:zfg a b=true):a=b:=by unfold zfg at h;grind
def stQ(L:SL):List LSt->Bool
 |[]=>false
 |s::_=>zfg L.st s.1&&ziE L.pend s.2
def bkO:(ol:List OPl)->List LSt->List SV->SH->Option (OS ol×List (Nat×Nat))
 |[],_,_,_=>some ((),[])
 |.otmp i c nn t::r,vs,tm,H=>match gl tm i with
  |some u=>match rdO nn t H c u with
   |some (x,s)=>match bkO r vs tm H with
    |some (y,σ)=>some ((x,y),s++σ)
    |none=>none
   |none=>none
  |none=>none
 |.sblk b ks::r,vs,tm,H=>match zo H b with
  |some (.vars us)=>match rdK ks us H with
   |some (x,s)=>match bkO r vs tm H with
    |some (y,σ)=>some ((x,y),(b,b)::(s++σ))
    |none=>none
   |none=>none
  |_=>none
 |.arr b nn t::r,vs,tm,H=>match zo H b with
  |some (.arr nn' t' l)=>if h:t'=t then bif ziD nn' nn then match bkO r vs tm H with
    |some (y,σ)=>some ((kW h l,y),(b,b)::σ)
    |none=>none
   else none
   else none
  |_=>none
 |.lp l _::r,vs,tm,H=>match zo H l with
  |some (.loop L')=>bif stQ L' vs then match bkO r vs.tail tm H with
    |some (y,σ)=>some (((),y),(l,l)::σ)
    |none=>none
   else none
  |_=>none
 |.dfd b::r,vs,tm,H=>match zo H b with
  |some .defd=>match bkO r vs tm H with
   |some (y,σ)=>some (((),y),(b,b)::σ)
   |none=>none
  |_=>none
 |.mpl b k ag t::r,vs,tm,H=>match zo H b with
  |some (.mpb k' ag' t' l)=>if h:t'=t then bif gH k' k&&ziD ag' ag then match bkO r vs tm H with
    |some (y,σ)=>some ((zpN h l,y),(b,b)::σ)
    |none=>none
   else none
   else none
  |_=>none
theorem vP:∀{dl:List DPl} {tm:List SV} {H H':SH} {x:DS dl},bkD dl tm H=some (x,H')->yl H H'
 |[],tm,H,H',x,h=>by grind[bkD,yl.refl]
 |.tmp i vt::r,tm,H,H',x,h=>by
  simp only[bkD]at h;split at h;case h_2=>cases h
  split at h
  ·cases h
  ·split at h;case h_2=>cases h
   rename_i h1;split at h;case h_2=>cases h
   rename_i h2;cases h;exact(PA h1).1.trans (vP h2)
 |.blk b t::r,tm,H,H',x,h=>by
  simp only[bkD]at h;split at h;case h_2=>cases h
  split at h;case h_2=>cases h
  rename_i h1;split at h;case h_2=>cases h
  rename_i h2;cases h;obtain⟨cs1,he,g1,r1⟩:=Xz _ (rj h1);exact g1.trans (vP h2)
 |.frz b ks::r,tm,H,H',x,h=>by
  simp only[bkD]at h;split at h;case h_2=>cases h
  split at h;case h_2=>cases h
  rename_i h1;split at h;case h_2=>cases h
  rename_i h2;cases h;exact(rE h1).trans (vP h2)
 |.npt i::r,tm,H,H',x,h=>by
  simp only[bkD]at h;split at h;case h_2=>cases h
  split at h;case h_2=>cases h
  rename_i h2;cases h;exact vP h2
theorem TZ{tm:List Value}{ts:Array Value}{i:Nat}{v v':Value}(h:qS φ tm ts)(h1:ts[i]?=some v')(h2:zp φ v v'):qS φ (tm.set i v) ts:=by
 refine⟨by simpa using h.1,fun j u hu=>?_⟩;rw[zrl]at hu;by_cases hij:i=j
 ·grind
 ·rw[zqu hij]at hu;exact h.2 j u hu
theorem dU{φ2 φ3:Ren}{ν:Nat->Bool}{G:SH}{nx:Nat}{ρ3:Nat->Value}{ts:Array Value}(g:zF φ2 (zK ν G) K w)(hv:VN ν nx G)(hF:∀b L,φ2 (FZ+b)=some L->φ3 (FZ+b)=some L) : ∀{dl:List DPl} {tm:List SV} {H H':SH} {x:DS dl},bkD dl tm H=some (x,H')->GLe H' G->qS φ2 (zu (rho ν G) tm) ts->∀{tm0:List SV},qS φ3 (zu ρ3 tm0) ts->qS φ3 (zu ρ3 (tmD dl x tm0)) ts
 |[],tm,H,H',x,h,hG,ht,tm0,h0=>by simpa only[tmD]using h0
 |.tmp i vt::r,tm,H,H',x,h,hG,ht,tm0,h0=>by
  simp only[bkD]at h;split at h;case h_2=>cases h
  rename_i u hu;split at h
  ·cases h
  ·rename_i hj;split at h;case h_2=>cases h
   rename_i x1 H1 h1;split at h;case h_2=>cases h
   rename_i y H2 h2;cases h;simp only[tmD];refine dU g hv hF h2 hG ht ?_;obtain⟨g1,r1⟩:=PA h1;have g2:=vP h2;rw[xk]at hu;have hH:rho ν H=rho ν G:=by rw[hG.rho ν,g2.1.rho ν,g1.1.rho ν]
   rcases ht.2 i (den (rho ν G) u) (by rw[wF,hu];rfl)with hq | ⟨v',q1,q2⟩
   ·exact absurd (da hq) hj
   ·have key:=zbL (ρ:=ρ3) hF vt x1 (r1 ν G (g2.1.trans hG) φ2 K w nx v' g hv (by rw[hH];exact q2) ρ3);grind[uM,zu,mkV,set,den,qO,List.map_set,TZ]
 |.blk b t::r,tm,H,H',x,h,hG,ht,tm0,h0=>by
  simp only[bkD]at h;split at h;case h_2=>cases h
  split at h;case h_2=>cases h
  rename_i h1;split at h;case h_2=>cases h
  rename_i h2;cases h;simp only[tmD];exact dU g hv hF h2 hG ht h0
 |.frz b ks::r,tm,H,H',x,h,hG,ht,tm0,h0=>by
  simp only[bkD]at h;split at h;case h_2=>cases h
  split at h;case h_2=>cases h
  split at h;case h_2=>cases h
  rename_i h2;cases h;simp only[tmD];exact dU g hv hF h2 hG ht h0
 |.npt i::r,tm,H,H',x,h,hG,ht,tm0,h0=>by
  simp only[bkD]at h;split at h;case h_2=>cases h
  rename_i hu;split at h;case h_2=>cases h
  rename_i h2;cases h;simp only[tmD];refine dU g hv hF h2 hG ht ?_;rw[xk]at hu;rcases ht.2 i (den (rho ν G) .nilp) (by rw[wF,hu];rfl)with hq | ⟨v',q1,q2⟩
  ·grind[da]
  ·rw[uM];have:zu ρ3 (tm0.set i .nilp)=(zu ρ3 tm0).set i (den ρ3 .nilp):=by simp[qO,zsZ]
   rw[this];refine TZ h0 q1 ?_;simp only[den]at q2 ⊢;cases q2;exact .ptrN
theorem GB{ν:Nat->Bool}{G:SH}:∀{dl:List DPl} {tm:List SV} {H H':SH} {x:DS dl},bkD dl tm H=some (x,H')->GLe H' G->∀{b:Nat} {k:SB},zo (hpD dl x) b=some k->∃(t:Ty) (y:T t) (cs:List SV),k=.vars (jN t y)∧zo G b=some (.vars cs)∧∀(φ:Ren) (K:Nat->Prop) (w:World) (nx:Nat) (us:List Value),zF φ (zK ν G) K w->VN ν nx G->zD φ (zu (rho ν G) cs) us->zD φ (qA t y) us
 |[],tm,H,H',x,h,hG,b,k,hk=>by simp[hpD,WX]at hk
 |.tmp i vt::r,tm,H,H',x,h,hG,b,k,hk=>by
  simp only[bkD]at h;split at h;case h_2=>cases h
  split at h
  ·cases h
  ·split at h;case h_2=>cases h
   split at h;case h_2=>cases h
   rename_i h2;cases h;simp only[hpD]at hk;exact GB h2 hG hk
 |.blk b0 t::r,tm,H,H',x,h,hG,b,k,hk=>by
  simp only[bkD]at h;split at h;case h_2=>cases h
  rename_i cs hcs;split at h;case h_2=>cases h
  rename_i x1 H1 h1;split at h;case h_2=>cases h
  rename_i y H2 h2;cases h;simp only[hpD]at hk;rw[qd]at hk;by_cases hb:b0=b
  ·subst hb;simp only[zqF,PL]at hk;subst hk;obtain⟨cs1,he,g1,r1⟩:=Xz _ (rj h1);simp only[zri]at he;subst he;have g2:=vP h2;have hg:=(g1.1.trans g2.1).trans hG;refine⟨t,x1,cs,rfl,?_,fun φ K w nx us g hv hr=>?_⟩
   ·rcases hg b0 with h3 | ⟨nn,t',l,h3,_⟩;all_goals grind
   ·exact r1 ν G (g2.1.trans hG) φ K w nx us g hv (by rw[<-hg.rho ν];exact hr)
  ·rw[zqu hb]at hk;exact GB h2 hG hk
 |.frz b0 ks::r,tm,H,H',x,h,hG,b,k,hk=>by
  simp only[bkD]at h;split at h;case h_2=>cases h
  split at h;case h_2=>cases h
  split at h;case h_2=>cases h
  rename_i h2;cases h;simp only[hpD]at hk;exact GB h2 hG hk
 |.npt i::r,tm,H,H',x,h,hG,b,k,hk=>by
  simp only[bkD]at h;split at h;case h_2=>cases h
  split at h;case h_2=>cases h
  rename_i h2;cases h;simp only[hpD]at hk;exact GB h2 hG hk
def nmD:List DPl->List Nat
 |[]=>[]
 |.tmp _ _::r=>nmD r
 |.blk b _::r=>b::nmD r
 |.frz _ _::r=>nmD r
 |.npt _::r=>nmD r
def nmK:List CK->List Nat
 |[]=>[]
 |.d _::r=>nmK r
 |.o c _ _::r=>c::nmK r
def nmO:List OPl->List Nat
 |[]=>[]
 |.otmp _ c _ _::r=>c::nmO r
 |.sblk b ks::r=>b::(nmK ks++nmO r)
 |.arr b _ _::r=>b::nmO r
 |.lp l _::r=>l::nmO r
 |.dfd b::r=>b::nmO r
 |.mpl b _ _ _::r=>b::nmO r
theorem uh{n:Nat}:∀{dl:List DPl} {x:DS dl},n∉nmD dl->zo (hpD dl x) n=none
 |[],x,h=>rfl
 |.tmp _ _::r,x,h=>uh (dl:=r) (x:=x.2) h
 |.blk b t::r,x,h=>by simp only[nmD,zqA,zsD]at h;simp only[hpD];rw[qd,zqu (zst h.1)];exact uh h.2
 |.frz b ks::r,x,h=>uh (dl:=r) (x:=x.2) h
 |.npt _::r,x,h=>uh (dl:=r) (x:=x.2) h
theorem KF{n:Nat}:∀{ks:List CK} {x:CS ks},n∉nmK ks->zo (Zf ks x) n=none
 |[],x,h=>rfl
 |.d t::r,x,h=>KF (ks:=r) (x:=x.2) h
 |.o c nn t::r,x,h=>by simp only[nmK,zqA,zsD]at h;simp only[Zf];rw[qd,zqu (zst h.1)];exact KF h.2
theorem kq{n:Nat}:∀{ol:List OPl} {vs:List LSt} {y:OS ol},n∉nmO ol->zo (hpO ol vs y) n=none
 |[],vs,y,h=>rfl
 |.otmp _ c nn t::r,vs,y,h=>by simp only[nmO,zqA,zsD]at h;simp only[hpO];rw[qd,zqu (zst h.1)];exact kq h.2
 |.sblk b ks::r,vs,y,h=>by simp only[nmO,zqA,zqS,zsD]at h;simp only[hpO];rw[qd,zqu (zst h.1),qo,KF h.2.1];exact kq h.2.2
 |.arr b nn t::r,vs,y,h=>by simp only[nmO,zqA,zsD]at h;simp only[hpO];rw[qd,zqu (zst h.1)];exact kq h.2
 |.lp b L::r,vs,y,h=>by simp only[nmO,zqA,zsD]at h;simp only[hpO];rw[qd,zqu (zst h.1)];exact kq h.2
 |.dfd b::r,vs,y,h=>by simp only[nmO,zqA,zsD]at h;simp only[hpO];rw[qd,zqu (zst h.1)];exact kq h.2
 |.mpl b _ _ _::r,vs,y,h=>by simp only[nmO,zqA,zsD]at h;simp only[hpO];rw[qd,zqu (zst h.1)];exact kq h.2
def zaa(HT:SH):(ks:List CK)->CS ks->Prop
 |[],_=>True
 |.d _::r,x=>zaa HT r x.2
 |.o c nn t::r,x=>zo HT c=some (.arr nn t x.1)∧zaa HT r x.2
theorem zab:∀(ks:List CK) (x:CS ks) (pre post:SH),(nmK ks).Nodup->(∀n∈nmK ks,zo pre n=none)->zaa (pre++(Zf ks x++post)) ks x
 |[],x,pre,post,hn,hp=>trivial
 |.d t::r,x,pre,post,hn,hp=>zab r x.2 pre post hn hp
 |.o c nn t::r,x,pre,post,hn,hp=>by
  simp only[nmK,zrn]at hn;simp only[nmK,zqA,zro]at hp;refine⟨?_,?_⟩
  ·grind[Zf,qo,qd]
  ·have:=zab r x.2 (pre++[(c,.arr nn t x.1)]) post hn.2 (fun n hm=>by
    rw[qo,hp.2 n hm];show zo [(c,_)] n=none;rw[qd,zqu (fun e=>hn.1 (by rw[e];exact hm))];rfl)
   grind[Zf]
def ZI(HT:SH):(ol:List OPl)->OS ol->Prop
 |[],_=>True
 |.otmp _ c nn t::r,y=>zo HT c=some (.arr nn t y.1)∧ZI HT r y.2
 |.sblk _ ks::r,y=>zaa HT ks y.1∧ZI HT r y.2
 |.arr b nn t::r,y=>zo HT b=some (.arr nn t y.1)∧ZI HT r y.2
 |.lp _ _::r,y=>ZI HT r y.2
 |.dfd _::r,y=>ZI HT r y.2
 |.mpl _ _ _ _::r,y=>ZI HT r y.2
theorem Yf:∀(ol:List OPl) (vs:List LSt) (y:OS ol) (pre post:SH),(nmO ol).Nodup->(∀n∈nmO ol,zo pre n=none)->ZI (pre++(hpO ol vs y++post)) ol y
 |[],vs,y,pre,post,hn,hp=>trivial
 |.otmp i c nn t::r,vs,y,pre,post,hn,hp=>by
  simp only[nmO,zrn]at hn;simp only[nmO,zqA,zro]at hp;refine⟨?_,?_⟩
  ·grind[hpO,qo,qd]
  ·have:=Yf r vs y.2 (pre++[(c,.arr nn t y.1)]) post hn.2 (fun n hm=>by
    rw[qo,hp.2 n hm];show zo [(c,_)] n=none;rw[qd,zqu (fun e=>hn.1 (by rw[e];exact hm))];rfl)
   grind[hpO]
 |.sblk b ks::r,vs,y,pre,post,hn,hp=>by
  simp only[nmO,zrn,zqS,zsD,zsr]at hn;simp only[nmO,zqA,zqS,zro]at hp;refine⟨?_,?_⟩
  ·have:=zab ks y.1 (pre++[(b,.vars (GA ks y.1))]) (hpO r vs y.2++post) hn.2.1 (fun n hm=>by
    rw[qo,hp.2 n (.inl hm)];show zo [(b,_)] n=none;rw[qd,zqu (fun e=>hn.1.1 (by rw[e];exact hm))];rfl)
   grind[GA,Zf,hpO]
  ·have:=Yf r vs y.2 (pre++(b,.vars (GA ks y.1))::Zf ks y.1) post hn.2.2.1 (fun n hm=>by
    rw[qo,hp.2 n (.inr hm)];show zo ((b,_)::_) n=none;rw[qd,zqu (fun e=>hn.1.2 (by rw[e];exact hm))];exact KF (fun h=>hn.2.2.2 n h n hm rfl))
   grind[GA,Zf,hpO]
 |.arr b nn t::r,vs,y,pre,post,hn,hp=>by
  simp only[nmO,zrn]at hn;simp only[nmO,zqA,zro]at hp;refine⟨?_,?_⟩
  ·grind[hpO,qo,qd]
  ·have:=Yf r vs y.2 (pre++[(b,.arr nn t y.1)]) post hn.2 (fun n hm=>by
    rw[qo,hp.2 n hm];show zo [(b,_)] n=none;rw[qd,zqu (fun e=>hn.1 (by rw[e];exact hm))];rfl)
   grind[hpO]
 |.lp b L::r,vs,y,pre,post,hn,hp=>by
  simp only[nmO,zrn]at hn;simp only[nmO,zqA,zro]at hp;have:=Yf r vs.tail y.2 (pre++[(b,.loop (stO L vs))]) post hn.2 (fun n hm=>by
    grind[qo,zo,qd])
  have e:(pre++[(b,SB.loop (stO L vs))])++(hpO r vs.tail y.2++post)=pre++(hpO (.lp b L::r) vs y++post):=by simp[hpO]
  rw[e]at this;exact this
 |.dfd b::r,vs,y,pre,post,hn,hp=>by
  simp only[nmO,zrn]at hn;simp only[nmO,zqA,zro]at hp;have:=Yf r vs y.2 (pre++[(b,.defd)]) post hn.2 (fun n hm=>by
    grind[qo,zo,qd])
  have e:(pre++[(b,SB.defd)])++(hpO r vs y.2++post)=pre++(hpO (.dfd b::r) vs y++post):=by simp[hpO]
  rw[e]at this;exact this
 |.mpl b k ag t::r,vs,y,pre,post,hn,hp=>by
  simp only[nmO,zrn]at hn;simp only[nmO,zqA,zro]at hp;have:=Yf r vs y.2 (pre++[(b,.mpb k ag t y.1)]) post hn.2 (fun n hm=>by
    grind[qo,zo,qd])
  have e:(pre++[(b,SB.mpb k ag t y.1)])++(hpO r vs y.2++post)=pre++(hpO (.mpl b k ag t::r) vs y++post):=by simp[hpO]
  rw[e]at this;exact this
theorem ziF{φ2 φ3:Ren}{b b' o n c:Nat}(h:φ3 b=φ2 b'){v':Value}(hv:zp φ2 (.slice (some ⟨b',o,none⟩) n c) v'):zp φ3 (.slice (some ⟨b,o,none⟩) n c) v':=by
 cases hv with
 |sl _ _ _ _ L hL hc=>exact .sl _ _ _ _ L (by rw[h];exact hL) hc
 |slO _ _ _ _ c' L hL hc hn hl=>exact .slO _ _ _ _ c' L (by rw[h];exact hL) hc hn hl
 |slE _ _ _ a' L hL hc=>exact .slE _ _ _ a' L (by rw[h];exact hL) hc
theorem zhj{φ2 φ3:Ren}{ν:Nat->Bool}{nx c:Nat}{nn:Bool}{t:Ty}{H HT:SH}{u:SV}{x:List (T t)}{s:List (Nat×Nat)}(h:rdO nn t H c u=some (x,s))(hv:VN ν nx H)(hv3:∀b,ji (zo HT b)=true->ν b=false)(hs:∀p∈s,φ3 p.1=φ2 p.2)(hT:zo HT c=some (.arr nn t x)){v':Value}(hr:zp φ2 (den (rho ν H) u) v'):zp φ3 (den (rho ν HT) (.own c)) v':=by
 unfold rdO at h;simp only[den];rw[xX ν (nn:=nn) (t:=t) (l:=x) (by rw[hT];rfl)];split at h
 ·cases nn with
  |true=>cases h
  |false=>cases h;simp only[den]at hr;cases hr;exact .slN _ _
 ·rename_i c';split at h
  ·rename_i nn' t' l hc';split at h
   ·rename_i ht;subst ht;have h6:=zT h;clear h;obtain⟨hq,h⟩:=h6;have:=oc hq;subst this;cases h;simp only[den]at hr;rw[xX ν (nn:=nn') (t:=t') (l:=l) (by rw[hc'];rfl)]at hr;have he:kW rfl l=l:=rfl;rw[he];cases hn:jE nn' l with
    |true=>rw[hn]at hr;cases hr;exact .slN _ _
    |false=>rw[hn]at hr;exact ziF (hs (c,c') (by simp)) hr
   ·cases h
  ·cases h
 ·cases h
theorem zac{φ2 φ3:Ren}{ν:Nat->Bool}{nx:Nat}{H HT:SH}(g:zF φ2 (zK ν H) K w)(hv:VN ν nx H)(hv3:∀b,ji (zo HT b)=true->ν b=false)(hF:∀b L,φ2 (FZ+b)=some L->φ3 (FZ+b)=some L) : ∀{ks:List CK} {us:List SV} {x:CS ks} {s:List (Nat×Nat)},rdK ks us H=some (x,s)->(∀p∈s,φ3 p.1=φ2 p.2)->zaa HT ks x->∀{vs:List Value},zD φ2 (zu (rho ν H) us) vs->zD φ3 (zu (rho ν HT) (GA ks x)) vs
 |[],[],x,s,h,hs,hT,vs,hr=>by
  match vs,hr with
  |[],_=>trivial
  |_::_,hr=>simp[zu,zD]at hr
 |.d t::r,us,x,s,h,hs,hT,vs,hr=>by
  simp only[rdK]at h;split at h;case h_2=>cases h
  rename_i z us1 h1;split at h;case h_2=>cases h
  rename_i y s' h2;cases h;obtain⟨cs,rfl,_,hc⟩:=Xz t (zff t h1);rw[qO,zrJ]at hr;have hlen:=hr.length;obtain⟨u1,u2,rfl,hl1⟩:∃u1 u2,vs=u1++u2∧u1.length=cs.length:=⟨vs.take cs.length,vs.drop cs.length,by simp,by grind⟩;have hsplit:zD φ2 (cs.map (den (rho ν H))) u1∧zD φ2 (us1.map (den (rho ν H))) u2:=by have h3:=hr.take (cs.length);have h4:=hr.drop (cs.length);grind
  simp only[GA];rw[qO,zrJ,wt];refine zD.append ?_ ?_
  ·exact cZ hF (hc ν H (GLe.refl _) φ2 K w nx u1 g hv (by rw[qO];exact hsplit.1))
  ·have:=zac g hv hv3 hF h2 (fun p hp=>hs p hp) hT (vs:=u2) (by rw[qO];exact hsplit.2);grind[qO]
 |.o c nn t::r,u::us,x,s,h,hs,hT,vs,hr=>by
  simp only[rdK]at h;split at h;case h_2=>cases h
  rename_i z s1 h1;split at h;case h_2=>cases h
  rename_i y s' h2;cases h
  match vs,hr with
  |[],hr=>simp[zu,zD]at hr
  |v::vs,hr=>
   simp only[zu,zD,GA]at hr ⊢
   exact⟨zhj h1 hv hv3 (fun p hp=>hs p (by simp[hp])) hT.1 hr.1,zac g hv hv3 hF h2 (fun p hp=>hs p (by simp[hp])) hT.2 hr.2⟩
 |[],_::_,_,_,h,_,_,_,_=>by simp[rdK]at h
 |.o _ _ _::_,[],_,_,h,_,_,_,_=>by simp[rdK]at h
theorem zos{nn:Bool}{t:Ty}{H:SH}{c:Nat}{x:List (T t)×List (Nat×Nat)}(h:rdO nn t H c .junk=some x):False:=by simp[rdO]at h
theorem VJ{φ2 φ3:Ren}{ν:Nat->Bool}{H HT:SH}{nx:Nat}{ts:Array Value}(hv:VN ν nx H)(hv3:∀b,ji (zo HT b)=true->ν b=false){tm:List SV}(ht:qS φ2 (zu (rho ν H) tm) ts) : ∀{ol:List OPl} {vs:List LSt} {y:OS ol} {σ:List (Nat×Nat)},bkO ol vs tm H=some (y,σ)->ZI HT ol y->(∀p∈σ,φ3 p.1=φ2 p.2)->∀{tm0:List SV},qS φ3 (zu (rho ν HT) tm0) ts->qS φ3 (zu (rho ν HT) (tmO ol y tm0)) ts
 |[],vs,y,σ,h,hO,hσ,tm0,h0=>by simpa only[tmO]using h0
 |.otmp i c nn t::r,vs,y,σ,h,hO,hσ,tm0,h0=>by
  simp only[bkO]at h;split at h;case h_2=>cases h
  rename_i u hu;split at h;case h_2=>cases h
  rename_i x s h1;split at h;case h_2=>cases h
  rename_i y' σ' h2;cases h;simp only[tmO];refine VJ hv hv3 ht h2 hO.2 (fun p hp=>hσ p (by simp[hp])) ?_;rw[xk]at hu;rcases ht.2 i (den (rho ν H) u) (by rw[wF,hu];rfl)with hq | ⟨v',q1,q2⟩
  ·grind[da,zos]
  ·rw[uM];have:zu (rho ν HT) (tm0.set i (.own c))=(zu (rho ν HT) tm0).set i (den (rho ν HT) (.own c)):=by simp[qO,zsZ]
   rw[this];exact TZ h0 q1 (zhj h1 hv hv3 (fun p hp=>hσ p (by simp[hp])) hO.1 q2)
 |.sblk b ks::r,vs,y,σ,h,hO,hσ,tm0,h0=>by
  simp only[bkO]at h;split at h;case h_2=>cases h
  split at h;case h_2=>cases h
  split at h;case h_2=>cases h
  rename_i h2;cases h;simp only[tmO];exact VJ hv hv3 ht h2 hO.2 (fun p hp=>hσ p (by simp[hp])) h0
 |.arr b nn t::r,vs,y,σ,h,hO,hσ,tm0,h0=>by
  simp only[bkO]at h;split at h;case h_2=>cases h
  split at h;case isFalse=>cases h
  obtain⟨_,h⟩:=zT h;split at h;case h_2=>cases h
  rename_i h2;cases h;simp only[tmO];exact VJ hv hv3 ht h2 hO.2 (fun p hp=>hσ p (by simp[hp])) h0
 |.lp b L::r,vs,y,σ,h,hO,hσ,tm0,h0=>by
  simp only[bkO]at h;split at h;case h_2=>cases h
  have h6:=zT h;clear h;obtain⟨hq,h⟩:=h6;split at h;case h_2=>cases h
  rename_i h2;cases h;simp only[tmO];exact VJ hv hv3 ht h2 hO (fun p hp=>hσ p (by simp[hp])) h0
 |.dfd b::r,vs,y,σ,h,hO,hσ,tm0,h0=>by
  simp only[bkO]at h;split at h;case h_2=>cases h
  split at h;case h_2=>cases h
  rename_i h2;cases h;simp only[tmO];exact VJ hv hv3 ht h2 hO (fun p hp=>hσ p (by simp[hp])) h0
 |.mpl b k ag t::r,vs,y,σ,h,hO,hσ,tm0,h0=>by
  simp only[bkO]at h;split at h;case h_2=>cases h
  split at h;case isFalse=>cases h
  obtain⟨_,h⟩:=zT h;split at h;case h_2=>cases h
  rename_i h2;cases h;simp only[tmO];exact VJ hv hv3 ht h2 hO (fun p hp=>hσ p (by simp[hp])) h0
inductive an (H HT:SH) (ol:List OPl) (σ:List (Nat×Nat)) (b s:Nat):SB->Prop
 |arr (nn:Bool) (t:Ty) (l:List (T t)) (h:zo H s=some (.arr nn t l)):an H HT ol σ b s (.arr nn t l)
 |own (ks:List CK) (us:List SV) (x:CS ks) (s':List (Nat×Nat)) (hs:s=b) (h:zo H b=some (.vars us)) (hr:rdK ks us H=some (x,s')) (hσ:∀p∈s',p∈σ) (hT:zaa HT ks x):an H HT ol σ b s (.vars (GA ks x))
 |lp (L L':SL) (vs:List LSt) (hs:s=b) (hL:OPl.lp b L∈ol) (h:zo H b=some (.loop L')) (hq:stQ L' vs=true):an H HT ol σ b s (.loop (stO L vs))
 |dfd (hs:s=b) (h:zo H b=some .defd):an H HT ol σ b s .defd
 |mp (k:IntKind) (ag:Bool) (t:Ty) (l:List (Int×T t)) (hs:s=b) (h:zo H b=some (.mpb k ag t l)):an H HT ol σ b s (.mpb k ag t l)
theorem an.more{H HT:SH}{ol:List OPl}{p:OPl}{σ σ':List (Nat×Nat)}(hσ:∀q∈σ,q∈σ'){b s:Nat}{k:SB}(h:an H HT ol σ b s k):an H HT (p::ol) σ' b s k:=by
 cases h with
 |arr nn t l h=>exact .arr nn t l h
 |own ks us x s' hs h hr h1 hT=>exact .own ks us x s' hs h hr (fun q hq=>hσ q (h1 q hq)) hT
 |lp L L' vs hs hL h hq=>exact .lp L L' vs hs (zqP _ hL) h hq
 |dfd hs h=>exact .dfd hs h
 |mp k ag t l hs h=>exact .mp k ag t l hs h
theorem zfh{nn:Bool}{t:Ty}{H:SH}{c:Nat}{u:SV}{l:List (T t)}{s:List (Nat×Nat)}(h:rdO nn t H c u=some (l,s)):(nn=false∧l=[])∨∃c',s=[(c,c')]∧zo H c'=some (.arr nn t l):=by
 unfold rdO at h;split at h
 ·grind
 ·rename_i c';split at h
  ·rename_i nn' t' l' hc';split at h
   ·rename_i ht;subst ht;have h6:=zT h;clear h;obtain⟨hq,h⟩:=h6;have:=oc hq;subst this;cases h;exact .inr ⟨c',rfl,hc'⟩
   ·cases h
  ·cases h
 ·cases h
def zmz(k:SB):Prop:=∃t,k=.arr false t []
theorem zad{H:SH}:∀{ks:List CK} {us:List SV} {x:CS ks} {s:List (Nat×Nat)},rdK ks us H=some (x,s)->∀{b:Nat} {k:SB},zo (Zf ks x) b=some k->zmz k∨∃s',(b,s')∈s∧∃(nn:Bool) (t:Ty) (l:List (T t)),k=.arr nn t l∧zo H s'=some (.arr nn t l)
 |[],us,x,s,h,b,k,hk=>by simp[Zf,WX]at hk
 |.d t::r,us,x,s,h,b,k,hk=>by
  simp only[rdK]at h;split at h;case h_2=>cases h
  split at h;case h_2=>cases h
  rename_i y s' h2;cases h;exact zad h2 hk
 |.o c nn t::r,u::us,x,s,h,b,k,hk=>by
  simp only[rdK]at h;split at h;case h_2=>cases h
  rename_i z s1 h1;split at h;case h_2=>cases h
  rename_i y s' h2;cases h;simp only[Zf]at hk;rw[qd]at hk;by_cases hb:c=b
  ·subst hb;simp only[zqF,PL]at hk;subst hk;rcases zfh h1 with⟨rfl,rfl⟩ | ⟨c',rfl,h3⟩
   ·exact .inl ⟨t,rfl⟩
   grind
  ·rw[zqu hb]at hk;rcases zad h2 hk with h3 | ⟨s2,h3,h4⟩
   all_goals grind
 |.o _ _ _::_,[],_,_,h,_,_,_=>by simp[rdK]at h
theorem Yg{tm:List SV}{H HT:SH}:∀{ol:List OPl} {vs:List LSt} {y:OS ol} {σ:List (Nat×Nat)},bkO ol vs tm H=some (y,σ)->ZI HT ol y->∀{b:Nat} {k:SB},zo (hpO ol vs y) b=some k->zmz k∨∃s,(b,s)∈σ∧an H HT ol σ b s k
 |[],vs,y,σ,h,hO,b,k,hk=>by simp[hpO,WX]at hk
 |.otmp i c nn t::r,vs,y,σ,h,hO,b,k,hk=>by
  simp only[bkO]at h;split at h;case h_2=>cases h
  rename_i u hu;split at h;case h_2=>cases h
  rename_i x s h1;split at h;case h_2=>cases h
  rename_i y' σ' h2;cases h;simp only[hpO]at hk;rw[qd]at hk;by_cases hb:c=b
  ·subst hb;simp only[zqF,PL]at hk;subst hk;rcases zfh h1 with⟨rfl,rfl⟩ | ⟨c',rfl,h3⟩
   ·exact .inl ⟨t,rfl⟩
   ·exact .inr ⟨c',by simp,.arr nn t x h3⟩
  ·rw[zqu hb]at hk;rcases Yg h2 hO.2 hk with h3 | ⟨s',h3,h4⟩
   ·exact .inl h3
   ·exact .inr ⟨s',by simp[h3],h4.more fun q hq=>by simp[hq]⟩
 |.sblk b0 ks::r,vs,y,σ,h,hO,b,k,hk=>by
  simp only[bkO]at h;split at h;case h_2=>cases h
  rename_i us hu;split at h;case h_2=>cases h
  rename_i x s h1;split at h;case h_2=>cases h
  rename_i y' σ' h2;cases h;simp only[hpO]at hk;have rest:zo (hpO r vs y') b=some k->zmz k∨∃s',(b,s')∈(b0,b0)::(s++σ')∧an H HT (.sblk b0 ks::r) ((b0,b0)::(s++σ')) b s' k:=fun hk=>by
   rcases Yg h2 hO.2 hk with h3 | ⟨s',h3,h4⟩
   ·exact .inl h3
   ·exact .inr ⟨s',by simp[h3],h4.more fun q hq=>by simp[hq]⟩
  rw[qd]at hk;by_cases hb0:b0=b
  ·subst hb0;simp only[zqF,PL]at hk;subst hk;exact .inr ⟨b0,by simp,.own ks us x s rfl hu h1 (fun p hp=>by simp[hp]) hO.1⟩
  ·rw[zqu hb0,qo]at hk;split at hk
   ·rename_i kk hkk;cases hk;rcases zad h1 hkk with h3 | ⟨s',h3,nn,t,l,rfl,h4⟩
    ·exact .inl h3
    ·exact .inr ⟨s',by simp[h3],.arr nn t l h4⟩
   ·exact rest hk
 |.arr b0 nn t::r,vs,y,σ,h,hO,b,k,hk=>by
  simp only[bkO]at h;split at h;case h_2=>cases h
  rename_i nn' t' l hl;split at h;case isFalse=>cases h
  rename_i ht;subst ht;have h6:=zT h;clear h;obtain⟨hq,h⟩:=h6;have:=oc hq;subst this;split at h;case h_2=>cases h
  rename_i y' σ' h2;cases h;simp only[hpO]at hk;rw[qd]at hk;by_cases hb0:b0=b
  ·subst hb0;simp only[zqF,PL]at hk;subst hk;exact .inr ⟨b0,by simp,.arr _ _ _ hl⟩
  ·rw[zqu hb0]at hk;rcases Yg h2 hO.2 hk with h3 | ⟨s',h3,h4⟩
   ·exact .inl h3
   ·exact .inr ⟨s',by simp[h3],h4.more fun q hq=>by simp[hq]⟩
 |.lp b0 L::r,vs,y,σ,h,hO,b,k,hk=>by
  simp only[bkO]at h;split at h;case h_2=>cases h
  rename_i L' hl;have h6:=zT h;clear h;obtain⟨hq,h⟩:=h6;split at h;case h_2=>cases h
  rename_i y' σ' h2;cases h;simp only[hpO]at hk;rw[qd]at hk;by_cases hb0:b0=b
  ·subst hb0;simp only[zqF,PL]at hk;subst hk;exact .inr ⟨b0,by simp,.lp L L' vs rfl (by simp) hl hq⟩
  ·rw[zqu hb0]at hk;rcases Yg h2 hO hk with h3 | ⟨s',h3,h4⟩
   ·exact .inl h3
   ·exact .inr ⟨s',by simp[h3],h4.more fun q hq=>by simp[hq]⟩
 |.dfd b0::r,vs,y,σ,h,hO,b,k,hk=>by
  simp only[bkO]at h;split at h;case h_2=>cases h
  rename_i hl;split at h;case h_2=>cases h
  rename_i y' σ' h2;cases h;simp only[hpO]at hk;rw[qd]at hk;by_cases hb0:b0=b
  ·subst hb0;simp only[zqF,PL]at hk;subst hk;exact .inr ⟨b0,by simp,.dfd rfl hl⟩
  ·rw[zqu hb0]at hk;rcases Yg h2 hO hk with h3 | ⟨s',h3,h4⟩
   ·exact .inl h3
   ·exact .inr ⟨s',by simp[h3],h4.more fun q hq=>by simp[hq]⟩
 |.mpl b0 k0 ag t::r,vs,y,σ,h,hO,b,k,hk=>by
  simp only[bkO]at h;split at h;case h_2=>cases h
  rename_i k' ag' t' l hl;split at h;case isFalse=>cases h
  rename_i ht;subst ht;have h6:=zT h;clear h;obtain⟨hq,h⟩:=h6;simp only[FT]at hq;have:=gy hq.1;subst this;have:=oc hq.2;subst this;split at h;case h_2=>cases h
  rename_i y' σ' h2;cases h;simp only[hpO]at hk;rw[qd]at hk;by_cases hb0:b0=b
  ·subst hb0;simp only[zqF,PL]at hk;subst hk;exact .inr ⟨b0,by simp,.mp _ _ _ _ rfl hl⟩
  ·rw[zqu hb0]at hk;rcases Yg h2 hO hk with h3 | ⟨s',h3,h4⟩
   ·exact .inl h3
   ·exact .inr ⟨s',by simp[h3],h4.more fun q hq=>by simp[hq]⟩
def lkS(σ:List (Nat×Nat))(b:Nat):Nat:=List.rec (motive:=fun _=>Nat) b (fun p _ ih=>bif Nat.beq p.1 b then p.2 else ih) σ
def idD(dl:List DPl):List (Nat×Nat):=(nmD dl).map fun b=>(b,b)
def VK(σ:List (Nat×Nat)):Bool:=σ.all fun p=>Nat.beq (lkS σ p.1) p.2&&σ.all fun q=>Nat.beq p.1 q.1||!Nat.beq p.2 q.2
theorem zhk{σ:List (Nat×Nat)}(h:VK σ=true){b s:Nat}(hp:(b,s)∈σ):lkS σ b=s:=by grind[VK,List.all_eq_true,Nat.eq_of_beq_eq_true]
theorem zmA{σ:List (Nat×Nat)}(h:VK σ=true){b c s:Nat}(hp:(b,s)∈σ)(hq:(c,s)∈σ):b=c:=by grind[VK,List.all_eq_true,Nat.eq_of_beq_eq_true,Nat.beq,Nat.beq_refl]
theorem zbQ{φ:Ren}{arr:Array Value}:∀{cs:List Value} {o:Nat},(∀(j:Nat) v,cs[j]?=some v->∃v',arr[o+j]?=some v'∧zp φ v v')->∃us,zD φ cs us∧∀(j:Nat) u,us[j]?=some u->arr[o+j]?=some u
 |[],o,h=>⟨[],trivial,fun j u hu=>by simp at hu⟩
 |c::cs,o,h=>by
  obtain⟨v',h1,h2⟩:=h 0 c rfl;obtain⟨us,h3,h4⟩:=zbQ (cs:=cs) (o:=o+1) (fun j v hv=>by
   obtain⟨u,q1,q2⟩:=h (j+1) v (by simpa using hv);exact⟨u,by rw[<-q1];congr 1;omega,q2⟩)
  refine⟨v'::us,⟨h2,h3⟩,fun j u hu=>?_⟩;grind
theorem KG{φ2 φ3:Ren}{L:Loc}{cs ds:List Value}{ro:Bool}(h:ju φ2 w L (.cells cs ro))(hc:∀us,zD φ2 cs us->zD φ3 ds us):ju φ3 w L (.cells ds ro):=by obtain⟨arr,el,fr,h1,h2,h3⟩:=h;obtain⟨us,q1,q2⟩:=zbQ h2;refine⟨arr,el,fr,h1,fun j v hv=>?_,h3⟩;obtain⟨u,e1,e2⟩:=(hc us q1).get hv;grind
theorem ziG{φ φ0:Ren}(hF:∀b L,φ (FZ+b)=some L->φ0 (FZ+b)=some L){t:Ty}{l:List (T t)}{us:List Value}(h:zD φ (qm t l) us):zD φ0 (qm t l) us:=by refine zD.of_get h.length fun i v v' hv hv'=>?_;obtain⟨u,h1,h2⟩:=h.get hv;rw[hv']at h1;cases h1;have hm:=zqy hv;grind[qm,xy]
theorem zmB{φ φ0:Ren}(hF:∀b L,φ (FZ+b)=some L->φ0 (FZ+b)=some L)(ag:Bool)(t:Ty)(x:T t){v':Value}(h:zp φ (mvV ag t x) v'):zp φ0 (mvV ag t x) v':=by
 cases ag with
 |true=>
  simp only[mvV,zqJ,wv]at h ⊢;obtain⟨ys,rfl,hl⟩:=h.agg_inv;exact .agg' (by grind[cZ])
 |false=>
  simp only[mvV,zqD]at h ⊢;cases hc:qA t x with
  |nil=>rw[hc]at h;exact(by simp only[List.headD_nil,Fz.junk]at h;cases h)
  |cons a r=>
   grind[List.headD_cons,xy]
theorem Re{φ φ0:Ren}(hF:∀b L,φ (FZ+b)=some L->φ0 (FZ+b)=some L){k:IntKind}{ag:Bool}{t:Ty}:∀{l:List (Int×T t)} {i:Nat} {xs:List MapEntry},vS φ (uC k ag t l i) xs->vS φ0 (uC k ag t l i) xs
 |[],i,[],h=>trivial
 |[],i,_::_,h=>h.elim
 |p::r,i,[],h=>h.elim
 |p::r,i,e::xs,h=>⟨h.1,zmB hF ag t p.2 h.2.1,Re hF h.2.2⟩
theorem zot{φ φ0:Ren}(hF:∀b L,φ (FZ+b)=some L->φ0 (FZ+b)=some L){L:Loc}{k:IntKind}{ag:Bool}{t:Ty}{l:List (Int×T t)}{i n:Nat}(h:ju φ w L (.mp (uC k ag t l i) n)):ju φ0 w L (.mp (uC k ag t l i) n):=by obtain⟨xs,h1,⟨⟨ys,q1,q2⟩,q3⟩,h3⟩:=h;exact⟨xs,h1,⟨⟨ys,q1,Re hF q2⟩,q3⟩,h3⟩
section
variable {φ2 φ3:Ren} {ν:Nat→Bool} {lo nx:Nat} {KA K':Nat→Prop} {Hs:Hp} {H HS HR HT:SH} {dl:List DPl} {ol:List OPl} {vs:List LSt} {tm:List SV} {x:DS dl} {y:OS ol} {σ:List (Nat×Nat)} {ns:List Nat}
theorem zkt(eT:HT=hpD dl x++(hpO ol vs y++HR))(gA:zF φ2 (zK ν HS) KA w)(gB:zF φ2 Hs K' w)(hv:VN ν nx HS)(hv3:∀b,ji (zo HT b)=true->ν b=false)(hD:bkD dl tm H=some (x,HS))(hO:bkO ol vs tm HS=some (y,σ))(hQ:VK (idD dl++σ)=true)(hs:∀p∈idD dl++σ,Hs.get p.2=(zK ν HS).get p.2)(h3:∀p∈idD dl++σ,φ3 p.1=φ2 p.2)(hφ:∀b,b < lo->φ3 b=φ2 b)(hF:∀b,φ3 (FZ+b)=φ2 (FZ+b))(hOR:ZI HT ol y)(hns:∀b∈ns,b < lo)(hr:∀b∈ns,reg (zo HT b)=reg (zo HS b))(hL:∀l L,OPl.lp l L∈ol->yS ns lo L.tm=true∧L.dfr < lo∧∀L',zo HS l=some (.loop L')->∃s p,L'={L with st:=s,pend:=p})(hR:∀b k,zo HR b=some k->∀kd,qB (rho ν HT) (ν b) k=some kd->kd.rw=false∧∃L,φ3 b=some L∧ju φ3 w L kd∧K' L.blk):zF φ3 (zK ν HT) K' w:=by
 have hF2:∀b L,φ2 (FZ+b)=some L->φ3 (FZ+b)=some L:=fun b L h=>by rw[hF];exact h
 have key:∀b k,zo (hpD dl x) b=some k∨zo (hpO ol vs y) b=some k->∀kd,qB (rho ν HT) (ν b) k=some kd->(ji (some k)=true->ν b=false)->∃s,(b,s)∈idD dl++σ∧kd.rw=true∧∃kd',(zK ν HS).get s=some kd'∧kd'.rw=true∧∀L,ju φ2 w L kd'->ju φ3 w L kd:=by
  intro b k hk kd hkd hnn;rcases hk with hk | hk
  ·obtain⟨t,z,cs,rfl,h1,h2⟩:=GB hD (GLe.refl _) hk;have hm:b∈nmD dl:=by apply Classical.byContradiction;intro hn;rw[uh hn]at hk;cases hk
   simp only[qB,PL]at hkd;subst hkd;refine⟨b,by simp[idD,hm],rfl,.cells (zu (rho ν HS) cs) false,by rw[qe,h1];rfl,rfl,fun L hb=>KG hb fun us hu=>?_⟩;have:=cZ hF2 (h2 φ2 KA w nx us gA hv hu);rw[<-wt (rho ν HT) t z]at this;rw[qO];exact this
  ·rcases Yg hO hOR hk with⟨t,rfl⟩ | ⟨s,hm,hc⟩
   ·simp[qB,jE]at hkd
   refine⟨s,by simp[hm],?_⟩;cases hc with
   |arr nn t l h=>
    simp only[qB]at hkd;cases e2:jE nn l with
    |true=>rw[e2]at hkd;cases hkd
    |false=>
     rw[e2]at hkd;simp only[zqD,PL]at hkd;subst hkd;exact⟨rfl,.cells (qm t l) false,by rw[qe,h];simp[qB,e2],rfl,fun L hb=>KG hb fun us hu=>ziG hF2 hu⟩
   |own ks us0 z s' hs' h hr' hσ hT=>
    subst hs';simp only[qB,PL]at hkd;subst hkd;exact⟨rfl,.cells (zu (rho ν HS) us0) false,by rw[qe,h];rfl,rfl,fun L hb=>KG hb fun us hu=>zac gA hv hv3 hF2 hr' (fun p hp=>h3 p (by simp[hσ p hp])) hT hu⟩
   |lp L L' vs' hs' hL' h hq=>
    subst hs';simp only[qB,PL]at hkd;subst hkd;obtain⟨l1,l2,l3⟩:=hL _ _ hL';obtain⟨s1,p1,rfl⟩:=l3 _ h;refine⟨rfl,.loop (wW (rho ν HS) {L with st:=s1,pend:=p1}),by rw[qe,h];rfl,rfl,fun M hb=>?_⟩;have hst:s1=(stO L vs').st∧p1=(stO L vs').pend:=by
     cases vs' with
     |nil=>simp[stQ]at hq
     |cons v r=>
      simp only[stQ,FT]at hq;exact⟨zks hq.1,zmy hq.2⟩
    have hrest:(stO L vs').tm=L.tm∧(stO L vs').params=L.params∧(stO L vs').assign=L.assign∧(stO L vs').body=L.body∧(stO L vs').dfr=L.dfr:=by cases vs'<;>exact⟨rfl,rfl,rfl,rfl,rfl⟩
    obtain⟨l',f1,f2,f3,f4,f5,f6,f7,D,f8,f9⟩:=hb;refine⟨l',f1,?_,?_,?_,?_,?_,?_,D,?_,f9⟩
    ·rw[f2];exact hst.1
    ·rw[f3];exact hst.2
    ·refine⟨?_,fun i v hv'=>?_⟩
     ·have:=f4.1;simp only[wW,wq]at this ⊢;rw[hrest.1];exact this
     ·simp only[wW,hrest.1]at hv';rw[wF,zqp]at hv';obtain⟨u,hu,rfl⟩:=hv';rcases f4.2 i (den (rho ν HS) u) (by simp only[wW];rw[wF,hu];rfl)with hq' | ⟨v',q1,q2⟩
      ·exact .inl (ri (vv ν HS) hq')
      ·refine .inr ⟨v',q1,Hq hφ hF2 hns hr u v' ?_ q2⟩;have:∀(l:List SV) (i:Nat) u,yS ns lo l=true->l[i]?=some u->VI ns lo u=true:=by
        intro l;induction l with
        |nil=>intro i u _ h;simp at h
        |cons a l ih=>
         intro i u hl hi;simp only[yS,FT]at hl;cases i with
         |zero=>simp at hi;subst hi;exact hl.1
         |succ i=>exact ih i u hl.2 (by simpa using hi)
       exact this _ _ _ l1 hu
    ·simp only[wW,hrest.2.1];exact f5
    ·simp only[wW,hrest.2.2.1];exact f6
    ·simp only[wW,hrest.2.2.2.1];exact f7
    ·simp only[wW,hrest.2.2.2.2];rw[hφ _ l2];exact f8
   |dfd hs' h=>
    subst hs';simp only[qB,PL]at hkd;subst hkd;exact⟨rfl,.defd,by rw[qe,h];rfl,rfl,fun L hb=>hb⟩
   |mp k ag t l hs' h=>
    subst hs';simp only[qB,PL]at hkd;subst hkd;exact⟨rfl,.mp (uC k ag t l 0) l.length,by rw[qe,h];rfl,rfl,fun L hb=>zot hF2 hb⟩
 have split:∀b kd,(zK ν HT).get b=some kd->(∃s,(b,s)∈idD dl++σ∧kd.rw=true∧∃kd',Hs.get s=some kd'∧kd'.rw=true∧∀L,ju φ2 w L kd'->ju φ3 w L kd)∨(kd.rw=false∧∃L,φ3 b=some L∧ju φ3 w L kd∧K' L.blk):=by
  intro b kd hb;rw[qe]at hb;cases hk:zo HT b with
  |none=>rw[hk]at hb;cases hb
  |some k=>
   rw[hk]at hb;simp only[zqt]at hb;have hnn:ji (some k)=true->ν b=false:=fun h=>hv3 b (by rw[hk];exact h);rw[eT,qo,qo]at hk;have fin:(zo (hpD dl x) b=some k∨zo (hpO ol vs y) b=some k)->(∃s,(b,s)∈idD dl++σ∧kd.rw=true∧∃kd',Hs.get s=some kd'∧kd'.rw=true∧∀L,ju φ2 w L kd'->ju φ3 w L kd)∨(kd.rw=false∧∃L,φ3 b=some L∧ju φ3 w L kd∧K' L.blk):=fun h=>by obtain⟨s,e1,e2,kd',e3,e4,e5⟩:=key b k h kd hb hnn;exact Or.inl ⟨s,e1,e2,kd',by rw[hs _ e1];exact e3,e4,e5⟩
   split at hk
   ·rename_i h1;cases hk;exact fin (.inl h1)
   ·split at hk
    ·rename_i h1;cases hk;exact fin (.inr h1)
    ·exact .inr (hR b k hk kd hb)
 refine zko gB (lkS (idD dl++σ)) (fun b k hb=>?_) (fun b c k k' hb hc hk hk' hne=>?_) (fun b k hb hk=>?_) hF;all_goals grind[zhk,zmA]
end
end Go.Fz.Sy
namespace Go.Fz.Sy
variable {P:Program} {φ:Ren} {K:Nat→Prop} {w:World} {R:Type}
def MY(pn:List Nat)(f:Nat->SB->SB):SH->SH
 |[]=>[]
 |(b,k)::r=>bif yd pn b then MY pn f r else(b,f b k)::MY pn f r
theorem ye(pn:List Nat)(f:Nat->SB->SB)(n:Nat):∀H:SH,zo (MY pn f H) n=if n∈pn then none else(zo H n).map (f n)
 |[]=>by simp[MY,WX]
 |(b,k)::r=>by have ih:=ye pn f n r;grind[MY,yd,gO,qd]
def wX(ns mv:List Nat)(lo:Nat)(b:Nat):SB->SB
 |.vars cs=>bif yS ns lo cs then .ro cs else .hid
 |.ro cs=>bif yS ns lo cs then .ro cs else .hid
 |.arr nn t l=>bif yd mv b then .gone (rsz nn t l) l.length else .roa nn t l
 |.roa nn t l=>.roa nn t l
 |.fro nn t l=>.fro nn t l
 |.gone s n=>.gone s n
 |.abs=>.abs
 |_=>.hid
def Hr(mv:List Nat)(b:Nat):SB->SB
 |.arr nn t l=>bif yd mv b then .gone (rsz nn t l) l.length else .arr nn t l
 |k=>k
theorem Ds(ns mv:List Nat)(lo b:Nat)(k:SB):reg (some (wX ns mv lo b k))=reg (some k):=by
 cases k with
 |vars cs=>simp only[wX];cases yS ns lo cs<;>rfl
 |ro cs=>simp only[wX];cases yS ns lo cs<;>rfl
 |arr nn t l=>simp only[wX];cases yd mv b<;>first | rfl | exact dO _ _ _
 |_=>rfl
theorem zbR(mv:List Nat)(b:Nat)(k:SB):reg (some (Hr mv b k))=reg (some k):=by
 cases k with
 |arr nn t l=>simp only[Hr];cases yd mv b<;>first | rfl | exact dO _ _ _
 |_=>rfl
def mV:List OPl->List Nat
 |[]=>[]
 |.arr b _ _::r=>b::mV r
 |.otmp _ _ _ _::r=>mV r
 |.sblk _ _::r=>mV r
 |.lp _ _::r=>mV r
 |.dfd _::r=>mV r
 |.mpl _ _ _ _::r=>mV r
def YF(lo n0:Nat)(σ:List (Nat×Nat)):Bool:=σ.all fun p=>Nat.blt p.1 n0&&(Nat.ble lo p.1||Nat.beq p.1 p.2)
def zmC(ns:List Nat)(dl:List DPl)(ol:List OPl):Bool:=ns.all fun b=>!yd (nmD dl) b&&(yd (mV ol) b||!yd (nmO ol) b)
theorem VL{HS HT:SH}{tm:List SV}:∀{ol:List OPl} {vs:List LSt} {y:OS ol} {σ:List (Nat×Nat)},bkO ol vs tm HS=some (y,σ)->ZI HT ol y->∀b∈mV ol,reg (zo HT b)=reg (zo HS b)
 |[],vs,y,σ,h,hO,b,hb=>by cases hb
 |.otmp i c nn t::r,vs,y,σ,h,hO,b,hb=>by
  simp only[bkO]at h;split at h;case h_2=>cases h
  split at h;case h_2=>cases h
  split at h;case h_2=>cases h
  rename_i h2;cases h;exact VL h2 hO.2 b hb
 |.sblk b0 ks::r,vs,y,σ,h,hO,b,hb=>by
  simp only[bkO]at h;split at h;case h_2=>cases h
  split at h;case h_2=>cases h
  split at h;case h_2=>cases h
  rename_i h2;cases h;exact VL h2 hO.2 b hb
 |.arr b0 nn t::r,vs,y,σ,h,hO,b,hb=>by
  simp only[bkO]at h;split at h;case h_2=>cases h
  rename_i nn' t' l hl;split at h;case isFalse=>cases h
  rename_i ht;subst ht;have h6:=zT h;clear h;obtain⟨hq,h⟩:=h6;have:=oc hq;subst this;split at h;case h_2=>cases h
  rename_i h2;cases h;rcases zqA.1 hb with rfl | hb
  ·rw[hO.1,hl];rfl
  ·exact VL h2 hO.2 b hb
 |.lp b0 L::r,vs,y,σ,h,hO,b,hb=>by
  simp only[bkO]at h;split at h;case h_2=>cases h
  have h6:=zT h;clear h;obtain⟨hq,h⟩:=h6;split at h;case h_2=>cases h
  rename_i h2;cases h;exact VL h2 hO b hb
 |.dfd b0::r,vs,y,σ,h,hO,b,hb=>by
  simp only[bkO]at h;split at h;case h_2=>cases h
  split at h;case h_2=>cases h
  rename_i h2;cases h;exact VL h2 hO b hb
 |.mpl b0 k ag t::r,vs,y,σ,h,hO,b,hb=>by
  simp only[bkO]at h;split at h;case h_2=>cases h
  split at h;case isFalse=>cases h
  obtain⟨_,h⟩:=zT h;split at h;case h_2=>cases h
  rename_i h2;cases h;exact VL h2 hO b hb
structure Frm where
 dl:List DPl
 ol:List OPl
 tm0:List SV
 ns:List Nat
 mv:List Nat
 lo:Nat
 n0:Nat
 H1:SH
def Frm.pn(F:Frm):List Nat:=nmD F.dl++nmO F.ol
def Frm.HR(F:Frm):SH:=MY F.pn (wX F.ns F.mv F.lo) F.H1
def Frm.HF(F:Frm):SH:=MY F.pn (Hr F.mv) F.H1
def Frm.hp(F:Frm)(HX:SH)(vs:List LSt)(x:DS F.dl)(y:OS F.ol):SH:=hpD F.dl x++(hpO F.ol vs y++HX)
def Frm.tm(F:Frm)(x:DS F.dl)(y:OS F.ol):List SV:=tmO F.ol y (tmD F.dl x F.tm0)
structure Frm.Ok(F:Frm):Prop where
 names:F.pn.Nodup
 nsl:∀b∈F.ns,b < F.lo
 nsr:zmC F.ns F.dl F.ol=true
 lps:∀l L,OPl.lp l L∈F.ol->yS F.ns F.lo L.tm=true∧L.dfr < F.lo∧zo F.H1 l=some (.loop L)
 tml:yS F.ns F.lo F.tm0=true
 le:F.lo<=F.n0
def Frm.KX(F:Frm)(K:Nat->Prop)(φ1:Ren)(ν:Nat->Bool):Nat->Prop:=Sy.KX K φ1 (xO ν (rho ν F.H1) F.HR)
theorem zfi{ns:List Nat}{lo:Nat}:∀{l:List SV} {i:Nat} {u:SV},yS ns lo l=true->l[i]?=some u->VI ns lo u=true
 |[],i,u,_,h=>by simp at h
 |a::l,i,u,hl,hi=>by
  simp only[yS,FT]at hl;cases i with
  |zero=>grind
  |succ i=>exact zfi (l:=l) (i:=i) hl.2 (by simpa using hi)
theorem ziH{H HT:SH}{ol:List OPl}{vs:List LSt}{y:OS ol}{σ:List (Nat×Nat)}{tm:List SV}(h:bkO ol vs tm H=some (y,σ))(hO:ZI HT ol y){b:Nat}(hk:ji (zo (hpO ol vs y) b)=true):∃s t l,(b,s)∈σ∧zo H s=some (.arr true t l):=by
 cases hs:zo (hpO ol vs y) b with
 |none=>rw[hs]at hk;cases hk
 |some k=>
  rw[hs]at hk;rcases Yg h hO hs with⟨t,rfl⟩ | ⟨s,h1,h2⟩
  ·cases hk
  cases h2 with
  |arr nn t l h=>
   have hk:nn=true:=hk;grind
  |own=>cases hk
  |lp=>cases hk
  |dfd=>cases hk
  |mp=>cases hk
structure Frm.Seen(F:Frm)(K:Nat->Prop)(φ1:Ren)(wE:World)(ν:Nat->Bool)(HX:SH)(vs:List LSt)(x:DS F.dl)(y:OS F.ol)(φ3:Ren)(w:World)(ts:Array Value):Prop where
 good:zF φ3 (zK ν (F.hp HX vs x y)) (F.KX K φ1 ν) w
 tms:qS φ3 (zu (rho ν (F.hp HX vs x y)) (F.tm x y)) ts
 ext:Ext (F.KX K φ1 ν) φ1 φ3 F.lo F.n0
 vn:VN ν F.n0 (F.hp HX vs x y)
 regs:∀b∈F.ns,reg (zo (F.hp HX vs x y) b)=reg (zo F.H1 b)
 went:qJ (F.KX K φ1 ν) wE w
section
variable {F:Frm} {φ1 φ2:Ren} {wE:World} {ν:Nat→Bool} {K KA:Nat→Prop} {M nx2:Nat}
theorem Ka(hF:F.Ok)(hvE:VN ν F.lo F.H1){HS0 HS:SH}{tmS:List SV}{vs:List LSt}{x:DS F.dl}{y:OS F.ol}{σ:List (Nat×Nat)}(hv:VN ν nx2 HS)(hD:bkD F.dl tmS HS0=some (x,HS))(hO:bkO F.ol vs tmS HS=some (y,σ))(hN:YF F.lo F.n0 (idD F.dl++σ)=true)(hregs:∀b∈F.ns,reg (zo HS b)=reg (zo F.H1 b)) : ZI (F.hp F.HR vs x y) F.ol y∧(∀b,b∉F.pn->zo (F.hp F.HR vs x y) b=(zo F.H1 b).map (wX F.ns F.mv F.lo b))∧(∀b∈F.ns,reg (zo (F.hp F.HR vs x y) b)=reg (zo F.H1 b))∧VN ν F.n0 (F.hp F.HR vs x y):=by
 have hOR:ZI (F.hp F.HR vs x y) F.ol y:=by have hn:=hF.names;unfold Frm.pn at hn;rw[zsr]at hn;exact Yf F.ol vs y (hpD F.dl x) F.HR hn.2.1 fun n hm=>uh fun h=>hn.2.2 n h n hm rfl
 have hRget:∀b,b∉F.pn->zo F.HR b=(zo F.H1 b).map (wX F.ns F.mv F.lo b):=fun b hb=>by unfold Frm.HR;rw[ye,zqu hb]
 have hTget:∀b,b∉F.pn->zo (F.hp F.HR vs x y) b=(zo F.H1 b).map (wX F.ns F.mv F.lo b):=fun b hb=>by have h1:b∉nmD F.dl:=fun h=>hb (by simp[Frm.pn,h]);have h2:b∉nmO F.ol:=fun h=>hb (by simp[Frm.pn,h]);unfold Frm.hp;rw[qo,uh h1,qo,kq h2];exact hRget b hb
 have hnsq:∀b∈F.ns,b∉nmD F.dl∧(b∈mV F.ol∨b∉nmO F.ol):=fun b hb=>by
  have:=hF.nsr;unfold zmC at this;rw[zqK]at this;have h2:=this b hb;simp only[FT,zrm,zrq]at h2;refine⟨fun h=>?_,?_⟩
  ·rw[(gO _ _).2 h]at h2;cases h2.1
  ·rcases h2.2 with h3 | h3
   ·exact .inl ((gO _ _).1 h3)
   ·refine .inr fun h=>?_;rw[(gO _ _).2 h]at h3;cases h3
 have hreg:∀b∈F.ns,reg (zo (F.hp F.HR vs x y) b)=reg (zo F.H1 b):=fun b hb=>by
  obtain⟨h1,h2⟩:=hnsq b hb;by_cases hm:b∈nmO F.ol
  ·have h3:b∈mV F.ol:=by rcases h2 with h | h;exact h;exact absurd hm h
   rw[VL hO hOR b h3,hregs b hb]
  ·rw[hTget b (by simp[Frm.pn,h1,hm])];cases hk:zo F.H1 b with
   |none=>rfl
   |some k=>exact Ds _ _ _ _ k
 have hnn:∀b,ji (zo (F.hp F.HR vs x y) b)=true->ν b=false:=fun b hb=>by
  by_cases hp:b∈F.pn
  ·unfold Frm.hp at hb;rw[qo]at hb;cases hs1:zo (hpD F.dl x) b with
   |some k=>
    rw[hs1]at hb;obtain⟨t,z,cs,rfl,_⟩:=GB (ν:=ν) hD (GLe.refl _) hs1;cases hb
   |none=>
    rw[hs1]at hb;simp only at hb;rw[qo]at hb;cases hs2:zo (hpO F.ol vs y) b with
    |some k=>
     rw[hs2]at hb;simp only at hb;obtain⟨s,t,l,h1,h2⟩:=ziH hO hOR (b:=b) (by rw[hs2];exact hb);have hN':=hN;unfold YF at hN';rw[zqK]at hN';have:=hN' (b,s) (by simp[h1]);simp only[FT,zrm,zsM,zsN]at this;rcases this.2 with h3 | h3
     ·exact hvE.old b h3
     ·have:=zpK h3;subst this;exact hv.nn b (by rw[h2];rfl)
    |none=>
     rw[hs2]at hb;simp only at hb;unfold Frm.HR at hb;rw[ye,zqI hp]at hb;cases hb
  ·rw[hTget b hp]at hb;cases hk:zo F.H1 b with
   |none=>rw[hk]at hb;cases hb
   |some k=>
    rw[hk]at hb;refine hvE.nn b ?_;rw[hk];cases k with
    |arr nn t l=>
     simp only[zqQ,wX]at hb;cases hm:yd F.mv b with
     |true=>rw[hm]at hb;cases hb
     |false=>rw[hm]at hb;exact hb
    |roa nn t l=>exact hb
    |vars cs=>
     simp only[zqQ,wX]at hb;cases hm:yS F.ns F.lo cs<;>rw[hm]at hb<;>cases hb
    |ro cs=>
     simp only[zqQ,wX]at hb;cases hm:yS F.ns F.lo cs<;>rw[hm]at hb<;>cases hb
    |_=>cases hb
 have hvT:VN ν F.n0 (F.hp F.HR vs x y):=by exact⟨fun b n hr=>WY hr,fun b hb=>hvE.old b (zqw hF.le hb),hnn⟩
 grind
theorem Dt(hF:F.Ok)(gE:zF φ1 (zK ν F.H1) K wE)(hfr:wV φ1 F.lo M)(hM:F.n0<=M)(hvE:VN ν F.lo F.H1){HS0 HS:SH}{Hs:Hp}{tmS:List SV}{ts:Array Value}{vs:List LSt}{x:DS F.dl}{y:OS F.ol}{σ:List (Nat×Nat)}(e2:Ext (F.KX K φ1 ν) φ1 φ2 F.lo M)(hw:qJ (F.KX K φ1 ν) wE w)(gA:zF φ2 (zK ν HS) KA w)(gB:zF φ2 Hs (F.KX K φ1 ν) w)(hv:VN ν nx2 HS)(hD:bkD F.dl tmS HS0=some (x,HS))(hO:bkO F.ol vs tmS HS=some (y,σ))(hQ:VK (idD F.dl++σ)=true)(hN:YF F.lo F.n0 (idD F.dl++σ)=true)(hs:∀p∈idD F.dl++σ,Hs.get p.2=(zK ν HS).get p.2)(hregs:∀b∈F.ns,reg (zo HS b)=reg (zo F.H1 b))(ht:qS φ2 (zu (rho ν HS) tmS) ts)(hlen:tmS.length=F.tm0.length)(hsame:∀(i:Nat) u,F.tm0[i]?=some u->u≠.junk->tmS[i]?=some u)(hlp:∀l L,OPl.lp l L∈F.ol->∀L',zo HS l=some (.loop L')->∃s p,L'={L with st:=s,pend:=p}) : ∃φ3,F.Seen K φ1 wE ν F.HR vs x y φ3 w ts:=by
 let σ':=idD F.dl++σ;let φ3:Ren:=fun b=>if b < FZ then(if F.lo<=b∧b < F.n0 then φ2 (lkS σ' b)else φ1 b)else φ2 b;have hz:F.n0<=FZ:=zqw hM hfr.1;have f1:∀b,φ3 (FZ+b)=φ2 (FZ+b):=fun b=>by grind
 have f2:∀b,b < F.lo->φ3 b=φ1 b:=fun b hb=>by
  have h1:b < FZ:=by have:=hF.le;omega
  grind
 have f3:∀b,b < F.lo->φ3 b=φ2 b:=fun b hb=>by rw[f2 b hb,e2.2.1 b (by have:=hF.le;omega) (.inl hb)]
 have f4:∀p∈σ',φ3 p.1=φ2 p.2:=fun p hp=>by grind[YF,List.all_eq_true,Nat.blt_eq,Nat.ble_eq,FZ,lkS,zhk,Nat.eq_of_beq_eq_true]
 have e3:Ext (F.KX K φ1 ν) φ1 φ3 F.lo F.n0:=by
  refine⟨fun b L hL=>?_,fun b hb hb2=>?_,fun b L hL=>?_⟩
  ·by_cases hb:b < FZ
   ·have h2:¬(F.lo<=b∧b < F.n0):=fun h=>by rw[hfr.2 b h.1 (by omega)]at hL;cases hL
    grind
   ·simp only[φ3,hb,zqZ];exact e2.1 b L hL
  ·grind
  ·rw[f1]at hL;exact e2.2.2 b L hL
 obtain⟨hOR,hTget,hreg,hvT⟩:=Ka hF hvE hv hD hO hN hregs;have hnn:=hvT.nn;have hRget:∀b,b∉F.pn->zo F.HR b=(zo F.H1 b).map (wX F.ns F.mv F.lo b):=fun b hb=>by unfold Frm.HR;rw[ye,zqu hb]
 have hFz:∀b L,φ1 (FZ+b)=some L->φ3 (FZ+b)=some L:=fun b L h=>e3.1 _ L h;have hlow:∀(v:SV) (v':Value),VI F.ns F.lo v=true->zp φ1 (den (rho ν F.H1) v) v'->zp φ3 (den (rho ν (F.hp F.HR vs x y)) v) v':=Hq (fun b hb=>f2 b hb) hFz hF.nsl hreg;have hlowL:∀(vs':List SV) (us:List Value),yS F.ns F.lo vs'=true->zD φ1 (zu (rho ν F.H1) vs') us->zD φ3 (zu (rho ν (F.hp F.HR vs x y)) vs') us:=Gz (fun b hb=>f2 b hb) hFz hF.nsl hreg;refine⟨φ3,?_,?_,e3,hvT,hreg,hw⟩
 ·refine zkt rfl gA gB hv hnn hD hO hQ hs f4 f3 f1 hOR hF.nsl (fun b hb=>by grind) (fun l L hL=>⟨(hF.lps l L hL).1,(hF.lps l L hL).2.1,hlp l L hL⟩) ?_;intro b k hk kd hkd;have hp:b∉F.pn:=fun h=>by grind[Frm.HR,ye]
  rw[hRget b hp]at hk;rw[zqp]at hk;obtain⟨kH,hkH,rfl⟩:=hk;have base:∀kE,qB (rho ν F.H1) (ν b) kH=some kE->(∃kv,qB (rho ν F.H1) (ν b) (wX F.ns F.mv F.lo b kH)=some kv)->∃L,φ3 b=some L∧ju φ1 w L kE∧F.KX K φ1 ν L.blk:=fun kE hkE hkv=>by obtain⟨kv,hkv⟩:=hkv;obtain⟨L,hL,hB⟩:=gE.rel b kE (by rw[qe,hkH];exact hkE);have hK:F.KX K φ1 ν L.blk:=.inr ⟨b,kv,L,by grind[yP],hL,rfl⟩;exact⟨L,e3.1 b L hL,ju.congr (hw.kept _ hK) hB,hK⟩
  have hidE:∀kE,qB (rho ν F.H1) (ν b) kH=some kE->wX F.ns F.mv F.lo b kH=.hid->kd.rw=false∧∃L,φ3 b=some L∧ju φ3 w L kd∧F.KX K φ1 ν L.blk:=fun kE hkE hh=>by rw[hh]at hkd;simp only[qB,PL]at hkd;subst hkd;obtain⟨L,h1,h2,h3⟩:=base kE hkE ⟨.hid,by rw[hh];rfl⟩;exact⟨rfl,L,h1,(ju.hid_of h2).mono e3.1,h3⟩
  cases kH with
  |vars cs=>
   cases hl:yS F.ns F.lo cs with
   |false=>exact hidE _ rfl (by grind[wX])
   |true=>
    simp only[wX,hl,zqJ,qB,PL]at hkd;subst hkd;obtain⟨L,h1,h2,h3⟩:=base _ rfl ⟨.cells (zu (rho ν F.H1) cs) true,by grind[wX,qB]⟩;obtain⟨arr,el,fr,q1,q2,q3⟩:=h2;exact⟨rfl,L,h1,KG (cs:=zu (rho ν F.H1) cs) ⟨arr,el,fr,q1,q2,fun h=>by cases h⟩ (fun us hu=>hlowL cs us hl hu),h3⟩
  |ro cs=>
   cases hl:yS F.ns F.lo cs with
   |false=>exact hidE _ rfl (by grind[wX])
   |true=>
    simp only[wX,hl,zqJ,qB,PL]at hkd;subst hkd;obtain⟨L,h1,h2,h3⟩:=base _ rfl ⟨.cells (zu (rho ν F.H1) cs) true,by grind[wX,qB]⟩;exact⟨rfl,L,h1,KG (cs:=zu (rho ν F.H1) cs) h2 (fun us hu=>hlowL cs us hl hu),h3⟩
  |arr nn t l=>
   cases hm:yd F.mv b with
   |true=>grind[wX,qB,reduceCtorEq]
   |false=>
    simp only[wX,hm,zqD,qB]at hkd;cases hn:jE nn l with
    |true=>grind
    |false=>
     rw[hn]at hkd;simp only[zqD,PL]at hkd;subst hkd;obtain⟨L,h1,h2,h3⟩:=base (.cells (qm t l) false) (by grind[qB]) ⟨.cells (qm t l) true,by grind[wX,qB]⟩;obtain⟨arr,el,fr,q1,q2,q3⟩:=h2;exact⟨rfl,L,h1,ju.mono e3.1 (k:=.cells (qm t l) true) ⟨arr,el,fr,q1,q2,fun h=>by cases h⟩,h3⟩
  |roa nn t l=>
   simp only[wX,qB]at hkd;cases hn:jE nn l with
   |true=>grind
   |false=>
    rw[hn]at hkd;simp only[zqD,PL]at hkd;subst hkd;obtain⟨L,h1,h2,h3⟩:=base (.cells (qm t l) true) (by grind[qB]) ⟨.cells (qm t l) true,by grind[wX,qB]⟩;exact⟨rfl,L,h1,h2.mono e3.1,h3⟩
  |fro nn t l=>
   simp only[wX,qB]at hkd;cases hn:jE nn l with
   |true=>grind
   |false=>
    rw[hn]at hkd;simp only[zqD,PL]at hkd;subst hkd;obtain⟨L,h1,h2,h3⟩:=base (.fzc (qm t l)) (by grind[qB]) ⟨.fzc (qm t l),by grind[wX,qB]⟩;exact⟨rfl,L,h1,h2.mono e3.1,h3⟩
  |gone s n=>simp only[wX,qB,reduceCtorEq]at hkd
  |loop L=>exact hidE _ rfl rfl
  |defd=>exact hidE _ rfl rfl
  |hid=>exact hidE _ rfl rfl
  |mpb k ag t l=>exact hidE _ rfl rfl
  |mpf k l=>exact hidE _ rfl rfl
  |abs=>simp only[wX,qB,reduceCtorEq]at hkd
 ·have hF2:∀b L,φ2 (FZ+b)=some L->φ3 (FZ+b)=some L:=fun b L h=>by rw[f1];exact h
  have hlow2:∀(v:SV) (v':Value),VI F.ns F.lo v=true->zp φ2 (den (rho ν HS) v) v'->zp φ3 (den (rho ν (F.hp F.HR vs x y)) v) v':=Hq f3 hF2 hF.nsl (fun b hb=>by rw[hreg b hb,hregs b hb]);have h0:qS φ3 (zu (rho ν (F.hp F.HR vs x y)) F.tm0) ts:=by
   refine⟨by have:=ht.1;rw[wq]at this ⊢;omega,fun i v hv'=>?_⟩;rw[wF,zqp]at hv';obtain⟨u,hu,rfl⟩:=hv';by_cases hj:u=.junk
   ·subst hj;exact .inl (by simp[den])
   ·rcases ht.2 i (den (rho ν HS) u) (by rw[wF,hsame i u hu hj];rfl)with hq | ⟨v',q1,q2⟩
    ·exact absurd (da hq) hj
    ·exact .inr ⟨v',q1,hlow2 u v' (zfi hF.tml hu) q2⟩
  unfold Frm.tm;refine VJ hv hnn ht hO hOR (fun p hp=>f4 p (by simp[σ',hp])) ?_;grind[dU,GLe.refl]
end
end Go.Fz.Sy
namespace Go.Fz.Sy
variable {P:Program} {φ:Ren} {K:Nat→Prop} {w:World} {R:Type}
theorem rF{X S:Type}{B:S->Option (X ⊕ S)}{I:S->Prop}{J:X->Prop}(h:∀s r,B s=some r->I s->match r with | .inl x=>J x | .inr s'=>I s'):∀(N:Nat) (s:S) (x:X),zJ B N s=some x->I s->J x
 |0,s,x,hi,hI=>by cases hi
 |N+1,s,x,hi,hI=>by
  rw[QX]at hi;split at hi
  ·grind
  ·rename_i s' hB;exact rF h N s' x hi (h s _ hB hI)
  ·cases hi
theorem znz:∃n:Nat,1180591620717411303424<=n:=⟨1180591620717411303424,FW _⟩
def zR:Nat:=Classical.choose znz
theorem zhl:1180591620717411303424<=zR:=Classical.choose_spec znz
def dV(ol:List OPl)(y:OS ol)(f:OS ol->Option R):Option R:=f y
theorem QJ(ol:List OPl)(y:OS ol)(f:OS ol->Option R):dV ol y f=f y:=rfl
def rG:List DPl->List Nat
 |[]=>[]
 |.tmp i _::r=>i::rG r
 |.blk _ _::r=>rG r
 |.frz _ _::r=>rG r
 |.npt i::r=>i::rG r
def mW:List OPl->List Nat
 |[]=>[]
 |.otmp i _ _ _::r=>i::mW r
 |.sblk _ _::r=>mW r
 |.arr _ _ _::r=>mW r
 |.lp _ _::r=>mW r
 |.dfd _::r=>mW r
 |.mpl _ _ _ _::r=>mW r
theorem od{i:Nat}:∀{dl:List DPl} {x:DS dl} {tm:List SV},i∉rG dl->(tmD dl x tm)[i]?=tm[i]?
 |[],x,tm,h=>rfl
 |.tmp j vt::r,x,tm,h=>by simp only[rG,zqA,zsD]at h;simp only[tmD];rw[od h.2,uM,zrl,zqu (zst h.1)]
 |.blk b t::r,x,tm,h=>by simp only[tmD];exact od (dl:=r) h
 |.frz b t::r,x,tm,h=>by simp only[tmD];exact od (dl:=r) h
 |.npt j::r,x,tm,h=>by simp only[rG,zqA,zsD]at h;simp only[tmD];rw[od h.2,uM,zrl,zqu (zst h.1)]
theorem GC{i:Nat}:∀{ol:List OPl} {y:OS ol} {tm:List SV},i∉mW ol->(tmO ol y tm)[i]?=tm[i]?
 |[],y,tm,h=>rfl
 |.otmp j c nn t::r,y,tm,h=>by simp only[mW,zqA,zsD]at h;simp only[tmO];rw[GC h.2,uM,zrl,zqu (zst h.1)]
 |.sblk b ks::r,y,tm,h=>by simp only[tmO];exact GC (ol:=r) h
 |.arr b nn t::r,y,tm,h=>by simp only[tmO];exact GC (ol:=r) h
 |.lp b t::r,y,tm,h=>by simp only[tmO];exact GC (ol:=r) h
 |.dfd b::r,y,tm,h=>by simp only[tmO];exact GC (ol:=r) h
 |.mpl _ _ _ _::r,y,tm,h=>by simp only[tmO];exact GC (ol:=r) h
theorem oe:∀{dl:List DPl} {x:DS dl} {tm:List SV},(tmD dl x tm).length=tm.length
 |[],x,tm=>rfl
 |.tmp j vt::r,x,tm=>by simp only[tmD];rw[oe,uM];simp
 |.blk b t::r,x,tm=>by simp only[tmD];exact oe
 |.frz b t::r,x,tm=>by simp only[tmD];exact oe
 |.npt j::r,x,tm=>by simp only[tmD];rw[oe,uM];simp
theorem GD:∀{ol:List OPl} {y:OS ol} {tm:List SV},(tmO ol y tm).length=tm.length
 |[],y,tm=>rfl
 |.otmp j c nn t::r,y,tm=>by simp only[tmO];rw[GD,uM];simp
 |.sblk b ks::r,y,tm=>by simp only[tmO];exact GD (ol:=r)
 |.arr b nn t::r,y,tm=>by simp only[tmO];exact GD (ol:=r)
 |.lp b t::r,y,tm=>by simp only[tmO];exact GD (ol:=r)
 |.dfd b::r,y,tm=>by simp only[tmO];exact GD (ol:=r)
 |.mpl _ _ _ _::r,y,tm=>by simp only[tmO];exact GD (ol:=r)
def YG(zqo:List Nat):Nat->List SV->List SV
 |_,[]=>[]
 |i,v::r=>(bif yd zqo i then .junk else v)::YG zqo (i+1) r
theorem gw(zqo:List Nat):∀(l:List SV) (i j:Nat),(YG zqo i l)[j]?=(l[j]?).map fun v=>if i+j∈zqo then .junk else v
 |[],i,j=>by simp[YG]
 |v::l,i,0=>by grind[YG,List.getElem?_cons_zero,yd,gO]
 |v::l,i,j+1=>by simp only[YG,zrg];rw[gw zqo l (i+1) j];grind
theorem ZJ(zqo:List Nat):∀(l:List SV) (i:Nat),(YG zqo i l).length=l.length
 |[],i=>rfl
 |v::l,i=>by simp[YG,ZJ zqo l]
theorem dW{l:Nat}{L:SL}:∀(ol:List OPl) (vs:List LSt) (y:OS ol) (pre post:SH),(nmO ol).Nodup->(∀n∈nmO ol,zo pre n=none)->OPl.lp l L∈ol->∃vs',zo (pre++(hpO ol vs y++post)) l=some (.loop (stO L vs'))
 |[],vs,y,pre,post,hn,hp,hm=>by cases hm
 |.otmp i c nn t::r,vs,y,pre,post,hn,hp,hm=>by
  simp only[nmO,zrn]at hn;simp only[nmO,zqA,zro]at hp;have hm:OPl.lp l L∈r:=by simpa using hm
  have:=dW r vs y.2 (pre++[(c,.arr nn t y.1)]) post hn.2 (fun n hm=>by
    rw[qo,hp.2 n hm];show zo [(c,_)] n=none;rw[qd,zqu (fun e=>hn.1 (by rw[e];exact hm))];rfl) hm
  grind[hpO]
 |.sblk b ks::r,vs,y,pre,post,hn,hp,hm=>by
  simp only[nmO,zrn,zqS,zsD,zsr]at hn;simp only[nmO,zqA,zqS,zro]at hp;have hm:OPl.lp l L∈r:=by simpa using hm
  have:=dW r vs y.2 (pre++(b,.vars (GA ks y.1))::Zf ks y.1) post hn.2.2.1 (fun n hm=>by
    rw[qo,hp.2 n (.inr hm)];show zo ((b,_)::_) n=none;rw[qd,zqu (fun e=>hn.1.2 (by rw[e];exact hm))];exact KF (fun h=>hn.2.2.2 n h n hm rfl)) hm
  grind[GA,Zf,hpO]
 |.arr b nn t::r,vs,y,pre,post,hn,hp,hm=>by
  simp only[nmO,zrn]at hn;simp only[nmO,zqA,zro]at hp;have hm:OPl.lp l L∈r:=by simpa using hm
  have:=dW r vs y.2 (pre++[(b,.arr nn t y.1)]) post hn.2 (fun n hm=>by
    rw[qo,hp.2 n hm];show zo [(b,_)] n=none;rw[qd,zqu (fun e=>hn.1 (by rw[e];exact hm))];rfl) hm
  grind[hpO]
 |.lp b L'::r,vs,y,pre,post,hn,hp,hm=>by
  simp only[nmO,zrn]at hn;simp only[nmO,zqA,zro]at hp;rcases zqA.1 hm with he | hm
  ·cases he;refine⟨vs,?_⟩;grind[hpO,qo,qd]
  ·have:=dW r vs.tail y.2 (pre++[(b,.loop (stO L' vs))]) post hn.2 (fun n hm=>by
    rw[qo,hp.2 n hm];show zo [(b,_)] n=none;rw[qd,zqu (fun e=>hn.1 (by rw[e];exact hm))];rfl) hm
   grind[stO,hpO]
 |.dfd b::r,vs,y,pre,post,hn,hp,hm=>by
  simp only[nmO,zrn]at hn;simp only[nmO,zqA,zro]at hp;have hm:OPl.lp l L∈r:=by simpa using hm
  have:=dW r vs y.2 (pre++[(b,.defd)]) post hn.2 (fun n hm=>by
    rw[qo,hp.2 n hm];show zo [(b,_)] n=none;rw[qd,zqu (fun e=>hn.1 (by rw[e];exact hm))];rfl) hm
  grind[hpO]
 |.mpl b k ag t::r,vs,y,pre,post,hn,hp,hm=>by
  simp only[nmO,zrn]at hn;simp only[nmO,zqA,zro]at hp;have hm:OPl.lp l L∈r:=by simpa using hm
  have:=dW r vs y.2 (pre++[(b,.mpb k ag t y.1)]) post hn.2 (fun n hm=>by
    rw[qo,hp.2 n hm];show zo [(b,_)] n=none;rw[qd,zqu (fun e=>hn.1 (by rw[e];exact hm))];rfl) hm
  grind[hpO]
def Frm.S(F:Frm):Type:=DS F.dl×OS F.ol
def rdy:List OPl->List LSt
 |[]=>[]
 |.lp _ _::r=>(.ready,none)::rdy r
 |.otmp _ _ _ _::r=>rdy r
 |.sblk _ _::r=>rdy r
 |.arr _ _ _::r=>rdy r
 |.dfd _::r=>rdy r
 |.mpl _ _ _ _::r=>rdy r
def QY(F:Frm)(vs:List LSt)(tm:List SV)(H:SH):Option F.S:=match bkD F.dl tm H with
 |some (x,H1)=>match bkO F.ol vs tm H1 with
  |some (y,σ)=>bif VK (idD F.dl++σ)&&YF F.lo F.n0 (idD F.dl++σ)then some (x,y)else none
  |none=>none
 |none=>none
theorem Rf{F:Frm}{vs:List LSt}{tm:List SV}{H:SH}{s:F.S}(h:QY F vs tm H=some s):∃H1 σ,bkD F.dl tm H=some (s.1,H1)∧bkO F.ol vs tm H1=some (s.2,σ)∧VK (idD F.dl++σ)=true∧YF F.lo F.n0 (idD F.dl++σ)=true:=by grind[QY]
def ar:Exit->Exit->Bool
 |.normal,.normal=>true
 |.ret,.ret=>true
 |.exit i,.exit j=>Nat.beq i j
 |.goto i,.goto j=>Nat.beq i j
 |_,_=>false
theorem dX{a b:Exit}(h:ar a b=true):a=b:=by unfold ar at h;grind[Nat.eq_of_beq_eq_true]
def Hu:List Nat->List Nat->Bool
 |[],[]=>true
 |a::r,b::s=>Nat.beq a b&&Hu r s
 |_,_=>false
theorem rH:∀{a b:List Nat},Hu a b=true->a=b
 |[],[],_=>rfl
 |a::r,b::s,h=>by simp only[Hu,FT]at h;rw[zpK h.1,rH h.2]
 |[],_::_,h=>by cases h
 |_::_,[],h=>by cases h
abbrev Xs:=List (Exit×List LSt)
def zae(F:Frm)(S:Wi):Xs->Nat->Option ((Nat×F.S) ⊕ F.S)
 |[],_=>none
 |(e,vs)::r,j=>bif ar S.e e then match QY F vs S.tm S.H with
   |some s=>some (.inl (j,s))
   |none=>zae F S r (j+1)
  else zae F S r (j+1)
theorem zbS{F:Frm}{S:Wi}{r:(Nat×F.S) ⊕ F.S}:∀{xs:Xs} {j:Nat},zae F S xs j=some r->∃i vs s,r=.inl (j+i,s)∧xs[i]?=some (S.e,vs)∧QY F vs S.tm S.H=some s
 |[],j,h=>by cases h
 |(e,vs)::xs,j,h=>by
  have rec_:zae F S xs (j+1)=some r->∃i vs' s,r=.inl (j+i,s)∧((e,vs)::xs)[i]?=some (S.e,vs')∧QY F vs' S.tm S.H=some s:=fun h=>by obtain⟨i,vs',s,h1,h2,h3⟩:=zbS h;exact⟨i+1,vs',s,by grind,by simpa using h2,h3⟩
  simp only[zae]at h;rcases vO h with⟨h1,h2⟩ | ⟨_,h2⟩
  ·split at h2
   ·rename_i s hs;cases h2;exact⟨0,vs,s,rfl,by rw[dX h1];rfl,hs⟩
   ·exact rec_ h2
  ·exact rec_ h2
def dY(cont:Exit->Bool)(E:(R:Type)->EvS R)(F:Frm)(rd:Option Nat)(c:Code)(ds:List Nat)(M:Nat)(xs:Xs)(s:F.S):Option ((Nat×F.S) ⊕ F.S):=
 dV F.ol s.2 fun y=>(E _).code rd c (F.tm s.1 y) ds (F.hp F.HR (rdy F.ol) s.1 y) F.n0 fun S=>
  bif
    Nat.ble S.nx M&&Hu ds S.ds then bif cont S.e then match QY F (rdy F.ol) S.tm S.H with
    |some s'=>some (.inr s')
    |none=>none
   else zae F S xs 0
  else none
structure Frm.OkC(F:Frm)(c:Code):Prop extends F.Ok where
 nss:∀b∈F.ns,∃x,reg (zo F.H1 b)=some x
 junk:∀i∈asg c,∀u,F.tm0[i]?=some u->u=.junk
 tmn:∀i,i∈rG F.dl∨i∈mW F.ol->i∈asg c
theorem Frm.tm_get{F:Frm}{c:Code}(hF:F.OkC c){x:DS F.dl}{y:OS F.ol}{i:Nat}(hi:i∉asg c):(F.tm x y)[i]?=F.tm0[i]?:=by unfold Frm.tm;rw[GC (fun h=>hi (hF.tmn i (.inr h))),od (fun h=>hi (hF.tmn i (.inl h)))]
theorem Frm.tm_len{F:Frm}{x:DS F.dl}{y:OS F.ol}:(F.tm x y).length=F.tm0.length:=by unfold Frm.tm;rw[GD,oe]
def Frm.St1(F:Frm)(ν:Nat->Bool)(vs:List LSt)(s:F.S):Prop:=VN ν F.n0 (F.hp F.HR vs s.1 s.2)∧∀b∈F.ns,reg (zo (F.hp F.HR vs s.1 s.2) b)=reg (zo F.H1 b)
theorem zbT{φ1 φ2:Ren}(h:φ1.le φ2):∀{ds:List Nat} {xs ys:List Deferred},vj φ1 ds xs->vj φ2 ds ys->vj φ1 ds ys
 |[],[],ys,_,h2=>by grind[vj]
 |d::ds,x::xs,y::ys,h1,h2=>by obtain⟨⟨L,a1,a2⟩,a3⟩:=h1;obtain⟨⟨M,b1,b2⟩,b3⟩:=h2;rw[h d L a1]at b1;cases b1;exact⟨⟨L,a1,b2⟩,zbT h a3 b3⟩
 |[],_::_,ys,h1,_=>h1.elim
 |_::_,[],ys,h1,_=>h1.elim
 |d::ds,x::xs,[],_,h2=>h2.elim
section
variable {cont:Exit→Bool} {F:Frm} {c:Code} {rd:Option Nat} {ds:List Nat} {M:Nat} {xs:Xs} {E:(R:Type)→EvS R} {ν:Nat→Bool}
theorem zmD(L:SL)(vs:List LSt):∃s p,stO L vs={L with st:=s,pend:=p}:=by
 cases vs with
 |nil=>exact⟨L.st,L.pend,rfl⟩
 |cons v r=>exact⟨v.1,v.2,rfl⟩
theorem Frm.lp_at(hF:F.OkC c){vs:List LSt}{x:DS F.dl}{y:OS F.ol}{HX:SH}{l:Nat}{L:SL}(hl:OPl.lp l L∈F.ol):∃s p,zo (F.hp HX vs x y) l=some (.loop {L with st:=s,pend:=p}):=by have hn:=hF.names;unfold Frm.pn at hn;rw[zsr]at hn;obtain⟨vs',h⟩:=dW F.ol vs y (hpD F.dl x) HX hn.2.1 (fun n hm=>uh fun h=>hn.2.2 n h n hm rfl) hl;obtain⟨s,p,e⟩:=zmD L vs';exact⟨s,p,by rw[<-e];exact h⟩
theorem rI(hE:∀R,(E R).Ok P)(hF:F.OkC c)(hvE:VN ν F.lo F.H1){s:F.S}{r:(Nat×F.S) ⊕ F.S}(h:dY cont E F rd c ds M xs s=some r) : ∃ S:Wi,Ze P rd c (F.tm s.1 s.2) ds (F.hp F.HR (rdy F.ol) s.1 s.2) F.n0 S∧S.nx<=M∧S.ds=ds∧∃vs s',QY F vs S.tm S.H=some s'∧((cont S.e=true∧r=.inr s'∧vs=rdy F.ol)∨(cont S.e=false∧∃j,r=.inl (j,s')∧xs[j]?=some (S.e,vs))):=by unfold dY at h;rw[QJ]at h;obtain⟨S,h1,h2⟩:=(hE _).code h;grind[Nat.ble_eq,rH,zbS]
theorem lz(hE:∀R,(E R).Ok P)(hF:F.OkC c)(hvE:VN ν F.lo F.H1){s:F.S}{S:Wi}(hS:Ze P rd c (F.tm s.1 s.2) ds (F.hp F.HR (rdy F.ol) s.1 s.2) F.n0 S)(h0:F.St1 ν (rdy F.ol) s){vs:List LSt}{s':F.S}(hb:QY F vs S.tm S.H=some s'):F.St1 ν vs s':=by
 obtain⟨H1,σ,b1,b2,b3,b4⟩:=Rf hb;obtain⟨a1,a2,a3,a4,a5⟩:=hS;have hg:=(vP b1).1;obtain⟨q1,q2,q3,q4⟩:=Ka hF.toOk hvE (hg.vn (a5 ν h0.1).1) b1 b2 b4 (fun b hb=>by
  obtain⟨z,hz⟩:=hF.nss b hb;rw[hg.reg b,hz];exact a1 b z (by rw[h0.2 b hb];exact hz))
 exact⟨q4,q3⟩
theorem lA(hE:∀R,(E R).Ok P)(hF:F.OkC c){φ1:Ren}{wE:World}(gE:zF φ1 (zK ν F.H1) K wE)(hfr:wV φ1 F.lo M)(hM:F.n0<=M)(hvE:VN ν F.lo F.H1){rc:Option Nat}(hrd:Wh φ1 rd rc){s:F.S}{S:Wi}(hS:Ze P rd c (F.tm s.1 s.2) ds (F.hp F.HR (rdy F.ol) s.1 s.2) F.n0 S)(hnx:S.nx<=M)(hds:S.ds=ds){vs:List LSt}{s':F.S}(hb:QY F vs S.tm S.H=some s'){φ:Ren}{a:Act}(hI:F.Seen K φ1 wE ν F.HR (rdy F.ol) s.1 s.2 φ w a.tmps)(hd:vj φ1 ds a.defers) : c.wpIn (fw rc) 0 P (fun e a' w'=>e=S.e∧∃φ',F.Seen K φ1 wE ν F.HR vs s'.1 s'.2 φ' w' a'.tmps∧vj φ1 ds a'.defers) a w:=by
 obtain⟨H1,σ,b1,b2,b3,b4⟩:=Rf hb;obtain⟨a1,a2,a3,a4,a5⟩:=hS;obtain⟨v1,o1⟩:=a5 ν hI.vn;have hfr2:wV φ F.n0 S.nx:=⟨zqw hnx hfr.1,fun b h1 h2=>by
  rw[hI.ext.2.1 b (by have:=hfr.1;omega) (.inr h1)];exact hfr.2 b (by have:=hF.le;omega) (by omega)⟩
 refine zqX (o1.2 φ w _ a rc hI.good hfr2 hI.tms (hd.mono hI.ext.1) (hrd.mono hI.ext.1)) ?_;rintro e a' w' ⟨rfl,φ',k1,k2,k3,k4,k5⟩;refine⟨rfl,?_⟩;have hg:=vP b1;obtain⟨φ'',m1,m2⟩:=hg.2 ν φ' _ w' k2;have t3:qS φ'' (zu (rho ν H1) S.tm) a'.tmps:=by rw[hg.1.rho ν];exact k3.mono (m1 0).1
 have hS':jV (F.hp F.HR (rdy F.ol) s.1 s.2) H1:=a1.trans hg.1.regLe;obtain⟨φ3,h3⟩:=Dt (F:=F) (K:=K) (φ1:=φ1) (φ2:=φ'') (wE:=wE) (ν:=ν) (M:=M) (vs:=vs) (x:=s'.1) (y:=s'.2) (ts:=a'.tmps) hF.toOk gE hfr hM hvE
  (((hI.ext.trans k1 hF.le a4).wide (FW _) hnx).comp ((m1 S.nx).wide (by have:=hF.le;omega) hnx)) (hI.went.trans k5) m2 m2 (hg.1.vn v1) b1 b2 b3 b4 (fun p _=>rfl)
  (fun b hb=>by
   obtain⟨z,hz⟩:=hF.nss b hb;rw[hz];exact hS' b z (by rw[hI.regs b hb];exact hz))
  t3 (by rw[a3.1];exact Frm.tm_len)
  (fun i u hu hj=>by
   have hi:i∉asg c:=fun h=>hj (hF.junk i h u hu);rw[a3.2 i hi,Frm.tm_get hF hi];exact hu)
  (fun l L hl L' hL'=>by
   obtain⟨s0,p0,h0⟩:=Frm.lp_at hF (HX:=F.HR) (vs:=rdy F.ol) (x:=s.1) (y:=s.2) hl;obtain⟨s1,p1,h1⟩:=(a2.trans hg.1.lkeep) l _ h0;grind)
 exact⟨φ3,h3,zbT (Ren.le_trans hI.ext.1 k1.1) hd (by rw[<-hds];exact k4)⟩
end
end Go.Fz.Sy
namespace Go.Fz.Sy
variable {P:Program} {φ:Ren} {K:Nat→Prop} {w:World} {R:Type}
theorem zku(b:Nat)(k:Blk)(r:Hp)(n:Nat):Hp.get ((b,k)::r) n=if b=n then some k else Hp.get r n:=by show(bif Nat.beq b n then some k else Hp.get r n)=_;rw[CN]
def KH(l:List Nat):Hp->Hp
 |[]=>[]
 |(b,k)::r=>bif yd l b then(b,k)::KH l r else KH l r
theorem Kb(l:List Nat)(n:Nat):∀H:Hp,(KH l H).get n=if n∈l then H.get n else none
 |[]=>by simp[KH,Hp.get_nil]
 |(b,k)::r=>by have ih:=Kb l n r;grind[KH,yd,gO,zku]
theorem rJ{α:Type}{A B C C':SH}{b:Nat}{f:Option SB->α}(h:f (zo C b)=f (zo C' b)):f (zo (A++(B++C)) b)=f (zo (A++(B++C')) b):=by grind[zo,qo]
section
variable {F:Frm} {c:Code} {rd:Option Nat} {ds:List Nat} {M:Nat} {xs:Xs} {E:(R:Type)→EvS R} {ν:Nat→Bool}
theorem lB{φ1:Ren}{wE:World}{l:List Nat}(gE:zF φ1 (zK ν F.H1) K wE)(hl:∀b∈l,(xO ν (rho ν F.H1) F.HR).get b=none):zF φ1 (KH l (zK ν F.H1)) (F.KX K φ1 ν) wE:=by
 have hsub:∀b k,(KH l (zK ν F.H1)).get b=some k->b∈l∧(zK ν F.H1).get b=some k:=fun b k hb=>by grind[Kb]
 have hR:∀b k,(xO ν (rho ν F.H1) F.HR).get b=some k->b∉l∧∃kE,(zK ν F.H1).get b=some kE:=fun b k hb=>by
  have hb0:=hb;rw[yP]at hb;cases hk:zo F.HR b with
  |none=>grind
  |some kv=>
   rw[hk]at hb;refine⟨fun h=>(by grind),?_⟩;have hk0:=hk;unfold Frm.HR at hk;rw[ye]at hk;split at hk
   ·cases hk
   ·rw[zqp]at hk;obtain⟨kH,hkH,rfl⟩:=hk;rw[qe,hkH];simp only[zqt]at hb ⊢;cases kH<;>grind[yd,wX,qB,jE]
 refine⟨fun b k hb=>gE.rel b k (hsub b k hb).2,fun b c k k' L L' hb hc hne hk hL hL'=>gE.sep b c k k' L L' (hsub b k hb).2 (hsub c k' hc).2 hne hk hL hL',fun b k L hb hk hL=>?_,fun c hc=>?_,gE.fz,fun b k L c M hb hk hL hM=>gE.fsep b k L c M (hsub b k hb).2 hk hL hM⟩
 ·obtain⟨h1,h2⟩:=hsub b k hb;rintro(h | ⟨b',k',L',q1,q2,q3⟩)
  ·exact gE.prot b k L h2 hk hL h
  ·obtain⟨e1,kE,e2⟩:=hR b' k' q1;exact gE.sep b b' k kE L L' h2 e2 (fun e=>e1 (e▸h1)) hk hL q2 q3.symm
 ·rcases hc with h | ⟨b',k',L',q1,q2,q3⟩
  ·exact gE.kin c h
  ·obtain⟨e1,kE,e2⟩:=hR b' k' q1;rw[<-q3];exact(gE.at e2 q2).lt
theorem Du{vs:List LSt}{x:DS F.dl}{y:OS F.ol}(b:Nat):reg (zo (F.hp F.HF vs x y) b)=reg (zo (F.hp F.HR vs x y) b):=by
 refine rJ (f:=reg) ?_;unfold Frm.HF Frm.HR;rw[ye,ye];split
 ·rfl
 ·cases zo F.H1 b<;>grind[zo,Ds,zbR]
theorem rK(hF:F.OkC c){φ1 φ3:Ren}{wE:World}(gE:zF φ1 (zK ν F.H1) K wE)(hvE:VN ν F.lo F.H1){vs:List LSt}{s:F.S}{ts:Array Value}(hall:∀b x,reg (zo F.H1 b)=some x->b∈F.ns)(h:F.Seen K φ1 wE ν F.HR vs s.1 s.2 φ3 w ts)(hrw:∀b k,b∈F.pn->(zK ν (F.hp F.HR vs s.1 s.2)).get b=some k->k.rw=true) : zF φ3 (zK ν (F.hp F.HF vs s.1 s.2)) K w∧qS φ3 (zu (rho ν (F.hp F.HF vs s.1 s.2)) (F.tm s.1 s.2)) ts:=by
 have hreg:∀b,reg (zo (F.hp F.HF vs s.1 s.2) b)=reg (zo (F.hp F.HR vs s.1 s.2) b):=fun b=>by
  refine rJ (f:=reg) ?_;unfold Frm.HF Frm.HR;rw[ye,ye];split
  ·rfl
  ·cases zo F.H1 b<;>grind[zo,Ds,zbR]
 have hrho:rho ν (F.hp F.HF vs s.1 s.2)=rho ν (F.hp F.HR vs s.1 s.2):=wu hreg ν;have hle:RLe (rho ν F.H1) (rho ν (F.hp F.HR vs s.1 s.2)):=dP ν fun b x hx=>by rw[h.regs b (hall b x hx)];exact hx
 have gE':zF φ1 (xO ν (rho ν (F.hp F.HR vs s.1 s.2)) F.H1) K wE:=zen (vv ν F.H1) hle gE;refine⟨?_,by rw[hrho];exact h.tms⟩;have hKX:F.KX K φ1 ν=KX K φ1 (xO ν (rho ν F.H1) F.HR):=rfl;refine zfe (HE:=xO ν (rho ν (F.hp F.HR vs s.1 s.2)) F.H1) (HR:=xO ν (rho ν F.H1) F.HR) (H1:=zK ν (F.hp F.HR vs s.1 s.2)) gE' h.ext.1 (fun b L hL=>h.ext.2.2 b L hL) h.went h.good ?_;intro b k hb;rw[qe,hrho]at hb;by_cases hp:b∈F.pn
 ·have e:zo (F.hp F.HF vs s.1 s.2) b=zo (F.hp F.HR vs s.1 s.2) b:=by refine rJ (f:=id) ?_;unfold Frm.HF Frm.HR;rw[ye,ye,zqI hp,zqI hp]
  grind[zK,get,qe]
 ·have h1:b∉nmD F.dl:=fun h=>hp (by simp[Frm.pn,h]);have h2:b∉nmO F.ol:=fun h=>hp (by simp[Frm.pn,h]);unfold Frm.hp at hb;rw[qo,uh h1]at hb;simp only at hb;rw[qo,kq h2]at hb;simp only at hb;unfold Frm.HF at hb;rw[ye,zqu hp]at hb;cases hk:zo F.H1 b with
  |none=>grind
  |some kH=>
   rw[hk]at hb;simp only[zqQ,zqt]at hb;have hkb:qB (rho ν (F.hp F.HR vs s.1 s.2)) (ν b) kH=some k:=by
    cases kH with
    |arr nn t l=>
     grind[yd,Hr,qB]
    |_=>exact hb
   refine .inr ⟨by rw[yP,hk];exact hkb,?_⟩;rw[yP];have:zo F.HR b=some (wX F.ns F.mv F.lo b kH):=by grind[Frm.HR,ye]
   rw[this];simp only[zqt];cases kH with
   |vars cs=>simp only[wX];cases yS F.ns F.lo cs<;>exact⟨_,rfl⟩
   |ro cs=>simp only[wX];cases yS F.ns F.lo cs<;>exact⟨_,rfl⟩
   |arr nn t l=>
    grind[yd,Hr,qB,wX,jE]
   |roa nn t l=>exact⟨k,hkb⟩
   |fro nn t l=>exact⟨k,hkb⟩
   |gone s n=>simp[qB]at hkb
   |loop L=>exact⟨_,rfl⟩
   |defd=>exact⟨_,rfl⟩
   |hid=>exact⟨_,rfl⟩
   |mpb k ag t l=>exact⟨_,rfl⟩
   |mpf k l=>exact⟨_,rfl⟩
   |abs=>simp[qB]at hkb
theorem zdx{vs:List LSt}{x:DS F.dl}{y:OS F.ol}{b:Nat}{k:Blk}(hp:b∈F.pn)(h:(zK ν (F.hp F.HR vs x y)).get b=some k):k.rw=true:=by
 rw[qe]at h;cases hk:zo (F.hp F.HR vs x y) b with
 |none=>rw[hk]at h;cases h
 |some kS=>
  rw[hk]at h;simp only[zqt]at h;have hD:∀(dl:List DPl) (x:DS dl),zo (hpD dl x) b=some kS->∃cs,kS=.vars cs:=by
   intro dl;induction dl with
   |nil=>intro x h;cases h
   |cons p r ih=>
    intro x h;cases p with
    |tmp i vt=>exact ih x.2 h
    |blk b0 t=>
     simp only[hpD]at h;rw[qd]at h;split at h
     ·cases h;exact⟨_,rfl⟩
     ·exact ih x.2 h
    |frz b0 ks=>exact ih x.2 h
    |npt i=>exact ih x.2 h
  have hO:∀(ol:List OPl) (vs:List LSt) (y:OS ol),zo (hpO ol vs y) b=some kS->(∃cs,kS=.vars cs)∨(∃nn t l,kS=.arr nn t l)∨(∃L,kS=.loop L)∨kS=.defd∨∃k' ag t l,kS=.mpb k' ag t l:=by
   intro ol;induction ol with
   |nil=>intro vs y h;cases h
   |cons p r ih=>
    intro vs y h;cases p with
    |otmp i c nn t=>
     simp only[hpO]at h;rw[qd]at h;split at h
     ·cases h;exact .inr (.inl ⟨_,_,_,rfl⟩)
     ·exact ih _ _ h
    |sblk b0 ks=>
     simp only[hpO]at h;rw[qd]at h;split at h
     ·cases h;exact .inl ⟨_,rfl⟩
     ·rw[qo]at h;split at h
      ·rename_i kk hkk;cases h;have hk2:∀(ks:List CK) (x:CS ks),zo (Zf ks x) b=some kS->∃nn t l,kS=.arr nn t l:=fun ks=>by
        induction ks with
        |nil=>intro x h;cases h
        |cons q ks ihk=>
         intro x h;cases q with
         |d t=>exact ihk _ h
         |o c nn t=>
          simp only[Zf]at h;rw[qd]at h;split at h
          ·cases h;exact⟨_,_,_,rfl⟩
          ·exact ihk _ h
       exact .inr (.inl (hk2 _ _ hkk))
      ·exact ih _ _ h
    |arr b0 nn t=>
     simp only[hpO]at h;rw[qd]at h;split at h
     ·cases h;exact .inr (.inl ⟨_,_,_,rfl⟩)
     ·exact ih _ _ h
    |lp b0 L=>
     simp only[hpO]at h;rw[qd]at h;split at h
     ·cases h;exact .inr (.inr (.inl ⟨_,rfl⟩))
     ·exact ih _ _ h
    |dfd b0=>
     simp only[hpO]at h;rw[qd]at h;split at h
     ·cases h;exact .inr (.inr (.inr (.inl rfl)))
     ·exact ih _ _ h
    |mpl b0 k0 ag0 t0=>
     simp only[hpO]at h;rw[qd]at h;split at h
     ·cases h;exact .inr (.inr (.inr (.inr ⟨_,_,_,_,rfl⟩)))
     ·exact ih _ _ h
  unfold Frm.hp at hk;rw[qo]at hk;have fin:((∃cs,kS=.vars cs)∨(∃nn t l,kS=.arr nn t l)∨(∃L,kS=.loop L)∨kS=.defd∨∃k' ag t l,kS=.mpb k' ag t l)->k.rw=true:=by
   rintro(⟨cs,rfl⟩ | ⟨nn,t,l,rfl⟩ | ⟨L,rfl⟩ | rfl | ⟨k',ag,t,l,rfl⟩)
   ·simp only[qB,PL]at h;subst h;rfl
   ·simp only[qB]at h;cases hn:jE nn l<;>rw[hn]at h<;>cases h;rfl
   ·simp only[qB,PL]at h;subst h;rfl
   ·simp only[qB,PL]at h;subst h;rfl
   ·simp only[qB,PL]at h;subst h;rfl
  grind[qo,Frm.HR,ye]
end
end Go.Fz.Sy
namespace Go.Fz.Sy
variable {P:Program} {φ:Ren} {K:Nat→Prop} {w:World} {R:Type}
abbrev yp:=Code->List SV->SH->Nat->Option (List DPl×List OPl×Nat)
def xz(ns:List Nat)(lo:Nat)(H:SH):List Nat->List OPl
 |[]=>[]
 |l::r=>match zo H l with
  |some (.loop L)=>bif yS ns lo L.tm&&(Nat.blt L.dfr lo&&stQ L [(.ready,none)])then .lp l L::xz ns lo H r else xz ns lo H r
  |some .defd=>.dfd l::xz ns lo H r
  |_=>xz ns lo H r
theorem Yh{ns:List Nat}{lo:Nat}{H:SH}{l:Nat}{L:SL}:∀{ls:List Nat},OPl.lp l L∈xz ns lo H ls->yS ns lo L.tm=true∧L.dfr < lo∧zo H l=some (.loop L)
 |[],h=>by cases h
 |m::r,h=>by
  simp only[xz]at h;split at h
  ·rename_i L' hL;rw[show(bif yS ns lo L'.tm&&(Nat.blt L'.dfr lo&&stQ L' [(.ready,none)])then OPl.lp m L'::xz ns lo H r else xz ns lo H r)=if(yS ns lo L'.tm&&(Nat.blt L'.dfr lo&&stQ L' [(.ready,none)]))=true then OPl.lp m L'::xz ns lo H r else xz ns lo H r from by grind]at h;split at h
   ·rename_i hq;rcases zqA.1 h with he | h
    ·simp_all
    ·exact Yh h
   ·exact Yh h
  ·have h:OPl.lp l L∈xz ns lo H r:=by simpa using h
   exact Yh h
  ·exact Yh h
def xt(H:SH):List Nat->List Nat
 |[]=>[]
 |b::r=>match reg (zo H b)with
  |some _=>b::xt H r
  |none=>xt H r
theorem GF{H:SH}{b:Nat}:∀{l:List Nat},b∈xt H l->∃x,reg (zo H b)=some x
 |[],h=>by cases h
 |c::r,h=>by
  simp only[xt]at h;split at h
  ·rename_i x hx;rcases zqA.1 h with he | h
   ·grind
   ·exact GF h
  ·exact GF h
theorem GG{H:SH}{b:Nat}{x:Nat×Nat}(hx:reg (zo H b)=some x):∀{l:List Nat},b∈l->b∈xt H l
 |[],h=>by cases h
 |c::r,h=>by
  simp only[xt];rcases zqA.1 h with he | h
  ·grind
  ·split
   ·exact zqP _ (GG hx h)
   ·exact GG hx h
theorem YH{b:Nat}{k:SB}:∀{H:SH},zo H b=some k->b∈ja H
 |[],h=>by cases h
 |(c,x)::r,h=>by
  rw[qd]at h;split at h
  ·grind[ja]
  ·simp[ja,YH h]
def Rg:List Nat->Bool
 |[]=>true
 |a::r=>!yd r a&&Rg r
theorem zbU:∀{l:List Nat},Rg l=true->l.Nodup
 |[],_=>List.nodup_nil
 |a::r,h=>by simp only[Rg,FT,zrq]at h;refine zrn.2 ⟨fun hm=>?_,zbU h.2⟩;grind[gO]
def mX:List OPl->Bool
 |[]=>true
 |.lp _ _::_=>false
 |.otmp _ _ _ _::r=>mX r
 |.sblk _ _::r=>mX r
 |.arr _ _ _::r=>mX r
 |.dfd _::r=>mX r
 |.mpl _ _ _ _::r=>mX r
theorem YI{l:Nat}{L:SL}:∀{ol:List OPl},mX ol=true->OPl.lp l L∉ol
 |[],_,h=>by cases h
 |.lp _ _::r,h,_=>by simp[mX]at h
 |.otmp _ _ _ _::r,h,hm=>YI (ol:=r) h (by simpa using hm)
 |.sblk _ _::r,h,hm=>YI (ol:=r) h (by simpa using hm)
 |.arr _ _ _::r,h,hm=>YI (ol:=r) h (by simpa using hm)
 |.dfd _::r,h,hm=>YI (ol:=r) h (by simpa using hm)
 |.mpl _ _ _ _::r,h,hm=>YI (ol:=r) h (by simpa using hm)
def lpN:List OPl->List Nat
 |[]=>[]
 |.lp l _::r=>l::lpN r
 |.otmp _ _ _ _::r=>lpN r
 |.sblk _ _::r=>lpN r
 |.arr _ _ _::r=>lpN r
 |.dfd _::r=>lpN r
 |.mpl _ _ _ _::r=>lpN r
theorem GH{l:Nat}:∀{ol:List OPl},l∈lpN ol->∃L,OPl.lp l L∈ol
 |[],h=>by cases h
 |.lp m L::r,h=>by
  simp only[lpN,zqA]at h;rcases h with rfl | h
  ·grind
  ·obtain⟨L',h'⟩:=GH h;grind
 |.otmp _ _ _ _::r,h=>by obtain⟨L',h'⟩:=GH (ol:=r) h;grind
 |.sblk _ _::r,h=>by obtain⟨L',h'⟩:=GH (ol:=r) h;grind
 |.arr _ _ _::r,h=>by obtain⟨L',h'⟩:=GH (ol:=r) h;grind
 |.dfd _::r,h=>by obtain⟨L',h'⟩:=GH (ol:=r) h;grind
 |.mpl _ _ _ _::r,h=>by obtain⟨L',h'⟩:=GH (ol:=r) h;grind
def zfj(F:Frm)(c:Code):Bool:=
 Rg F.pn&&(F.ns.all (fun b=>Nat.blt b F.lo)&&(zmC F.ns F.dl F.ol&&(yS F.ns F.lo F.tm0&&((rG F.dl++mW F.ol).all (yd (asg c))&&(ja F.H1).all fun l=>match zo F.H1 l with
  |some (.loop _)=>yd (lpN F.ol) l||!yd F.pn l
  |_=>true))))
def dZ(F:Frm)(σ:List (Nat×Nat)):Bool:=σ.all fun p=>match zo F.HR p.2 with
 |none=>true
 |some (.gone _ _)=>true
 |_=>false
def zmE:List (Nat×Nat)->List Nat
 |[]=>[]
 |p::r=>bif Nat.beq p.1 p.2 then zmE r else p.2::zmE r
def zpa(e:Exit)(l:List Exit):List Exit:=bif l.any (ar e)then l else e::l
def zmF:List Exit->List Exit->List Exit
 |[],l=>l
 |e::r,l=>zpa e (zmF r l)
def Yi:Code->List Exit
 |.exit i=>[.exit i]
 |.goto i=>[.goto i]
 |.ret=>[.ret]
 |.seq a b=>zmF (Yi a) (Yi b)
 |.cond _ a b=>zmF (Yi a) (Yi b)
 |.block i c=>(Yi c).filter fun e=>!ar e (.exit i)
 |.loop c=>Yi c
 |.scope c=>Yi c
 |.rangeFunc _ _ _ b=>Yi b
 |_=>[]
def zmG:List Exit->List LSt
 |[]=>[]
 |e::r=>match pS e with
  |some (_,s,p)=>(s,p)::zmG r
  |none=>zmG r
def lC:List OPl->List (List LSt)
 |[]=>[[]]
 |.lp _ L::r=>match lC r with
  |vs=>((.ready,none)::zmG (Yi L.body)).flatMap fun s=>vs.map fun v=>s::v
 |.otmp _ _ _ _::r=>lC r
 |.sblk _ _::r=>lC r
 |.arr _ _ _::r=>lC r
 |.dfd _::r=>lC r
 |.mpl _ _ _ _::r=>lC r
def zmH(xq:Exit->Bool)(c:Code)(ol:List OPl):Xs:=((Yi c).filter xq).flatMap fun e=>(lC ol).map fun v=>(e,v)
def Rh:Xs->Nat->Nat->(Exit×List LSt->Option R)->Option R
 |[],_,_,_=>none
 |[v],_,_,f=>f v
 |v::u::r,i,j,f=>bif Nat.beq j i then f v else Rh (u::r) (i+1) j f
theorem rL{f:Exit×List LSt->Option R}{v:Exit×List LSt}:∀{xs:Xs} {i n:Nat},xs[n]?=some v->Rh xs i (i+n) f=f v
 |[],i,n,h=>by simp at h
 |[u],i,n,h=>by
  cases n with
  |zero=>simp at h;subst h;rfl
  |succ n=>simp at h
 |a::b::r,i,n,h=>by
  simp only[Rh];rw[CN];cases n with
  |zero=>grind
  |succ n=>
   rw[zqu (by omega)];have:=rL (f:=f) (xs:=b::r) (i:=i+1) (n:=n) (by simpa using h);grind
def Ri(cont:Exit->Bool)(E:(R:Type)->EvS R)(F:Frm)(rd:Option Nat)(c:Code)(ds:List Nat)(M:Nat)(xs:Xs)(s0:F.S)(k:KC R):Option R:=
 match zJ (dY cont E F rd c ds M xs) zR s0 with
 |some (j,s)=>dV F.ol s.2 fun y=>Rh xs 0 j fun v=>k ⟨v.1,F.tm s.1 y,ds,F.hp F.HF v.2 s.1 y,M⟩
 |none=>none
def ZK(dl:List DPl)(ol:List OPl)(g:Nat)(c:Code)(tm:List SV)(nx:Nat)(H1:SH)(ns:List Nat)(σ:List (Nat×Nat)):Frm:=⟨dl,ol,YG (asg c) 0 tm,ns,zmE σ,nx,nx+g,H1⟩
def ziI(cont:Exit->Bool)(xq:Exit->Bool)(E:(R:Type)->EvS R)(dl:List DPl)(ol0:List OPl)(g:Nat)(rd:Option Nat)(c:Code)(tm:List SV)(ds:List Nat)(nx sp:Nat)(x0:DS dl)(H1:SH)(k:KC R):Option R:=
 match xt H1 (ja H1)with
 |ns=>match xz ns nx H1 (ja H1)with
  |lps=>match bkO (ol0++lps) (rdy (ol0++lps)) tm H1 with
   |some (y0,σ)=>bif mX ol0&&(zfj (ZK dl (ol0++lps) g c tm nx H1 ns σ) c&&(VK (idD dl++σ)&&(YF nx (nx+g) (idD dl++σ)&&dZ (ZK dl (ol0++lps) g c tm nx H1 ns σ) (idD dl++σ))))then
     Ri cont E (ZK dl (ol0++lps) g c tm nx H1 ns σ) rd c ds (nx+g+sp) (zmH xq c (ol0++lps)) (x0,y0) k
    else none
   |none=>none
def Hv(cont:Exit->Bool)(xq:Exit->Bool)(E:(R:Type)->EvS R)(pl:yp)(rd:Option Nat)(c:Code)(tm:List SV)(ds:List Nat)(H:SH)(nx sp:Nat)(k:KC R):Option R:=match pl c tm H nx with
 |some (dl,ol0,g)=>match bkD dl tm H with
  |some (x0,H1)=>ziI cont xq E dl ol0 g rd c tm ds nx sp x0 H1 k
  |none=>none
 |none=>none
theorem Hw{F:Frm}{c:Code}(h:zfj F c=true)(hle:F.lo<=F.n0)(hlp:∀l L,OPl.lp l L∈F.ol->yS F.ns F.lo L.tm=true∧L.dfr < F.lo∧zo F.H1 l=some (.loop L))(hns:∀b∈F.ns,∃x,reg (zo F.H1 b)=some x){tm:List SV}(htm:F.tm0=YG (asg c) 0 tm) : F.OkC c∧∀l L,zo F.H1 l=some (.loop L)->l∈F.pn->OPl.lp l L∈F.ol:=by
 unfold zfj at h;simp only[FT]at h;obtain⟨h1,h2,h3,h4,h5,h6⟩:=h;rw[zqK]at h2 h5 h6;refine⟨⟨⟨zbU h1,fun b hb=>by have:=h2 b hb;simpa using this,h3,hlp,h4,hle⟩,hns,fun i hi u hu=>?_,fun i hi=>?_⟩,fun l L hl hp=>?_⟩
 ·rw[htm,gw]at hu;rw[zqp]at hu;obtain⟨v,hv,rfl⟩:=hu;simp[hi]
 ·have:=h5 i (by simpa using hi);exact(gO _ _).1 this
 grind[YH,Bool.not_eq_true',GH,gO]
def Hx:Exit->Bool
 |.goto _=>false
 |_=>true
theorem zpb{xq:Exit->Bool}{c:Code}{ol:List OPl}{j:Nat}{e:Exit}{vs:List LSt}(h:(zmH xq c ol)[j]?=some (e,vs)):xq e=true:=by have:=zqy h;grind[zmH]
theorem IS{F:Fence}{c:Code}{Q Q':Exit->Act->World->Prop}(h:∀e a w,Q e a w->Q' e a w):∀(m:Nat) (a:Act) (w:World),Code.roundsIn F 0 P c Q m a w->Code.roundsIn F 0 P c Q' m a w
 |0,a,w,hq=>hq
 |m+1,a,w,hq=>by rw[zsf]at hq ⊢;refine zqX hq ?_;intro e a2 w2 hq;cases e<;>first | exact IS h m _ _ hq | exact h _ _ _ hq
theorem zdy{F:Frm}{ν:Nat->Bool}{M:Nat}(hvE:VN ν F.lo F.H1)(hM:F.n0<=M){vs:List LSt}{x:DS F.dl}{y:OS F.ol}(h:VN ν F.n0 (F.hp F.HR vs x y)):VN ν M (F.hp F.HF vs x y):=by
 refine⟨fun b n hr=>h.empty b n (by rw[<-Du];exact hr),fun b hb=>h.old b (zqw hM hb),fun b hb=>?_⟩;unfold Frm.hp at hb;rw[qo]at hb;have fin:∀k,zo (F.hp F.HR vs x y) b=some k->ji (some k)=true->ν b=false:=fun k hk hn=>h.nn b (by rw[hk];exact hn);unfold Frm.hp at fin;rw[qo]at fin;cases h1:zo (hpD F.dl x) b with
 |some k=>grind
 |none=>
  rw[h1]at hb fin;simp only at hb fin;rw[qo]at hb fin;cases h2:zo (hpO F.ol vs y) b with
  |some k=>grind
  |none=>
   rw[h2]at hb;simp only at hb;unfold Frm.HF at hb;rw[ye]at hb;split at hb
   ·cases hb
   ·refine hvE.nn b ?_;cases hk:zo F.H1 b with
    |none=>grind
    |some k=>
     rw[hk]at hb;simp only[zqQ]at hb;cases k with
     |arr nn t l=>
      simp only[Hr]at hb;cases hm:yd F.mv b with
      |true=>rw[hm]at hb;cases hb
      |false=>grind
     |_=>exact hb
theorem zmI{cont:Exit->Bool}(hcont:∀e,cont e=true↔e=.normal){E:(R:Type)->EvS R}(hE:∀R,(E R).Ok P){F:Frm}{c:Code}(hF:F.OkC c)(hkeep:∀l L,zo F.H1 l=some (.loop L)->l∈F.pn->OPl.lp l L∈F.ol)(hall:∀b x,reg (zo F.H1 b)=some x->b∈F.ns){rd:Option Nat}{tm:List SV}{ds:List Nat}{H:SH}{M:Nat}{xs:Xs}{k:KC R}{r:R}{x0:DS F.dl}{y0:OS F.ol}{σ:List (Nat×Nat)}(hM:F.n0<=M)(htm:F.tm0=YG (asg c) 0 tm)(hD:bkD F.dl tm H=some (x0,F.H1))(hO:bkO F.ol (rdy F.ol) tm F.H1=some (y0,σ))(hQ:VK (idD F.dl++σ)=true)(hN:YF F.lo F.n0 (idD F.dl++σ)=true)(hR:dZ F (idD F.dl++σ)=true)(h:Ri cont E F rd c ds M xs (x0,y0) k=some r):∃S,PV P rd c tm ds H F.lo S∧k S=some r:=by
 unfold Ri at h;split at h;case h_2=>cases h
 rename_i j s hit;rw[QJ]at h;have hg:=vP hD;have hvE:∀ν,VN ν F.lo H->VN ν F.lo F.H1:=fun ν hv=>hg.1.vn hv;have hst0:∀ν,VN ν F.lo F.H1->F.St1 ν (rdy F.ol) (x0,y0):=fun ν hv=>by obtain⟨q1,q2,q3,q4⟩:=Ka hF.toOk hv hv hD hO hN (fun b _=>rfl);exact⟨q4,q3⟩
 have hst:∀ν,VN ν F.lo F.H1->∃e vs,xs[j]?=some (e,vs)∧F.St1 ν vs s:=fun ν hv=>by refine rF (B:=dY cont E F rd c ds M xs) (I:=fun s=>F.St1 ν (rdy F.ol) s) (J:=fun x=>∃e vs,xs[x.1]?=some (e,vs)∧F.St1 ν vs x.2) ?_ zR (x0,y0) (j,s) hit (hst0 ν hv);intro s0 r0 hr0 hI;obtain⟨S,s1,s2,s3,vs,s',s4,s5⟩:=rI hE hF hv hr0;have:=lz hE hF hv s1 hI s4;grind
 have hv0:VN (fun _=>false) F.lo F.H1:=⟨fun b n hr=>WY hr,(fun _ _=>rfl),(fun _ _=>rfl)⟩;obtain⟨e,vs,hj,hstf⟩:=hst _ hv0;have hp:=rL (f:=fun v=>k ⟨v.1,F.tm s.1 s.2,ds,F.hp F.HF v.2 s.1 s.2,M⟩) (i:=0) hj;rw[zrr]at hp;rw[hp]at h;refine⟨⟨e,F.tm s.1 s.2,ds,F.hp F.HF vs s.1 s.2,M⟩,⟨fun b z hz=>?_,fun l L hl=>?_,⟨?_,fun i hi=>?_⟩,zqw hF.le hM,fun ν hv=>⟨zdy (hvE ν hv) hM ?_,(show F.lo<=M from zqw hF.le hM),zR,fun φ w K a rc g hf ht hd hr=>?_⟩⟩,h⟩
 ·have h1:reg (zo F.H1 b)=some z:=by rw[hg.1.reg b];exact hz
  show reg (zo (F.hp F.HF vs s.1 s.2) b)=some z;rw[Du,hstf.2 b (hall b z h1)];exact h1
 ·obtain⟨s0,p0,h0⟩:=hg.1.lkeep l L hl;by_cases hpn:l∈F.pn
  ·have:=hkeep l _ h0 hpn;obtain⟨s1,p1,h1⟩:=Frm.lp_at hF (HX:=F.HF) (vs:=vs) (x:=s.1) (y:=s.2) this;grind
  ·have h1:l∉nmD F.dl:=fun h=>hpn (by simp[Frm.pn,h]);have h2:l∉nmO F.ol:=fun h=>hpn (by simp[Frm.pn,h]);refine⟨s0,p0,?_⟩;show zo (F.hp F.HF vs s.1 s.2) l=_;unfold Frm.hp;rw[qo,uh h1];simp only;rw[qo,kq h2];simp only;unfold Frm.HF;rw[ye,zqu hpn,h0];rfl
 ·grind[Frm.tm_len,ZJ]
 ·grind[Frm.tm_get,gw]
 ·obtain⟨e',vs',hj',hst'⟩:=hst ν (hvE ν hv);rw[hj]at hj';cases hj';exact hst'.1
 ·have hvE':=hvE ν hv;obtain⟨φ1,m1,g1⟩:=hg.2 ν φ K w g;have hout:∀b,b < FZ->φ1 b=φ b:=fun b hb=>(m1 (b+1)).2.1 b hb (.inl (by omega));have hfr:wV φ1 F.lo M:=⟨hf.1,fun b h1 h2=>by rw[hout b (by have:=hf.1;exact zqC h2 this)];exact hf.2 b h1 h2⟩;have hle:=(m1 0).1;have hsrc:∀b,b∈(idD F.dl++σ).map (·.2)->(xO ν (rho ν F.H1) F.HR).get b=none:=fun b hb=>by
   rw[zrQ]at hb;obtain⟨p,hp,rfl⟩:=hb;unfold dZ at hR;rw[zqK]at hR;have:=hR p hp;rw[yP];cases hk:zo F.HR p.2 with
   |none=>rfl
   |some kk=>
    rw[hk]at this;cases kk<;>first | rfl | cases this
  have hlps:∀l L,OPl.lp l L∈F.ol->∀L',zo F.H1 l=some (.loop L')->∃s p,L'={L with st:=s,pend:=p}:=fun l L hl L' hL'=>by rw[(hF.lps l L hl).2.2]at hL';cases hL';grind
  obtain⟨φ3,hseen⟩:=Dt (F:=F) (K:=K) (KA:=K) (φ1:=φ1) (φ2:=φ1) (wE:=w) (ν:=ν) (M:=M) (vs:=rdy F.ol) (x:=x0) (y:=y0) (ts:=a.tmps) (HS0:=H) (HS:=F.H1) (Hs:=KH ((idD F.dl++σ).map (·.2)) (zK ν F.H1)) hF.toOk g1 hfr hM hvE'
   (Ext.refl _ _ _ _) (qJ.refl _ _) g1 (lB g1 hsrc) hvE' hD hO hQ hN
   (fun p hp=>by grind[Kb]) (fun b _=>rfl) (by rw[hg.1.rho ν];exact ht.mono hle) (by rw[htm,ZJ])
   (fun i u hu hj'=>by
    grind[gw,Option.map_eq_some_iff,asg]) hlps
  have hd1:vj φ1 ds a.defers:=hd.mono hle;have hr1:Wh φ1 rd rc:=hr.mono hle;have key:=IQ (P:=P) (B:=dY cont E F rd c ds M xs) (c:=c) (F:=fw rc)
   (Inv:=fun s a w'=>∃φ',F.Seen K φ1 w ν F.HR (rdy F.ol) s.1 s.2 φ' w' a.tmps∧vj φ1 ds a.defers)
   (Fin:=fun x e a w'=>∃vs φ',xs[x.1]?=some (e,vs)∧F.Seen K φ1 w ν F.HR vs x.2.1 x.2.2 φ' w' a.tmps∧vj φ1 ds a.defers)
   (fun s0 r0 hr0 a0 w0 hI=>by
    obtain⟨φ',hI,hd0⟩:=hI;obtain⟨S,s1,s2,s3,vs',s',s4,s5⟩:=rI hE hF hvE' hr0;refine zqX (lA hE hF g1 hfr hM hvE' hr1 s1 s2 s3 s4 hI hd0) ?_;grind) zR (x0,y0) (j,s) hit a w ⟨φ3,hseen,hd1⟩
  refine IS ?_ _ _ _ key;rintro e' a' w' ⟨vs',φ',q1,q2,q3⟩;rw[hj]at q1;cases q1;obtain⟨t1,t2⟩:=rK hF g1 hvE' hall q2 (fun b kk hb hk=>zdx hb hk);refine⟨rfl,φ',?_,t1,t2,q3.mono q2.ext.1,⟨q2.went.os,q2.went.tape,q2.went.output,q2.went.size,fun b hb=>q2.went.kept b (.inl hb)⟩⟩;have e1:Ext K φ φ1 F.lo M:=(m1 F.lo).wide (FW _) (zqw hF.le hM);have e2:Ext K φ1 φ' F.lo M:=(q2.ext.weak (fun b hb=>.inl hb)).wide (FW _) hM;exact e1.comp e2
theorem Rj{X S:Type}{B:S->Option (X ⊕ S)}{C x:Code}{lb:Nat}(hfl:findLabel C lb=some x){Inv:S->Act->World->Prop}{Fin:X->Exit->Act->World->Prop}
  (h:∀s r,B s=some r->∀a w,Inv s a w->x.wp P (fun e a' w'=>match r with | .inl y=>Hx e=true∧Fin y e a' w' | .inr s'=>e=.goto lb∧Inv s' a' w') a w) :
  ∀(N:Nat) (s:S) (y:X),zJ B N s=some y->∀a w,Inv s a w->Gm P C (Fin y) N x a w
 |0,s,x,hi,a,w,hI=>by cases hi
 |N+1,s,y,hi,a,w,hI=>by
  rw[QX]at hi;split at hi
  ·rename_i y' hB;cases hi;refine ztc ?_ (h s _ hB a w hI);intro e a' w' hq;obtain⟨he,hf⟩:=hq;cases e<;>first | exact hf | cases he
  ·rename_i s' hB;refine ztc ?_ (h s _ hB a w hI);intro e a' w' hq;obtain⟨rfl,hI'⟩:=hq;simp only[hfl];exact Rj hfl h N s' y hi a' w' hI'
  ·cases hi
theorem zkv{cont:Exit->Bool}{C:Code}{lb:Nat}(hcont:∀e,cont e=true->e=.goto lb){E:(R:Type)->EvS R}(hE:∀R,(E R).Ok P){F:Frm}{c:Code}(hF:F.OkC c)(hkeep:∀l L,zo F.H1 l=some (.loop L)->l∈F.pn->OPl.lp l L∈F.ol)(hall:∀b x,reg (zo F.H1 b)=some x->b∈F.ns){tm:List SV}{ds:List Nat}{H:SH}{M:Nat}{xs:Xs}{k:KC R}{r:R}{x0:DS F.dl}{y0:OS F.ol}{σ:List (Nat×Nat)}(hM:F.n0<=M)(hfl:findLabel C lb=some c)(hasgC:∀i∈asg c,i∈asg C)(hxs:∀(j:Nat) e vs,xs[j]?=some (e,vs)->Hx e=true)(htm:F.tm0=YG (asg c) 0 tm)(hD:bkD F.dl tm H=some (x0,F.H1))(hO:bkO F.ol (rdy F.ol) tm F.H1=some (y0,σ))(hQ:VK (idD F.dl++σ)=true)(hN:YF F.lo F.n0 (idD F.dl++σ)=true)(hR:dZ F (idD F.dl++σ)=true)(h:Ri cont E F none c ds M xs (x0,y0) k=some r):∃S,zmm P C c tm ds H F.lo S∧k S=some r:=by
 unfold Ri at h;split at h;case h_2=>cases h
 rename_i j s hit;rw[QJ]at h;have hg:=vP hD;have hvE:∀ν,VN ν F.lo H->VN ν F.lo F.H1:=fun ν hv=>hg.1.vn hv;have hst0:∀ν,VN ν F.lo F.H1->F.St1 ν (rdy F.ol) (x0,y0):=fun ν hv=>by obtain⟨q1,q2,q3,q4⟩:=Ka hF.toOk hv hv hD hO hN (fun b _=>rfl);exact⟨q4,q3⟩
 have hst:∀ν,VN ν F.lo F.H1->∃e vs,xs[j]?=some (e,vs)∧F.St1 ν vs s:=fun ν hv=>by refine rF (B:=dY cont E F none c ds M xs) (I:=fun s=>F.St1 ν (rdy F.ol) s) (J:=fun x=>∃e vs,xs[x.1]?=some (e,vs)∧F.St1 ν vs x.2) ?_ zR (x0,y0) (j,s) hit (hst0 ν hv);intro s0 r0 hr0 hI;obtain⟨S,s1,s2,s3,vs,s',s4,s5⟩:=rI hE hF hv hr0;have:=lz hE hF hv s1 hI s4;grind
 have hv0:VN (fun _=>false) F.lo F.H1:=⟨fun b n hr=>WY hr,(fun _ _=>rfl),(fun _ _=>rfl)⟩;obtain⟨e,vs,hj,hstf⟩:=hst _ hv0;have hp:=rL (f:=fun v=>k ⟨v.1,F.tm s.1 s.2,ds,F.hp F.HF v.2 s.1 s.2,M⟩) (i:=0) hj;rw[zrr]at hp;rw[hp]at h;refine⟨⟨e,F.tm s.1 s.2,ds,F.hp F.HF vs s.1 s.2,M⟩,⟨fun b z hz=>?_,fun l L hl=>?_,⟨?_,fun i hi=>?_⟩,zqw hF.le hM,fun ν hv=>⟨zdy (hvE ν hv) hM ?_,(show F.lo<=M from zqw hF.le hM),zR,fun φ w K a g hf ht hd=>?_⟩⟩,h⟩
 ·have h1:reg (zo F.H1 b)=some z:=by rw[hg.1.reg b];exact hz
  show reg (zo (F.hp F.HF vs s.1 s.2) b)=some z;rw[Du,hstf.2 b (hall b z h1)];exact h1
 ·obtain⟨s0,p0,h0⟩:=hg.1.lkeep l L hl;by_cases hpn:l∈F.pn
  ·have:=hkeep l _ h0 hpn;obtain⟨s1,p1,h1⟩:=Frm.lp_at hF (HX:=F.HF) (vs:=vs) (x:=s.1) (y:=s.2) this;grind
  ·have h1:l∉nmD F.dl:=fun h=>hpn (by simp[Frm.pn,h]);have h2:l∉nmO F.ol:=fun h=>hpn (by simp[Frm.pn,h]);refine⟨s0,p0,?_⟩;show zo (F.hp F.HF vs s.1 s.2) l=_;unfold Frm.hp;rw[qo,uh h1];simp only;rw[qo,kq h2];simp only;unfold Frm.HF;rw[ye,zqu hpn,h0];rfl
 ·grind[Frm.tm_len,ZJ]
 ·grind[asg,Frm.tm_get,gw]
 ·obtain⟨e',vs',hj',hst'⟩:=hst ν (hvE ν hv);rw[hj]at hj';cases hj';exact hst'.1
 ·have hvE':=hvE ν hv;obtain⟨φ1,m1,g1⟩:=hg.2 ν φ K w g;have hout:∀b,b < FZ->φ1 b=φ b:=fun b hb=>(m1 (b+1)).2.1 b hb (.inl (by omega));have hfr:wV φ1 F.lo M:=⟨hf.1,fun b h1 h2=>by rw[hout b (by have:=hf.1;exact zqC h2 this)];exact hf.2 b h1 h2⟩;have hle:=(m1 0).1;have hsrc:∀b,b∈(idD F.dl++σ).map (·.2)->(xO ν (rho ν F.H1) F.HR).get b=none:=fun b hb=>by
   rw[zrQ]at hb;obtain⟨p,hp,rfl⟩:=hb;unfold dZ at hR;rw[zqK]at hR;have:=hR p hp;rw[yP];cases hk:zo F.HR p.2 with
   |none=>rfl
   |some kk=>
    rw[hk]at this;cases kk<;>first | rfl | cases this
  have hlps:∀l L,OPl.lp l L∈F.ol->∀L',zo F.H1 l=some (.loop L')->∃s p,L'={L with st:=s,pend:=p}:=fun l L hl L' hL'=>by rw[(hF.lps l L hl).2.2]at hL';cases hL';grind
  obtain⟨φ3,hseen⟩:=Dt (F:=F) (K:=K) (KA:=K) (φ1:=φ1) (φ2:=φ1) (wE:=w) (ν:=ν) (M:=M) (vs:=rdy F.ol) (x:=x0) (y:=y0) (ts:=a.tmps) (HS0:=H) (HS:=F.H1) (Hs:=KH ((idD F.dl++σ).map (·.2)) (zK ν F.H1)) hF.toOk g1 hfr hM hvE'
   (Ext.refl _ _ _ _) (qJ.refl _ _) g1 (lB g1 hsrc) hvE' hD hO hQ hN
   (fun p hp=>by grind[Kb]) (fun b _=>rfl) (by rw[hg.1.rho ν];exact ht.mono hle) (by rw[htm,ZJ])
   (fun i u hu hj'=>by
    grind[gw,Option.map_eq_some_iff,asg]) hlps
  have hd1:vj φ1 ds a.defers:=hd.mono hle;have hr1:Wh φ1 none none:=trivial;have key:=Rj (P:=P) (B:=dY cont E F none c ds M xs) hfl
   (Inv:=fun s a w'=>∃φ',F.Seen K φ1 w ν F.HR (rdy F.ol) s.1 s.2 φ' w' a.tmps∧vj φ1 ds a.defers)
   (Fin:=fun x e a w'=>∃vs φ',xs[x.1]?=some (e,vs)∧F.Seen K φ1 w ν F.HR vs x.2.1 x.2.2 φ' w' a.tmps∧vj φ1 ds a.defers)
   (fun s0 r0 hr0 a0 w0 hI=>by
    obtain⟨φ',hI,hd0⟩:=hI;obtain⟨S,s1,s2,s3,vs',s',s4,s5⟩:=rI hE hF hvE' hr0;refine(wpIn_wide (n:=0)).1 (zqX (lA (rc:=none) hE hF g1 hfr hM hvE' hr1 s1 s2 s3 s4 hI hd0) ?_);grind) zR (x0,y0) (j,s) hit a w ⟨φ3,hseen,hd1⟩
  refine dF ?_ _ _ _ _ key;rintro e' a' w' ⟨vs',φ',q1,q2,q3⟩;rw[hj]at q1;cases q1;obtain⟨t1,t2⟩:=rK hF g1 hvE' hall q2 (fun b kk hb hk=>zdx hb hk);refine⟨rfl,φ',?_,t1,t2,q3.mono q2.ext.1,⟨q2.went.os,q2.went.tape,q2.went.output,q2.went.size,fun b hb=>q2.went.kept b (.inl hb)⟩⟩;have e1:Ext K φ φ1 F.lo M:=(m1 F.lo).wide (FW _) (zqw hF.le hM);have e2:Ext K φ1 φ' F.lo M:=(q2.ext.weak (fun b hb=>.inl hb)).wide (FW _) hM;exact e1.comp e2
theorem zmJ{cont:Exit->Bool}(hcont:∀e,cont e=true↔e=.normal){xq:Exit->Bool}{E:(R:Type)->EvS R}(hE:∀R,(E R).Ok P){pl:yp}{rd:Option Nat}{c:Code}{tm:List SV}{ds:List Nat}{H:SH}{nx sp:Nat}{k:KC R}{r:R}(h:Hv cont xq E pl rd c tm ds H nx sp k=some r):∃S,PV P rd c tm ds H nx S∧k S=some r:=by
 unfold Hv at h;split at h;case h_2=>cases h
 rename_i dl ol0 g hpl;split at h;case h_2=>cases h
 rename_i x0 H1 hD;unfold ziI at h;dsimp only at h;split at h;case h_2=>cases h
 rename_i y0 σ hO;have h6:=zT h;clear h;obtain⟨hc,h⟩:=h6;simp only[FT]at hc;obtain⟨c1,c2,c3,c4,c5⟩:=hc;have hlps:∀l L,OPl.lp l L∈(ol0++xz (xt H1 (ja H1)) nx H1 (ja H1))->yS (xt H1 (ja H1)) nx L.tm=true∧L.dfr < nx∧zo H1 l=some (.loop L):=fun l L hl=>by grind[YI,Yh]
 obtain⟨hF,hkeep⟩:=Hw (F:=ZK dl (ol0++xz (xt H1 (ja H1)) nx H1 (ja H1)) g c tm nx H1 (xt H1 (ja H1)) σ) c2 (zrp _ _) hlps (fun b hb=>GF hb) (tm:=tm) rfl;exact zmI hcont (F:=ZK dl (ol0++xz (xt H1 (ja H1)) nx H1 (ja H1)) g c tm nx H1 (xt H1 (ja H1)) σ) hE hF hkeep
  (fun b x hx=>by
   have:∃k,zo H1 b=some k:=by
    cases hk:zo H1 b with
    |none=>exact absurd hx (by show reg (zo H1 b)≠_;rw[hk];simp[reg])
    |some k=>exact⟨k,rfl⟩
   obtain⟨k,hk⟩:=this;exact GG hx (YH hk)) (zrp _ _) rfl hD hO c3 c4 c5 h
theorem zkw{cont:Exit->Bool}{C:Code}{lb:Nat}(hcont:∀e,cont e=true->e=.goto lb){E:(R:Type)->EvS R}(hE:∀R,(E R).Ok P){pl:yp}{c:Code}{tm:List SV}{ds:List Nat}{H:SH}{nx sp:Nat}{k:KC R}{r:R}(hfl:findLabel C lb=some c)(hasgC:∀i∈asg c,i∈asg C)(h:Hv cont Hx E pl none c tm ds H nx sp k=some r):∃S,zmm P C c tm ds H nx S∧k S=some r:=by
 unfold Hv at h;split at h;case h_2=>cases h
 rename_i dl ol0 g hpl;split at h;case h_2=>cases h
 rename_i x0 H1 hD;unfold ziI at h;dsimp only at h;split at h;case h_2=>cases h
 rename_i y0 σ hO;have h6:=zT h;clear h;obtain⟨hc,h⟩:=h6;simp only[FT]at hc;obtain⟨c1,c2,c3,c4,c5⟩:=hc;have hlps:∀l L,OPl.lp l L∈(ol0++xz (xt H1 (ja H1)) nx H1 (ja H1))->yS (xt H1 (ja H1)) nx L.tm=true∧L.dfr < nx∧zo H1 l=some (.loop L):=fun l L hl=>by grind[YI,Yh]
 obtain⟨hF,hkeep⟩:=Hw (F:=ZK dl (ol0++xz (xt H1 (ja H1)) nx H1 (ja H1)) g c tm nx H1 (xt H1 (ja H1)) σ) c2 (zrp _ _) hlps (fun b hb=>GF hb) (tm:=tm) rfl;exact zkv hcont (F:=ZK dl (ol0++xz (xt H1 (ja H1)) nx H1 (ja H1)) g c tm nx H1 (xt H1 (ja H1)) σ) hE hF hkeep
  (fun b x hx=>by
   have:∃k,zo H1 b=some k:=by
    cases hk:zo H1 b with
    |none=>exact absurd hx (by show reg (zo H1 b)≠_;rw[hk];simp[reg])
    |some k=>exact⟨k,rfl⟩
   obtain⟨k,hk⟩:=this;exact GG hx (YH hk)) (zrp _ _) hfl hasgC (fun j e vs hj=>zpb hj) rfl hD hO c3 c4 c5 h
def zaf(F:Frm)(S:Wi):Xs->Nat->Option (Nat×F.S)
 |[],_=>none
 |(e,vs)::r,j=>bif ar S.e e then match QY F vs S.tm S.H with
   |some s=>some (j,s)
   |none=>zaf F S r (j+1)
  else zaf F S r (j+1)
theorem zbV{F:Frm}{S:Wi}:∀{xs:Xs} {j:Nat} {r:Nat×F.S},zaf F S xs j=some r->∃i vs,r.1=j+i∧xs[i]?=some (S.e,vs)∧QY F vs S.tm S.H=some r.2
 |[],j,r,h=>by cases h
 |(e,vs)::xs,j,r,h=>by
  have rec_:zaf F S xs (j+1)=some r->∃i vs',r.1=j+i∧((e,vs)::xs)[i]?=some (S.e,vs')∧QY F vs' S.tm S.H=some r.2:=fun h=>by obtain⟨i,vs',h1,h2,h3⟩:=zbV h;exact⟨i+1,vs',by rw[h1];omega,by simpa using h2,h3⟩
  simp only[zaf]at h;rcases vO h with⟨h1,h2⟩ | ⟨_,h2⟩
  ·split at h2
   ·rename_i s hs;cases h2;grind[dX]
   ·exact rec_ h2
  ·exact rec_ h2
def zfk(E:(R:Type)->EvS R)(F:Frm)(rd:Option Nat)(c:Code)(ds:List Nat)(M:Nat)(xs:Xs)(s:F.S):Option (Nat×F.S):=dV F.ol s.2 fun y=>(E _).code0 rd c (F.tm s.1 y) ds (F.hp F.HR (rdy F.ol) s.1 y) F.n0 fun S=>bif Nat.ble S.nx M&&Hu ds S.ds then zaf F S xs 0 else none
theorem zkx{E:(R:Type)->EvS R}(hE:∀R,(E R).Ok P){F:Frm}{c:Code}{rd:Option Nat}{ds:List Nat}{M:Nat}{xs:Xs}{s:F.S}{j:Nat}{s':F.S}(h:zfk E F rd c ds M xs s=some (j,s')) : ∃ S:Wi,Ze P rd c (F.tm s.1 s.2) ds (F.hp F.HR (rdy F.ol) s.1 s.2) F.n0 S∧S.nx<=M∧S.ds=ds∧∃vs,QY F vs S.tm S.H=some s'∧xs[j]?=some (S.e,vs):=by unfold zfk at h;rw[QJ]at h;obtain⟨S,h1,h2⟩:=(hE _).code0 h;grind[Nat.ble_eq,zbV,rH]
def ziJ(E:(R:Type)->EvS R)(F:Frm)(rd:Option Nat)(c:Code)(ds:List Nat)(M:Nat)(xs:Xs)(s0:F.S)(k:KC R):Option R:=
 match zfk E F rd c ds M xs s0 with
 |some (j,s)=>dV F.ol s.2 fun y=>Rh xs 0 j fun v=>k ⟨v.1,F.tm s.1 y,ds,F.hp F.HF v.2 s.1 y,M⟩
 |none=>none
theorem zmK{E:(R:Type)->EvS R}(hE:∀R,(E R).Ok P){F:Frm}{c:Code}(hF:F.OkC c)(hkeep:∀l L,zo F.H1 l=some (.loop L)->l∈F.pn->OPl.lp l L∈F.ol)(hall:∀b x,reg (zo F.H1 b)=some x->b∈F.ns){rd:Option Nat}{tm:List SV}{ds:List Nat}{H:SH}{M:Nat}{xs:Xs}{k:KC R}{r:R}{x0:DS F.dl}{y0:OS F.ol}{σ:List (Nat×Nat)}(hM:F.n0<=M)(htm:F.tm0=YG (asg c) 0 tm)(hD:bkD F.dl tm H=some (x0,F.H1))(hO:bkO F.ol (rdy F.ol) tm F.H1=some (y0,σ))(hQ:VK (idD F.dl++σ)=true)(hN:YF F.lo F.n0 (idD F.dl++σ)=true)(hR:dZ F (idD F.dl++σ)=true)(h:ziJ E F rd c ds M xs (x0,y0) k=some r):∃S,Ze P rd c tm ds H F.lo S∧k S=some r:=by
 unfold ziJ at h;split at h;case h_2=>cases h
 rename_i j s hit;rw[QJ]at h;have hg:=vP hD;have hvE:∀ν,VN ν F.lo H->VN ν F.lo F.H1:=fun ν hv=>hg.1.vn hv;have hst0:∀ν,VN ν F.lo F.H1->F.St1 ν (rdy F.ol) (x0,y0):=fun ν hv=>by obtain⟨q1,q2,q3,q4⟩:=Ka hF.toOk hv hv hD hO hN (fun b _=>rfl);exact⟨q4,q3⟩
 obtain⟨S0,p1,p2,p3,vs0,p4,p5⟩:=zkx hE hit;have hst:∀ν,VN ν F.lo F.H1->F.St1 ν vs0 s:=fun ν hv=>lz hE hF hv p1 (hst0 ν hv) p4;have hv0:VN (fun _=>false) F.lo F.H1:=⟨fun b n hr=>WY hr,(fun _ _=>rfl),(fun _ _=>rfl)⟩;have hstf:=hst _ hv0;have hp:=rL (f:=fun v=>k ⟨v.1,F.tm s.1 s.2,ds,F.hp F.HF v.2 s.1 s.2,M⟩) (i:=0) p5;rw[zrr]at hp;rw[hp]at h;refine⟨⟨S0.e,F.tm s.1 s.2,ds,F.hp F.HF vs0 s.1 s.2,M⟩,⟨fun b z hz=>?_,fun l L hl=>?_,⟨?_,fun i hi=>?_⟩,zqw hF.le hM,fun ν hv=>⟨zdy (hvE ν hv) hM ?_,(show F.lo<=M from zqw hF.le hM),fun φ w K a rc g hf ht hd hr=>?_⟩⟩,h⟩
 ·have h1:reg (zo F.H1 b)=some z:=by rw[hg.1.reg b];exact hz
  show reg (zo (F.hp F.HF vs0 s.1 s.2) b)=some z;rw[Du,hstf.2 b (hall b z h1)];exact h1
 ·obtain⟨s0,p0,h0⟩:=hg.1.lkeep l L hl;by_cases hpn:l∈F.pn
  ·have:=hkeep l _ h0 hpn;obtain⟨s1,p1,h1⟩:=Frm.lp_at hF (HX:=F.HF) (vs:=vs0) (x:=s.1) (y:=s.2) this;grind
  ·have h1:l∉nmD F.dl:=fun h=>hpn (by simp[Frm.pn,h]);have h2:l∉nmO F.ol:=fun h=>hpn (by simp[Frm.pn,h]);refine⟨s0,p0,?_⟩;show zo (F.hp F.HF vs0 s.1 s.2) l=_;unfold Frm.hp;rw[qo,uh h1];simp only;rw[qo,kq h2];simp only;unfold Frm.HF;rw[ye,zqu hpn,h0];rfl
 ·grind[Frm.tm_len,ZJ]
 ·grind[Frm.tm_get,gw]
 ·exact(hst ν (hvE ν hv)).1
 ·have hvE':=hvE ν hv;obtain⟨φ1,m1,g1⟩:=hg.2 ν φ K w g;have hout:∀b,b < FZ->φ1 b=φ b:=fun b hb=>(m1 (b+1)).2.1 b hb (.inl (by omega));have hfr:wV φ1 F.lo M:=⟨hf.1,fun b h1 h2=>by rw[hout b (by have:=hf.1;exact zqC h2 this)];exact hf.2 b h1 h2⟩;have hle:=(m1 0).1;have hsrc:∀b,b∈(idD F.dl++σ).map (·.2)->(xO ν (rho ν F.H1) F.HR).get b=none:=fun b hb=>by
   rw[zrQ]at hb;obtain⟨p,hp,rfl⟩:=hb;unfold dZ at hR;rw[zqK]at hR;have:=hR p hp;rw[yP];cases hk:zo F.HR p.2 with
   |none=>rfl
   |some kk=>
    rw[hk]at this;cases kk<;>first | rfl | cases this
  have hlps:∀l L,OPl.lp l L∈F.ol->∀L',zo F.H1 l=some (.loop L')->∃s p,L'={L with st:=s,pend:=p}:=fun l L hl L' hL'=>by rw[(hF.lps l L hl).2.2]at hL';cases hL';grind
  obtain⟨φ3,hseen⟩:=Dt (F:=F) (K:=K) (KA:=K) (φ1:=φ1) (φ2:=φ1) (wE:=w) (ν:=ν) (M:=M) (vs:=rdy F.ol) (x:=x0) (y:=y0) (ts:=a.tmps) (HS0:=H) (HS:=F.H1) (Hs:=KH ((idD F.dl++σ).map (·.2)) (zK ν F.H1)) hF.toOk g1 hfr hM hvE'
   (Ext.refl _ _ _ _) (qJ.refl _ _) g1 (lB g1 hsrc) hvE' hD hO hQ hN
   (fun p hp=>by grind[Kb]) (fun b _=>rfl) (by rw[hg.1.rho ν];exact ht.mono hle) (by rw[htm,ZJ])
   (fun i u hu hj'=>by
    grind[gw,Option.map_eq_some_iff,asg]) hlps
  have hd1:vj φ1 ds a.defers:=hd.mono hle;have hr1:Wh φ1 rd rc:=hr.mono hle;refine zqX (lA hE hF g1 hfr hM hvE' hr1 p1 p2 p3 p4 hseen hd1) ?_;rintro e' a' w' ⟨rfl,φ',q2,q3⟩;obtain⟨t1,t2⟩:=rK hF g1 hvE' hall q2 (fun b kk hb hk=>zdx hb hk);refine⟨rfl,φ',?_,t1,t2,q3.mono q2.ext.1,⟨q2.went.os,q2.went.tape,q2.went.output,q2.went.size,fun b hb=>q2.went.kept b (.inl hb)⟩⟩;have e1:Ext K φ φ1 F.lo M:=(m1 F.lo).wide (FW _) (zqw hF.le hM);have e2:Ext K φ1 φ' F.lo M:=(q2.ext.weak (fun b hb=>.inl hb)).wide (FW _) hM;exact e1.comp e2
def xsJ(c:Code)(ol:List OPl):Xs:=(zpa .normal (Yi c)).flatMap fun e=>(lC ol).map fun v=>(e,v)
def znA(E:(R:Type)->EvS R)(dl:List DPl)(ol0:List OPl)(g:Nat)(rd:Option Nat)(c:Code)(tm:List SV)(ds:List Nat)(nx sp:Nat)(x0:DS dl)(H1:SH)(k:KC R):Option R:=
 match xt H1 (ja H1)with
 |ns=>match xz ns nx H1 (ja H1)with
  |lps=>match bkO (ol0++lps) (rdy (ol0++lps)) tm H1 with
   |some (y0,σ)=>bif mX ol0&&(zfj (ZK dl (ol0++lps) g c tm nx H1 ns σ) c&&(VK (idD dl++σ)&&(YF nx (nx+g) (idD dl++σ)&&dZ (ZK dl (ol0++lps) g c tm nx H1 ns σ) (idD dl++σ))))then
     ziJ E (ZK dl (ol0++lps) g c tm nx H1 ns σ) rd c ds (nx+g+sp) (xsJ c (ol0++lps)) (x0,y0) k
    else none
   |none=>none
def ziK(E:(R:Type)->EvS R)(pl:yp)(rd:Option Nat)(c:Code)(tm:List SV)(ds:List Nat)(H:SH)(nx sp:Nat)(k:KC R):Option R:=match pl c tm H nx with
 |some (dl,ol0,g)=>match bkD dl tm H with
  |some (x0,H1)=>znA E dl ol0 g rd c tm ds nx sp x0 H1 k
  |none=>none
 |none=>none
theorem zmL{E:(R:Type)->EvS R}(hE:∀R,(E R).Ok P){pl:yp}{rd:Option Nat}{c:Code}{tm:List SV}{ds:List Nat}{H:SH}{nx sp:Nat}{k:KC R}{r:R}(h:ziK E pl rd c tm ds H nx sp k=some r):∃S,Ze P rd c tm ds H nx S∧k S=some r:=by
 unfold ziK at h;split at h;case h_2=>cases h
 rename_i dl ol0 g hpl;split at h;case h_2=>cases h
 rename_i x0 H1 hD;unfold znA at h;dsimp only at h;split at h;case h_2=>cases h
 rename_i y0 σ hO;have h6:=zT h;clear h;obtain⟨hc,h⟩:=h6;simp only[FT]at hc;obtain⟨c1,c2,c3,c4,c5⟩:=hc;have hlps:∀l L,OPl.lp l L∈(ol0++xz (xt H1 (ja H1)) nx H1 (ja H1))->yS (xt H1 (ja H1)) nx L.tm=true∧L.dfr < nx∧zo H1 l=some (.loop L):=fun l L hl=>by grind[YI,Yh]
 obtain⟨hF,hkeep⟩:=Hw (F:=ZK dl (ol0++xz (xt H1 (ja H1)) nx H1 (ja H1)) g c tm nx H1 (xt H1 (ja H1)) σ) c2 (zrp _ _) hlps (fun b hb=>GF hb) (tm:=tm) rfl;exact zmK (F:=ZK dl (ol0++xz (xt H1 (ja H1)) nx H1 (ja H1)) g c tm nx H1 (xt H1 (ja H1)) σ) hE hF hkeep
  (fun b x hx=>by
   have:∃k,zo H1 b=some k:=by
    cases hk:zo H1 b with
    |none=>exact absurd hx (by show reg (zo H1 b)≠_;rw[hk];simp[reg])
    |some k=>exact⟨k,rfl⟩
   obtain⟨k,hk⟩:=this;exact GG hx (YH hk)) (zrp _ _) rfl hD hO c3 c4 c5 h
theorem IT{S:Type}{B:S->Option (S ⊕ S)}{c:Code}{F:Fence}{Inv:S->Act->World->Prop}{Q:Exit->Act->World->Prop}(hB:∀s t,B s=some (.inl t)->t=s)(h:∀s s',B s=some (.inr s')->∀a w,Inv s a w->c.wpIn F 0 P (fun e a' w'=>e=.normal∧Inv s' a' w') a w) : ∀(N:Nat) (s x:S),zJ B N s=some x->(∀a w,Inv x a w->c.wpIn F 0 P (fun e a' w'=>e≠.normal∧Q e a' w') a w)->∀a w,Inv s a w->Code.roundsIn F 0 P c Q N a w
 |0,s,x,hi,hl,a,w,hI=>by cases hi
 |N+1,s,x,hi,hl,a,w,hI=>by
  rw[QX]at hi;rw[zsf];split at hi
  ·rename_i y hy;cases hi;have:=hB _ _ hy;subst this;refine zqX (hl a w hI) ?_;intro e a' w' hq;obtain⟨he,hf⟩:=hq;cases e<;>first | exact absurd rfl he | exact hf
  ·rename_i s' hs;refine zqX (h s _ hs a w hI) ?_;intro e a' w' hq;obtain⟨rfl,hI'⟩:=hq;exact IT hB h N s' x hi hl a' w' hI'
  ·cases hi
def ee(E:(R:Type)->EvS R)(F:Frm)(rd:Option Nat)(c:Code)(ds:List Nat)(M:Nat)(s:F.S):Option (F.S ⊕ F.S):=
 dV F.ol s.2 fun y=>(E _).code rd c (F.tm s.1 y) ds (F.hp F.HR (rdy F.ol) s.1 y) F.n0 fun S=>
  bif
    ar .normal S.e then(bif Nat.ble S.nx M&&Hu ds S.ds then match QY F (rdy F.ol) S.tm S.H with
    |some s'=>some (.inr s')
    |none=>none
   else none)else some (.inl (s.1,y))
def zfl(E:(R:Type)->EvS R)(F:Frm)(rd:Option Nat)(c:Code)(ds:List Nat)(M:Nat)(s0:F.S)(k:KC R):Option R:=
 match zJ (ee E F rd c ds M) zR s0 with
 |some s=>dV F.ol s.2 fun y=>(E R).code rd c (F.tm s.1 y) ds (F.hp F.HF (rdy F.ol) s.1 y) M fun S=>bif ar .normal S.e then none else k S
 |none=>none
theorem zbW{E:(R:Type)->EvS R}(hE:∀R,(E R).Ok P){F:Frm}{rd:Option Nat}{c:Code}{ds:List Nat}{M:Nat}{s s':F.S}(h:ee E F rd c ds M s=some (.inr s')) : ∃S:Wi,Ze P rd c (F.tm s.1 s.2) ds (F.hp F.HR (rdy F.ol) s.1 s.2) F.n0 S∧S.nx<=M∧S.ds=ds∧QY F (rdy F.ol) S.tm S.H=some s'∧S.e=.normal:=by unfold ee at h;rw[QJ]at h;obtain⟨S,h1,h2⟩:=(hE _).code h;grind[Nat.ble_eq,rH,dX]
theorem Rk{E:(R:Type)->EvS R}(hE:∀R,(E R).Ok P){F:Frm}{rd:Option Nat}{c:Code}{ds:List Nat}{M:Nat}{s t:F.S}(h:ee E F rd c ds M s=some (.inl t)):t=s:=by
 unfold ee at h;rw[QJ]at h;obtain⟨S,h1,h2⟩:=(hE _).code h;rcases vO h2 with⟨he,h2⟩ | ⟨he,h2⟩
 ·grind
 ·cases h2;rfl
theorem zmM{E:(R:Type)->EvS R}(hE:∀R,(E R).Ok P){F:Frm}{c:Code}(hF:F.OkC c)(hkeep:∀l L,zo F.H1 l=some (.loop L)->l∈F.pn->OPl.lp l L∈F.ol)(hall:∀b x,reg (zo F.H1 b)=some x->b∈F.ns){rd:Option Nat}{tm:List SV}{ds:List Nat}{H:SH}{M:Nat}{k:KC R}{r:R}{x0:DS F.dl}{y0:OS F.ol}{σ:List (Nat×Nat)}(hM:F.n0<=M)(htm:F.tm0=YG (asg c) 0 tm)(hD:bkD F.dl tm H=some (x0,F.H1))(hO:bkO F.ol (rdy F.ol) tm F.H1=some (y0,σ))(hQ:VK (idD F.dl++σ)=true)(hN:YF F.lo F.n0 (idD F.dl++σ)=true)(hR:dZ F (idD F.dl++σ)=true)(h:zfl E F rd c ds M (x0,y0) k=some r):∃S,PV P rd c tm ds H F.lo S∧k S=some r:=by
 unfold zfl at h;split at h;case h_2=>cases h
 rename_i s hit;rw[QJ]at h;obtain⟨S,⟨a1,a2,a3,a4,a5⟩,h1⟩:=(hE _).code h;clear h;rcases vO h1 with⟨_,h⟩ | ⟨hne,h⟩
 ·cases h
 have hne:S.e≠.normal:=fun e=>by rw[e]at hne;cases hne
 have hg:=vP hD;have hvE:∀ν,VN ν F.lo H->VN ν F.lo F.H1:=fun ν hv=>hg.1.vn hv;have hst0:∀ν,VN ν F.lo F.H1->F.St1 ν (rdy F.ol) (x0,y0):=fun ν hv=>by obtain⟨q1,q2,q3,q4⟩:=Ka hF.toOk hv hv hD hO hN (fun b _=>rfl);exact⟨q4,q3⟩
 have hst:∀ν,VN ν F.lo F.H1->F.St1 ν (rdy F.ol) s:=fun ν hv=>by
  refine rF (B:=ee E F rd c ds M) (I:=fun s=>F.St1 ν (rdy F.ol) s) (J:=fun x=>F.St1 ν (rdy F.ol) x) ?_ zR (x0,y0) s hit (hst0 ν hv);intro s0 r0 hr0 hI;cases r0 with
  |inl t=>rw[Rk hE hr0];exact hI
  |inr s'=>
   obtain⟨S,s1,s2,s3,s4,s5⟩:=zbW hE hr0;exact lz hE hF hv s1 hI s4
 have hv0:VN (fun _=>false) F.lo F.H1:=⟨fun b n hr=>WY hr,(fun _ _=>rfl),(fun _ _=>rfl)⟩;have hstf:=hst _ hv0;refine⟨S,⟨fun b z hz=>?_,wc.trans (fun l L hl=>?_) a2,⟨?_,fun i hi=>?_⟩,zqw (zqw hF.le hM) a4,fun ν hv=>?_⟩,h⟩
 ·have h1:reg (zo F.H1 b)=some z:=by rw[hg.1.reg b];exact hz
  refine a1 b z ?_;rw[Du,hstf.2 b (hall b z h1)];exact h1
 ·obtain⟨s0,p0,h0⟩:=hg.1.lkeep l L hl;by_cases hpn:l∈F.pn
  ·have:=hkeep l _ h0 hpn;obtain⟨s1,p1,h1⟩:=Frm.lp_at hF (HX:=F.HF) (vs:=rdy F.ol) (x:=s.1) (y:=s.2) this;grind
  ·have h1:l∉nmD F.dl:=fun h=>hpn (by simp[Frm.pn,h]);have h2:l∉nmO F.ol:=fun h=>hpn (by simp[Frm.pn,h]);refine⟨s0,p0,?_⟩;show zo (F.hp F.HF (rdy F.ol) s.1 s.2) l=_;unfold Frm.hp;rw[qo,uh h1];simp only;rw[qo,kq h2];simp only;unfold Frm.HF;rw[ye,zqu hpn,h0];rfl
 ·rw[a3.1,Frm.tm_len,htm,ZJ]
 ·rw[a3.2 i hi,Frm.tm_get hF hi,htm,gw];simp[hi]
 ·have hvE':=hvE ν hv;obtain⟨v1,o1⟩:=a5 ν (zdy hvE' hM (hst ν hvE').1);refine⟨v1,(show F.lo<=S.nx from zqw (zqw hF.le hM) a4),zR,fun φ w K a rc g hf ht hd hr=>?_⟩;have hfM:wV φ F.lo M:=⟨zqw a4 hf.1,fun b h1 h2=>hf.2 b h1 (zqC h2 a4)⟩;obtain⟨φ1,m1,g1⟩:=hg.2 ν φ K w g;have hout:∀b,b < FZ->φ1 b=φ b:=fun b hb=>(m1 (b+1)).2.1 b hb (.inl (by omega));have hfr:wV φ1 F.lo M:=⟨hfM.1,fun b h1 h2=>by rw[hout b (by have:=hfM.1;omega)];exact hfM.2 b h1 h2⟩;have hle:=(m1 0).1;have hsrc:∀b,b∈(idD F.dl++σ).map (·.2)->(xO ν (rho ν F.H1) F.HR).get b=none:=fun b hb=>by
   rw[zrQ]at hb;obtain⟨p,hp,rfl⟩:=hb;unfold dZ at hR;rw[zqK]at hR;have:=hR p hp;rw[yP];cases hk:zo F.HR p.2 with
   |none=>rfl
   |some kk=>
    rw[hk]at this;cases kk<;>first | rfl | cases this
  have hlps:∀l L,OPl.lp l L∈F.ol->∀L',zo F.H1 l=some (.loop L')->∃s p,L'={L with st:=s,pend:=p}:=fun l L hl L' hL'=>by rw[(hF.lps l L hl).2.2]at hL';cases hL';grind
  obtain⟨φ3,hseen⟩:=Dt (F:=F) (K:=K) (KA:=K) (φ1:=φ1) (φ2:=φ1) (wE:=w) (ν:=ν) (M:=M) (vs:=rdy F.ol) (x:=x0) (y:=y0) (ts:=a.tmps) (HS0:=H) (HS:=F.H1) (Hs:=KH ((idD F.dl++σ).map (·.2)) (zK ν F.H1)) hF.toOk g1 hfr hM hvE'
   (Ext.refl _ _ _ _) (qJ.refl _ _) g1 (lB g1 hsrc) hvE' hD hO hQ hN
   (fun p hp=>by grind[Kb]) (fun b _=>rfl) (by rw[hg.1.rho ν];exact ht.mono hle) (by rw[htm,ZJ])
   (fun i u hu hj'=>by
    grind[gw,Option.map_eq_some_iff,asg]) hlps
  have hd1:vj φ1 ds a.defers:=hd.mono hle;have hr1:Wh φ1 rd rc:=hr.mono hle;refine IT (P:=P) (B:=ee E F rd c ds M) (c:=c) (F:=fw rc)
   (Inv:=fun s a w'=>∃φ',F.Seen K φ1 w ν F.HR (rdy F.ol) s.1 s.2 φ' w' a.tmps∧vj φ1 ds a.defers)
   (fun s t hs=>Rk hE hs)
   (fun s0 s' hr0 a0 w0 hI=>by
    obtain⟨φ',hI,hd0⟩:=hI;obtain⟨S,s1,s2,s3,s4,s5⟩:=zbW hE hr0;refine zqX (lA hE hF g1 hfr hM hvE' hr1 s1 s2 s3 s4 hI hd0) ?_;grind) zR (x0,y0) s hit ?_ a w ⟨φ3,hseen,hd1⟩
  rintro a' w' ⟨φ',q2,q3⟩;obtain⟨t1,t2⟩:=rK hF g1 hvE' hall q2 (fun b kk hb hk=>zdx hb hk);have e1:Ext K φ φ1 F.lo M:=(m1 F.lo).wide (FW _) (zqw hF.le hM);have e2:Ext K φ1 φ' F.lo M:=(q2.ext.weak (fun b hb=>.inl hb)).wide (FW _) hM;have e3:=e1.comp e2;have hw:qJ K w w':=⟨q2.went.os,q2.went.tape,q2.went.output,q2.went.size,fun b hb=>q2.went.kept b (.inl hb)⟩;have hfr2:wV φ' M S.nx:=⟨hf.1,fun b h1 h2=>by
   rw[e3.2.1 b (by have h9:S.nx<=FZ:=hf.1;omega) (.inr h1)];exact hf.2 b (zqw (zqw hF.le hM) h1) h2⟩
  refine zqX (o1.2 φ' w' K a' rc t1 hfr2 t2 (q3.mono q2.ext.1) (hr.mono e3.1)) ?_;intro e a2 w2 hq;refine⟨fun h0=>hne ?_,uK.after e3 hw (zqw hF.le hM) a4 hq⟩;have:=hq.1;rw[h0]at this;exact this.symm
def zky(E:(R:Type)->EvS R)(dl:List DPl)(ol0:List OPl)(g:Nat)(rd:Option Nat)(c:Code)(tm:List SV)(ds:List Nat)(nx sp:Nat)(x0:DS dl)(H1:SH)(k:KC R):Option R:=
 match xt H1 (ja H1)with
 |ns=>match xz ns nx H1 (ja H1)with
  |lps=>match bkO (ol0++lps) (rdy (ol0++lps)) tm H1 with
   |some (y0,σ)=>bif mX ol0&&(zfj (ZK dl (ol0++lps) g c tm nx H1 ns σ) c&&(VK (idD dl++σ)&&(YF nx (nx+g) (idD dl++σ)&&dZ (ZK dl (ol0++lps) g c tm nx H1 ns σ) (idD dl++σ))))then
     zfl E (ZK dl (ol0++lps) g c tm nx H1 ns σ) rd c ds (nx+g+sp) (x0,y0) k
    else none
   |none=>none
def zfm(E:(R:Type)->EvS R)(pl:yp)(rd:Option Nat)(c:Code)(tm:List SV)(ds:List Nat)(H:SH)(nx sp:Nat)(k:KC R):Option R:=match pl c tm H nx with
 |some (dl,ol0,g)=>match bkD dl tm H with
  |some (x0,H1)=>zky E dl ol0 g rd c tm ds nx sp x0 H1 k
  |none=>none
 |none=>none
theorem zkz{E:(R:Type)->EvS R}(hE:∀R,(E R).Ok P){pl:yp}{rd:Option Nat}{c:Code}{tm:List SV}{ds:List Nat}{H:SH}{nx sp:Nat}{k:KC R}{r:R}(h:zfm E pl rd c tm ds H nx sp k=some r):∃S,PV P rd c tm ds H nx S∧k S=some r:=by
 unfold zfm at h;split at h;case h_2=>cases h
 rename_i dl ol0 g hpl;split at h;case h_2=>cases h
 rename_i x0 H1 hD;unfold zky at h;dsimp only at h;split at h;case h_2=>cases h
 rename_i y0 σ hO;have h6:=zT h;clear h;obtain⟨hc,h⟩:=h6;simp only[FT]at hc;obtain⟨c1,c2,c3,c4,c5⟩:=hc;have hlps:∀l L,OPl.lp l L∈(ol0++xz (xt H1 (ja H1)) nx H1 (ja H1))->yS (xt H1 (ja H1)) nx L.tm=true∧L.dfr < nx∧zo H1 l=some (.loop L):=fun l L hl=>by grind[YI,Yh]
 obtain⟨hF,hkeep⟩:=Hw (F:=ZK dl (ol0++xz (xt H1 (ja H1)) nx H1 (ja H1)) g c tm nx H1 (xt H1 (ja H1)) σ) c2 (zrp _ _) hlps (fun b hb=>GF hb) (tm:=tm) rfl;exact zmM (F:=ZK dl (ol0++xz (xt H1 (ja H1)) nx H1 (ja H1)) g c tm nx H1 (xt H1 (ja H1)) σ) hE hF hkeep
  (fun b x hx=>by
   have:∃k,zo H1 b=some k:=by
    cases hk:zo H1 b with
    |none=>exact absurd hx (by show reg (zo H1 b)≠_;rw[hk];simp[reg])
    |some k=>exact⟨k,rfl⟩
   obtain⟨k,hk⟩:=this;exact GG hx (YH hk)) (zrp _ _) rfl hD hO c3 c4 c5 h
def Yj(i:Nat)(S:Wi):Wi:=match S.e with
 |.exit j=>bif Nat.beq j i then{S with e:=.normal}else S
 |_=>S
theorem zfn(ν:Nat->Bool)(i:Nat)(S:Wi):Gu ν (Yj i S)=(Gu ν S).inBlock i:=by
 unfold Yj Res.inBlock;show _=(match S.e with | .exit j=>if j=i then{Gu ν S with e:=.normal}else Gu ν S | _=>Gu ν S);cases hE:S.e with
 |exit j=>
  simp only;rw[CN];grind[Gu]
 |_=>rfl
def vz(P:Program)(E:EvS R)(rd:Option Nat):Code->List SV->List Nat->SH->Nat->KC R->Option R
 |.skip,tm,ds,H,nx,k=>k ⟨.normal,tm,ds,H,nx⟩
 |.label _,tm,ds,H,nx,k=>k ⟨.normal,tm,ds,H,nx⟩
 |.exit i,tm,ds,H,nx,k=>k ⟨.exit i,tm,ds,H,nx⟩
 |.goto i,tm,ds,H,nx,k=>k ⟨.goto i,tm,ds,H,nx⟩
 |.ret,tm,ds,H,nx,k=>k ⟨.ret,tm,ds,H,nx⟩
 |.seq x y,tm,ds,H,nx,k=>bif E.jq (.seq x y) tm.length then E.join rd (.seq x y) tm ds H nx k else vz P E rd x tm ds H nx fun S=>match S.e with
  |.normal=>vz P E rd y S.tm S.ds S.H S.nx k
  |_=>k S
 |.cond c x y,tm,ds,H,nx,k=>match jF tm H c with
  |some (.bool b)=>bif b then vz P E rd x tm ds H nx k else vz P E rd y tm ds H nx k
  |_=>none
 |.block i c,tm,ds,H,nx,k=>vz P E rd c tm ds H nx fun S=>k (Yj i S)
 |.loop c,tm,ds,H,nx,k=>E.loop rd c tm ds H nx k
 |.region _ ops false,tm,ds,H,nx,k=>zeO (opX P E) ops ops.toList tm H nx fun tm' H' nx'=>k ⟨.normal,tm',ds,H',nx'⟩
 |.region _ ops true,tm,ds,H,nx,k=>zir P (opX P E) ops tm H nx fun tm' H' nx'=>k ⟨.normal,tm',ds,H',nx'⟩
 |.rangeFunc g ps assign body,tm,ds,H,nx,k=>ze3 E rd g ps assign body tm ds H nx k
 |.scope c,tm,ds,H,nx,k=>match rd with
  |some _=>none
  |none=>vz P E none c tm ds H nx fun S=>match S.e with
   |.goto l=>match findLabel c l with
    |some rest=>E.scp c l rest S.tm S.ds S.H S.nx k
    |none=>none
   |_=>k S
 |_,_,_,_,_,_=>none
theorem Ze.seq{rd:Option Nat}{x y:Code}{tm:List SV}{ds:List Nat}{H:SH}{nx:Nat}{S1 S:Wi}(h1:Ze P rd x tm ds H nx S1)(he:S1.e=.normal)(h2:Ze P rd y S1.tm S1.ds S1.H S1.nx S):Ze P rd (.seq x y) tm ds H nx S:=by obtain⟨a1,a2,a3,a4,a5⟩:=h1;obtain⟨b1,b2,b3,b4,b5⟩:=h2;refine⟨a1.trans b1,a2.trans b2,a3.trans b3 (fun i hi=>by simp[asg,hi]) (fun i hi=>by simp[asg,hi]),zqw a4 b4,fun ν hv=>?_⟩;obtain⟨v1,o1⟩:=a5 ν hv;obtain⟨v2,o2⟩:=b5 ν v1;exact⟨v2,pO o1 he o2⟩
theorem zbX{c rest:Code}{l:Nat}(h:findLabel c l=some rest):∀i∈asg rest,i∈asg c:=by induction c generalizing rest<;>grind[findLabel,Option.some.injEq,asg]
theorem GI{E:EvS R}(hE:E.Ok P)(hs:jA P){rd:Option Nat}:∀(c:Code) {tm:List SV} {ds:List Nat} {H:SH} {nx:Nat} {k:KC R} {r:R},vz P E rd c tm ds H nx k=some r->∃S,Ze P rd c tm ds H nx S∧k S=some r:=by
 intro c;induction c generalizing rd with
 |skip=>intro tm ds H nx k r h;exact⟨_,⟨jV.refl H,wc.refl H,kp.refl _ _,FW _,fun ν hv=>⟨hv,Iy⟩⟩,h⟩
 |label l=>intro tm ds H nx k r h;exact⟨_,⟨jV.refl H,wc.refl H,kp.refl _ _,FW _,fun ν hv=>⟨hv,Cy⟩⟩,h⟩
 |exit l=>intro tm ds H nx k r h;exact⟨_,⟨jV.refl H,wc.refl H,kp.refl _ _,FW _,fun ν hv=>⟨hv,Iz⟩⟩,h⟩
 |goto l=>intro tm ds H nx k r h;exact⟨_,⟨jV.refl H,wc.refl H,kp.refl _ _,FW _,fun ν hv=>⟨hv,IA⟩⟩,h⟩
 |ret=>intro tm ds H nx k r h;exact⟨_,⟨jV.refl H,wc.refl H,kp.refl _ _,FW _,fun ν hv=>⟨hv,Pm⟩⟩,h⟩
 |seq x y ihx ihy=>
  intro tm ds H nx k r h;simp only[vz]at h;rcases vO h with⟨_,h⟩ | ⟨_,h⟩
  ·exact hE.join h
  obtain⟨S1,s1,h1⟩:=ihx h;split at h1
  ·rename_i he;obtain⟨S,s2,h2⟩:=ihy h1;exact⟨S,s1.seq he s2,h2⟩
  ·rename_i he;obtain⟨a1,a2,a3,a4,a5⟩:=s1;exact⟨S1,⟨a1,a2,a3.mono (fun i hi=>by simp[asg,hi]),a4,fun ν hv=>⟨(a5 ν hv).1,YB (a5 ν hv).2 he⟩⟩,h1⟩
 |cond c x y ihx ihy=>
  intro tm ds H nx k r h;simp only[vz]at h;split at h;case h_2=>cases h
  rename_i b hc;have hc':∀ν,opv (zu (rho ν H) tm) c=some (.bool b):=fun ν=>by have:=qq hc ν;grind[den]
  rcases vO h with⟨rfl,h⟩ | ⟨rfl,h⟩
  ·obtain⟨S,⟨a1,a2,a3,a4,a5⟩,h2⟩:=ihx h;exact⟨S,⟨a1,a2,a3.mono (fun i hi=>by simp[asg,hi]),a4,fun ν hv=>⟨(a5 ν hv).1,mM (hc' ν) (by grind)⟩⟩,h2⟩
  ·obtain⟨S,⟨a1,a2,a3,a4,a5⟩,h2⟩:=ihy h;exact⟨S,⟨a1,a2,a3.mono (fun i hi=>by simp[asg,hi]),a4,fun ν hv=>⟨(a5 ν hv).1,mM (hc' ν) (by grind)⟩⟩,h2⟩
 |block i c ih=>
  intro tm ds H nx k r h;simp only[vz]at h;obtain⟨S,⟨a1,a2,a3,a4,a5⟩,h2⟩:=ih h;have e1:(Yj i S).H=S.H∧(Yj i S).tm=S.tm∧(Yj i S).nx=S.nx:=by
   unfold Yj;split
   ·cases Nat.beq _ i<;>exact⟨rfl,rfl,rfl⟩
   ·exact⟨rfl,rfl,rfl⟩
  refine⟨Yj i S,⟨by rw[e1.1];exact a1,by rw[e1.1];exact a2,by rw[e1.2.1];exact a3,by rw[e1.2.2];exact a4,fun ν hv=>⟨by rw[e1.1,e1.2.2];exact(a5 ν hv).1,?_⟩⟩,h2⟩;grind[zfn,Cz]
 |loop c ih=>
  intro tm ds H nx k r h;simp only[vz]at h;obtain⟨S,⟨b1,b2,b3,b4,b5⟩,h2⟩:=hE.loop h;exact⟨S,⟨b1,b2,b3,b4,fun ν hv=>⟨(b5 ν hv).1,ae (b5 ν hv).2⟩⟩,h2⟩
 |region id ops draw=>
  intro tm ds H nx k r h;cases draw with
  |false=>
   simp only[vz]at h;obtain⟨tm',H',nx',⟨a1,a2,a3,a4,a5⟩,h2⟩:=TR (zki hE hs) (j:=0) (ops:=ops) (fun i=>by simp) h;refine⟨⟨.normal,tm',ds,H',nx'⟩,⟨a1,a2,a3,a4,fun ν hv=>⟨(a5 ν hv).1,sK ?_⟩⟩,h2⟩;have:=(a5 ν hv).2;rw[zsW];simpa using this
  |true=>
   simp only[vz]at h;obtain⟨tm',H',nx',s1,h2⟩:=zml (id:=id) (ds:=ds) (zki hE hs) h;exact⟨_,s1,h2⟩
 |rangeFunc g ps assign body iha ihb=>
  grind[vz,zkk]
 |scope c ih=>
  intro tm ds H nx k r h;cases rd with
  |some l=>simp[vz]at h
  |none=>
   simp only[vz]at h;obtain⟨S1,⟨a1,a2,a3,a4,a5⟩,h1⟩:=ih h;split at h1
   ·rename_i l he;split at h1;case h_2=>cases h1
    rename_i rest hf;obtain⟨S,⟨b1,b2,b3,b4,b5⟩,h2⟩:=hE.scp hf (zbX hf) h1;refine⟨S,⟨a1.trans b1,a2.trans b2,a3.trans b3 (fun i hi=>hi) (fun i hi=>hi),zqw a4 b4,fun ν hv=>?_⟩,h2⟩;obtain⟨v1,o1⟩:=a5 ν hv;obtain⟨v2,o2⟩:=b5 ν v1;exact⟨v2,Kr (cN o1 he hf o2)⟩
   ·rename_i he;exact⟨S1,⟨a1,a2,a3,a4,fun ν hv=>⟨(a5 ν hv).1,Kr (iR (a5 ν hv).2 he)⟩⟩,h1⟩
 |refuse s=>grind[vz]
def ziL(P:Program)(E:EvS R)(rd:Option Nat)(c:Code)(tm:List SV)(ds:List Nat)(H:SH)(nx:Nat)(k:KC R):Option R:=match c with
 |.seq x y=>vz P E rd x tm ds H nx fun S=>match S.e with
  |.normal=>vz P E rd y S.tm S.ds S.H S.nx k
  |_=>k S
 |c=>vz P E rd c tm ds H nx k
theorem zmN{E:EvS R}(hE:E.Ok P)(hs:jA P){rd:Option Nat}{c:Code}{tm:List SV}{ds:List Nat}{H:SH}{nx:Nat}{k:KC R}{r:R}(h:ziL P E rd c tm ds H nx k=some r):∃S,Ze P rd c tm ds H nx S∧k S=some r:=by
 unfold ziL at h;split at h
 ·rename_i x y;obtain⟨S1,s1,h1⟩:=GI hE hs _ h;split at h1
  ·rename_i he;obtain⟨S,s2,h2⟩:=GI hE hs _ h1;exact⟨S,s1.seq he s2,h2⟩
  ·rename_i he;obtain⟨a1,a2,a3,a4,a5⟩:=s1;exact⟨S1,⟨a1,a2,a3.mono (fun i hi=>by simp[asg,hi]),a4,fun ν hv=>⟨(a5 ν hv).1,YB (a5 ν hv).2 he⟩⟩,h1⟩
 ·exact GI hE hs _ h
abbrev Tbl:=List (FuncId×Con)
def ziM:Tbl->FuncId->Option Con:=fun t f=>List.rec (motive:=fun _=>Option Con) none (fun x _ ih=>bif Nat.beq x.1 f then some x.2 else ih) t
def KI(P:Program)(t:Tbl):Prop:=∀x∈t,x.2.Ok P x.1
theorem zmO{t:Tbl}(h:KI P t){f:FuncId}{c:Con}:ziM t f=some c->c.Ok P f:=by
 induction t with
 |nil=>intro hf;cases hf
 |cons x r ih=>
  intro hf;have hf:(bif Nat.beq x.1 f then some x.2 else ziM r f)=some c:=hf;cases hb:Nat.beq x.1 f with
  |true=>
   rw[hb]at hf;cases hf;have:=zpK hb;subst this;exact h x (by simp)
  |false=>
   rw[hb]at hf;exact ih (fun y hy=>h y (zqP _ hy)) hf
def znB:Nat->Nat
 |0=>4096
 |n+1=>16*znB n
def zfo(P:Program)(t:Tbl)(lib:Lbs)(pl:yp)(jq:Code->Nat->Bool)(sp:Nat)(E:(R:Type)->EvS R)(R:Type):EvS R where
 call:=fun f args H nx k=>match ziM t f with
  |some c=>zmo c args H nx k
  |none=>zmx lib f args H nx k (Hn P (E R) f args H nx k)
 code:=fun rd c tm ds H nx k=>vz P (E R) rd c tm ds H nx k
 loop:=fun rd c tm ds H nx k=>match pl c tm H nx with
  |some _=>bif jq (.scope (.loop c)) tm.length then zfm E pl rd c tm ds H nx sp k else Hv (ar .normal) (fun _=>true) E pl rd c tm ds H nx sp k
  |none=>vz P (E R) rd c tm ds H nx fun S=>match S.e with
   |.normal=>(E R).loop rd c S.tm S.ds S.H S.nx k
   |_=>k S
 scp:=fun c l x tm ds H nx k=>match pl x tm H nx with
  |some _=>Hv (fun e=>ar e (.goto l)) Hx E pl none x tm ds H nx sp k
  |none=>vz P (E R) none x tm ds H nx fun S=>match S.e with
   |.goto l=>match findLabel c l with
    |some rest=>(E R).scp c l rest S.tm S.ds S.H S.nx k
    |none=>none
   |_=>k S
 join:=fun rd c tm ds H nx k=>ziK E pl rd c tm ds H nx sp k
 code0:=fun rd c tm ds H nx k=>ziL P (E R) rd c tm ds H nx k
 jq:=jq
theorem zou{t:Tbl}(ht:KI P t){lib:Lbs}(hlib:rD P lib){pl:yp}{jq:Code->Nat->Bool}{sp:Nat}{E:(R:Type)->EvS R}(hE:∀R,(E R).Ok P)(hs:jA P)(R:Type):(zfo P t lib pl jq sp E R).Ok P:=by
 refine⟨fun{f args H nx k r} h=>?_,fun h=>GI (hE R) hs _ h,fun{rd c tm ds H nx k r} h=>?_,fun{c l0 x tm ds H nx k r} hl0 hx h=>?_,fun h=>zmL hE h,fun h=>zmN (hE R) hs h⟩
 ·simp only[zfo]at h;split at h
  ·rename_i c hc;exact zon (zmO ht hc) h
  grind[zoq,rB]
 ·simp only[zfo]at h;split at h
  ·rcases vO h with⟨_,h⟩ | ⟨_,h⟩
   ·exact zkz hE h
   ·exact zmJ (fun e=>⟨fun h=>(dX h).symm,fun h=>by subst h;rfl⟩) hE h
  ·obtain⟨S1,⟨a1,a2,a3,a4,a5⟩,h1⟩:=GI (hE R) hs _ h;split at h1
   ·rename_i he;obtain⟨S,⟨b1,b2,b3,b4,b5⟩,h2⟩:=(hE R).loop h1;refine⟨S,⟨a1.trans b1,a2.trans b2,a3.trans b3 (fun i hi=>hi) (fun i hi=>hi),zqw a4 b4,fun ν hv=>?_⟩,h2⟩;obtain⟨v1,o1⟩:=a5 ν hv;obtain⟨v2,o2⟩:=b5 ν v1;exact⟨v2,mN o1 he o2⟩
   ·rename_i he;exact⟨S1,⟨a1,a2,a3,a4,fun ν hv=>⟨(a5 ν hv).1,pP (a5 ν hv).2 he⟩⟩,h1⟩
 ·simp only[zfo]at h;split at h
  ·exact zkw (fun e h=>dX h) hE hl0 hx h
  ·obtain⟨S1,⟨a1,a2,a3,a4,a5⟩,h1⟩:=GI (hE R) hs _ h;split at h1
   ·rename_i l he;split at h1;case h_2=>cases h1
    rename_i rest hf;obtain⟨S,⟨b1,b2,b3,b4,b5⟩,h2⟩:=(hE R).scp hf (zbX hf) h1;refine⟨S,⟨a1.trans b1,a2.trans b2,a3.trans b3 hx (fun i hi=>hi),zqw a4 b4,fun ν hv=>?_⟩,h2⟩;obtain⟨v1,o1⟩:=a5 ν hv;obtain⟨v2,o2⟩:=b5 ν v1;exact⟨v2,cN o1 he hf o2⟩
   ·rename_i he;exact⟨S1,⟨a1,a2,a3.mono hx,a4,fun ν hv=>⟨(a5 ν hv).1,iR (a5 ν hv).2 he⟩⟩,h1⟩
def evS(P:Program)(t:Tbl)(lib:Lbs)(pl:yp)(jq:Code->Nat->Bool):Nat->(R:Type)->EvS R
 |0=>fun _=>⟨fun _ _ _ _ _=>none,fun _ _ _ _ _ _ _=>none,fun _ _ _ _ _ _ _=>none,fun _ _ _ _ _ _ _ _=>none,fun _ _ _ _ _ _ _=>none,fun _ _ _ _ _ _ _=>none,fun _ _=>false⟩
 |n+1=>fun R=>zfo P t lib pl jq (znB n) (evS P t lib pl jq n) R
theorem Rl{t:Tbl}(ht:KI P t){lib:Lbs}(hlib:rD P lib){pl:yp}{jq:Code->Nat->Bool}(hs:jA P):∀n R,(evS P t lib pl jq n R).Ok P
 |0,R=>⟨(fun h=>by cases h),(fun h=>by cases h),(fun h=>by cases h),(fun _ _ h=>by cases h),(fun h=>by cases h),(fun h=>by cases h)⟩
 |n+1,R=>zou ht hlib (Rl ht hlib hs n) hs R
def XC:Code->Option Nat
 |.region i _ _=>some i
 |.seq a b=>match XC a with
  |some i=>some i
  |none=>XC b
 |.cond _ a b=>match XC a with
  |some i=>some i
  |none=>XC b
 |.block _ c=>XC c
 |.loop c=>XC c
 |.scope c=>XC c
 |_=>none
def Dv(P:Program)(f:FuncId):Bool:=match zdM P f with
 |some fn=>fn.body.isSome
 |none=>false
def Dw(b:List VT)(v:SV):List SV:=match b with
 |[_]=>[v]
 |_=>match v with
  |.tup vs=>vs
  |_=>[.junk]
def sFl(P:Program)(lib:Lbs)(t:Tbl)(pl:yp)(jq:Code->Nat->Bool)(n:Nat)(f:FuncId)(a b:List VT)(x:T (wA a)):Option (T (wA b)):=
 Hn P (evS P t lib pl jq n (T (wA b))) f (jg a x) [] 0 fun v H nx=>bif Nat.ble nx FZ then match gL b (Dw b v) H with
  |some (y,_)=>some y
  |none=>none
  else none
def sF(P:Program)(t:Tbl)(pl:yp)(jq:Code->Nat->Bool)(n:Nat)(f:FuncId)(a b:List VT)(x:T (wA a)):Option (T (wA b)):=sFl P ⟨[],[],[]⟩ t pl jq n f a b x
theorem zkA:∀{b:List VT} {v:SV} {H H':SH} {y:T (wA b)},gL b (Dw b v) H=some (y,H')->∀(ν:Nat->Bool) (G:SH) (φ:Ren) v',zp φ (den (rho ν G) v) v'->∃us,zD φ (zu (rho ν G) (Dw b v)) us∧∀φ0 ws,zD φ0 ws us->ws.length=b.length->zp φ0 (gI ws) v'
 |[],v,H,H',y,h=>by
  intro ν G φ v' hv;cases v with
  |tup vs=>
   simp only[den]at hv;obtain⟨ys,rfl,hl⟩:=hv.tuple_inv;refine⟨ys.toList,by simpa[Dw]using hl,fun φ0 ws hw hlen=>?_⟩;have:ws=[]:=zrh.1 hlen;subst this;exact .tuple' (by simpa using hw)
  |_=>simp[Dw,gL]at h
 |[a],v,H,H',y,h=>by
  intro ν G φ v' hv;refine⟨[v'],⟨hv,trivial⟩,fun φ0 ws hw hlen=>?_⟩
  match ws,hw with
  |[x],hw=>exact hw.1
 |a::b::r,v,H,H',y,h=>by
  intro ν G φ v' hv;cases v with
  |tup vs=>
   simp only[den]at hv;obtain⟨ys,rfl,hl⟩:=hv.tuple_inv;refine⟨ys.toList,by simpa[Dw]using hl,fun φ0 ws hw hlen=>?_⟩;have:gI ws=.tuple ws.toArray:=by
    match ws,hlen with
    |[],hlen=>simp at hlen
    |[x],hlen=>simp at hlen
    |_::_::_,_=>rfl
   rw[this];exact .tuple' (by simpa using hw)
  |_=>
   grind[Dw,gL]
theorem rM:∀(l:List VT) (x:T (wA l)),(jg l x).length=l.length
 |[],_=>rfl
 |a::r,x=>by simp[jg,rM r x.2]
theorem Dx{lib:Lbs}(hlib:rD P lib){t:Tbl}(ht:KI P t)(hs:jA P){pl:yp}{jq:Code->Nat->Bool}{n:Nat}{f:FuncId}(hf:Dv P f=true){a b:List VT}:Con.Ok P f ⟨a,b,sFl P lib t pl jq n f a b⟩:=by
 refine⟨?_,fun x y h=>?_⟩
 ·grind[Dv,FR]
 ·dsimp only at x y h ⊢;unfold sFl at h;obtain⟨v,H',nx',⟨_,a1,a2,a3,a4⟩,h1⟩:=rB (Rl ht hlib hs n _) h;have h6:=zT h1;clear h1;obtain⟨hz,h1⟩:=h6;have hz:=zqH hz;split at h1;case h_2=>cases h1
  rename_i y' H2 hcv;cases h1;obtain⟨hg,hr⟩:=Ye hcv;let ν:Nat->Bool:=fun _=>false;have hv0:VN ν 0 []:=⟨(fun b n hb=>WY hb),(fun b _=>rfl),(fun b hb=>by cases hb)⟩;obtain⟨v1,o1⟩:=a4 ν hv0;refine⟨zK ν H2,nx',hz,a3,fun φ w K us g hfr hl=>?_⟩;refine zrs (o1.2 φ w K us g hfr (by rw[VH a x (rho ν []) (fun _=>bad)];exact hl)) ?_;rintro e w' ⟨v',φ',rfl,x1,x2,x3,x4⟩;obtain⟨φ2,e1,g2⟩:=hg.2 ν φ' K w' x3;obtain⟨us',hu1,hu2⟩:=zkA hcv ν H' φ' v' x1;have hl2:=hr ν H2 (GLe.refl _) φ2 K w' nx' us' g2 (hg.1.vn v1) (hu1.mono (e1 0).1) (fun _=>bad);refine⟨v',φ2,rfl,?_,x2.trans (e1 nx') a3 (FW _),g2,x4⟩;grind[Yd,wq,rM]
theorem yT:zix P []:=fun x hx=>by cases hx
theorem zbY:rD P ⟨[],[],[]⟩:=⟨yT,(fun x hx=>by cases hx),fun x hx=>by cases hx⟩
theorem Rm{t:Tbl}(ht:KI P t)(hs:jA P){pl:yp}{jq:Code->Nat->Bool}{n:Nat}{f:FuncId}(hf:Dv P f=true){a b:List VT}:Con.Ok P f ⟨a,b,sF P t pl jq n f a b⟩:=Dx zbY ht hs hf
def sP(P:Program)(lib:Lbs)(t:Tbl)(pl:yp)(jq:Code->Nat->Bool)(n:Nat)(f:FuncId)(ty:Ty)(a b:List VT)(x:T ty)(y:T (wA a)):Option (T ty×T (wA b)):=
 Hn P (evS P t lib pl jq n (T ty×T (wA b))) f (.ptr 0 0::jg a y) [(0,.vars (jN ty x))] 1 fun v H nx=>bif Nat.ble nx FZ then match gL b (Dw b v) H with
  |some (r,H1)=>match zo H1 0 with
   |some (.vars cs)=>match cvE ty (cvC ty cs H1)with
    |some (x',_)=>some (x',r)
    |none=>none
   |_=>none
  |none=>none
  else none
theorem db{lib:Lbs}(hlib:rD P lib){t:Tbl}(ht:KI P t)(hs:jA P){pl:yp}{jq:Code->Nat->Bool}{n:Nat}{f:FuncId}(hf:Dv P f=true){ty:Ty}{a b:List VT}:QW.Ok P f ⟨ty,a,b,sP P lib t pl jq n f ty a b⟩:=by
 refine⟨?_,fun x y z h=>?_⟩
 ·grind[Dv,FR]
 ·dsimp only at x y z h ⊢;unfold sP at h;obtain⟨v,H',nx',⟨_,a1,a2,a3,a4⟩,h1⟩:=rB (Rl ht hlib hs n _) h;have h6:=zT h1;clear h1;obtain⟨hz,h1⟩:=h6;have hz:=zqH hz;split at h1;case h_2=>cases h1
  rename_i r H2 hcv;split at h1;case h_2=>cases h1
  rename_i cs hcs;split at h1;case h_2=>cases h1
  rename_i x' H3 hx';cases h1;obtain⟨hg,hr⟩:=Ye hcv;obtain⟨hg3,hr3⟩:=Rb hx';let ν:Nat->Bool:=fun _=>false;have hr0:∀c,reg (zo [(0,SB.vars (jN ty x))] c)=none:=fun c=>by
   by_cases hc:c=0
   ·subst hc;rfl
   ·have:zo [(0,SB.vars (jN ty x))] c=none:=by
     show(bif Nat.beq 0 c then some (SB.vars (jN ty x))else none)=none;cases hq:Nat.beq 0 c with
     |true=>exact absurd (zpK hq).symm hc
     |false=>rfl
    rw[this];rfl
  have hv0:VN ν 1 [(0,.vars (jN ty x))]:=⟨(fun c n hb=>by rw[hr0]at hb;cases hb),(fun c _=>rfl),(fun c hb=>by
   by_cases hc:c=0
   ·subst hc;cases hb
   ·have:zo [(0,SB.vars (jN ty x))] c=none:=by
     show(bif Nat.beq 0 c then some (SB.vars (jN ty x))else none)=none;cases hq:Nat.beq 0 c with
     |true=>exact absurd (zpK hq).symm hc
     |false=>rfl
    rw[this]at hb<;>cases hb)⟩
  obtain⟨v1,o1⟩:=a4 ν hv0;have hc0:zo H3 0=some (.vars cs):=ze9 hg3.1 hcs;have hd0:(zK ν H3).get 0=some (.cells (zu (rho ν H3) cs) false):=by rw[qe,hc0];rfl
  have hden:zK ν [(0,.vars (jN ty x))]=[(0,.cells (qA ty x) false)]:=by show[(0,Blk.cells (zu _ (jN ty x)) false)]=_;rw[qO,wt]
  have hfin:((zK ν H3).set 0 (.cells (qA ty x') false)).get 0=some (.cells (qA ty x') false):=by rw[Hp.get_set,zqI rfl,hd0];rfl
  refine⟨(zK ν H3).set 0 (.cells (qA ty x') false),nx',hz,⟨a3,fun φ w K us g hfr hl=>?_⟩,hfin⟩;have hl':zD φ (zu (rho ν [(0,.vars (jN ty x))]) (.ptr 0 0::jg a y)) us:=by show zD φ (.pointer (some ⟨0,0,none⟩)::zu _ (jg a y)) us;rw[VH a y _ (fun _=>bad)];exact hl
  refine zrs (o1.2 φ w K us (by rw[hden];exact g) hfr hl') ?_;rintro e w' ⟨v',φ',rfl,x1,x2,x3,x4⟩;obtain⟨φ2,e1,g2⟩:=(hg.trans hg3).2 ν φ' K w' x3;have hvn:=(hg.trans hg3).1.vn v1;obtain⟨us',hu1,hu2⟩:=zkA hcv ν H' φ' v' x1;have hl2:=hr ν H3 hg3.1 φ2 K w' nx' us' g2 hvn (hu1.mono (e1 0).1) (fun _=>bad);obtain⟨L,hL,hB⟩:=g2.rel 0 _ hd0;have hB2:ju φ2 w' L (.cells (qA ty x') false):=by obtain⟨arr,el,fr,b1,b2,b3⟩:=hB;obtain⟨ws,q1,q2⟩:=TY _ _ b2;have q3:=hr3 ν H3 (GLe.refl _) φ2 K w' nx' ws g2 hvn (by rw[<-show rho ν H3=rho ν H2 from hg3.1.rho ν];exact q1);refine⟨arr,el,fr,b1,fun j v hj=>?_,b3⟩;obtain⟨v',s1,s2⟩:=q3.get hj;exact⟨v',q2 j v' s1,s2⟩
  refine⟨v',φ2,rfl,?_,x2.trans (e1 nx') a3 (FW _),zF.upd g2 hd0 rfl hL (fun _ _=>rfl) rfl hB2,x4⟩;grind[Yd,wq,rM]
def sO(P:Program)(lib:Lbs)(t:Tbl)(pl:yp)(jq:Code->Nat->Bool)(n:Nat)(f:FuncId)(pre:List VT)(et rest:Ty)(post:List VT)(x:T (wA pre))(l:List (T et))(y:T rest)(z:T (wA post)):Option (List (T et)×T rest):=
 Hn P (evS P t lib pl jq n (List (T et)×T rest)) f (jg pre x++.agg (.own 0::jN rest y)::jg post z) [(0,.arr true et l)] 1 fun v H nx=>bif Nat.ble nx FZ then match v with
  |.agg (.own m::cs)=>match cvE rest (cvC rest cs H)with
   |some (y',H1)=>match zo H1 m with
    |some (.arr true t' l')=>if h:t'=et then some (kW h l',y')else none
    |_=>none
   |none=>none
  |_=>none
  else none
theorem znC{lib:Lbs}(hlib:rD P lib){t:Tbl}(ht:KI P t)(hs:jA P){pl:yp}{jq:Code->Nat->Bool}{n:Nat}{f:FuncId}(hf:Dv P f=true){pre:List VT}{et rest:Ty}{post:List VT}:Gy.Ok P f ⟨pre,et,rest,post,sO P lib t pl jq n f pre et rest post⟩:=by
 refine⟨?_,fun x l y z r h=>?_⟩
 ·grind[Dv,FR]
 ·dsimp only at x l y z r h ⊢;unfold sO at h;obtain⟨v,H',nx',⟨_,a1,a2,a3,a4⟩,h1⟩:=rB (Rl ht hlib hs n _) h;have h6:=zT h1;clear h1;obtain⟨hz,h1⟩:=h6;have hz:=zqH hz;split at h1;case h_2=>cases h1
  rename_i m cs;split at h1;case h_2=>cases h1
  rename_i y' H1 hy';split at h1;case h_2=>cases h1
  rename_i t' l' hm;split at h1;case isFalse=>cases h1
  rename_i htt;subst htt;cases h1;obtain⟨hg,hr⟩:=Rb hy';let ν:Nat->Bool:=fun _=>false;have hv0:VN ν 1 [(0,.arr true t' l)]:=⟨(fun c n hb=>WY hb),(fun c _=>rfl),fun c _=>rfl⟩;obtain⟨v1,o1⟩:=a4 ν hv0;have hden:zK ν [(0,.arr true t' l)]=[(0,.cells (qm t' l) false)]:=rfl;have hr0:rho ν [(0,.arr true t' l)] 0=rC 0 l.length (sz t'):=by rw[xX ν (nn:=true) (t:=t') (l:=l) rfl];rfl
  have hm1:(zK ν H1).get m=some (.cells (qm t' l') false):=by rw[qe,hm];rfl
  have hrm:rho ν H1 m=rC m l'.length (sz t'):=by rw[xX ν (nn:=true) (t:=t') (l:=l') (by rw[hm];rfl)];rfl
  refine⟨zK ν H1,nx',m,hz,⟨a3,fun φ w K us g hfr hl=>?_⟩,hm1⟩;have hl':zD φ (zu (rho ν [(0,.arr true t' l)]) (jg pre x++.agg (.own 0::jN rest y)::jg post z)) us:=by
   rw[mU];simp only[zu,den];have he:zu (rho ν [(0,.arr true t' l)]) (jN rest y)=qA rest y:=by rw[qO,wt]
   rw[VH pre x _ (fun _=>bad),VH post z _ (fun _=>bad),hr0,he];exact hl
  refine zrs (o1.2 φ w K us (by rw[hden];exact g) hfr hl') ?_;rintro e w' ⟨v',φ',rfl,x1,x2,x3,x4⟩;obtain⟨φ2,e1,g2⟩:=hg.2 ν φ' K w' x3;have hvn:=hg.1.vn v1;refine⟨v',φ2,rfl,?_,x2.trans (e1 nx') a3 (FW _),g2,x4⟩;simp only[den]at x1;obtain⟨ys,rfl,kl⟩:=x1.agg_inv;refine .agg' ?_;cases hys:ys.toList with
  |nil=>rw[hys]at kl;exact kl.elim
  |cons u us=>
   rw[hys]at kl;simp only[zu,den]at kl;refine⟨?_,hr ν H1 (GLe.refl _) φ2 K w' nx' us g2 hvn (zD.mono (e1 0).1 kl.2)⟩;show zp φ2 (rC m l'.length (sz t')) u;rw[<-hrm,hg.1.rho ν];exact kl.1.mono (e1 0).1
end Go.Fz.Sy
end
