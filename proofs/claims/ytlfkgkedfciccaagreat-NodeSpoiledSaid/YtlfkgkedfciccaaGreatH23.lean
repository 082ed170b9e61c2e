/- Parts of a proof, joined. -/
import Derived.IntWalk
import Derived.Test.YtlfkgkedfciccaaGreatH22
set_option linter.unusedSectionVars false
set_option linter.unusedVariables false
set_option linter.unusedSimpArgs false
set_option maxHeartbeats 0
set_option maxRecDepth 100000
noncomputable section
namespace Go.Fz.Sy
variable {P:Program} {φ:Ren} {H:Hp} {K:Nat→Prop} {w:World}
theorem CW(g:zF φ H K w){nx b:Nat}(hfr:φ nx=none)(hzn:nx < FZ){cs:List Value}(hb:H.get b=some (.cells cs false)) : ∃φ',Ext K φ φ' nx (nx+1)∧zF φ' ((nx,.cells cs false)::H.del b) K w∧(∀L,φ b=some L->φ' nx=some L):=by
 obtain⟨L,hL,hB⟩:=g.rel b _ hb;have hle:=Ren.put_le hfr L;have getd:∀d,Hp.get ((nx,Blk.cells cs false)::H.del b) d=if d=nx then some (.cells cs false)else if d=b then none else H.get d:=by
  intro d;by_cases h:d=nx
  ·subst h;simp[Hp.get_cons]
  ·have:¬nx=d:=fun e=>h e.symm;simp[Hp.get_cons,h,this,Hp.get_del]
 refine⟨φ.put nx L,Ext.put hfr hzn _,⟨fun d k hd=>?_,fun d d' k k' M M' hd hd' hne hk hM hM'=>?_,fun d k M hd hk hM=>?_,g.kin,fun d M hM=>?_,fun d k M e N hd hk hM hN=>?_⟩,fun L2 h2=>?_⟩
 ·rw[getd]at hd;by_cases hdn:d=nx
  ·subst hdn;simp at hd;subst hd;exact⟨L,Ren.put_same _ _ _,hB.mono hle⟩
  ·simp[hdn]at hd;obtain⟨M,hM,hr⟩:=g.rel d k hd.2;exact⟨M,by rw[Ren.put_other _ _ hdn];exact hM,hr.mono hle⟩
 ·rw[getd]at hd hd';by_cases hdn:d=nx
  ·subst hdn;have hdn':¬d'=d:=fun e=>hne e.symm;simp[hdn']at hd';rw[Ren.put_same]at hM;cases hM;rw[Ren.put_other _ _ hdn']at hM';exact g.sep b d' _ k' L M' hb hd'.2 (fun e=>hd'.1 e.symm) rfl hL hM'
  ·simp[hdn]at hd;rw[Ren.put_other _ _ hdn]at hM;by_cases hdn':d'=nx
   ·subst hdn';rw[Ren.put_same]at hM';cases hM';exact g.sep d b k _ M L hd.2 hb hd.1 hk hM hL
   ·simp[hdn']at hd';rw[Ren.put_other _ _ hdn']at hM';exact g.sep d d' k k' M M' hd.2 hd'.2 hne hk hM hM'
 ·rw[getd]at hd;by_cases hdn:d=nx
  ·subst hdn;rw[Ren.put_same]at hM;cases hM;exact g.prot b _ L hb rfl hL
  ·simp[hdn]at hd;rw[Ren.put_other _ _ hdn]at hM;exact g.prot d k M hd.2 hk hM
 ·rw[Ren.put_other _ _ (by omega)]at hM;exact g.fz d M hM
 ·rw[Ren.put_other _ _ (by omega)]at hN;rw[getd]at hd;by_cases hdn:d=nx
  ·subst hdn;rw[Ren.put_same]at hM;cases hM;exact g.fsep b _ L e N hb rfl hL hN
  ·simp[hdn]at hd;rw[Ren.put_other _ _ hdn]at hM;exact g.fsep d k M e N hd.2 hk hM hN
 grind[Ren.put_same]
theorem zgs(g:zF φ H K w){nx:Nat}(hfr:φ nx=none)(hzn:nx < FZ){t e:TypeId}{ie:TypeInfo}{z:Value}{kl kc:IntKind}{zl zc:Int}(hu:P.underlying t=some (.slice e))(hie:P.info? e=some ie)(hz:ie.zero=some z)(hw1:IntKind.i64.wrap zl=zl)(hw2:IntKind.i64.wrap zc=zc)(h0:0<=zl)(h1:zl<=zc)(h48:(ie.bytes:Int)*zc<=2 ^ 48)(hpos:0 < z.cells.size)(hzs:z.cells.size=ie.size)(hav:avL z.cells.toList=true){cs:List Value}(hcs:cs=(List.replicate zl.toNat z.cells.toList).flatten) : ∃v' w' φ',(Instr.makeSlice t (.int kl zl) (.int kc zc)).run P w=.ok v' w'∧zp φ' (.slice (some ⟨nx,0,none⟩) zl.toNat (qw+ie.size)) v'∧Ext K φ φ' nx (nx+1)∧zF φ' ((nx,.cells cs false)::H) K w'∧qJ K w w':=by
 have hall:∀n:Nat,((Array.range (n*ie.size)).map (z.cells[· % z.cells.size]!)).toList=(List.replicate n z.cells.toList).flatten:=by
  intro n;rw[Array.toList_map,Array.toList_range];induction n with
  |zero=>simp
  |succ n ih=>
   have e1:(n+1)*ie.size=n*ie.size+ie.size:=by rw[zrE,ztf]
   rw[List.replicate_succ',List.flatten_append,<-ih,e1,List.range_add,zrJ];congr 1;simp only[List.map_map,zsQ,List.flatten_nil,zri];apply List.ext_getElem
   ·simp[hzs]
   ·intro j h2 h3;have hj:j < z.cells.size:=by simpa using h3
    simp only[List.getElem_map,List.getElem_range,Function.comp];have:(n*ie.size+j) % z.cells.size=j:=by rw[hzs,Nat.mul_comm,Nat.mul_add_mod];exact Nat.mod_eq_of_lt (by omega)
    rw[this];simp[hj]
 have hlen:∀n:Nat,((List.replicate n z.cells.toList).flatten).length=n*ie.size:=fun n=>by simp[hzs]
 have havn:∀n:Nat,avL (List.replicate n z.cells.toList).flatten=true:=by
  intro n;have happ:∀(a b:List Value),avL a=true->avL b=true->avL (a++b)=true:=by
   intro a b h2 h3;induction a with
   |nil=>exact h3
   |cons x a ih=>simp only[avL,List.cons_append,FT]at h2 ⊢;exact⟨h2.1,ih h2.2⟩
  induction n with
  |zero=>rfl
  |succ n ih=>rw[zrK,zsQ];exact happ _ _ hav ih
 have hsplit:(List.replicate zc.toNat z.cells.toList).flatten=cs++(List.replicate (zc.toNat - zl.toNat) z.cells.toList).flatten:=by rw[hcs,<-List.flatten_append,List.replicate_append_replicate];congr 2;omega
 have hg:=g.make hfr hzn (Gi (by rw[hcs];exact havn _):zD φ cs cs) e (zc.toNat*ie.size) ((List.replicate (zc.toNat - zl.toNat) z.cells.toList).flatten) (by
  have h2:=zqR List.length hsplit;rw[hlen,zrt]at h2;omega)
 rw[<-hsplit]at hg;refine⟨.slice (some ⟨w.heap.size,0,none⟩) zl.toNat zc.toNat,w.alloc (.cells ((Array.range (zc.toNat*ie.size)).map (z.cells[· % z.cells.size]!)) e),φ.put nx ⟨w.heap.size,0,zc.toNat*ie.size,#[]⟩,?_,?_,Ext.put hfr hzn _,?_,qJ.alloc g _⟩
 ·have c1:(decide (zc < 0)||decide ((ie.bytes:Int)*zc > 2 ^ 48))=false:=by simp;omega
  have c2:¬(zl < 0):=by omega
  have c3:¬(zl > zc):=by omega
  by_cases hq:zc.toNat*ie.size=0
  ·simp only[Instr.makeSlice,zqG,zqz hu,zqE,asInt,asIntOf,typeInfo,zth,hie,zqN,hw1,hw2];simp only[c1,c2,c3,zsg,zsB,zqB,zqZ,zqN,zqE,run_askRoom,qW hie,zqG,hq,zqF,Cu,newRow,run_newObj];rfl
  ·simp only[Instr.makeSlice,zqG,zqz hu,zqE,asInt,asIntOf,typeInfo,zth,hie,zqN,hw1,hw2];simp only[c1,c2,c3,zsg,zsB,zqB,zqZ,zqN,zqE,run_askRoom,qW hie,zqG,hq,xl hie hz,newRow,run_newObj];rfl
 ·have:=zp.slO (φ:=φ.put nx ⟨w.heap.size,0,zc.toNat*ie.size,#[]⟩) nx 0 zl.toNat (qw+ie.size) zc.toNat _ (Ren.put_same _ _ _) (by omega) (by omega) (by simp);simpa using this
 grind[Array.range,List.replicate,Array.ext']
theorem zj4(g:zF φ H K w){t ts ty e:TypeId}{ie:TypeInfo}(hu:P.underlying t=some (.slice e))(hie:P.info? e=some ie){b n c:Nat}{cs:List Value}(hb:H.get b=some (.cells cs false)){d' x' x:Value}(hd:zp φ (.slice (some ⟨b,0,none⟩) n c) d'){m:Nat}{news:List Value}(hsrc:ue H ie.size x=some (m,news))(hx:zp φ x x')(hn:cs.length=n*ie.size)(hp:0 < ie.size)(h1:Qd news=true) : ∃w',(Builtin.copy_ #[t,ts] ty #[d',x']).run P w=.ok (goInt (Nat.min m n)) w'∧zF φ (H.set b (.cells (spl cs 0 (news.take (Nat.min m n*ie.size))) false)) K w'∧qJ K w w':=by
 obtain⟨ax',cx',us,rfl,hul,hur,hu0,hax,hcell⟩:=Xx g hsrc hx;have hd':∃a' c',d'=.slice a' n c'∧(n≠0->∃L,φ b=some L∧a'=some ⟨L.blk,L.off+0,none⟩):=by cases hd<;>grind
 obtain⟨a',c',rfl,hna⟩:=hd';by_cases h0:Nat.min m n=0
 ·have hset:H.set b (.cells (spl cs 0 (news.take (Nat.min m n*ie.size))) false)=H.set b (.cells cs false):=by rw[h0];simp[spl]
  refine⟨w,?_,?_,qJ.refl _ _⟩
  ·cases ax'<;>cases a'<;>simp[Builtin.copy_,zqz hu,Builtin.lenOf,h0,qW hie,Builtin.firstCells,loadCells,loadCellsFrom,storeCells]
  ·rw[hset];refine g.sub fun d k hd=>?_;grind[Hp.get_set]
 ·have hn0:n≠0:=fun e=>h0 (by grind);have hm0:m≠0:=fun e=>h0 (by grind);obtain⟨L,hL,rfl⟩:=hna hn0;have hk:Nat.min m n*ie.size<=m*ie.size:=zrD _ (Nat.min_le_left _ _);have hk2:Nat.min m n*ie.size<=n*ie.size:=zrD _ (Nat.min_le_right _ _);have hlen:=hur.length;have hl2:(news.take (Nat.min m n*ie.size)).length=Nat.min m n*ie.size:=by simp;omega
  have hpos:0 < Nat.min m n*ie.size:=ztB (Nat.pos_of_ne_zero h0) hp;have hone:∀(l:List Value) (j:Nat),Qd l=true->Qd (l.take j)=true:=by
   intro l;induction l with
   |nil=>grind
   |cons x l ih=>
    intro j h;cases j<;>grind[Qd]
  obtain⟨w',hst,hg,hw⟩:=g.write P hb hL 0 (by rw[hl2,hn];omega) (hone _ _ h1) (hur.take (Nat.min m n*ie.size)) (by grind);refine⟨w',?_,hg,hw⟩;cases ax' with
  |none=>grind
  |some a=>
   have hf:=zsG (P:=P) w ie.size (Nat.min m n) a m cx' (us.take (Nat.min m n*ie.size)) (by simp;omega) (fun j v hv=>by
    grind)
   simp[Builtin.copy_,zqz hu,Builtin.lenOf,qW hie,hf]at hst ⊢;rw[hst];simp
end Go.Fz.Sy
namespace Go.Fz.Sy
variable {P:Program} {φ:Ren} {K:Nat→Prop} {w:World} {R:Type}
abbrev KO(R:Type):=SV->SH->Nat->Option R
def vl(P:Program)(rd:Option Nat)(o:Oper)(tm:List SV)(H:SH)(nx:Nat)(k:KO R)(r:R):Prop:=∃v H' nx',SOp P rd o tm H nx v H' nx'∧k v H' nx'=some r
theorem xm{rd:Option Nat}{o:Oper}{tm:List SV}{H H':SH}{nx nx':Nat}{k:KO R}{r:R}{v:SV}(h:SOp P rd o tm H nx v H' nx')(hk:k v H' nx'=some r):vl P rd o tm H nx k r:=⟨v,H',nx',h,hk⟩
theorem vO{b:Bool}{x y:Option R}{r:R}(h:(bif b then x else y)=some r):(b=true∧x=some r)∨(b=false∧y=some r):=by grind
def zh9(tm:List SV)(H:SH)(nx:Nat)(c a b:Operand)(k:KO R):Option R:=match jF tm H c with
 |some (.bool c)=>match jF tm H a,jF tm H b with
  |some x,some y=>bif c then k x H nx else k y H nx
  |_,_=>none
 |_=>none
theorem zlR{rd:Option Nat}{o:Oper}{tm:List SV}{H:SH}{nx:Nat}{k:KO R}{r:R}{c a b:Operand}(ho:o.op=.pick c a b)(h:zh9 tm H nx c a b k=some r):vl P rd o tm H nx k r:=by
 unfold zh9 at h;split at h;case h_2=>cases h
 rename_i cb hc;split at h;case h_2=>cases h
 rename_i x y hx hy;rcases vO h with⟨rfl,h⟩ | ⟨rfl,h⟩
 ·refine xm (uf (FW _) fun ν=>?_) h;have h1:=qq hc ν;simp only[den]at h1;unfold jU;simp only[ho,h1,qq hx ν];rfl
 ·refine xm (uf (FW _) fun ν=>?_) h;have h1:=qq hc ν;simp only[den]at h1;unfold jU;simp only[ho,h1,qq hy ν];rfl
def wG(k:IntKind)(a b:Int):Int:=a.fdiv (2 ^ (min b.toNat k.bits))
def wk(k:IntKind)(a b:Int):Int:=k.wrap (a*2 ^ (min b.toNat k.bits))
theorem PF{t:TypeId}{op:BinOp}{k k':IntKind}{a b r:Int}(hf:Vy op (.int k a) (.int k' b)=none)(xo yo:Operand)(h:qH P (do eqGuard op t xo yo (.int k a) (.int k' b);binOp op t (.int k a) (.int k' b))=some (.int k r)):yF P op t xo yo (.int k a) (.int k' b)=some (.int k r):=by unfold yF sc;rw[hf,h];rfl
theorem zn1{t:TypeId}{k:IntKind}{a b:Int}(hb:b≠0)(xo yo:Operand):yF P .rem t xo yo (.int k a) (.int k b)=some (.int k (a.tmod b)):=by refine PF (by unfold Vy;simp[lj]) xo yo ?_;show qH P (if k≠k then stuck _ else Op.intDiv .rem k a b)=_;rw[zqu (by simp)];unfold Op.intDiv;rw[zqu hb];rfl
theorem zn2{t:TypeId}{k:IntKind}{a b:Int}(hb:b≠0)(xo yo:Operand):yF P .quo t xo yo (.int k a) (.int k b)=some (.int k (k.wrap (a.tdiv b))):=by refine PF (by unfold Vy;simp[lj]) xo yo ?_;show qH P (if k≠k then stuck _ else Op.intDiv .quo k a b)=_;rw[zqu (by simp)];unfold Op.intDiv;rw[zqu hb];rfl
theorem PG{op:BinOp}(h:op=.shl∨op=.shr)(k k':IntKind)(a b:Int):Vy op (.int k a) (.int k' b)=none:=by grind[Vy,gH]
theorem zn3{t:TypeId}{k k':IntKind}{a b:Int}(hb:0<=b)(xo yo:Operand):yF P .shr t xo yo (.int k a) (.int k' b)=some (.int k (wG k a b)):=by refine PF (PG (.inr rfl) ..) xo yo ?_;show qH P (Op.shift .shr k a k' b)=_;unfold Op.shift;rw[zqu (by omega)];rfl
theorem zn4{t:TypeId}{k k':IntKind}{a b:Int}(hb:0<=b)(xo yo:Operand):yF P .shl t xo yo (.int k a) (.int k' b)=some (.int k (wk k a b)):=by refine PF (PG (.inl rfl) ..) xo yo ?_;show qH P (Op.shift .shl k a k' b)=_;unfold Op.shift;rw[zqu (by omega)];rfl
def zlS(tm:List SV)(H:SH)(nx:Nat)(op:BinOp)(x y:Operand)(k:KO R):Option R:=match jF tm H x,jF tm H y with
 |some (.int i a),some (.int j b)=>match op with
  |.quo=>bif gH i j then(bif zj b 0 then none else k (.int i (wrF i (a.tdiv b))) H nx)else none
  |.rem=>bif gH i j then(bif zj b 0 then none else k (.int i (a.tmod b)) H nx)else none
  |.shr=>bif zg b 0 then none else k (.int i (wG i a b)) H nx
  |.shl=>bif zg b 0 then none else k (.int i (wk i a b)) H nx
  |_=>none
 |_,_=>none
theorem zn5{rd:Option Nat}{o:Oper}{tm:List SV}{H:SH}{nx:Nat}{k:KO R}{r:R}{op:BinOp}{t u:TypeId}{x y:Operand}(ho:o.op=.binOp op t x y u)(h:zlS tm H nx op x y k=some r):vl P rd o tm H nx k r:=by
 unfold zlS at h;split at h;case h_2=>cases h
 rename_i i a j b hx hy;have key:∀z,(∀xo yo,yF P op t xo yo (.int i a) (.int j b)=some (.int i z))->k (.int i z) H nx=some r->vl P rd o tm H nx k r:=fun z hz hk=>by refine xm (uf (FW _) fun ν=>?_) hk;have h1:=qq hx ν;have h2:=qq hy ν;simp only[den]at h1 h2;unfold jU;simp only[ho,h1,h2,zqt,zbe (hz _ _),den];rfl
 grind[gy,yB,ZB,zn2,zn1,wO,zn3,zn4]
def atI{α:Type}(l:List α)(z:Int):Option α:=match z with
 |.ofNat n=>gl l n
 |.negSucc _=>none
theorem MP{α:Type}{l:List α}{z:Int}{x:α}(h:atI l z=some x):0<=z∧z < l.length∧l[z.toNat]?=some x:=by unfold atI at h;split at h;all_goals grind[xk,List.getElem?_eq_some_iff,Int.natCast_nonneg]
def opt{α:Type}(x:Option α)(f:α->Option R):Option R:=match x with
 |some a=>f a
 |none=>none
theorem ug{α:Type}{x:Option α}{f:α->Option R}{r:R}(h:opt x f=some r):∃a,x=some a∧f a=some r:=by
 cases x with
 |none=>cases h
 |some a=>exact⟨a,rfl,h⟩
def Hf:Nat->Nat->Int->(Nat->Option R)->Option R
 |0,_,_,_=>none
 |m+1,j,i,f=>bif zj i j then f j else Hf m (j+1) i f
theorem cV{f:Nat->Option R}{r:R}{i:Int}:∀{m j:Nat},Hf m j i f=some r->∃n:Nat,i=n∧j<=n∧n < j+m∧f n=some r
 |0,_,h=>by cases h
 |m+1,j,h=>by
  simp only[Hf]at h;rcases vO h with⟨h1,h2⟩ | ⟨_,h2⟩
  ·grind[yB]
  ·obtain⟨n,e1,e2,e3,e4⟩:=cV h2;grind
def Yb(P:Program)(e:TypeId)(n:Nat):Bool:=match jr P e with
 |some i=>Nat.beq i.size n
 |none=>false
theorem Qe{e:TypeId}{n:Nat}(h:Yb P e n=true):∃i,jr P e=some i∧i.size=n:=by grind[Yb,Nat.eq_of_beq_eq_true]
def TQ(P:Program)(tm:List SV)(H:SH)(nx:Nat)(t:TypeId)(x i:Operand)(k:KO R):Option R:=match jF tm H x,jF tm H i with
 |some v,some (.int _ z)=>match jh P t with
  |some (.slice e)=>match v with
   |.lst ty l _=>bif Yb P e (sz ty)then opt (atI l z) fun y=>k (.fel ty y 0) H nx else none
   |.own b=>match zo H b with
    |some (.arr _ ty l)=>bif Yb P e (sz ty)then opt (atI l z) fun _=>k (.elp b (sz ty) z.toNat 0) H nx else none
    |some (.roa _ ty l)=>bif Yb P e (sz ty)then opt (atI l z) fun _=>k (.elp b (sz ty) z.toNat 0) H nx else none
    |_=>none
   |.slv b n=>bif Yb P e 1 then Hf n 0 z fun j=>k (.ptr b j) H nx else none
   |_=>none
  |some (.array n e)=>match v with
   |.ptr b o=>match zo H b with
    |some (.arr _ ty l)=>bif Nat.beq o 0&&Yb P e (sz ty)then(bif zg z n then opt (atI l z) fun _=>k (.elp b (sz ty) z.toNat 0) H nx else none)else none
    |_=>match jr P e with
     |some ie=>Hf n 0 z fun j=>k (.ptr b (o+j*ie.size)) H nx
     |none=>none
   |_=>none
  |_=>none
 |_,_=>none
theorem nW{z:Int}{n:Nat}{k:IntKind}(h0:0<=z)(h1:z < n):idx (.int k z) n=some z.toNat:=by simp[idx,h0,h1]
theorem zia{rd:Option Nat}{o:Oper}{tm:List SV}{H:SH}{nx:Nat}{k:KO R}{r:R}{t:TypeId}{x i:Operand}(ho:o.op=.indexAddr t x i)(h:TQ P tm H nx t x i k=some r):vl P rd o tm H nx k r:=by
 unfold TQ at h;split at h;case h_2=>cases h
 rename_i v ik z hx hi;have hi':=fun ν=>qq hi ν;have hx':=fun ν=>qq hx ν;simp only[den]at hi';have own:∀(b:Nat) (nn:Bool) (ty:Ty) (l:List (T ty)) (e:TypeId),v=.own b->reg (zo H b)=some (l.length,rsz nn ty l)->jh P t=some (.slice e)->(bif Yb P e (sz ty)then opt (atI l z) fun _=>k (.elp b (sz ty) z.toNat 0) H nx else none)=some r->vl P rd o tm H nx k r:=by
  rintro b nn ty l e rfl hr hu h;obtain⟨h1,h⟩:=zT h;obtain⟨y,hy,h⟩:=ug h;obtain⟨e1,e2,e3⟩:=MP hy;obtain⟨ie,hie,hsz⟩:=Qe h1;refine xm ⟨jV.refl H,wc.refl H,FW _,fun ν hv=>⟨hv,ym ?_⟩⟩ h;have hn:jE nn l=false:=nU (fun h=>by grind);have hρ:den (rho ν H) (.own b)=.slice (some ⟨b,0,none⟩) l.length (qw+sz ty):=by grind[den,xX]
  have h2:=hx' ν;rw[hρ]at h2;unfold jU;simp only[ho,h2,hi' ν,zqt];have h3:yC P t (.slice (some ⟨b,0,none⟩) l.length (qw+sz ty)) (.int ik z)=some (.pointer (some ⟨b,z.toNat*sz ty,none⟩)):=by simp[yC,hu,nW e1 e2,hie,hsz]
  simp only[h3,den];rfl
 split at h
 ·rename_i e hu;split at h
  ·rename_i ty l full;obtain⟨h1,h⟩:=zT h;obtain⟨y,hy,h⟩:=ug h;obtain⟨e1,e2,e3⟩:=MP hy;obtain⟨ie,hie,hsz⟩:=Qe h1;refine xm (uf (FW _) fun ν=>?_) h;have hes:vr (den (rho ν H) (.lst ty l full))=some (sz ty,(l.map (wv ty)).toArray,full):=by cases full<;>simp[den,fzV,vr]
   have h2:zdO P t (den (rho ν H) (.lst ty l full)) (.int ik z)=some (.iface 0 (.iface 0 (wv ty y))):=by
    have h4:idx (.int ik z) ((l.map (wv ty)).toArray).size=some z.toNat:=by rw[show((l.map (wv ty)).toArray).size=l.length by simp];exact nW e1 e2
    have h5:((l.map (wv ty)).toArray)[z.toNat]?=some (wv ty y):=by simp[e3]
    unfold zdO;simp only[hes,hu,h4,hie,h5,hsz,zqF]
   have h3:yC P t (den (rho ν H) (.lst ty l full)) (.int ik z)=none:=by cases full<;>simp[den,fzV,yC,hu]
   grind[jU,un1,den]
  ·rename_i b;split at h
   ·rename_i nn ty l hb;exact own b nn ty l e rfl (by rw[hb];rfl) hu h
   ·rename_i nn ty l hb;exact own b nn ty l e rfl (by rw[hb];rfl) hu h
   ·cases h
  ·rename_i b n;obtain⟨h1,h⟩:=zT h;obtain⟨ie,hie,hsz⟩:=Qe h1;obtain⟨j,rfl,_,e3,h⟩:=cV h;refine xm (uf (FW _) fun ν=>?_) h;have h4:idx (.int ik (j:Int)) n=some j:=by have:=nW (k:=ik) (z:=(j:Int)) (n:=n) (zsK j) (by omega);simpa using this
   have h3:yC P t (den (rho ν H) (.slv b n)) (.int ik (j:Int))=some (.pointer (some ⟨b,j,none⟩)):=by simp[yC,hu,den,h4,hie,hsz]
   grind[jU,un1,den]
  ·cases h
 ·rename_i n e hu;split at h;case h_2=>cases h
  rename_i b off;split at h
  ·rename_i nn ty l hb;obtain⟨h1,h5⟩:=zT h;simp only[FT]at h1;obtain⟨h2,h6⟩:=zT h5;rw[wO]at h2;have h2:=zsP h2;have:=zpK h1.1;subst this;obtain⟨y,hy,h7⟩:=ug h6;obtain⟨e1,e2,e3⟩:=MP hy;obtain⟨ie,hie,hsz⟩:=Qe h1.2;refine xm (uf (FW _) fun ν=>?_) h7;have h3:yC P t (den (rho ν H) (.ptr b 0)) (.int ik z)=some (.pointer (some ⟨b,z.toNat*sz ty,none⟩)):=by simp[yC,hu,den,nW e1 h2,hie,hsz]
   unfold jU;simp only[ho,hx' ν,hi' ν,zqt,h3];simp[un1,den]
  split at h;case h_2=>cases h
  rename_i ie hie;obtain⟨j,rfl,_,e3,h⟩:=cV h;refine xm (uf (FW _) fun ν=>?_) h;have h4:idx (.int ik (j:Int)) n=some j:=by have:=nW (k:=ik) (z:=(j:Int)) (n:=n) (zsK j) (by omega);simpa using this
  have h3:yC P t (den (rho ν H) (.ptr b off)) (.int ik (j:Int))=some (.pointer (some ⟨b,off+j*ie.size,none⟩)):=by simp[yC,hu,den,h4,hie]
  grind[jU,un1,den]
 ·cases h
def zew(P:Program)(tm:List SV)(H:SH)(nx:Nat)(t:TypeId)(x i:Operand)(k:KO R):Option R:=match jF tm H x,jF tm H i with
 |some (.agg cs),some (.int _ z)=>match jh P t with
  |some (.array n e)=>match jr P e with
   |some ie=>Hf n 0 z fun j=>opt (Hc P e cs (j*ie.size)) fun v=>k v H nx
   |none=>none
  |_=>none
 |_,_=>none
theorem zj5{rd:Option Nat}{o:Oper}{tm:List SV}{H:SH}{nx:Nat}{k:KO R}{r:R}{t:TypeId}{x i:Operand}(ho:o.op=.index t x i)(h:zew P tm H nx t x i k=some r):vl P rd o tm H nx k r:=by
 unfold zew at h;split at h;case h_2=>cases h
 rename_i cs ik z hx hi;split at h;case h_2=>cases h
 rename_i n e hu;split at h;case h_2=>cases h
 rename_i ie hie;obtain⟨j,rfl,_,e3,h⟩:=cV h;obtain⟨v,hv,h⟩:=ug h;refine xm (uf (FW _) fun ν=>?_) h;have h1:=qq hx ν;have h2:=qq hi ν;simp only[den]at h1 h2;have h4:idx (.int ik (j:Int)) n=some j:=by grind[nW,Int.natCast_nonneg]
 unfold jU;simp only[ho,h1,h2,zqt];have h5:=lh (ρ:=rho ν H) hv;have:nN P t (.agg (zu (rho ν H) cs).toArray) (.int ik (j:Int))=some (den (rho ν H) v):=by simp[nN,hu,h4,hie,h5]
 rw[this];rfl
def zib(P:Program)(tm:List SV)(H:SH)(nx:Nat)(t:TypeId)(a:Operand)(k:KO R):Option R:=match jF tm H a with
 |some (.elp b s i off)=>match zo H b with
  |some (.arr _ ty l)=>bif Nat.beq s (sz ty)then opt (gl l i) fun y=>opt (Jz P t (jN ty y) off) fun v=>k v H nx else none
  |some (.roa _ ty l)=>bif Nat.beq s (sz ty)then opt (gl l i) fun y=>opt (Jz P t (jN ty y) off) fun v=>k v H nx else none
  |_=>none
 |_=>none
theorem zic{ρ:Nat->Value}{t:TypeId}{ty:Ty}{l:List (T ty)}{i off:Nat}{y:T ty}{v:SV}(hy:l[i]?=some y)(h:Jz P t (jN ty y) off=some v){Hd:Hp}{b:Nat}{ro:Bool}(hb:Hd.get b=some (.cells (qm ty l) ro)) : uJ P Hd t (.pointer (some ⟨b,i*sz ty+off,none⟩))=some (den ρ v):=by
 have he:qA ty y=zu ρ (jN ty y):=by rw[qO,wt]
 unfold Jz at h;split at h;case h_2=>cases h
 rename_i d inf hd hi;simp only[uJ,hb,hd,hi];cases ha:Zm d with
 |true=>
  grind[Nat.le_of_ble_eq_true,VD,rh,den,lf,ld]
 |false=>
  grind[xk,sz,List.getElem?_eq_some_iff,VD,zby,Bool.false_eq_true,wF]
theorem zlT{rd:Option Nat}{o:Oper}{tm:List SV}{H:SH}{nx:Nat}{k:KO R}{r:R}{t:TypeId}{a:Operand}(ho:o.op=.load t a)(h:zib P tm H nx t a k=some r):vl P rd o tm H nx k r:=by
 unfold zib at h;split at h;case h_2=>cases h
 rename_i b s i off ha;have key:∀(nn:Bool) (ty:Ty) (l:List (T ty)) (ro:Bool),(∀ν,(bif jE nn l then none else some (Blk.cells (qm ty l) ro))=(zo H b).bind (qB (rho ν H) (ν b)))->reg (zo H b)=some (l.length,rsz nn ty l)->
   (bif Nat.beq s (sz ty)then opt (gl l i) fun y=>opt (Jz P t (jN ty y) off) fun v=>k v H nx else none)=some r->vl P rd o tm H nx k r:=by
  intro nn ty l ro hden hr h0
  obtain⟨h1,h2⟩:=zT h0
  have:=zpK h1
  subst this
  obtain⟨y,hy,h3⟩:=ug h2
  obtain⟨v,hv,h4⟩:=ug h3
  rw[xk]at hy
  refine xm ⟨jV.refl H,wc.refl H,FW _,fun ν hvn=>⟨hvn,ym ?_⟩⟩ h4
  have hn:jE nn l=false:=nU (fun h=>by subst h;simp at hy)
  have hd:(zK ν H).get b=some (.cells (qm ty l) ro):=by grind[qe]
  have h2:=qq ha ν
  simp only[den]at h2
  unfold jU
  simp only[ho,h2,zqt,zic (ρ:=rho ν H) hy hv hd]
  rfl
 split at h
 ·rename_i nn ty l hb;exact key nn ty l false (fun ν=>by rw[hb];rfl) (by rw[hb];rfl) h
 ·rename_i nn ty l hb;exact key nn ty l true (fun ν=>by rw[hb];rfl) (by rw[hb];rfl) h
 ·cases h
def hiI(n:Nat):Option Int->Option Nat
 |none=>some n
 |some (.ofNat q)=>bif Nat.ble q n then some q else none
 |some (.negSucc _)=>none
def loI(h:Nat):Option Int->Option Nat
 |none=>some 0
 |some (.ofNat p)=>bif Nat.ble p h then some p else none
 |some (.negSucc _)=>none
def mxI(h:Nat):Option Int->Bool
 |none=>true
 |some (.ofNat m)=>Nat.beq m h
 |some (.negSucc _)=>false
def Yc{α:Type}(l:List α)(lo hi mx:Option Int):Option (List α):=match hiI l.length hi with
 |some h=>match loI h lo with
  |some p=>bif mxI h mx then some ((l.take h).drop p)else none
  |none=>none
 |none=>none
def VE:Option SV->Option (Option Int)
 |none=>some none
 |some (.int _ z)=>some (some z)
 |_=>none
theorem zn6{n h:Nat}{v:Option SV}{z:Option Int}{ρ:Nat->Value}(hz:VE v=some z)(h1:hiI n z=some h):Pg (v.map (den ρ)) n n=some h∧h<=n∧∀u,v=some u->∀m,h<=m->bnd (den ρ u) m=some h:=by
 unfold VE at hz;split at hz
 ·grind[hiI,Option.some.injEq,Pg]
 ·rename_i k z;cases hz;unfold hiI at h1;split at h1
  ·rename_i he;cases he
  ·rename_i q he;cases he;obtain⟨h2,h3⟩:=zT h1;cases h3;have h2:=zqH h2;grind[Pg,den,bnd]
  ·cases h1
 ·cases hz
theorem zn7{h p:Nat}{v:Option SV}{z:Option Int}{ρ:Nat->Value}(hz:VE v=some z)(h1:loI h z=some p):Tu (v.map (den ρ)) h=some p∧p<=h:=by
 unfold VE at hz;split at hz
 ·cases hz;simp only[loI,PL]at h1;subst h1;exact⟨rfl,ztC _⟩
 ·rename_i k z;cases hz;unfold loI at h1;split at h1
  ·rename_i he;cases he
  ·rename_i q he;cases he;obtain⟨h2,h3⟩:=zT h1;cases h3;have h2:=zqH h2;grind[Tu,den,bnd]
  ·cases h1
 ·cases hz
theorem zj6{α:Type}{l l':List α}{lo hi mx:Option SV}{a b c:Option Int}{ρ:Nat->Value}(ha:VE lo=some a)(hb:VE hi=some b)(hc:VE mx=some c)(hhi:mx.isSome=true->hi.isSome=true)(h:Yc l a b c=some l') : ∃p q,dA l.length l.length (lo.map (den ρ)) (hi.map (den ρ)) (mx.map (den ρ))=some (p,q,mx.map fun _=>q)∧p<=q∧q<=l.length∧l'=(l.take q).drop p∧(hi=none->q=l.length):=by
 unfold Yc at h;split at h;case h_2=>cases h
 rename_i q hq;split at h;case h_2=>cases h
 rename_i p hp;obtain⟨h1,h2⟩:=zT h;cases h2;obtain⟨e1,e2,e3⟩:=zn6 (ρ:=ρ) hb hq;obtain⟨f1,f2⟩:=zn7 (ρ:=ρ) ha hp;refine⟨p,q,?_,f2,e2,rfl,fun hn=>?_⟩
 ·cases mx with
  |none=>
   simp only[zrZ,dA,e1,f1,zqt]
  |some m=>
   cases hi with
   |none=>simp at hhi
   |some hv=>
    have hm:bnd (den ρ m) l.length=some q:=by
     unfold VE at hc;split at hc
     ·rename_i he;cases he
     ·rename_i k z he;cases he;cases hc;unfold mxI at h1;split at h1
      ·rename_i he;cases he
      ·rename_i y he;cases he;have:=zpK h1;subst this;simp[den,bnd,e2]
      ·cases h1
     ·cases hc
    simp only[zqQ,dA,hm,zqt,e3 hv rfl q (FW _),f1]
 grind[VE,Option.some.injEq,hiI]
theorem zbB{s:Nat}{full:Bool}{es:List Value}{v':Value}(h:zp φ (fzV s full es) v'):zp φ (fzV s false es) v':=by
 cases full with
 |false=>exact h
 |true=>
  unfold fzV at h ⊢;simp only[zqJ,zqD]at h ⊢;generalize es.toArray=a at h ⊢;cases h with
  |fq _ _ b o L hL hn ho hs h=>exact .fz _ _ b o _ L hL hn ho (FW _) hs h
  |fq0 _ a=>exact .fz0 _ _ _
theorem zbC{t e:TypeId}{ie:TypeInfo}{ty:Ty}{l l':List (T ty)}{full:Bool}{lo hi mx:Option SV}{a b c:Option Int}{ρ:Nat->Value}(hu:jh P t=some (.slice e))(hie:jr P e=some ie)(hsz:ie.size=sz ty)(ha:VE lo=some a)(hb:VE hi=some b)(hc:VE mx=some c)(hhi:mx.isSome=true->hi.isSome=true)(h:Yc l a b c=some l'){x':Value}{lo' hi' mx':Option Value}(hx:zp φ (fzV (sz ty) full (l.map (wv ty))) x')(h1:WR φ (lo.map (den ρ)) lo')(h2:WR φ (hi.map (den ρ)) hi')(h3:WR φ (mx.map (den ρ)) mx')(w:World) : ∃v',(Instr.sliceAt t x' lo' hi' mx').run P w=.ok v' w∧zp φ (fzV (sz ty) (mx.isSome||(full&&hi.isNone)) (l'.map (wv ty))) v':=by
 obtain⟨p,q,e1,e2,e3,e4,e5⟩:=zj6 (ρ:=ρ) ha hb hc hhi h;have hlen:((l.map (wv ty)).toArray).size=l.length:=by simp
 have hext:((l.map (wv ty)).toArray).extract p q=(l'.map (wv ty)).toArray:=by apply zrM;rw[e4];simp[List.drop_take,List.map_drop,List.map_take]
 have hes:vr (fzV (sz ty) full (l.map (wv ty)))=some (sz ty,(l.map (wv ty)).toArray,full):=by cases full<;>simp[fzV,vr]
 have key:∃f2,nJ P t (fzV (sz ty) full (l.map (wv ty))) (lo.map (den ρ)) (hi.map (den ρ)) (mx.map (den ρ))=some (fzV (sz ty) f2 (l'.map (wv ty)))∧((mx.isSome||(full&&hi.isNone))=true->f2=true):=by
  unfold nJ;simp only[hes,hu,hie,hlen,e1,hsz,zqF];cases mx with
  |some m=>exact⟨true,by simp[zsX,hext,fzV],fun _=>rfl⟩
  |none=>
   simp only[zrZ,Option.isSome_none,zrR];cases hf:(full&&Nat.beq q l.length)with
   |true=>exact⟨true,by simp only[zqF];simp only[hext,fzV,zqJ],fun _=>rfl⟩
   |false=>
    refine⟨false,by simp only[zqB,zqZ];simp only[hext,fzV,zqD],fun h=>?_⟩;simp only[FT]at h;obtain⟨h4,h5⟩:=h;have:hi=none:=by cases hi<;>simp at h5 ⊢
    rw[h4,e5 this,zsX]at hf;cases hf
 obtain⟨f2,h4,h5⟩:=key;obtain⟨v',r1,r2⟩:=Ph h4 hx h1 h2 h3 w;refine⟨v',r1,?_⟩;cases hcase:(mx.isSome||(full&&hi.isNone))<;>grind[zbB]
def zex(P:Program)(tm:List SV)(H:SH)(nx:Nat)(t:TypeId)(x:Operand)(lo hi mx:Option Operand)(k:KO R):Option R:=
 match jF tm H x,PB tm H lo,PB tm H hi,PB tm H mx with
 |some v,some lo,some hi,some mx=>match jh P t,VE lo,VE hi,VE mx with
  |some (.slice e),some a,some b,some c=>bif(!mx.isSome||hi.isSome)then match v with
   |.lst ty l full=>bif Yb P e (sz ty)then opt (Yc l a b c) fun l'=>k (.lst ty l' (mx.isSome||(full&&hi.isNone))) H nx else none
   |.own bl=>match zo H bl with
    |some (.arr nn ty l)=>bif Yb P e (sz ty)&&Nat.blt 0 (sz ty)then opt (Yc l a b c) fun l'=>k (.lst ty l' mx.isSome) (jB H bl (.fro nn ty l)) nx else none
    |_=>none
   |_=>none
   else none
  |_,_,_,_=>none
 |_,_,_,_=>none
theorem zj7{rd:Option Nat}{o:Oper}{tm:List SV}{H:SH}{nx:Nat}{k:KO R}{r:R}{t:TypeId}{x:Operand}{lo hi mx:Option Operand}(ho:o.op=.slice t x lo hi mx)(h:zex P tm H nx t x lo hi mx k=some r):vl P rd o tm H nx k r:=by
 unfold zex at h;split at h;case h_2=>cases h
 rename_i v lo1 hi1 mx1 hx hlo hhi hmx;split at h;case h_2=>cases h
 rename_i e a b c hu ha hb hc;have h6:=zT h;clear h;obtain⟨hh,h⟩:=h6;have hhi2:mx1.isSome=true->hi1.isSome=true:=fun h1=>by simpa[h1]using hh
 split at h
 ·rename_i ty l full;obtain⟨h1,h⟩:=zT h;obtain⟨l',hl,h⟩:=ug h;obtain⟨ie,hie,hsz⟩:=Qe h1;refine xm ⟨jV.refl H,wc.refl H,FW _,fun ν hv=>⟨hv,?_⟩⟩ h;refine QV (FW _) (fun c hc=>by rw[ho]at hc;cases hc) fun φ w K ac g hf ht=>?_;have hxr:=qx ht (qq hx ν);simp only[den]at hxr;obtain⟨v',r1,r2⟩:=zbC hu hie hsz ha hb hc hhi2 hl hxr (ko ht (VZ hlo ν)) (ko ht (VZ hhi ν)) (ko ht (VZ hmx ν)) w;grind[execOp,Ran.op,Ran.same,den]
 ·rename_i bl;split at h;case h_2=>cases h
  rename_i nn ty l hbl;obtain⟨h1,h⟩:=zT h;simp only[FT]at h1;obtain⟨l',hl,h⟩:=ug h;obtain⟨ie,hie,hsz⟩:=Qe h1.1;have hg:=Kz hbl;refine xm ⟨hg.1.regLe,hg.1.lkeep,FW _,fun ν hv=>⟨hg.1.vn hv,rm hg ?_⟩⟩ h;refine QV (FW _) (fun c hc=>by rw[ho]at hc;cases hc) fun φ w K ac g hf ht=>?_;have hxr:=qx ht (qq hx ν);simp only[den]at hxr;rw[<-hg.1.rho ν]at hxr;have hb2:zo (jB H bl (.fro nn ty l)) bl=some (.fro nn ty l):=by rw[qU,zqI rfl,hbl];rfl
  have hxr:=nV g (hg.1.vn hv) hb2 (TM h1.2) hxr;obtain⟨v',r1,r2⟩:=zbC hu hie hsz ha hb hc hhi2 hl hxr (ko ht (VZ hlo ν)) (ko ht (VZ hhi ν)) (ko ht (VZ hmx ν)) w;grind[execOp,Ran.op,Ran.same,den]
 ·cases h
def zlU(P:Program)(tm:List SV)(H:SH)(nx:Nat)(t:TypeId)(x:Operand)(k:KO R):Option R:=match jF tm H x,jh P t with
 |some (.own b),some (.slice _)=>match reg (zo H b)with
  |some (n,_)=>k (.int .i64 n) H (nx+1)
  |none=>none
 |_,_=>none
theorem zn8{rd:Option Nat}{o:Oper}{tm:List SV}{H:SH}{nx:Nat}{k:KO R}{r:R}{t:TypeId}{x:Operand}(ho:o.op=.call {callee:=.builtin .len,args:=#[x],argTypes:=#[t]})(h:zlU P tm H nx t x k=some r):vl P rd o tm H nx k r:=by
 unfold zlU at h;split at h;case h_2=>cases h
 rename_i b e hx hu;split at h;case h_2=>cases h
 rename_i n s hr;refine xm ⟨jV.refl H,wc.refl H,zqv _,fun ν hv=>⟨hv.later (zqv _),ym ?_⟩⟩ h;have h1:=qq hx ν;unfold jU;simp only[ho,Wg,h1,zqt];have hlen:cL P t (den (rho ν H) (.own b))=some (goInt n):=by
  simp only[den,rho,hr];cases s with
  |succ s=>simp[cL,hu]
  |zero=>
   have:=hv.empty b n hr;subst this;simp[cL,hu]
 grind[gu,un1,den,goInt]
def dQ{α:Type}:List α->Bool
 |[]=>false
 |_::_=>true
def zg6(tm:List SV)(H:SH)(x y:Operand):Bool:=match jF tm H x,jF tm H y with
 |some (.lst _ _ _),some .nils=>true
 |_,_=>false
def zid(P:Program)(tm:List SV)(H:SH)(nx:Nat)(op:BinOp)(t:TypeId)(x y:Operand)(k:KO R):Option R:=match jF tm H x,jF tm H y,jh P t with
 |some (.lst ty l full),some .nils,some (.slice _)=>bif dQ l then(match op with
   |.eql=>k (.bool false) H (nx+1)
   |.neq=>k (.bool true) H (nx+1)
   |_=>none)
  else none
 |_,_,_=>none
theorem zlV{rd:Option Nat}{o:Oper}{tm:List SV}{H:SH}{nx:Nat}{k:KO R}{r:R}{op:BinOp}{t u:TypeId}{x y:Operand}(ho:o.op=.binOp op t x y u)(h:zid P tm H nx op t x y k=some r):vl P rd o tm H nx k r:=by
 unfold zid at h;split at h;case h_2=>cases h
 rename_i ty l full e hx hy hu;obtain⟨hc,h⟩:=zT h;have key:∀b,(op=.eql∧b=false∨op=.neq∧b=true)->k (.bool b) H (nx+1)=some r->vl P rd o tm H nx k r:=by
  intro b hb h;refine xm ⟨jV.refl H,wc.refl H,zqv _,fun ν hv=>⟨hv.later (zqv _),?_⟩⟩ h;refine QV (zqv _) (fun c hc=>by rw[ho]at hc;cases hc) fun φ w K ac g hf ht=>?_;have hxr:=qx ht (qq hx ν);have hyr:=qx ht (qq hy ν);simp only[den]at hxr hyr;generalize hx':ac.eval x=x' at *;generalize hy':ac.eval y=y' at *;cases hyr;obtain⟨sa,c,e1,e2⟩:=WS (s:=sz ty) (es:=(l.map (wv ty)).toArray) (full:=full) (by unfold fzV vr;cases full<;>rfl) hxr;cases l with
  |nil=>cases hc
  |cons z l=>
  obtain⟨b0,o0,L,rfl,_⟩:=e2.some_ (by simp);subst e1;have he:=pI (P:=P) (t:=t) (d:=.slice e) (a:=.slice (some ⟨b0,o0,none⟩) ((z::l).map (wv ty)).toArray.size c) (b:=.slice none 0 0) (r:=false) (by rw[<-jx];exact hu) rfl rfl w;unfold execOp;simp only[ho];rw[hx',hy'];generalize ((z::l).map (wv ty)).toArray.size=m at he ⊢;refine Ran.op (Ran.same1 g ⟨.bool b,?_,by simp only[den];exact .bool b⟩);rcases hb with⟨rfl,rfl⟩ | ⟨rfl,rfl⟩
  ·simp[eqGuard,binOp,he]
  ·simp[eqGuard,binOp,he]
 grind
def Vb:(t:Ty)->T t
 |.unit=>()
 |.bool=>false
 |.int _=>0
 |.str=>ByteArray.empty
 |.list _=>[]
 |.pair a b=>(Vb a,Vb b)
def XA:(t:Ty)->List Value->Option (List Value)
 |.unit,cs=>some cs
 |.bool,cs=>match cs with
  |.bool false::r=>some r
  |_=>none
 |.int k,cs=>match cs with
  |.int k' z::r=>bif gH k k'&&zj z 0 then some r else none
  |_=>none
 |.str,cs=>match cs with
  |.string s::r=>bif Nat.beq s.size 0 then some r else none
  |_=>none
 |.list _,cs=>match cs with
  |.slice none 0 0::r=>some r
  |_=>none
 |.pair a b,cs=>match XA a cs with
  |some r=>XA b r
  |none=>none
theorem CX:∀(t:Ty) {cs r:List Value},XA t cs=some r->∃c,cs=c++r∧c.length=sz t∧avL c=true∧∀(φ:Ren) us,zD φ c us->zD φ (qA t (Vb t)) us
 |.unit,cs,r,h=>by simp only[XA,PL]at h;subst h;exact⟨[],rfl,rfl,rfl,fun φ us h=>h⟩
 |.bool,cs,r,h=>by
  simp only[XA]at h;split at h
  ·cases h;exact⟨[.bool false],rfl,rfl,rfl,fun φ us h=>h⟩
  ·cases h
 |.int k,cs,r,h=>by
  simp only[XA]at h;split at h
  ·obtain⟨h1,h2⟩:=zT h;cases h2;simp only[FT]at h1;have e1:=gy h1.1;have e2:=h1.2;rw[yB]at e2;simp only[beq_iff_eq]at e2;subst e1;subst e2;exact⟨[.int k 0],rfl,rfl,rfl,fun φ us h=>h⟩
  ·cases h
 |.str,cs,r,h=>by
  simp only[XA]at h;split at h
  ·rename_i s r';obtain⟨h1,h2⟩:=zT h;cases h2;have e1:=zpK h1;have:s=ByteArray.empty:=by simp_all
   subst this;exact⟨[.string ByteArray.empty],rfl,rfl,rfl,fun φ us h=>h⟩
  ·cases h
 |.list t,cs,r,h=>by
  simp only[XA]at h;split at h
  ·cases h;refine⟨[.slice none 0 0],rfl,rfl,rfl,fun φ us h=>?_⟩
   match us,h with
   |[],h=>exact h.elim
   |u::us,h=>
    refine⟨?_,h.2⟩
    have h1:=h.1
    cases h1
    exact .fz0 _ _ _
  ·cases h
 |.pair a b,cs,r,h=>by
  simp only[XA]at h;split at h;case h_2=>cases h
  rename_i r1 h1;obtain⟨c1,rfl,l1,a1,z1⟩:=CX a h1;obtain⟨c2,rfl,l2,a2,z2⟩:=CX b h;have happ:∀(a b:List Value),avL a=true->avL b=true->avL (a++b)=true:=by intro a b h2 h3;induction a<;>grind[avL]
  refine⟨c1++c2,by simp,by simp[sz,l1,l2],happ _ _ a1 a2,fun φ us h=>?_⟩;have hlen:=h.length;rw[zrt]at hlen;have h3:=h.take c1.length;have h4:=h.drop c1.length;rw[List.take_left]at h3;rw[List.drop_left]at h4;have:=(z1 φ _ h3).append (z2 φ _ h4);rw[zsa]at this;exact this
def cW(P:Program)(e:TypeId)(ty:Ty):Bool:=match jr P e with
 |some i=>match i.zero with
  |some z=>match XA ty z.cells.toList with
   |some []=>Nat.blt 0 i.size&&Nat.beq (sz ty) i.size
   |_=>false
  |none=>false
 |none=>false
theorem rq{e:TypeId}{ty:Ty}(h:cW P e ty=true):∃i z,P.info? e=some i∧i.zero=some z∧z.cells.size=i.size∧0 < i.size∧sz ty=i.size∧avL z.cells.toList=true∧∀(φ:Ren) us,zD φ z.cells.toList us->zD φ (qA ty (Vb ty)) us:=by
 unfold cW at h;split at h;case h_2=>cases h
 rename_i i hi;split at h;case h_2=>cases h
 rename_i z hz;split at h;case h_2=>cases h
 rename_i hc;simp only[FT]at h;have e2:=nR h.1;grind[Nat.eq_of_beq_eq_true,jt,CX,List.length]
def CY(P:Program):Nat->TypeId->Option Ty
 |0,_=>none
 |n+1,t=>match jh P t with
  |some .bool=>some .bool
  |some (.int k)=>some (.int k)
  |some .string=>some .str
  |some (.slice e)=>match CY P n e with
   |some a=>some (.list a)
   |none=>none
  |some (.struct fields)=>fields.toList.foldr (fun f acc=>match CY P n f.type,acc with
   |some a,some b=>some (match b with | .unit=>a | b=>.pair a b)
   |_,_=>none) (some .unit)
  |some (.array m e)=>match CY P n e with
   |some a=>(List.replicate m a).foldr (fun a acc=>match acc with
    |some b=>some (match b with | .unit=>a | b=>.pair a b)
    |none=>none) (some .unit)
   |none=>none
  |_=>none
theorem CZ{ν:Nat->Bool}{H:SH}{nx:Nat}{k:SB}(hn:zo H nx=none)(hx:qB (rho ν ((nx,k)::H)) (ν nx) k=none)(g:zF φ (zK ν H) K w):zF φ (zK ν ((nx,k)::H)) K w:=by have h1:RLe (rho ν H) (rho ν ((nx,k)::H)):=dP ν (xI hn);have g1:zF φ (xO ν (rho ν ((nx,k)::H)) H) K w:=zen (vv ν H) h1 g;refine g1.sub fun c x hc=>?_;grind[qe,qd,yP]
theorem XB{ν:Nat->Bool}{H:SH}{nx:Nat}{nn:Bool}{ty:Ty}{l:List (T ty)}(hn:zo H nx=none)(hv:VN ν nx H)(g:zF φ ((nx,.cells (qm ty l) false)::zK ν H) K w):zF φ (zK ν ((nx,.arr nn ty l)::H)) K w:=by
 cases h:jE nn l with
 |false=>exact Ya hn (x:=.cells (qm ty l) false) (by simp[qB,h]) g
 |true=>
  refine CZ hn (by simp[qB,h]) (g.sub fun c k hc=>?_);grind[beq_eq_false_iff_ne,qe,Hp.get_cons]
theorem KB{ν:Nat->Bool}{H:SH}{nx:Nat}{nn:Bool}{ty:Ty}{l:List (T ty)}(hv:VN ν nx H)(hl:jE nn l=false):rho ν ((nx,.arr nn ty l)::H) nx=.slice (some ⟨nx,0,none⟩) l.length (qw+sz ty):=by rw[xX ν (nn:=nn) (t:=ty) (l:=l) (by rw[qd,zqI rfl];rfl),hl];rfl
theorem PH{ν:Nat->Bool}{H:SH}{nx:Nat}{nn:Bool}{ty:Ty}{l:List (T ty)}(hl:jE nn l=true):rho ν ((nx,.arr nn ty l)::H) nx=.slice none 0 0:=by rw[xX ν (nn:=nn) (t:=ty) (l:=l) (by rw[qd,zqI rfl];rfl),hl];rfl
theorem zgt{H:Hp}{b:Nat}{cs ds:List Value}(g:zF φ ((b,.cells cs false)::H) K w)(h:∀us,zD φ cs us->zD φ ds us)(hl:ds.length=cs.length):zF φ ((b,.cells ds false)::H) K w:=by
 have hget:∀c k,Hp.get ((b,Blk.cells ds false)::H) c=some k->(c=b∧k=.cells ds false∧Hp.get ((b,Blk.cells cs false)::H) c=some (.cells cs false))∨(c≠b∧Hp.get ((b,Blk.cells cs false)::H) c=some k):=by grind[Hp.get_cons]
 refine⟨fun c k hc=>?_,fun c d k k' L L' hc hd hne hkr hL hL'=>?_,fun c k L hc hkr hL=>?_,g.kin,g.fz,fun c k L e M hc hkr hL hM=>?_⟩
 ·rcases hget c k hc with⟨rfl,rfl,h1⟩ | ⟨_,h1⟩
  ·obtain⟨L,hL,arr,el,fr,e1,e2,e3⟩:=g.rel c _ h1;have hex:∀j,j < cs.length->∃v',arr[L.off+j]?=some v':=fun j hj=>by obtain⟨v',h2,_⟩:=e2 j cs[j] (by simp);exact⟨v',h2⟩
   have hus:zD φ cs ((List.range cs.length).map fun j=>arr[L.off+j]?.getD undef):=by refine zD.of_get (by simp) fun i v v' hv hv'=>?_;obtain⟨u,h2,h3⟩:=e2 i v hv;have hi:i < cs.length:=(zqr.1 hv).1;simp[hi,h2]at hv';subst hv';exact h3
   refine⟨L,hL,arr,el,fr,e1,fun j v hv=>?_,e3⟩;have hj:j < cs.length:=by have:=(zqr.1 hv).1;omega
   obtain⟨v',h2⟩:=hex j hj;obtain⟨u,h3,h4⟩:=(h _ hus).get hv;grind
  ·exact g.rel c k h1
 ·rcases hget c k hc with⟨rfl,rfl,h1⟩ | ⟨_,h1⟩
  ·rcases hget d k' hd with⟨rfl,_⟩ | ⟨_,h2⟩
   ·exact absurd rfl hne
   ·exact g.sep c d _ k' L L' h1 h2 hne rfl hL hL'
  ·rcases hget d k' hd with⟨rfl,rfl,h2⟩ | ⟨_,h2⟩
   ·exact g.sep c d k _ L L' h1 h2 hne hkr hL hL'
   ·exact g.sep c d k k' L L' h1 h2 hne hkr hL hL'
 ·rcases hget c k hc with⟨rfl,rfl,h1⟩ | ⟨_,h1⟩
  ·exact g.prot c _ L h1 rfl hL
  ·exact g.prot c k L h1 hkr hL
 ·rcases hget c k hc with⟨rfl,rfl,h1⟩ | ⟨_,h1⟩
  ·exact g.fsep c _ L e M h1 rfl hL hM
  ·exact g.fsep c k L e M h1 hkr hL hM
def rr(zl zc:Int)(bytes:Nat):Bool:=!zg zl 0&&(!zg zc zl&&!zg 281474976710656 ((bytes:Int)*zc))
def zie(P:Program)(tm:List SV)(H:SH)(nx:Nat)(t:TypeId)(l c:Operand)(k:KO R):Option R:=match jF tm H l,jF tm H c with
 |some (.int _ zl),some (.int _ zc)=>match jh P t with
  |some (.slice e)=>match jr P e,CY P 20 e with
   |some ie,some ty=>bif cW P e ty&&Nat.blt 0 ie.bytes then match kX H nx (.arr true ty (List.replicate zl.toNat (Vb ty)))with
     |some H'=>bif rr zl zc ie.bytes then k (.own nx) H' (nx+1)else none
     |none=>none
    else none
   |_,_=>none
  |_=>none
 |_,_=>none
theorem PI(ty:Ty)(x:T ty)(n:Nat):qm ty (List.replicate n x)=(List.replicate n (qA ty x)).flatten:=by
 induction n with
 |zero=>rfl
 |succ n ih=>
  rw[zrK,zrK,zsQ,<-ih];rfl
theorem nX{a b:List Value}(h:∀us,zD φ a us->zD φ b us)(hl:b.length=a.length):∀(n:Nat) us,zD φ (List.replicate n a).flatten us->zD φ (List.replicate n b).flatten us
 |0,us,hr=>hr
 |n+1,us,hr=>by rw[zrK,zsQ]at hr ⊢;have h3:=hr.take a.length;have h4:=hr.drop a.length;rw[List.take_left]at h3;rw[List.drop_left]at h4;have:=(h _ h3).append (nX h hl n _ h4);simp_all
theorem zlW{rd:Option Nat}{o:Oper}{tm:List SV}{H:SH}{nx:Nat}{k:KO R}{r:R}{t:TypeId}{l c:Operand}(ho:o.op=.makeSlice t l c)(h:zie P tm H nx t l c k=some r):vl P rd o tm H nx k r:=by
 unfold zie at h;split at h;case h_2=>cases h
 rename_i kl zl kc zc hl hc;split at h;case h_2=>cases h
 rename_i e hu;split at h;case h_2=>cases h
 rename_i ie ty hie hty;have h6:=zT h;clear h;obtain⟨hh,h⟩:=h6;simp only[FT]at hh;split at h;case h_2=>cases h
 rename_i H1 hn;have h6:=zT h;clear h;obtain⟨hm,h⟩:=h6;obtain⟨hn1,rfl⟩:=yQ hn;obtain⟨ie',z,e1,e2,e3,e4,e5,e6,e7⟩:=rq hh.1;rw[jt]at hie;rw[jx]at hu;rw[hie]at e1;cases e1;have hbp:=nR hh.2;simp only[rr,FT,zrq,wO,zrC,Int.not_lt]at hm;obtain⟨m1,m2,m3⟩:=hm;have hzc:zc<=281474976710656:=by have:(1:Int)*zc<=(ie.bytes:Int)*zc:=Int.mul_le_mul_of_nonneg_right (by omega) (by omega);omega
 refine xm ⟨xI hn1,xY hn1,zqv _,fun ν hv=>⟨ZG hv,?_⟩⟩ h;refine QV (zqv _) (fun c hc=>by grind) fun φ w K a g hf ht=>?_;have hl':=qx ht (qq hl ν);have hc':=qx ht (qq hc ν);simp only[den]at hl' hc';unfold execOp;simp only[ho];generalize a.eval l=ul at hl';generalize a.eval c=uc at hc';cases hl';cases hc';have hfr:=hf.at (FW nx) (zqL nx);obtain⟨v',w',φ',r1,r2,r3,r4,r5⟩:=zgs (P:=P) (kl:=kl) (kc:=kc) g hfr.1 hfr.2 hu hie e2 (Go.IntWalk.i64_in _ (by omega)) (Go.IntWalk.i64_in _ (by omega)) m1 m2 m3 (by omega) e3 e6 rfl;refine Ran.op ⟨v',w',φ',r1,?_,r3,?_,r5,zqv _⟩
 ·simp only[den];rw[KB hv rfl,zsV,e5];exact r2
 ·refine XB hn1 hv ?_;refine zgt r4 ?_ ?_
  ·grind[PI,nX,wQ,Array.length_toList]
  ·rw[QH,zsV,e5];simp[e3]
theorem zey{s:Nat}:∀(us:List Value) (j:Nat) (arr:Array Value),(∀u∈us,u.cells.size=s)->arr.size=(j+us.length)*s->Instr.fill (fun i=>some (i*s,s)) arr ((us.zipIdx j).map fun p=>(p.2,p.1))=some (arr.toList.take (j*s)++us.flatMap fun u=>u.cells.toList).toArray
 |[],j,arr,_,hl=>by simp only[List.zipIdx_nil,ztu,Instr.fill,List.flatMap_nil,zri,PL];grind
 |u::us,j,arr,hu,hl=>by
  have h1:=hu u (by simp);have hl2:arr.size=j*s+s+us.length*s:=by grind
  simp only[ztw,zrG,Instr.fill];rw[zqu (by simp[h1];omega)];have hf:=CV u.cells.toList 0 (j*s) arr (by simp[h1];omega);rw[<-ztj,ztd];rw[zey us (j+1) _ (fun x hx=>hu x (by simp[hx])) (by
   grind[List.length,zhH,Array.length_toList,Nat.add_mul])]
  rw[hf,zss,<-ztn];congr 3;unfold spl;have e1:(j+1)*s=j*s+s:=by grind
  rw[List.take_left' (by simp[h1];omega),Nat.add_zero]
def zez(vt:VT):List (Nat×SV)->Nat->SH->Option (List (T vt.ty)×SH)
 |[],_,H=>some ([],H)
 |(j,v)::r,i,H=>bif Nat.beq i j then match cvV vt v H with
  |some (x,H1)=>match zez vt r (i+1) H1 with
   |some (xs,H2)=>some (x::xs,H2)
   |none=>none
  |none=>none
  else none
theorem zg7{vt:VT}:∀{ps:List (Nat×SV)} {i:Nat} {H H':SH} {xs:List (T vt.ty)},zez vt ps i H=some (xs,H')->yl H H'∧xs.length=ps.length∧∀ ν G,GLe H' G->∀(φ:Ren) (K:Nat->Prop) (w:World) (nx:Nat) (qs:List (Nat×Value)),zF φ (zK ν G) K w->VN ν nx G->My φ (ps.map fun p=>(p.1,den (rho ν H) p.2)) qs->∃us:List Value,qs=(us.zipIdx i).map (fun p=>(p.2,p.1))∧us.length=xs.length∧∀(j:Nat) u x,us[j]?=some u->xs[j]?=some x->zp φ (den (fun _=>bad) (mkV vt x)) u
 |[],i,H,H',xs,h=>by
  simp only[zez,PL,ztm]at h;obtain⟨rfl,rfl⟩:=h;refine⟨yl.refl _,rfl,fun ν G hG φ K w nx qs g hv hp=>?_⟩;cases qs with
  |nil=>simp_all
  |cons q qs=>exact hp.elim
 |(j0,v)::r,i,H,H',xs,h=>by
  simp only[zez]at h;have h6:=zT h;clear h;obtain⟨hb,h⟩:=h6;have hj:=zpK hb;clear hb;subst hj;split at h;case h_2=>cases h
  rename_i x H1 h1;split at h;case h_2=>cases h
  rename_i ys H2 h2;cases h;obtain⟨g1,r1⟩:=PA h1;obtain⟨g2,l2,r2⟩:=zg7 h2;refine⟨g1.trans g2,by simp[l2],fun ν G hG φ K w nx qs g hv hp=>?_⟩;cases qs with
  |nil=>exact hp.elim
  |cons q qs=>
   obtain⟨e1,e2,e3⟩:=hp;obtain⟨q1,q2⟩:=q;dsimp only at e1 e2;subst e1;rw[<-g1.1.rho ν]at e3;obtain⟨us,f1,f2,f3⟩:=r2 ν G hG φ K w nx qs g hv e3;have f4:=r1 ν G (g2.1.trans hG) φ K w nx q2 g hv e2 (fun _=>bad);refine⟨q2::us,by simp[f1],by simp[f2],fun j u y hu hy=>?_⟩;grind
theorem zj8{vt:VT}{x:T vt.ty}{u:Value}(hagg:vt.agg=false->sz vt.ty=1)(h:zp φ (den (fun _=>bad) (mkV vt x)) u):zD φ (qA vt.ty x) u.cells.toList:=by
 obtain⟨ag,ty⟩:=vt;cases ag with
 |true=>
  simp only[mkV,zqJ,den]at h;obtain⟨ys,rfl,hl⟩:=h.agg_inv;simpa[qO,wt,Value.cells]using hl
 |false=>
  simp only[mkV,zqD]at h;have h1:=VD ty x;rw[hagg rfl]at h1;have h2:=wt (fun _=>bad) ty x
  match he:jN ty x,h1 with
  |[v],_=>
   rw[he]at h h2;simp only[mk1,zrG,ztu]at h h2;rw[<-h2];have h3:=h.one;have h4:(den (fun _=>bad) v).oneCell'=true:=by
    have:∀(t:Ty) (y:T t) (c:Value),c∈qA t y->c.oneCell'=true:=by
     intro t;induction t with
     |unit=>intro y c hc;simp[qA]at hc
     |bool=>intro y c hc;simp[qA]at hc;subst hc;rfl
     |int k=>intro y c hc;simp[qA]at hc;subst hc;rfl
     |str=>intro y c hc;simp[qA]at hc;subst hc;rfl
     |list t ih=>intro y c hc;simp[qA]at hc;subst hc;rfl
     |pair a b iha ihb=>
      intro y c hc;simp only[qA,zqS]at hc;rcases hc with hc | hc
      ·exact iha _ _ hc
      ·exact ihb _ _ hc
    grind
   rw[aH (by rw[h3];exact h4)];exact⟨h,trivial⟩
theorem zbD{ty:Ty}:∀{xs:List (T ty)} {us:List Value},us.length=xs.length->(∀(j:Nat) u x,us[j]?=some u->xs[j]?=some x->zD φ (qA ty x) u.cells.toList)->zD φ (qm ty xs) (us.flatMap fun u=>u.cells.toList)
 |[],[],_,_=>trivial
 |x::xs,u::us,hl,h=>by have h1:=h 0 u x rfl rfl;have h2:=zbD (xs:=xs) (us:=us) (by simpa using hl) fun j u x hu hx=>h (j+1) u x (by simpa using hu) (by simpa using hx);simp only[zss];exact h1.append h2
 |[],_::_,hl,_=>by simp at hl
 |_::_,[],hl,_=>by simp at hl
def zlX(P:Program)(tm:List SV)(H:SH)(nx:Nat)(t:TypeId)(n:Nat)(ps:List (Nat×Operand))(k:KO R):Option R:=match aO tm H ps,jh P t with
 |some vs,some (.slice e)=>match jr P e,CY P 20 e,jh P e with
  |some ie,some ty,some d=>bif Nat.beq n vs.length&&(Nat.ble (n*ie.size) 16777216&&(cW P e ty&&(Zm d||Nat.beq (sz ty) 1)))then
    match zez ⟨Zm d,ty⟩ vs 0 H with
    |some (xs,H1)=>match kX H1 nx (.arr true ty xs)with
     |some H2=>k (.own nx) H2 (nx+1)
     |none=>none
    |none=>none
   else none
  |_,_,_=>none
 |_,_=>none
theorem zif{tm:List SV}{H:SH}{ν:Nat->Bool}{a:Act}(ht:qS φ (zu (rho ν H) tm) a.tmps){ps:List (Nat×Operand)}{vs:List (Nat×SV)}(h:aO tm H ps=some vs):My φ (vs.map fun p=>(p.1,den (rho ν H) p.2)) (ps.map fun p=>(p.1,a.eval p.2)):=
 cK ht (cU ν h)
theorem zn9{rd:Option Nat}{o:Oper}{tm:List SV}{H:SH}{nx:Nat}{k:KO R}{r:R}{t:TypeId}{n:Nat}{ps:Array (Nat×Operand)}(ho:o.op=.buildSlice t n ps)(h:zlX P tm H nx t n ps.toList k=some r):vl P rd o tm H nx k r:=by
 unfold zlX at h;split at h;case h_2=>cases h
 rename_i vs e hvs hu;split at h;case h_2=>cases h
 rename_i ie ty d hie hty hd;have h6:=zT h;clear h;obtain⟨hh,h⟩:=h6;simp only[FT,zrm]at hh;obtain⟨c1,c2,c3,c4⟩:=hh;have c1:=zpK c1;have c2:=zqH c2;split at h;case h_2=>cases h
 rename_i xs H1 hl;split at h;case h_2=>cases h
 rename_i H2 hn;obtain⟨hn1,rfl⟩:=yQ hn;obtain⟨hg,hxl,hrel⟩:=zg7 hl;obtain⟨ie',z,e1,e2,e3,e4,e5,e6,e7⟩:=rq c3;rw[jt]at hie;rw[jx]at hu;rw[hie]at e1;cases e1;have hxn:xs.length=n:=by rw[hxl,c1]
 refine xm ⟨hg.1.regLe.trans (xI hn1),hg.1.lkeep.trans (xY hn1),zqv _,fun ν hv=>⟨ZG (hg.1.vn hv),rm hg ?_⟩⟩ h;have hv1:=hg.1.vn hv;refine QV (zqv _) (fun c hc=>by grind) fun φ w K a g hf ht=>?_;have hp:=zif ht hvs;obtain⟨us,f1,f2,f3⟩:=hrel ν H1 (GLe.refl _) φ K w nx _ g hv1 hp;have hcell:∀(j:Nat) u x,us[j]?=some u->xs[j]?=some x->zD φ (qA ty x) u.cells.toList:=fun j u x hu hx=>zj8 (vt:=⟨Zm d,ty⟩) (fun hagg=>by
  grind[Nat.eq_of_beq_eq_true]) (f3 j u x hu hx)
 have hsize:∀u∈us,u.cells.size=ie.size:=fun u hu=>by
  obtain⟨j,hj⟩:=zrw hu;have hjl:j < xs.length:=by have:=(zqr.1 hj).1;omega
  have:=(hcell j u xs[j] hj (by simp)).length;grind[wQ]
 have hfr:=hf.at (FW nx) (zqL nx);have hrl:=zbD f2 hcell;have hlim:(us.flatMap fun u=>u.cells.toList).length=n*ie.size:=by rw[<-hrl.length,QH,hxn,e5]
 have hg2:=g.make hfr.1 hfr.2 hrl e (n*ie.size) [] (by rw[hlim];omega);simp only[zri]at hg2;unfold execOp;simp only[ho];refine Ran.op ⟨.slice (some ⟨w.heap.size,0,none⟩) n n,w.alloc (.cells (us.flatMap fun u=>u.cells.toList).toArray e),φ.put nx ⟨w.heap.size,0,n*ie.size,#[]⟩,?_,?_,Ext.put hfr.1 hfr.2 _,XB hn1 hv1 hg2,qJ.alloc g _,zqv _⟩
 ·have hq:ps.toList.map (fun p=>(p.1,a.eval p.2))=us.zipIdx.map fun p=>(p.2,p.1):=f1;have hfill:∀arr:Array Value,arr.size=n*ie.size->Instr.fill (fun i=>some (i*ie.size,ie.size)) arr (us.zipIdx.map fun p=>(p.2,p.1))=some (us.flatMap fun u=>u.cells.toList).toArray:=fun arr ha=>by have:=zey us 0 arr hsize (by grind);simpa using this
  have h24:¬(n*ie.size > 2 ^ 24):=by omega
  by_cases h0:n*ie.size=0
  ·have:=hfill #[] (by simp[h0]);simp[Instr.buildSlice,zqz hu,qW hie,h0,Cu,hq,this,newRow]
  ·have:=hfill ((Array.range (n*ie.size)).map (z.cells[· % z.cells.size]!)) (by simp);simp[Instr.buildSlice,zqz hu,qW hie,h0,xl hie e2,hq,newRow]at this h24 ⊢;simp[h24,this]
 ·simp only[den];rw[KB hv1 rfl,hxn,e5];have:=zp.slO (φ:=φ.put nx ⟨w.heap.size,0,n*ie.size,#[]⟩) nx 0 n (qw+ie.size) n _ (Ren.put_same _ _ _) (by omega) (FW _) (by simp);simpa using this
theorem zeA:∀(t:Ty) {l:List SV} {H:SH} {x:T t} {r:List SV} {H':SH},cvC t l H=some (x,r,H')->l.length=sz t+r.length∧(∀j,j+sz t < l.length->r[j]?=l[j+sz t]?)∧∀(y:T t) j,j < sz t->l[j]?=(jN t y)[j]?->(qA t x)[j]?=(qA t y)[j]?
 |.unit,l,H,x,r,H',h=>by grind[cvC,sz]
 |.bool,l,H,x,r,H',h=>by simp only[cvC]at h;grind[sz,jN,List.getElem?_cons_zero,Option.some.injEq,SV.bool.injEq]
 |.int k,l,H,x,r,H',h=>by simp only[cvC]at h;grind[sz,jN,List.getElem?_cons_zero,Option.some.injEq,SV.int.injEq]
 |.str,l,H,x,r,H',h=>by simp only[cvC]at h;grind[sz,jN,List.getElem?_cons_zero,Option.some.injEq,SV.str.injEq]
 |.list t,l,H,x,r,H',h=>by
  simp only[cvC]at h;split at h
  ·rename_i t' y0 full r';split at h
   ·rename_i ht;subst ht;cases h;refine⟨by simp[sz];omega,fun j _=>by simp[sz],fun y j hj hl=>?_⟩;simp only[sz,Nat.lt_one_iff]at hj;subst hj;simp only[jN,zrb,PL,SV.lst.injEq]at hl;obtain⟨_,h3,_⟩:=hl;have:=eq_of_heq h3;subst this;rfl
   ·cases h
  all_goals grind[sz,jN]
 |.pair a b,l,H,x,r,H',h=>by
  simp only[cvC]at h;split at h;case h_2=>cases h
  rename_i x1 l1 H1 h1;split at h;case h_2=>cases h
  rename_i y l2 H2 h2;cases h;obtain⟨e1,e2,e3⟩:=zeA a h1;obtain⟨f1,f2,f3⟩:=zeA b h2;grind[sz,jN,qA,List.getElem?_append_left,VD,wQ,List.getElem?_append_right]
def zig(P:Program)(tm:List SV)(H:SH)(nx:Nat)(t:TypeId)(a x:Operand)(k:KO R):Option R:=match jF tm H a,jF tm H x with
 |some (.elp b s i off),some v=>match zo H b,jr P t with
  |some (.arr nn ty l),some inf=>bif Nat.beq s (sz ty)&&(lk v&&(MO (WZ v) inf.size&&(zeo (WZ v)&&(Nat.ble (off+inf.size) (sz ty)&&Nat.blt 0 inf.size))))then
    opt (gl l i) fun y=>match cvC ty (CT (jN ty y) off (WZ v)) H with
     |some (y',[],H1)=>match zo H1 b with
      |some (.arr _ _ _)=>k (.tup []) (jB H1 b (.arr nn ty (l.set i y'))) nx
      |_=>none
     |_=>none
   else none
  |_,_=>none
 |_,_=>none
theorem zeB(cs:List SV)(o:Nat)(vs:List SV)(h:o+vs.length<=cs.length)(j:Nat)(hj:j < o∨o+vs.length<=j):(CT cs o vs)[j]?=cs[j]?:=by grind[CT,List.append_assoc,List.getElem?_append_left,List.getElem?_append_right]
theorem MQ:∀(t:Ty) (y:T t) (c:Value),c∈qA t y->c.oneCell'=true:=by
 intro t;induction t with
 |unit=>grind[qA]
 |bool=>intro y c hc;simp[qA]at hc;subst hc;rfl
 |int k=>intro y c hc;simp[qA]at hc;subst hc;rfl
 |str=>intro y c hc;simp[qA]at hc;subst hc;rfl
 |list t ih=>intro y c hc;simp[qA]at hc;subst hc;rfl
 |pair a b iha ihb=>
  grind[qA]
theorem Hg:∀{l:List Value},(∀c∈l,c.oneCell'=true)->Qd l=true
 |[],_=>rfl
 |x::l,h=>by simp only[Qd,h x (by simp),Hg (l:=l) fun c hc=>h c (by simp[hc]),zrH]
theorem zoa{cs us:List Value}{o:Nat}{vs ys:List Value}(h:zD φ cs us)(hv:zD φ vs ys):zD φ (spl cs o vs) (spl us o ys):=by unfold spl;rw[<-hv.length];exact((h.take o).append hv).append (h.drop _)
theorem zlY{rd:Option Nat}{o:Oper}{tm:List SV}{H:SH}{nx:Nat}{k:KO R}{r:R}{t:TypeId}{ao xo:Operand}(ho:o.op=.store t ao xo)(h:zig P tm H nx t ao xo k=some r):vl P rd o tm H nx k r:=by
 unfold zig at h;split at h;case h_2=>cases h
 rename_i b s i off v ha hx;split at h;case h_2=>cases h
 rename_i nn ty l inf hb hi;have h6:=zT h;clear h;obtain⟨hh,h⟩:=h6;simp only[FT]at hh;obtain⟨c1,c2,c3,c4,c5,c6⟩:=hh;have c1:=zpK c1;have c3:=dx c3;have c5:=zqH c5;have c6:=nR c6;subst c1;have h6:=ug h;clear h;obtain⟨y,hy,h⟩:=h6;rw[xk]at hy;split at h;case h_2=>cases h
 rename_i y' H1 hcv;split at h;case h_2=>cases h
 rename_i nn1 ty1 l1 hb1;obtain⟨cs0,he0,hg,hcr⟩:=Xz ty hcv;simp only[zri]at he0;have hb1':zo H1 b=some (.arr nn ty l):=by rcases hg.1 b with h1 | ⟨nn2,t2,l2,h1,h2⟩;all_goals grind
 have hlt:i < l.length:=(zqr.1 hy).1;have hreg:∀c,reg (zo (jB H1 b (.arr nn ty (l.set i y'))) c)=reg (zo H1 c):=fun c=>by grind[qU,reg,rsz,zeh]
 have hnn:∀c,ji (zo (jB H1 b (.arr nn ty (l.set i y'))) c)=true->ji (zo H1 c)=true:=fun c hc=>by grind[qU,ji]
 refine xm ⟨hg.1.regLe.trans (fun c z hz=>by rw[hreg c];exact hz),hg.1.lkeep.trans (ZF hb1' (fun L=>by simp)),FW _,fun ν hv=>⟨vy hreg hnn (hg.1.vn hv),rm hg ?_⟩⟩ h;have hv1:=hg.1.vn hv;have hn:jE nn l=false:=nU (fun h=>by subst h;simp at hlt);have hd:(zK ν H1).get b=some (.cells (qm ty l) false):=by rw[qe,hb1'];simp[qB,hn]
 refine QV (FW _) (fun c hc=>by grind) fun φ w K a' g hf ht=>?_;have har:=qx ht (qq ha ν);have hxr:=qx ht (qq hx ν);simp only[den]at har;generalize hx':a'.eval xo=x' at hxr;obtain⟨s1,s2⟩:=QU (ν:=ν) (H:=H) c2;have hcells:=hxr.cells' s2;rw[s1]at hcells;have hlen0:off+(WZ v).length<=(jN ty y).length:=by rw[VD,c3];exact c5
 obtain⟨L,hL⟩:=g.named hd;obtain⟨p1,p2⟩:=rh ty l (k:=0) (n:=sz ty) hy (by omega);rw[Nat.add_zero]at p1 p2;have p3:(qA ty y).take (sz ty)=qA ty y:=zqW (by rw[wQ];omega);rw[List.drop_zero,p3]at p2;obtain⟨uy,hul,_,hur⟩:=g.read hd hL (i*sz ty) (sz ty) p1;rw[p2]at hur;have hxl:x'.cells.toList.length=inf.size:=by rw[<-hcells.length,wq,c3]
 have hnew:zD φ (qA ty y') (spl uy off x'.cells.toList):=by refine hcr ν H1 (GLe.refl _) φ K w nx _ g hv1 ?_;grind[MN,zoa,qO,wt]
 have hvs:zD φ (((qA ty y').drop off).take inf.size) x'.cells.toList:=by
  have h1:=(hnew.drop off).take inf.size;have h2:((spl uy off x'.cells.toList).drop off).take inf.size=x'.cells.toList:=by unfold spl;grind
  rwa [h2]at h1
 have hvl:(((qA ty y').drop off).take inf.size).length=inf.size:=by rw[hvs.length,hxl]
 have hone:Qd (((qA ty y').drop off).take inf.size)=true:=Hg fun c hc=>MQ ty y' c (List.mem_of_mem_drop (zsY hc));have hy2:qA ty y'=spl (qA ty y) off (((qA ty y').drop off).take inf.size):=by
  apply zrj;intro j;rw[nC _ _ _ (by grind),hvl];obtain⟨q1,_,q3⟩:=zeA ty hcv;by_cases h1:j < off
  ·grind[zeB]
  ·rw[zqu h1];by_cases h2:j < off+inf.size
   ·rw[zqI h2,zti,zqI (by omega),ztl];congr 1;omega
   grind[sz,zeB,List.getElem?_eq_none,wQ]
 have hset:=zjV ty l (k:=off) hy (by rw[hvl];exact c5) hy2;obtain⟨w',hst,hg2,hw2⟩:=g.write P hd hL (i*sz ty+off) (by omega) hone hvs (by grind);rw[hset]at hg2;rw[jt]at hi;unfold execOp;simp only[ho];generalize a'.eval ao=ua at har;cases har with
 |ptr _ _ L2 hL2=>
  rw[hL]at hL2;cases hL2;refine cM ⟨w',?_,?_,hw2⟩
  ·simp only[Instr.storeAt,Instr.sureAddr,storeVar];have hsz:x'.cells.size=inf.size:=by simpa using hxl
   rw[hx'];simp[qW hi,hsz];exact hst
  ·refine hg2.sub fun c k hc=>?_;grind[qe,qU,wu,Hp.get_set,qB,zeh]
theorem zlZ{rd:Option Nat}{o:Oper}{tm:List SV}{H:SH}{nx:Nat}{cs:List SV}{v:SV}(hn:zo H nx=none)(h:∀ν,jU P (zu (rho ν H) tm) (zK ν H) nx o=some (den (rho ν ((nx,.vars cs)::H)) v,(nx,.cells (zu (rho ν H) cs) false)::zK ν H,nx+1)):SOp P rd o tm H nx v ((nx,.vars cs)::H) (nx+1):=by
 refine⟨xI hn,xY hn,zqv _,fun ν hv=>⟨ZG hv,vN (ym (h ν)) (fun φ v' hv=>hv) (fun φ K w g=>?_)⟩⟩;have hr:rho ν ((nx,.vars cs)::H)=rho ν H:=wu (fun c=>by
  grind[qd,reg]) ν
 refine Ya hn (x:=.cells (zu (rho ν H) cs) false) ?_ g;simp[qB,hr]
def isNone{α:Type}:Option α->Bool
 |none=>true
 |some _=>false
def zl0(P:Program)(tm:List SV)(H:SH)(nx:Nat)(t:TypeId)(n:Nat)(ps:List (Nat×Operand)):Option (SV×SH):=match aO tm H ps,jh P t with
 |some vs,some (.slice e)=>match jr P e with
  |some ie=>match ie.zero with
   |some z=>match MI z with
    |some zs=>bif isNone (CY P 20 e)&&(Nat.beq ie.size 1&&Nat.ble n 1000)then match rp (fun i=>some (i*ie.size,ie.size)) (List.replicate n zs) vs with
     |some cs=>match kX H nx (.vars cs)with
      |some H'=>some (.slv nx n,H')
      |none=>none
     |none=>none
     else none
    |none=>none
   |none=>none
  |none=>none
 |_,_=>none
theorem zob{rd:Option Nat}{o:Oper}{tm:List SV}{H H':SH}{nx:Nat}{v:SV}{t:TypeId}{n:Nat}{ps:Array (Nat×Operand)}(ho:o.op=.buildSlice t n ps)(h:zl0 P tm H nx t n ps.toList=some (v,H')):SOp P rd o tm H nx v H' (nx+1):=by
 unfold zl0 at h;split at h;case h_2=>cases h
 rename_i vs e hvs hu;split at h;case h_2=>cases h
 rename_i ie hie;split at h;case h_2=>cases h
 rename_i z hz;split at h;case h_2=>cases h
 rename_i zs hzs;have h6:=zT h;clear h;obtain⟨hc,h⟩:=h6;simp only[FT]at hc;have hs1:=zpK hc.2.1;have hn:=zqH hc.2.2;split at h;case h_2=>cases h
 rename_i cs hcs;split at h;case h_2=>cases h
 rename_i H2 hnew;cases h;obtain⟨hn1,rfl⟩:=yQ hnew;refine zlZ hn1 fun ν=>?_;obtain⟨e1,e2⟩:=MJ (ρ:=rho ν H) hzs;obtain⟨f1,f2⟩:=ln (ν:=ν) (H:=H) _ hcs;have hzc:z.cells=#[z]:=by unfold MI at hzs;split at hzs<;>first | rfl | cases hzs
 have hrep:((Array.range (n*ie.size)).map (z.cells[· % z.cells.size]!))=(zu (rho ν H) (List.replicate n zs)).toArray:=by
  rw[hs1,hzc];apply zrM;rw[qO,List.map_replicate,e1];apply zrj;intro i;simp only[Nat.mul_one,Array.toList_map,Array.toList_range,zrF,List.getElem?_replicate];by_cases hi:i < n
  ·simp[hi,Nat.mod_one]
  ·simp[hi]
 have hav:∀m,avL (List.replicate m z)=true:=fun m=>by
  induction m with
  |zero=>rfl
  |succ m ih=>simp[zrK,avL,ih,e2]
 unfold jU;simp only[ho,cU ν hvs,zqt];grind[Qu,avL,zu,rho,List.replicate,qO,List.map_replicate,den,qw]
def MR(H:SH)(ty:Ty):SV->Option (List (T ty))
 |.lst t l _=>if h:t=ty then some (kW h l)else none
 |.own b=>match zo H b with
  |some (.arr _ t l)=>if h:t=ty then some (kW h l)else none
  |some (.roa _ t l)=>if h:t=ty then some (kW h l)else none
  |_=>none
 |.nils=>some []
 |_=>none
theorem zbE(ty:Ty)(l:List (T ty)):((l.map (wv ty)).flatMap fun e=>e.cells.toList)=qm ty l:=by
 induction l with
 |nil=>rfl
 |cons x l ih=>simp only[zrG,zss,ih];rfl
theorem Dc{ν:Nat->Bool}{nx:Nat}{H:SH}(hv:VN ν nx H){b:Nat}{nn:Bool}{ty:Ty}{l:List (T ty)}{ro:Bool}(hr:reg (zo H b)=some (l.length,rsz nn ty l))(hd:jE nn l=false->(zK ν H).get b=some (.cells (qm ty l) ro)) : ue (zK ν H) (sz ty) (rho ν H b)=some (l.length,qm ty l):=by grind[xX,jE,VX,ue,qm,List.length_eq_zero_iff,QH,List.take_of_length_le]
theorem Gt{ν:Nat->Bool}{nx:Nat}{H:SH}(hv:VN ν nx H){ty:Ty}{x:SV}{l:List (T ty)}(h:MR H ty x=some l):ue (zK ν H) (sz ty) (den (rho ν H) x)=some (l.length,qm ty l):=by
 unfold MR at h;split at h
 ·rename_i t l0 full;split at h;case isFalse=>cases h
  rename_i ht;subst ht;cases h;have hes:vr (den (rho ν H) (.lst t l0 full))=some (sz t,(l0.map (wv t)).toArray,full):=by cases full<;>simp[den,fzV,vr]
  have:ue (zK ν H) (sz t) (den (rho ν H) (.lst t l0 full))=YA (sz t) (den (rho ν H) (.lst t l0 full)):=by cases full<;>simp[den,fzV,ue]
  rw[this];unfold YA;rw[hes];simp[zbE,kW]
 ·rename_i b;split at h
  ·rename_i nn t l0 hb;split at h;case isFalse=>cases h
   rename_i ht;subst ht;cases h;exact Dc hv (ro:=false) (nn:=nn) (by rw[hb];rfl) fun hn=>by rw[qe,hb];have hn':jE nn l0=false:=hn;simp[qB,hn',kW]
  ·rename_i nn t l0 hb;split at h;case isFalse=>cases h
   rename_i ht;subst ht;cases h;exact Dc hv (ro:=true) (nn:=nn) (by rw[hb];rfl) fun hn=>by rw[qe,hb];have hn':jE nn l0=false:=hn;simp[qB,hn',kW]
  ·cases h
 all_goals grind[den,ue,qm]
theorem Dd{o:Oper}{a:Act}{b:Builtin}{args:Array Operand}{ats:Array TypeId}(ho:o.op=.call {callee:=.builtin b,args:=args,argTypes:=ats}) : ∃cs,execOp a.eval o=builtin b ats o.type cs (args.map a.eval):=by refine⟨args.map fun | .const _=>true | _=>false,?_⟩;unfold execOp;simp only[ho];show builtin b ats o.type _ _=_;congr 1
def Wp{α:Type}(l l2:List α):List α:=l2.take l.length++l.drop l2.length
def zih(P:Program)(tm:List SV)(H:SH)(nx:Nat)(t:TypeId)(d x:Operand)(k:KO R):Option R:=match jF tm H d,jF tm H x with
 |some (.own b),some v=>match zo H b,jh P t with
  |some (.arr true ty l),some (.slice e)=>bif Yb P e (sz ty)&&Nat.blt 0 (sz ty)then match MR H ty v with
   |some l2=>k (.int .i64 (Nat.min l2.length l.length:Nat)) (jB H b (.arr true ty (Wp l l2))) (nx+1)
   |none=>none
   else none
  |_,_=>none
 |_,_=>none
theorem zl1{rd:Option Nat}{o:Oper}{tm:List SV}{H:SH}{nx:Nat}{k:KO R}{r:R}{t u:TypeId}{d x:Operand}(ho:o.op=.call {callee:=.builtin .copy,args:=#[d,x],argTypes:=#[t,u]})(h:zih P tm H nx t d x k=some r):vl P rd o tm H nx k r:=by
 unfold zih at h;split at h;case h_2=>cases h
 rename_i b v hd hx;split at h;case h_2=>cases h
 rename_i ty l e hb hu;have h6:=zT h;clear h;obtain⟨hh,h⟩:=h6;simp only[FT]at hh;obtain⟨ie,hie,hsz⟩:=Qe hh.1;have hpos:=nR hh.2;split at h;case h_2=>cases h
 rename_i l2 hl2;have hcl:(Wp l l2).length=l.length:=by simp[Wp];omega
 have hreg:∀c,reg (zo (jB H b (.arr true ty (Wp l l2))) c)=reg (zo H c):=fun c=>by
  rw[qU];by_cases hc:c=b
  ·subst hc;simp[hb,reg,hcl,rsz,jE]
  ·rw[zqu hc]
 have hnn:∀c,ji (zo (jB H b (.arr true ty (Wp l l2))) c)=true->ji (zo H c)=true:=fun c hc=>by
  rw[qU]at hc;by_cases hcb:c=b
  ·subst hcb;rw[hb];rfl
  grind
 refine xm ⟨fun c z hz=>by rw[hreg c];exact hz,ZF hb (fun L=>by simp),zqv _,fun ν hv=>⟨(vy hreg hnn hv).later (zqv _),?_⟩⟩ h;have hdb:(zK ν H).get b=some (.cells (qm ty l) false):=by rw[qe,hb];simp[qB,jE]
 refine QV (zqv _) (fun c hc=>by grind) fun φ w K a g hf ht=>?_;have hdr:=qx ht (qq hd ν);have hxr:=qx ht (qq hx ν);have hρ:den (rho ν H) (.own b)=.slice (some ⟨b,0,none⟩) l.length (qw+sz ty):=by simp only[den];rw[xX ν (nn:=true) (t:=ty) (l:=l) (by rw[hb];rfl)];rfl
 rw[hρ]at hdr;rw[jx]at hu;rw[jt]at hie;have hsrc:=Gt hv hl2;rw[<-hsz]at hsrc;obtain⟨w',r1,r2,r3⟩:=zj4 (P:=P) (ts:=u) (ty:=o.type) g hu hie hdb hdr hsrc hxr (by rw[QH,hsz]) (by omega) (Hg fun c hc=>by
  grind[qm,MQ])
 obtain⟨cs,he⟩:=Dd (a:=a) ho;have hmap:(#[d,x]:Array Operand).map a.eval=#[a.eval d,a.eval x]:=by simp
 rw[he,hmap];show FU P φ K w nx (do pure (.value (<-Builtin.copy_ #[t,u] o.type #[a.eval d,a.eval x])):Sem Next) _ _ _;refine Ran.op (s:=Builtin.copy_ #[t,u] o.type #[a.eval d,a.eval x]) ⟨_,w',φ,r1,?_,Ext.refl _ _ _ _,?_,r3,zqv _⟩
 ·simp only[den,goInt];exact .int _ _
 ·refine r2.sub fun c k hc=>?_;rw[qe,qU,wu hreg]at hc;rw[Hp.get_set];by_cases hcb:c=b
  ·subst hcb;simp[hb,qB,jE]at hc;rw[zqI rfl,hdb];simp only[zqQ,PL];rw[<-hc];congr 1;unfold spl;have e1:(qm ty l2).take (Nat.min l2.length l.length*ie.size)=qm ty (l2.take l.length):=by
    rw[hsz,Pz];congr 1;by_cases h0:l2.length<=l.length
    ·rw[show Nat.min l2.length l.length=l2.length from zsd h0,zqW (FW _),zqW h0]
    ·rw[show Nat.min l2.length l.length=l.length from Nat.min_eq_right (by omega)]
   rw[e1,QH,List.take_zero,List.nil_append,zrr,rf,Wp,dN];congr 2;by_cases h0:l2.length<=l.length
   ·rw[zqW h0]
   ·rw[zsh,zsd (by omega),zso (FW _),zso (by omega)]
  grind[qe]
def zX(n m bytes:Nat):Bool:=Nat.ble (n+m) maxLen&&Nat.ble ((n+m)*bytes) 140737488355328
def zeC(H0 H:SH)(nx:Nat)(ty:Ty)(bytes:Nat)(l l2:List (T ty))(s:SV)(k:KO R):Option R:=match l2 with
 |[]=>k s H0 (nx+1)
 |y::ys=>match kX H nx (.arr true ty (l++y::ys))with
  |some H'=>bif zX l.length (y::ys).length bytes then k (.own nx) H' (nx+1)else none
  |none=>none
def zpM:SV->Bool
 |.lst _ _ _=>true
 |_=>false
def tyS(H:SH):SV->Option Ty
 |.lst t _ _=>some t
 |.own b=>match zo H b with
  |some (.arr _ t _)=>some t
  |some (.roa _ t _)=>some t
  |_=>none
 |_=>none
def zl2(P:Program)(tm:List SV)(H:SH)(nx:Nat)(t:TypeId)(s x:Operand)(k:KO R):Option R:=match jF tm H s,jF tm H x with
 |some sv,some xv=>match jh P t with
  |some (.slice e)=>match jr P e with
   |some ie=>match sv with
    |.nils=>match tyS H xv with
     |some ty=>bif cW P e ty then match MR H ty xv with
      |some l2=>match kX H nx (.arr false ty l2)with
       |some H'=>bif zX 0 l2.length ie.bytes then k (.own nx) H' (nx+1)else none
       |none=>none
      |none=>none
      else none
     |none=>none
    |.own b=>match zo H b with
     |some (.arr nn ty l)=>bif cW P e ty then match MR H ty xv with
      |some l2=>match kX (jB H b (.gone (rsz nn ty l) l.length)) nx (.arr nn ty (l++l2))with
        |some H'=>bif zX l.length l2.length ie.bytes then k (.own nx) H' (nx+1)else none
        |none=>none
      |none=>none
      else none
     |_=>none
    |.lst ty l true=>bif cW P e ty then match MR H ty xv with
     |some l2=>bif zpM xv then match kX H nx (.fro true ty (l++l2))with
       |some _=>bif zX l.length l2.length ie.bytes then k (.lst ty (l++l2) false) H (nx+1)else none
       |none=>none
      else zeC H H nx ty ie.bytes l l2 (.lst ty l true) k
     |none=>none
     else none
    |_=>none
   |none=>none
  |_=>none
 |_,_=>none
theorem dR{H:SH}{b:Nat}{nn:Bool}{ty:Ty}{l:List (T ty)}(hb:zo H b=some (.arr nn ty l))(c:Nat):reg (zo (jB H b (.gone (rsz nn ty l) l.length)) c)=reg (zo H c):=by
 rw[qU];by_cases hc:c=b
 ·subst hc;rw[zqI rfl,hb];exact dO nn ty l
 ·rw[zqu hc]
theorem zgu{H:SH}{b:Nat}{nn:Bool}{ty:Ty}{l:List (T ty)}(hb:zo H b=some (.arr nn ty l))(c:Nat)(h:ji (zo (jB H b (.gone (rsz nn ty l) l.length)) c)=true):ji (zo H c)=true:=by grind[qU,ji]
theorem sQ{ν:Nat->Bool}{H:SH}{b:Nat}{nn:Bool}{ty:Ty}{l:List (T ty)}(hb:zo H b=some (.arr nn ty l))(c:Nat)(k:Blk)(h:(zK ν (jB H b (.gone (rsz nn ty l) l.length))).get c=some k):((zK ν H).del b).get c=some k:=by grind[qe,qU,wu,dR,Hp.get_del,qB]
theorem IJ{o:Oper}{a:Act}{t:TypeId}{so xo:Operand}(ho:o.op=.call {callee:=.builtin .append,args:=#[so,xo],argTypes:=#[t,t]}) : execOp a.eval o=(do pure (.value (<-Builtin.append_ #[t,t] o.type #[a.eval so,a.eval xo])):Sem Next):=by
 obtain⟨cs,he⟩:=Dd (a:=a) ho;have hmap:(#[so,xo]:Array Operand).map a.eval=#[a.eval so,a.eval xo]:=by simp
 rw[he,hmap];rfl
structure MS(P:Program)(t e:TypeId)(ie:TypeInfo)(ty:Ty):Prop where
 hu:jh P t=some (.slice e)
 hie:jr P e=some ie
 hz:∃z,ie.zero=some z∧z.cells.size=ie.size∧0 < ie.size
 hsz:sz ty=ie.size
theorem MS.of{t e:TypeId}{ie:TypeInfo}{ty:Ty}(hu:jh P t=some (.slice e))(hie:jr P e=some ie)(h:cW P e ty=true):MS P t e ie ty:=by obtain⟨i,z,e1,e2,e3,e4,e5,_⟩:=rq h;rw[<-jt,hie]at e1;cases e1;exact⟨hu,hie,⟨z,e2,e3,e4⟩,e5⟩
theorem ru{n m bytes:Nat}(h:zX n m bytes=true):n+m<=maxLen∧(n+m)*bytes<=140737488355328:=by simp only[zX,FT]at h;simp_all
theorem zl3{ν:Nat->Bool}{H:SH}(g:zF φ (zK ν H) K w){t e:TypeId}{ie:TypeInfo}{ty:Ty}(hE:MS P t e ie ty){tt:TypeId}{x s' x':Value}{news:List Value}(hsrc:ue (zK ν H) ie.size x=some (0,news))(hx:zp φ x x')(hs:∃a n c,s'=.slice a n c∧n<=c) : (Builtin.append_ #[t,t] tt #[s',x']).run P w=.ok s' w:=by obtain⟨ax,cx,us,rfl,_⟩:=Xx g hsrc hx;obtain⟨a,n,c,rfl,hn⟩:=hs;have h1:=hE.hu;have h2:=hE.hie;grind[jx,jt,uU]
theorem zl4(ty:Ty)(l:List (T ty)):Qd (qm ty l)=true:=by grind[Hg,qm,MQ]
theorem zoc{H:Hp}{b c:Nat}{k:Blk}(h:(H.del b).get c=some k):H.get c=some k:=by grind[Hp.get_del]
theorem zod{ν:Nat->Bool}{H:SH}{nx:Nat}{b:Nat}{nn:Bool}{ty:Ty}{l l2:List (T ty)}{t e:TypeId}{ie:TypeInfo}(hE:MS P t e ie ty)(hb:zo H b=some (.arr nn ty l))(hv:VN ν nx H){xv:SV}(hsrc:MR H ty xv=some l2)(hne:l2≠[])(hok:zX l.length l2.length ie.bytes=true):∃v Hd,vu P (zK ν H) nx t (rho ν H b) (den (rho ν H) xv)=some (v,Hd,nx+1)∧v=.slice (some ⟨nx,0,none⟩) (l.length+l2.length) (qw+ie.size)∧∀c k,Hp.get ((nx,.cells (qm ty (l++l2)) false)::(zK ν H).del b) c=some k->Hd.get c=some k:=by
 have hs:=Gt hv hsrc;obtain⟨h1,h2⟩:=ru hok;obtain⟨z,z1,z2,z3⟩:=hE.hz;have hm:l2.length≠0:=fun h0=>hne (zrh.1 h0);have hr:reg (zo H b)=some (l.length,rsz nn ty l):=by rw[hb];rfl
 have hso:=Dc hv (b:=b) (ty:=ty) (l:=l) (ro:=false) hr (fun hn=>by rw[qe,hb];simp[qB,hn]);rw[hE.hsz]at hs hso;cases hn:jE nn l with
 |true=>
  obtain⟨_,rfl⟩:=VX hn;have hρ:rho ν H b=.slice none 0 0:=by rw[xX ν hr,hn];rfl
  refine⟨.slice (some ⟨nx,0,none⟩) l2.length (qw+ie.size),(nx,.cells (qm ty l2) false)::zK ν H,?_,by simp,fun c k hc=>?_⟩
  ·rw[hρ];unfold vu;simp only[hE.hu,hE.hie,z1,hs,z2,z3,and_self,zqF,hm,zqZ];simp only[List.length_nil,zrr]at h1 h2;rw[zqI ⟨h1,h2⟩]
  grind[Tx]
 |false=>
  have hρ:rho ν H b=.slice (some ⟨b,0,none⟩) l.length (qw+sz ty):=by rw[xX ν hr,hn];rfl
  have hd:(zK ν H).get b=some (.cells (qm ty l) false):=by rw[qe,hb];simp[qB,hn]
  refine⟨.slice (some ⟨nx,0,none⟩) (l.length+l2.length) (qw+ie.size),(nx,.cells (qm ty l++qm ty l2) false)::(zK ν H).del b,?_,rfl,fun c k hc=>by rwa [dN]at hc⟩;rw[hρ]at hso ⊢;have c1:¬qw+sz ty < l.length+l2.length:=by grind[maxLen,qw]
  have c2:qw<=qw+sz ty:=zrp _ _;have c3:qw+sz ty - qw=ie.size:=by rw[hE.hsz];omega
  unfold vu;simp only[hE.hu,hE.hie,z1,hs,z2,z3,and_self,zqF,hm,zqZ,hso,h1,h2,c1,c2,c3,hd,zl4,implies_true]
theorem zj9{ν:Nat->Bool}{H:SH}{b:Nat}{v':Value}{nn:Bool}{ty:Ty}{l:List (T ty)}(hb:zo H b=some (.arr nn ty l))(h:zp φ (rho ν H b) v'):∃a n c,v'=.slice a n c∧n<=c:=by
 rw[xX ν (nn:=nn) (t:=ty) (l:=l) (by rw[hb];rfl)]at h;cases hn:jE nn l with
 |true=>rw[hn]at h;cases h;grind
 |false=>
  rw[hn,zqD]at h;generalize hc0:qw+sz ty=c0 at h;generalize hn0:l.length=n0 at h;cases h<;>grind
theorem PJ{H H2:SH}{nx:Nat}{b:Nat}{nn nn':Bool}{ty:Ty}{l l':List (T ty)}(hb:zo H b=some (.arr nn ty l))(hn:kX (jB H b (.gone (rsz nn ty l) l.length)) nx (.arr nn' ty l')=some H2) : jV H H2∧wc H H2∧∀ν,VN ν nx H->VN ν (nx+1) H2∧(jE nn' l'=false->rho ν H2 nx=.slice (some ⟨nx,0,none⟩) l'.length (qw+sz ty))∧(∀φ K w,zF φ ((nx,.cells (qm ty l') false)::(zK ν H).del b) K w->zF φ (zK ν H2) K w)∧(jE nn' l'=true->rho ν H2 nx=.slice none 0 0∧∀φ K w,zF φ (zK ν H) K w->zF φ (zK ν H2) K w):=by
 obtain⟨h1,rfl⟩:=yQ hn;have hr:jV H (jB H b (.gone (rsz nn ty l) l.length)):=fun c z hz=>by rw[dR hb];exact hz
 refine⟨hr.trans (xI h1),(ZF hb (fun L=>by simp)).trans (xY h1),fun ν hv=>?_⟩;have hv1:=vy (dR hb) (zgu hb) hv;refine⟨ZG hv1,fun hl=>KB hv1 hl,fun φ K w g=>XB h1 hv1 (g.sub fun c k hc=>?_),fun hl=>⟨PH hl,fun φ K w g=>CZ h1 (by simp[qB,hl]) (g.sub fun c k hc=>zoc (sQ hb c k hc))⟩⟩;grind[Hp.get_cons,sQ]
theorem zka{rd:Option Nat}{o:Oper}{tm:List SV}{H0 H:SH}{nx:Nat}{k:KO R}{r:R}{ty:Ty}{bytes:Nat}{l l2:List (T ty)}{s:SV}(h:zeC H0 H nx ty bytes l l2 s k=some r)(h0:l2=[]->SOp P rd o tm H0 nx s H0 (nx+1))(h1:∀H',l2≠[]->kX H nx (.arr true ty (l++l2))=some H'->zX l.length l2.length bytes=true->SOp P rd o tm H0 nx (.own nx) H' (nx+1)):vl P rd o tm H0 nx k r:=by unfold zeC at h;grind[xm]
theorem zoe{rd:Option Nat}{o:Oper}{tm:List SV}{H:SH}{nx:Nat}{k:KO R}{r:R}{t:TypeId}{so xo:Operand}(ho:o.op=.call {callee:=.builtin .append,args:=#[so,xo],argTypes:=#[t,t]})(h:zl2 P tm H nx t so xo k=some r):vl P rd o tm H nx k r:=by
 unfold zl2 at h;split at h;case h_2=>cases h
 rename_i sv xv hs hx;split at h;case h_2=>cases h
 rename_i e hu;split at h;case h_2=>cases h
 rename_i ie hie;have hnd:∀c,o.op≠.defer c:=fun c hc=>by grind
 have run:∀{ν:Nat->Bool} {H':SH} {v:SV} {vd:Value} {Hd:Hp},VN ν nx H->(∀φ K w,zF φ (zK ν H) K w->∀s',zp φ (den (rho ν H) sv) s'->∃sd,zp φ sd s'∧vu P (zK ν H) nx t sd (den (rho ν H) xv)=some (vd,Hd,nx+1))->
   (∀φ K w v',zF φ Hd K w->zp φ vd v'->∃φ',(∀n,Ext K φ φ' n n)∧zF φ' (zK ν H') K w∧zp φ' (den (rho ν H') v) v')->Qv P rd o (zu (rho ν H) tm) (zK ν H) nx (den (rho ν H') v) (zK ν H') (nx+1):=by
  intro ν H' v vd Hd hv h1 h2
  refine QV (zqv _) hnd fun φ w K a g hf ht=>?_
  have hsr:=qx ht (qq hs ν)
  have hxr:=qx ht (qq hx ν)
  have hfr:=hf.at (FW nx) (zqL nx)
  obtain⟨sd,e1,e2⟩:=h1 φ K w g _ hsr
  obtain⟨v',w',φ',r1,r2,r3,r4,r5,_⟩:=Iu (P:=P) (ty:=o.type) g hfr.1 hfr.2 e2 e1 hxr
  obtain⟨φ2,f1,f2,f3⟩:=h2 φ' K w' v' r4 r2
  rw[IJ ho]
  exact Ran.op ⟨v',w',φ2,r1,f3,r3.trans (f1 (nx+1)) (zqv _) (FW _),f2,r5,zqv _⟩
 have idExt:∀(φ:Ren) (K:Nat->Prop),∀n,Ext K φ φ n n:=fun φ K n=>Ext.refl _ _ _ _;split at h
 ·split at h;case h_2=>cases h
  rename_i ty hty;have h6:=zT h;clear h;obtain⟨hz,h⟩:=h6;have hE:=MS.of hu hie hz;obtain⟨z,z1,z2,z3⟩:=hE.hz;split at h;case h_2=>cases h
  rename_i l2 hl2;split at h;case h_2=>cases h
  rename_i H' hnew;have h7:=zT h;clear h;obtain⟨hok,h⟩:=h7;refine xm ?_ h;obtain⟨hn1,rfl⟩:=yQ hnew;refine⟨xI hn1,xY hn1,zqv _,fun ν hv=>⟨ZG hv,?_⟩⟩;have hsrc:=Gt hv hl2;rw[hE.hsz]at hsrc;cases hne:l2 with
  |nil=>
   subst hne;refine run (v:=.own nx) (vd:=.slice none 0 0) (Hd:=zK ν H) hv (fun φ K w g s' hs'=>⟨.slice none 0 0,by simpa only[den]using hs',?_⟩) (fun φ K w v' g hv'=>⟨φ,idExt φ K,CZ hn1 rfl g,by simp only[den];rw[PH rfl];exact hv'⟩);grind[vu]
  |cons y ys=>
   rw[<-hne];have hnn:l2≠[]:=by rw[hne];simp
   have hm:l2.length≠0:=fun h0=>hnn (zrh.1 h0);obtain⟨b1,b2⟩:=ru hok;simp only[zrr]at b1 b2;refine run (v:=.own nx) (vd:=.slice (some ⟨nx,0,none⟩) l2.length (qw+ie.size)) (Hd:=(nx,.cells (qm ty l2) false)::zK ν H) hv (fun φ K w g s' hs'=>⟨.slice none 0 0,by simpa only[den]using hs',?_⟩) (fun φ K w v' g hv'=>⟨φ,idExt φ K,XB hn1 hv (by simpa using g),?_⟩)
   ·grind[vu]
   ·simp only[den];rw[KB hv (nU hnn),hE.hsz];simpa using hv'
 ·rename_i b;split at h;case h_2=>cases h
  rename_i nn ty l hb;have h6:=zT h;clear h;obtain⟨hz,h⟩:=h6;have hE:=MS.of hu hie hz;obtain⟨z,z1,z2,z3⟩:=hE.hz;split at h;case h_2=>cases h
  rename_i l2 hl2;have more:∀{H2:SH},kX (jB H b (.gone (rsz nn ty l) l.length)) nx (.arr nn ty (l++l2))=some H2->l2≠[]->zX l.length l2.length ie.bytes=true->SOp P rd o tm H nx (.own nx) H2 (nx+1):=by intro H2 hnew hne hok;obtain⟨q1,q2,q3⟩:=PJ hb hnew;refine⟨q1,q2,zqv _,fun ν hv=>?_⟩;obtain⟨q4,q5,q6,_⟩:=q3 ν hv;obtain⟨vd,Hd,e1,rfl,e3⟩:=zod hE hb hv hl2 hne hok;refine⟨q4,run hv (fun φ K w g s' hs'=>⟨rho ν H b,by simpa only[den]using hs',e1⟩) (fun φ K w v' g hv'=>⟨φ,idExt φ K,q6 φ K w (g.sub e3),?_⟩)⟩;simp only[den];rw[q5 (nU (by simp[hne])),hE.hsz,zrt];exact hv'
  split at h;case h_2=>cases h
  rename_i H2 hnew;have h7:=zT h;clear h;obtain⟨hok,h⟩:=h7;by_cases hne:l2=[]
  ·subst hne;rw[zri]at hnew;obtain⟨q1,q2,q3⟩:=PJ hb hnew;refine xm ⟨q1,q2,zqv _,fun ν hv=>?_⟩ (by assumption);obtain⟨q4,q5,q6,q7⟩:=q3 ν hv;refine⟨q4,QV (zqv _) hnd fun φ w K a g hf ht=>?_⟩;have hsr:=qx ht (qq hs ν);have hxr:=qx ht (qq hx ν);simp only[den]at hsr;have hfr:=hf.at (FW nx) (zqL nx);have hsrc:=Gt hv hl2;rw[hE.hsz]at hsrc;have hrun:=zl3 (tt:=o.type) g hE hsrc hxr (zj9 hb hsr);have hr:reg (zo H b)=some (l.length,rsz nn ty l):=by rw[hb];rfl
   rw[IJ ho];generalize a.eval so=us at hsr hrun ⊢;rw[xX ν hr]at hsr;cases hn:jE nn l with
   |true=>
    obtain⟨e1,e2⟩:=q7 hn;rw[hn]at hsr;exact Ran.op ⟨us,w,φ,hrun,by simp only[den];rw[e1];exact hsr,Ext.refl _ _ _ _,e2 φ K w g,qJ.refl _ _,zqv _⟩
   |false=>
    have hd:(zK ν H).get b=some (.cells (qm ty l) false):=by rw[qe,hb];simp[qB,hn]
    obtain⟨φ',f1,f2,f3⟩:=CW g hfr.1 hfr.2 hd;refine Ran.op ⟨us,w,φ',hrun,?_,f1,q6 φ' K w (by simpa using f2),qJ.refl _ _,zqv _⟩;simp only[den];rw[q5 hn];rw[hn,zqD]at hsr;generalize qw+sz ty=c0 at hsr ⊢;generalize l.length=n0 at hsr ⊢;cases hsr with
    |sl _ _ _ _ L hL hc=>exact .sl _ _ _ _ L (f3 L hL) hc
    |slO _ _ _ _ c' L hL hc hnc hl=>exact .slO _ _ _ _ c' L (f3 L hL) hc hnc hl
    |slE _ _ _ a' L hL hc=>exact .slE _ _ _ a' L (f3 L hL) hc
  grind[xm]
 ·rename_i ty l;have h6:=zT h;clear h;obtain⟨hz,h⟩:=h6;have hE:=MS.of hu hie hz;obtain⟨z,z1,z2,z3⟩:=hE.hz;split at h;case h_2=>cases h
  rename_i l2 hl2;have hes:∀ν,vr (den (rho ν H) (.lst ty l true))=some (sz ty,(l.map (wv ty)).toArray,true):=fun ν=>by simp[den,fzV,vr]
  have happ:∀{ν},VN ν nx H->l2≠[]->zX l.length l2.length ie.bytes=true->vu P (zK ν H) nx t (den (rho ν H) (.lst ty l true)) (den (rho ν H) xv)=some (.slice (some ⟨nx,0,none⟩) (l.length+l2.length) (qw+ie.size),(nx,.cells (qm ty (l++l2)) false)::zK ν H,nx+1):=by
   intro ν hv hne hok;have hsrc:=Gt hv hl2;rw[hE.hsz]at hsrc;have hm:l2.length≠0:=fun h0=>hne (zrh.1 h0);obtain⟨b1,b2⟩:=ru hok;have hfc:YA ie.size (.iface (sz ty) (.agg (l.map (wv ty)).toArray))=some (l.length,qm ty l):=by unfold YA;simp[vr,hE.hsz,zbE]
   unfold vu;simp only[hE.hu,hE.hie,z1,hsrc,z2,z3,and_self,zqF,den,fzV,zqJ,vr,hm,zqZ,hE.hsz];have hl0:((l.map (wv ty)).toArray).size=l.length:=by simp
   rw[hE.hsz]at hfc;grind[dN]
  have stay:l2=[]->∀(v:SV),(∀ν φ v',zp φ (den (rho ν H) (.lst ty l true)) v'->zp φ (den (rho ν H) v) v')->SOp P rd o tm H nx v H (nx+1):=by intro hn v hvr;subst hn;refine⟨jV.refl H,wc.refl H,zqv _,fun ν hv=>⟨hv.later (zqv _),?_⟩⟩;have hsrc:=Gt hv hl2;rw[hE.hsz]at hsrc;refine run (v:=v) (vd:=den (rho ν H) (.lst ty l true)) (Hd:=zK ν H) hv (fun φ K w g s' hs'=>⟨_,hs',?_⟩) (fun φ K w v' g hv'=>⟨φ,idExt φ K,g,hvr ν φ v' hv'⟩);grind[vu,den,fzV,vr]
  rcases vO h with⟨_,h⟩ | ⟨_,h⟩
  ·split at h;case h_2=>cases h
   rename_i H9 hnew;obtain⟨hn1,_⟩:=yQ hnew;have h6:=zT h;clear h;obtain⟨hok,h⟩:=h6;by_cases hne:l2=[]
   ·have:=stay hne (.lst ty (l++l2) false) (fun ν φ v' hv'=>by
     grind[den,zbB])
    exact xm this h
   ·refine xm ⟨jV.refl H,wc.refl H,zqv _,fun ν hv=>⟨hv.later (zqv _),?_⟩⟩ h;refine run (v:=.lst ty (l++l2) false) (vd:=.slice (some ⟨nx,0,none⟩) (l.length+l2.length) (qw+ie.size)) (Hd:=(nx,.cells (qm ty (l++l2)) false)::zK ν H) hv (fun φ K w g s' hs'=>⟨_,hs',happ hv hne hok⟩) (fun φ K w v' g hv'=>?_);obtain⟨φ',f1,f2⟩:=zei g (b:=nx) (cs:=qm ty (l++l2)) (by simp[Hp.get_cons]);have hnone:(zK ν H).get nx=none:=by rw[qe,hn1];rfl
    have hgo:∀c k,(zK ν H).get c=some k->c≠nx:=fun c k hc e=>by grind
    have g1:zF φ' (zK ν H) K w:=f2 _ fun c k hc=>by grind[Hp.get_cons]
    have g2:zF φ' (zK ν ((nx,.fro true ty (l++l2))::H)) K w:=by refine Ya hn1 (x:=.fzc (qm ty (l++l2))) (by simp[qB,jE]) (f2 _ fun c k hc=>?_);grind[Hp.get_cons]
    refine⟨φ',f1,g1,?_⟩;simp only[den];refine nV g2 (ZG hv) (b:=nx) (by rw[qd,zqI rfl]) (by rw[hE.hsz];exact z3) ?_;have hρ:rho ν ((nx,.fro true ty (l++l2))::H) nx=.slice (some ⟨nx,0,none⟩) (l.length+l2.length) (qw+ie.size):=by rw[xX ν (nn:=true) (t:=ty) (l:=l++l2) (by rw[qd,zqI rfl];rfl)];simp[jE,hE.hsz]
    rw[hρ];exact hv'.mono (f1 0).1
  ·refine zka h (fun hn=>stay hn _ fun ν φ v' hv'=>hv') (fun H' hne hnew hok=>?_);obtain⟨hn1,rfl⟩:=yQ hnew;refine⟨xI hn1,xY hn1,zqv _,fun ν hv=>⟨ZG hv,?_⟩⟩;refine run (v:=.own nx) (vd:=.slice (some ⟨nx,0,none⟩) (l.length+l2.length) (qw+ie.size)) (Hd:=(nx,.cells (qm ty (l++l2)) false)::zK ν H) hv (fun φ K w g s' hs'=>⟨_,hs',happ hv hne hok⟩) (fun φ K w v' g hv'=>⟨φ,idExt φ K,XB hn1 hv g,?_⟩);simp only[den];rw[KB hv rfl,hE.hsz,zrt];exact hv'
 ·cases h
def mpD{α:Type}(l:List (Int×α))(n:Int)(z:α):α:=match l with
 |[]=>z
 |p::r=>bif zj p.1 n then p.2 else mpD r n z
def mpH{α:Type}(l:List (Int×α))(n:Int):Bool:=match l with
 |[]=>false
 |p::r=>bif zj p.1 n then true else mpH r n
def mpP{α:Type}(l:List (Int×α))(n:Int)(x:α):List (Int×α):=match l with
 |[]=>[(n,x)]
 |p::r=>bif zj p.1 n then(n,x)::r else p::mpP r n x
def mpI{α:Type}(l:List (Int×α))(n:Int):Option Nat:=match l with
 |[]=>none
 |p::r=>bif zj p.1 n then some 0 else(mpI r n).map (·+1)
theorem De{k:IntKind}{ag:Bool}{t:Ty}(n:Int)(d:IntKind):∀(l:List (Int×T t)) (i j:Nat),Instr.findNow (.int d) (.int k n) (Kp (uC k ag t l i)) j=some ((mpI l n).map fun s=>(j+s,mvV ag t (mpD l n (Vb t))))
 |[],_,_=>rfl
 |p::r,i,j=>by
  simp only[uC,Kp,Instr.findNow,Instr.sameNow,zqF,mpI,mpD];cases h:zj p.1 n with
  |true=>
   grind[yB]
  |false=>
   have h1:=yB p.1 n;rw[h]at h1;have:¬n=p.1:=fun e=>by simp[e]at h1
   have hb:(n == p.1)=false:=by simpa using this
   rw[hb];dsimp only;rw[De n d r (i+1) (j+1)];cases mpI r n<;>grind
theorem znw{α:Type}(n:Int):∀l:List (Int×α),mpH l n=(mpI l n).isSome
 |[]=>rfl
 |p::r=>by
  simp only[mpH,mpI];cases zj p.1 n with
  |true=>rfl
  |false=>simp[znw n r]
theorem zeD{α:Type}(n:Int)(z:α):∀l:List (Int×α),mpI l n=none->mpD l n z=z
 |[],_=>rfl
 |p::r,h=>by
  simp only[mpI]at h;simp only[mpD];cases hq:zj p.1 n with
  |true=>rw[hq]at h;cases h
  |false=>
   rw[hq]at h;simp only[zqD,zsn]at h;exact zeD n z r h
theorem Df{k:IntKind}{ag:Bool}{t:Ty}{n:Int}{x:T t}:∀(l:List (Int×T t)) (i:Nat),mpI l n=none->uC k ag t (mpP l n x) i=uC k ag t l i++[(.int k n,mvV ag t x,i+l.length)]∧(mpP l n x).length=l.length+1
 |[],i,_=>⟨rfl,rfl⟩
 |p::r,i,h=>by
  simp only[mpI]at h;simp only[mpP];cases hq:zj p.1 n with
  |true=>rw[hq]at h;cases h
  |false=>
   rw[hq]at h;simp only[zqD,zsn]at h;obtain⟨h1,h2⟩:=Df (k:=k) (ag:=ag) (x:=x) r (i+1) h;grind[uC,List.length_cons]
theorem Dg{k:IntKind}{ag:Bool}{t:Ty}{n:Int}{x:T t}:∀(l:List (Int×T t)) (i s:Nat),mpI l n=some s->∃v b,(uC k ag t l i)[s]?=some (.int k n,v,b)∧uC k ag t (mpP l n x) i=(uC k ag t l i).set s (.int k n,mvV ag t x,b)∧(mpP l n x).length=l.length
 |[],i,s,h=>by cases h
 |p::r,i,s,h=>by
  simp only[mpI]at h;simp only[mpP];cases hq:zj p.1 n with
  |true=>
   have h1:=yB p.1 n;rw[hq]at h1;have h2:p.1=n:=by simpa using h1.symm
   rw[hq]at h;simp only[zqJ,PL]at h;subst h;refine⟨mvV ag t p.2,i,?_,rfl,rfl⟩;simp[uC,h2]
  |false=>
   rw[hq]at h;simp only[zqD,zqp]at h;obtain⟨s',h1,rfl⟩:=h;obtain⟨v,b,e1,e2,e3⟩:=Dg (k:=k) (ag:=ag) (x:=x) r (i+1) s' h1;grind[uC]
def exC:(t:Ty)->List SV->Option (T t×List SV)
 |.unit,l=>some ((),l)
 |.bool,l=>match l with
  |.bool b::r=>some (b,r)
  |_=>none
 |.int k,l=>match l with
  |.int k' n::r=>bif gH k k' then some (n,r)else none
  |_=>none
 |.str,l=>match l with
  |.str s::r=>some (s,r)
  |_=>none
 |.list t,l=>match l with
  |.lst t' x false::r=>if h:t'=t then some (kW h x,r)else none
  |_=>none
 |.pair a b,l=>match exC a l with
  |some (x,l1)=>match exC b l1 with
   |some (y,l2)=>some ((x,y),l2)
   |none=>none
  |none=>none
theorem PK:∀(t:Ty) {l r:List SV} {x:T t},exC t l=some (x,r)->l=jN t x++r
 |.unit,l,r,x,h=>by simp only[exC]at h;cases h;rfl
 |.bool,l,r,x,h=>by
  simp only[exC]at h;split at h
  ·cases h;rfl
  ·cases h
 |.int k,l,r,x,h=>by
  simp only[exC]at h;split at h
  ·obtain⟨hk,h2⟩:=zT h;have:=gy hk;subst this;clear h;cases h2;rfl
  ·cases h
 |.str,l,r,x,h=>by
  simp only[exC]at h;split at h
  ·cases h;rfl
  ·cases h
 |.list t,l,r,x,h=>by
  simp only[exC]at h;split at h
  ·split at h
   ·rename_i ht;subst ht;cases h;rfl
   ·cases h
  ·cases h
 |.pair a b,l,r,x,h=>by
  simp only[exC]at h;split at h;case h_2=>cases h
  rename_i h1;split at h;case h_2=>cases h
  rename_i h2;cases h;rw[PK a h1,PK b h2];simp[jN]
def exV(ag:Bool)(t:Ty)(v:SV):Option (T t):=match ag,v with
 |true,.agg cs=>match exC t cs with
  |some (x,[])=>some x
  |_=>none
 |false,.agg _=>none
 |false,v=>match exC t [v]with
  |some (x,[])=>some x
  |_=>none
 |_,_=>none
theorem PM(ρ:Nat->Value){ag:Bool}{t:Ty}(h:(ag||Nat.beq (sz t) 1)=true)(x:T t):den ρ (mkV ⟨ag,t⟩ x)=mvV ag t x:=by
 cases ag with
 |true=>simp[mkV,mvV,wv,den,qO,wt]
 |false=>
  have h1:sz t=1:=zpK (by simpa using h);have h2:=VD t x;have h3:=wt ρ t x;rw[h1]at h2
  match hl:jN t x,h2 with
  |[v],_=>
   grind[mkV,mvV,mk1]
theorem zo2{ag:Bool}{t:Ty}{v:SV}{x:T t}(h:exV ag t v=some x)(ρ:Nat->Value)(hs:(ag||Nat.beq (sz t) 1)=true):den ρ v=mvV ag t x:=by
 rw[<-PM ρ hs x];unfold exV at h;split at h
 ·split at h
  ·rename_i h1;cases h;have:=PK t h1;rw[zri]at this;subst this;rfl
  ·cases h
 ·cases h
 ·split at h
  ·rename_i h1;cases h;have:=PK t h1;rw[zri]at this;simp only[mkV,zqD,<-this];rfl
  ·cases h
 ·cases h
def vtT(P:Program)(et:TypeId):Option (Bool×Ty):=match jh P et,CY P 30 et with
 |some d,some t=>some (Zm d,t)
 |_,_=>none
def PN:Value->Bool
 |.agg _=>true
 |_=>false
def zii(P:Program)(et:TypeId)(ag:Bool)(t:Ty):Bool:=match jr P et with
 |some i=>match i.zero with
  |some z=>cW P et t&&(av z&&(bif ag then PN z else !PN z&&Nat.beq (sz t) 1))
  |none=>false
 |none=>false
theorem zl5{et:TypeId}{ag:Bool}{t:Ty}(h:zii P et ag t=true):∃i z,jr P et=some i∧i.zero=some z∧av z=true∧(ag||Nat.beq (sz t) 1)=true∧∀(φ:Ren) v',zp φ z v'->zp φ (mvV ag t (Vb t)) v':=by
 unfold zii at h;split at h;case h_2=>cases h
 rename_i i hi;split at h;case h_2=>cases h
 rename_i z hz;simp only[FT]at h;obtain⟨h1,h2,h3⟩:=h;obtain⟨i',z',e1,e2,e3,e4,e5,e6,e7⟩:=rq h1;have hi2:P.info? et=some i:=by rw[<-jt];exact hi
 rw[hi2]at e1;cases e1;rw[hz]at e2;cases e2;cases ag with
 |true=>
  simp only[zqJ]at h3;refine⟨i,z,hi,hz,h2,by simp,fun φ v' hv=>?_⟩;cases z<;>simp[PN]at h3;rename_i cs;obtain⟨ys,rfl,hl⟩:=hv.agg_inv;simp only[mvV,zqJ,wv];exact .agg' (by grind[Value.cells])
 |false=>
  simp only[zqD,FT,zrq]at h3;refine⟨i,z,hi,hz,h2,by simpa using h3.2,fun φ v' hv=>?_⟩;have hs:sz t=1:=zpK h3.2;have hc:z.cells=#[z]:=by cases z<;>simp[PN]at h3<;>rfl
  have h4:=e7 φ [v'] (by rw[hc];exact⟨hv,trivial⟩);have h5:=wQ t (Vb t);rw[hs]at h5;simp only[mvV,zqD]
  match hl:qA t (Vb t),h5 with
  |[u],_=>
   rw[hl]at h4;exact h4.1
def nY(P:Program)(kt:TypeId):Bool:=match jh P kt with
 |some d=>ZC d
 |none=>false
theorem ai{kt:TypeId}(h:nY P kt=true):∃d,jh P kt=some (.int d):=by
 unfold nY at h;split at h
 ·rename_i d hd;cases d<;>simp[ZC]at h;exact⟨_,hd⟩
 ·cases h
def zeE(P:Program)(H:SH)(nx:Nat)(t:TypeId)(k:KO R):Option R:=match jh P t with
 |some (.map kt et)=>match jh P kt,vtT P et with
  |some (.int kk),some (ag,ty)=>match kX H nx (.mpb kk ag ty [])with
   |some H'=>k (.mp nx) H' (nx+1)
   |none=>none
  |_,_=>none
 |_=>none
theorem zkb{rd:Option Nat}{o:Oper}{tm:List SV}{H:SH}{nx:Nat}{k:KO R}{r:R}{t:TypeId}(ho:o.op=.makeMap t none)(h:zeE P H nx t k=some r):vl P rd o tm H nx k r:=by
 unfold zeE at h;split at h;case h_2=>cases h
 split at h;case h_2=>cases h
 rename_i kk ag ty _ _;split at h;case h_2=>cases h
 rename_i H' hn;obtain⟨e1,rfl⟩:=yQ hn;refine xm (nx':=nx+1) ⟨xI e1,xY e1,zqv _,fun ν hv=>⟨ZG hv,vN (ym (v:=.map (some nx)) (H':=(nx,.mp [] 0)::zK ν H) (nx':=nx+1) (by unfold jU;simp only[ho])) (fun φ v' hv=>by simpa[den]using hv) (fun φ K w g=>?_)⟩⟩ h;exact Ya e1 (x:=.mp [] 0) rfl g
def zij(P:Program)(tm:List SV)(H:SH)(nx:Nat)(t:TypeId)(x j:Operand)(c:Bool)(k:KO R):Option R:=match jF tm H x,jF tm H j with
 |some (.mp b),some (.int k' n)=>match zo H b,jh P t with
  |some (.mpb kk ag ty l),some (.map kt et)=>bif gH kk k'&&(nY P kt&&zii P et ag ty)then
    match mkV ⟨ag,ty⟩ (mpD l n (Vb ty))with
    |v=>k (bif c then .tup [v,.bool (mpH l n)]else v) H nx
   else none
  |_,_=>none
 |_,_=>none
theorem zl6{rd:Option Nat}{o:Oper}{tm:List SV}{H:SH}{nx:Nat}{k:KO R}{r:R}{t:TypeId}{x j:Operand}{c:Bool}(ho:o.op=.lookup t x j c)(h:zij P tm H nx t x j c k=some r):vl P rd o tm H nx k r:=by
 unfold zij at h;split at h;case h_2=>cases h
 rename_i b k' n hx hj;split at h;case h_2=>cases h
 rename_i kk ag ty l kt et hb hu;have h6:=zT h;clear h;obtain⟨hh,h⟩:=h6;simp only[FT]at hh;obtain⟨h1,h2,h3⟩:=hh;have:=gy h1;subst this;obtain⟨d,hd⟩:=ai h2;obtain⟨i,z,e1,e2,e3,e4,e5⟩:=zl5 h3;dsimp only at h;refine xm ⟨jV.refl H,wc.refl H,FW _,fun ν hv=>⟨hv,?_⟩⟩ h;have hg:(zK ν H).get b=some (.mp (uC kk ag ty l 0) l.length):=by rw[qe,hb];rfl
 have hdl:∃v,Vz P (zK ν H) t (.map (some b)) (.int kk n) c=some v∧∀φ v',zp φ v v'->zp φ (den (rho ν H) (bif c then .tup [mkV ⟨ag,ty⟩ (mpD l n (Vb ty)),.bool (mpH l n)]else mkV ⟨ag,ty⟩ (mpD l n (Vb ty)))) v':=by
  unfold Vz;simp only[hu,hd,e1,zdn,hg,e2,ZC,ZD,e3,zrH,zqF,De];rw[znw];cases hi:mpI l n with
  |none=>
   rw[zeD n _ l hi];simp only[zrZ];refine⟨_,rfl,fun φ v' hv=>?_⟩;cases c with
   |false=>grind[Bool.false_eq_true,PM]
   |true=>
    simp only[zqF]at hv;obtain⟨ys,rfl,hl⟩:=hv.tuple_inv;simp only[zqJ,den,zu,PM _ e4];refine .tuple' ?_
    match ys.toList,hl with
    |[a,b],hl=>exact⟨e5 φ a hl.1,hl.2.1,trivial⟩
    |[],hl=>exact hl.elim
    |[_],hl=>exact hl.2.elim
    |_::_::_::_,hl=>exact hl.2.2.elim
  |some s=>
   grind[Bool.false_eq_true,PM,den,zu,Option.isSome_some]
 obtain⟨v,f1,f2⟩:=hdl;refine vN (ym (v:=v) (H':=zK ν H) (nx':=nx) ?_) (fun φ v' hv=>f2 φ v' hv) (fun φ K w g=>g);unfold jU;simp only[ho,qq hx ν,qq hj ν,zqt,den,f1];rfl
def Hh(P:Program)(tm:List SV)(H:SH)(nx:Nat)(t:TypeId)(m j x:Operand)(k:KO R):Option R:=match jF tm H m,jF tm H j,jF tm H x with
 |some (.mp b),some (.int k' n),some v=>match zo H b,jh P t with
  |some (.mpb kk ag ty l),some (.map kt et)=>bif gH kk k'&&(nY P kt&&(ag||Nat.beq (sz ty) 1))then
    match exV ag ty v with
    |some y=>k (.tup []) (jB H b (.mpb kk ag ty (mpP l n y))) nx
    |none=>none
   else none
  |_,_=>none
 |_,_,_=>none
theorem PO{rd:Option Nat}{o:Oper}{tm:List SV}{H:SH}{nx:Nat}{k:KO R}{r:R}{t:TypeId}{m j x:Operand}(ho:o.op=.mapUpdate t m j x∨o.op=.insert t m j x)(h:Hh P tm H nx t m j x k=some r):vl P rd o tm H nx k r:=by
 unfold Hh at h;split at h;case h_2=>cases h
 rename_i b k' n v hm hj hx;split at h;case h_2=>cases h
 rename_i kk ag ty l kt et hb hu;have h6:=zT h;clear h;obtain⟨hh,h⟩:=h6;simp only[FT]at hh;obtain⟨h1,h2,h3⟩:=hh;have:=gy h1;subst this;obtain⟨d,hd⟩:=ai h2;split at h;case h_2=>cases h
 rename_i y hy;have hreg:∀c,reg (zo (jB H b (.mpb kk ag ty (mpP l n y))) c)=reg (zo H c):=fun c=>by
  rw[qU];by_cases hc:c=b
  ·subst hc;simp[hb,reg]
  ·rw[zqu hc]
 have hnn:∀c,ji (zo (jB H b (.mpb kk ag ty (mpP l n y))) c)=true->ji (zo H c)=true:=fun c hc=>by
  rw[qU]at hc;by_cases hcb:c=b
  ·subst hcb;simp[hb,ji]at hc
  ·rwa [zqu hcb]at hc
 refine xm ⟨fun c z hz=>by rw[hreg c];exact hz,ZF hb (fun L=>by simp),FW _,fun ν hv=>⟨vy hreg hnn hv,?_⟩⟩ h;have hg:(zK ν H).get b=some (.mp (uC kk ag ty l 0) l.length):=by rw[qe,hb];rfl
 have hden:=zo2 hy (rho ν H) h3;have hup:WT P (zK ν H) t (.map (some b)) (.int kk n) (den (rho ν H) v)=some ((zK ν H).set b (.mp (uC kk ag ty (mpP l n y) 0) (mpP l n y).length)):=by
  unfold WT;simp only[hu,hd,hg,ZC,ZD,zrH,zqF,De,hden];cases hi:mpI l n with
  |none=>
   obtain⟨q1,q2⟩:=Df (k:=kk) (ag:=ag) (x:=y) l 0 hi;simp only[zrZ];rw[q1,q2,zrr]
  |some s=>
   obtain⟨u,b0,q1,q2,q3⟩:=Dg (k:=kk) (ag:=ag) (x:=y) l 0 s hi;simp only[zqQ,zrr,q1];rw[q2,q3];simp[Pl]
 refine vN (ym (v:=undef) (H':=(zK ν H).set b (.mp (uC kk ag ty (mpP l n y) 0) (mpP l n y).length)) (nx':=nx) ?_) (fun φ v' hv=>by simpa[den,zu,undef]using hv) (fun φ K w g=>g.sub fun c k' hc=>?_)
 ·unfold jU;rcases ho with ho | ho<;>
  ·simp only[ho,qq hm ν,qq hj ν,qq hx ν,zqt,den,hup];rfl
 grind[qe,qU,wu,Hp.get_set,qB]
def fnD(l:List (Int×Nat))(n:Int):Option Nat:=match l with
 |[]=>none
 |p::r=>bif zj p.1 n then some p.2 else fnD r n
def fnV:Option Nat->Value
 |some f=>.func (.func f) #[] #[]
 |none=>.nilFunc
def fnS:Option Nat->SV
 |some f=>.fn f [] []
 |none=>.nilf
theorem zof(ρ:Nat->Value)(o:Option Nat):den ρ (fnS o)=fnV o:=by cases o<;>simp[fnS,fnV,den,zu]
theorem rv{k:IntKind}(n:Int)(d:IntKind):∀(l:List (Int×Nat)) (i j:Nat),Instr.findNow (.int d) (.int k n) (Kp (Qi k l i)) j=some ((mpI l n).map fun s=>(j+s,fnV (fnD l n)))
 |[],_,_=>rfl
 |p::r,i,j=>by
  simp only[Qi,Kp,Instr.findNow,Instr.sameNow,zqF,mpI,fnD];cases h:zj p.1 n with
  |true=>
   grind[yB,fnV]
  |false=>
   have h1:=yB p.1 n;rw[h]at h1;have:¬n=p.1:=fun e=>by simp[e]at h1
   have hb:(n == p.1)=false:=by simpa using this
   rw[hb];dsimp only;rw[rv n d r (i+1) (j+1)];cases mpI r n<;>grind
theorem sR{k:IntKind}{n:Int}{x:Nat}:∀(l:List (Int×Nat)) (i:Nat),mpI l n=none->Qi k (mpP l n x) i=Qi k l i++[(.int k n,Value.func (.func x) #[] #[],i+l.length)]∧(mpP l n x).length=l.length+1
 |[],i,_=>⟨rfl,rfl⟩
 |p::r,i,h=>by
  simp only[mpI]at h;simp only[mpP];cases hq:zj p.1 n with
  |true=>rw[hq]at h;cases h
  |false=>
   rw[hq]at h;simp only[zqD,zsn]at h;obtain⟨h1,h2⟩:=sR (k:=k) (x:=x) r (i+1) h;grind[Qi,List.length_cons]
theorem sS{k:IntKind}{n:Int}{x:Nat}:∀(l:List (Int×Nat)) (i s:Nat),mpI l n=some s->∃v b,(Qi k l i)[s]?=some (.int k n,v,b)∧Qi k (mpP l n x) i=(Qi k l i).set s (.int k n,Value.func (.func x) #[] #[],b)∧(mpP l n x).length=l.length
 |[],i,s,h=>by cases h
 |p::r,i,s,h=>by
  simp only[mpI]at h;simp only[mpP];cases hq:zj p.1 n with
  |true=>
   have h1:=yB p.1 n;rw[hq]at h1;have h2:p.1=n:=by simpa using h1.symm
   rw[hq]at h;simp only[zqJ,PL]at h;subst h;refine⟨Value.func (.func p.2) #[] #[],i,?_,rfl,rfl⟩;simp[Qi,h2]
  |false=>
   rw[hq]at h;simp only[zqD,zqp]at h;obtain⟨s',h1,rfl⟩:=h;obtain⟨v,b,e1,e2,e3⟩:=sS (k:=k) (x:=x) r (i+1) s' h1;grind[Qi]
def zeF(P:Program)(et:TypeId):Bool:=match jr P et with
 |some i=>match i.zero with
  |some .nilFunc=>true
  |_=>false
 |none=>false
theorem zog{et:TypeId}(h:zeF P et=true):∃i,jr P et=some i∧i.zero=some .nilFunc:=by grind[zeF]
def lq(P:Program)(t:TypeId):Bool:=match jh P t with
 |some (.map _ et)=>zeF P et
 |_=>false
def zeG(P:Program)(H:SH)(nx:Nat)(t:TypeId)(k:KO R):Option R:=match jh P t with
 |some (.map kt et)=>match jh P kt,zeF P et with
  |some (.int kk),true=>match kX H nx (.mpf kk [])with
   |some H'=>k (.mp nx) H' (nx+1)
   |none=>none
  |_,_=>none
 |_=>none
theorem zkc{rd:Option Nat}{o:Oper}{tm:List SV}{H:SH}{nx:Nat}{k:KO R}{r:R}{t:TypeId}(ho:o.op=.makeMap t none)(h:zeG P H nx t k=some r):vl P rd o tm H nx k r:=by
 unfold zeG at h;split at h;case h_2=>cases h
 split at h;case h_2=>cases h
 rename_i kk _ _;split at h;case h_2=>cases h
 rename_i H' hn;obtain⟨e1,rfl⟩:=yQ hn;refine xm (nx':=nx+1) ⟨xI e1,xY e1,zqv _,fun ν hv=>⟨ZG hv,vN (ym (v:=.map (some nx)) (H':=(nx,.mp [] 0)::zK ν H) (nx':=nx+1) (by unfold jU;simp only[ho])) (fun φ v' hv=>by simpa[den]using hv) (fun φ K w g=>?_)⟩⟩ h;exact Ya e1 (x:=.mp [] 0) rfl g
def zdu(n:Int)(l:List (Int×Nat))(k:SV->Bool->Option R):Option R:=match l with
 |[]=>k .nilf false
 |p::r=>bif zj p.1 n then k (.fn p.2 [] []) true else zdu n r k
theorem zeH{n:Int}{k:SV->Bool->Option R}:∀l:List (Int×Nat),zdu n l k=k (fnS (fnD l n)) (mpI l n).isSome
 |[]=>rfl
 |p::r=>by
  simp only[zdu,fnD,mpI];cases zj p.1 n with
  |true=>rfl
  |false=>
   simp only[zqD,zeH r];cases mpI r n<;>rfl
theorem zeI{n:Int}:∀l:List (Int×Nat),mpI l n=none->fnD l n=none
 |[],_=>rfl
 |p::r,h=>by
  simp only[mpI]at h;simp only[fnD];cases hq:zj p.1 n with
  |true=>rw[hq]at h;cases h
  |false=>
   rw[hq]at h;simp only[zqD,zsn]at h;simp only[zqD,zeI r h]
def zik(P:Program)(tm:List SV)(H:SH)(nx:Nat)(t:TypeId)(x j:Operand)(c:Bool)(k:KO R):Option R:=match jF tm H x,jF tm H j with
 |some (.mp b),some (.int k' n)=>match zo H b,jh P t with
  |some (.mpf kk l),some (.map kt et)=>bif gH kk k'&&(nY P kt&&zeF P et)then zdu n l fun v ok=>k (bif c then .tup [v,.bool ok]else v) H nx
   else none
  |_,_=>none
 |_,_=>none
theorem zl7{rd:Option Nat}{o:Oper}{tm:List SV}{H:SH}{nx:Nat}{k:KO R}{r:R}{t:TypeId}{x j:Operand}{c:Bool}(ho:o.op=.lookup t x j c)(h:zik P tm H nx t x j c k=some r):vl P rd o tm H nx k r:=by
 unfold zik at h;split at h;case h_2=>cases h
 rename_i b k' n hx hj;split at h;case h_2=>cases h
 rename_i kk l kt et hb hu;have h6:=zT h;clear h;obtain⟨hh,h⟩:=h6;simp only[FT]at hh;obtain⟨h1,h2,h3⟩:=hh;have:=gy h1;subst this;obtain⟨d,hd⟩:=ai h2;obtain⟨i,e1,e2⟩:=zog h3;rw[zeH]at h;refine xm ⟨jV.refl H,wc.refl H,FW _,fun ν hv=>⟨hv,?_⟩⟩ h;have hg:(zK ν H).get b=some (.mp (Qi kk l 0) l.length):=by rw[qe,hb];rfl
 have hdl:Vz P (zK ν H) t (.map (some b)) (.int kk n) c=some (den (rho ν H) (bif c then .tup [fnS (fnD l n),.bool (mpI l n).isSome]else fnS (fnD l n))):=by unfold Vz;simp only[hu,hd,e1,zdn,hg,e2,ZC,ZD,show av .nilFunc=true from rfl,zrH,zqF,rv];cases hi:mpI l n<;>grind[mpI,zeI,den,zu,fnS,zof]
 refine vN (ym (v:=_) (H':=zK ν H) (nx':=nx) ?_) (fun φ v' hv=>hv) (fun φ K w g=>g);unfold jU;simp only[ho,qq hx ν,qq hj ν,zqt];rw[show den (rho ν H) (.mp b)=.map (some b) from rfl,show den (rho ν H) (.int kk n)=.int kk n from rfl,hdl];rfl
def kEq:Int->Int->Bool
 |.ofNat m,.ofNat n=>Nat.beq m n
 |.negSucc m,.negSucc n=>Nat.beq m n
 |_,_=>false
theorem zo3(a b:Int):kEq a b=zj a b:=by cases a<;>cases b<;>rfl
def mpN:List (Int×Nat)->Int->Nat->List (Int×Nat)
 |[],n,x=>[(n,x)]
 |p::r,n,x=>bif kEq p.1 n then(n,x)::r else p::mpN r n x
theorem zkd(n:Int)(x:Nat):∀l:List (Int×Nat),mpN l n x=mpP l n x
 |[]=>rfl
 |p::r=>by simp only[mpN,mpP,zkd n x r,zo3]
def Hi(P:Program)(tm:List SV)(H:SH)(nx:Nat)(t:TypeId)(m j x:Operand)(k:KO R):Option R:=match jF tm H m,jF tm H j,jF tm H x with
 |some (.mp b),some (.int k' n),some (.fn y [] [])=>match zo H b,jh P t with
  |some (.mpf kk l),some (.map kt et)=>bif gH kk k'&&nY P kt then k (.tup []) (jB H b (.mpf kk (mpN l n y))) nx
   else none
  |_,_=>none
 |_,_,_=>none
theorem PQ{rd:Option Nat}{o:Oper}{tm:List SV}{H:SH}{nx:Nat}{k:KO R}{r:R}{t:TypeId}{m j x:Operand}(ho:o.op=.mapUpdate t m j x∨o.op=.insert t m j x)(h:Hi P tm H nx t m j x k=some r):vl P rd o tm H nx k r:=by
 unfold Hi at h;split at h;case h_2=>cases h
 rename_i b k' n y hm hj hx;split at h;case h_2=>cases h
 rename_i kk l kt et hb hu;have h6:=zT h;clear h;obtain⟨hh,h⟩:=h6;simp only[FT]at hh;obtain⟨h1,h2⟩:=hh;rw[zkd]at h;have:=gy h1;subst this;obtain⟨d,hd⟩:=ai h2;have hreg:∀c,reg (zo (jB H b (.mpf kk (mpP l n y))) c)=reg (zo H c):=fun c=>by
  rw[qU];by_cases hc:c=b
  ·subst hc;simp[hb,reg]
  ·rw[zqu hc]
 have hnn:∀c,ji (zo (jB H b (.mpf kk (mpP l n y))) c)=true->ji (zo H c)=true:=fun c hc=>by
  rw[qU]at hc;by_cases hcb:c=b
  ·subst hcb;simp[hb,ji]at hc
  ·rwa [zqu hcb]at hc
 refine xm ⟨fun c z hz=>by rw[hreg c];exact hz,ZF hb (fun L=>by simp),FW _,fun ν hv=>⟨vy hreg hnn hv,?_⟩⟩ h;have hg:(zK ν H).get b=some (.mp (Qi kk l 0) l.length):=by rw[qe,hb];rfl
 have hden:den (rho ν H) (.fn y [] [])=.func (.func y) #[] #[]:=by simp[den,zu]
 have hup:WT P (zK ν H) t (.map (some b)) (.int kk n) (den (rho ν H) (.fn y [] []))=some ((zK ν H).set b (.mp (Qi kk (mpP l n y) 0) (mpP l n y).length)):=by
  unfold WT;simp only[hu,hd,hg,ZC,ZD,zrH,zqF,rv,hden];cases hi:mpI l n with
  |none=>
   obtain⟨q1,q2⟩:=sR (k:=kk) (x:=y) l 0 hi;simp only[zrZ];rw[q1,q2,zrr]
  |some s=>
   obtain⟨u,b0,q1,q2,q3⟩:=sS (k:=kk) (x:=y) l 0 s hi;simp only[zqQ,zrr,q1];rw[q2,q3];simp[Pl]
 refine vN (ym (v:=undef) (H':=(zK ν H).set b (.mp (Qi kk (mpP l n y) 0) (mpP l n y).length)) (nx':=nx) ?_) (fun φ v' hv=>by simpa[den,zu,undef]using hv) (fun φ K w g=>g.sub fun c k' hc=>?_)
 ·unfold jU;rcases ho with ho | ho<;>
  ·simp only[ho,qq hm ν,qq hj ν,qq hx ν,zqt];rw[show den (rho ν H) (.mp b)=.map (some b) from rfl,show den (rho ν H) (.int kk n)=.int kk n from rfl,hup];rfl
 grind[qe,qU,wu,Hp.get_set,qB]
def lsS(l:List SV)(i:Nat)(v:SV):List SV:=List.rec (motive:=fun _=>Nat->List SV) (fun _=>[]) (fun x r ih i=>Nat.rec (motive:=fun _=>List SV) (v::r) (fun m _=>x::ih m) i) l i
theorem uM(v:SV):∀(l:List SV) (i:Nat),lsS l i v=l.set i v
 |[],_=>by simp[lsS]
 |x::l,0=>rfl
 |x::l,i+1=>by show x::lsS l i v=_;rw[uM v l i];simp
def KD(tm:List SV)(d:Option Tmp)(v:SV):List SV:=match d with
 |some d=>lsS tm d v
 |none=>tm
def zl8(H:SH)(tm:List SV):Operand->List SV
 |.tmp t=>match gl tm t with
  |some (.own b)=>match zo H b with
   |some (.fro _ ty l)=>bif Nat.blt 0 (sz ty)then lsS tm t (.lst ty l false)else tm
   |_=>tm
  |_=>tm
 |_=>tm
def Dh(H:SH)(tm:List SV):List Operand->List SV
 |[]=>tm
 |x::r=>Dh H (zl8 H tm x) r
theorem zl9{ν:Nat->Bool}{nx:Nat}{H:SH}(hv:VN ν nx H)(g:zF φ (zK ν H) K w){tm:List SV}{x:Operand}{ts:Array Value}(ht:qS φ (zu (rho ν H) tm) ts):qS φ (zu (rho ν H) (zl8 H tm x)) ts:=by
 unfold zl8;split;case h_2=>exact ht
 rename_i t;split;case h_2=>exact ht
 rename_i b hb;split;case h_2=>exact ht
 rename_i ty l hf;cases hs:Nat.blt 0 (sz ty)with
 |false=>exact ht
 |true=>
  rw[zqJ,uM];rw[xk]at hb;refine⟨by rw[<-ht.1,wq,wq,zrX],fun i v hv2=>?_⟩;rw[wF,zqp]at hv2;obtain⟨u,hu,rfl⟩:=hv2;rw[zrl]at hu;by_cases hti:t=i
  ·subst hti;have hlt:=(zqr.1 hb).1;simp[hlt]at hu;subst hu;rcases ht.2 t (den (rho ν H) (.own b)) (by rw[wF,hb];rfl)with h0 | ⟨v',h1,h2⟩
   all_goals grind[den,vv,nV,nR]
  ·rw[zqu hti]at hu;exact ht.2 i _ (by rw[wF,hu];rfl)
theorem zeJ{ν:Nat->Bool}{nx:Nat}{H:SH}(hv:VN ν nx H)(g:zF φ (zK ν H) K w):∀{xs:List Operand} {tm:List SV} {ts:Array Value},qS φ (zu (rho ν H) tm) ts->qS φ (zu (rho ν H) (Dh H tm xs)) ts
 |[],_,_,ht=>ht
 |x::r,tm,ts,ht=>zeJ hv g (xs:=r) (zl9 hv g ht)
theorem zeK{r:Option Nat}{o:Oper}{tm tm2:List Value}{H H2 H':Hp}{nx nx':Nat}{v:Value}(h:Qv P r o tm2 H2 nx v H' nx')(hg:∀φ K w,zF φ H K w->zF φ H2 K w)(ht:∀φ K w,zF φ H K w->∀ts,qS φ tm ts->qS φ tm2 ts):Qv P r o tm H nx v H' nx':=
 ⟨h.1,fun φ w K a rc next Q g hf htm hr hk=>h.2 φ w K a rc next Q (hg _ _ _ g) hf (ht _ _ _ g _ htm) hr hk⟩
theorem zoh{rd:Option Nat}{o:Oper}{tm:List SV}{H H':SH}{nx nx':Nat}{v:SV}{xs:List Operand}(h:SOp P rd o (Dh H tm xs) H nx v H' nx'):SOp P rd o tm H nx v H' nx':=by obtain⟨h1,h2,h3,h4⟩:=h;refine⟨h1,h2,h3,fun ν hv=>?_⟩;obtain⟨e1,e2⟩:=h4 ν hv;exact⟨e1,zeK e2 (fun _ _ _ g=>g) fun φ K w g ts ht=>zeJ hv g ht⟩
theorem MT{rd:Option Nat}{o:Oper}{tm:List SV}{H:SH}{nx:Nat}{k:KO R}{r:R}{xs:List Operand}(h:vl P rd o (Dh H tm xs) H nx k r):vl P rd o tm H nx k r:=by obtain⟨v,H',nx',h1,h2⟩:=h;exact⟨v,H',nx',zoh h1,h2⟩
def zeL(P:Program)(tm:List SV)(H:SH)(nx:Nat)(b:Builtin)(args:Array Operand)(ats:Array TypeId)(k:KO R):Option R:=match b,args,ats with
 |.len,⟨[x]⟩,⟨[t]⟩=>zlU P tm H nx t x k
 |.append,⟨[s,x]⟩,⟨[t,u]⟩=>bif Nat.beq t u then zl2 P (Dh H tm [s,x]) H nx t s x k else none
 |.copy,⟨[d,x]⟩,⟨[t,_]⟩=>zih P (Dh H tm [x]) H nx t d x k
 |_,_,_=>none
def znx(P:Program)(tm:List SV)(H:SH)(nx:Nat)(o:Oper)(k:KO R):Option R:=match o.op with
 |.pick c a b=>zh9 tm H nx c a b k
 |.binOp op t x y _=>bif zg6 tm H x y then zid P tm H nx op t x y k else zlS tm H nx op x y k
 |.indexAddr t x i=>TQ P (Dh H tm [x]) H nx t x i k
 |.index t x i=>zew P tm H nx t x i k
 |.load t a=>zib P tm H nx t a k
 |.store t a x=>zig P tm H nx t a x k
 |.slice t x lo hi mx=>zex P (Dh H tm [x]) H nx t x lo hi mx k
 |.makeSlice t l c=>zie P tm H nx t l c k
 |.buildSlice t n ps=>match zl0 P tm H nx t n ps.toList with
  |some (v,H')=>k v H' (nx+1)
  |none=>zlX P tm H nx t n ps.toList k
 |.call {callee:=.builtin b,args,argTypes}=>zeL P tm H nx b args argTypes k
 |.makeMap t none=>bif lq P t then zeG P H nx t k else zeE P H nx t k
 |.lookup t x i c=>bif lq P t then zik P tm H nx t x i c k else zij P tm H nx t x i c k
 |.mapUpdate t m i x=>bif lq P t then Hi P tm H nx t m i x k else Hh P tm H nx t m i x k
 |.insert t m i x=>bif lq P t then Hi P tm H nx t m i x k else Hh P tm H nx t m i x k
 |_=>none
def zma(P:Program)(tm:List SV)(H:SH)(nx:Nat)(o:Oper)(k:KO R):Option R:=match zh8 P tm H nx o with
 |some (v,H',nx')=>k v H' nx'
 |none=>znx P tm H nx o k
theorem zoi{rd:Option Nat}{o:Oper}{tm:List SV}{H:SH}{nx:Nat}{k:KO R}{r:R}(h:zma P tm H nx o k=some r):vl P rd o tm H nx k r:=by
 unfold zma at h;split at h
 ·rename_i v H' nx' h0;exact xm (zn0 h0) h
 ·unfold znx at h;split at h
  ·grind[zlR]
  ·grind[zg6,zlV,zn5]
  ·grind[MT,zia]
  ·grind[zj5]
  ·grind[zlT]
  ·grind[zlY]
  ·grind[MT,zj7]
  ·grind[zlW]
  ·rename_i ho;split at h
   ·rename_i v H' hl;exact xm (zob ho hl) h
   ·exact zn9 ho h
  ·rename_i b args ats ho;unfold zeL at h;grind[zn8,Nat.eq_of_beq_eq_true,MT,zoe,zl1]
  ·grind[lq,zkc,zkb]
  ·grind[lq,zl7,zl6]
  ·grind[lq,PQ,PO]
  ·rename_i t m i x ho;cases hq:lq P t with
   |true=>rw[hq]at h;exact PQ (.inr ho) h
   |false=>rw[hq]at h;exact PO (.inr ho) h
  ·cases h
structure Wi where
 e:Exit
 tm:List SV
 ds:List Nat
 H:SH
 nx:Nat
abbrev KC(R:Type):=Wi->Option R
def VF:List Oper->List Nat
 |[]=>[]
 |o::r=>match o.dst with
  |some d=>d::VF r
  |none=>VF r
def asg:Code->List Nat
 |.region _ ops _=>VF ops.toList
 |.seq a b=>asg a++asg b
 |.cond _ a b=>asg a++asg b
 |.block _ c=>asg c
 |.loop c=>asg c
 |.scope c=>asg c
 |_=>[]
def kp(a:List Nat)(tm tm':List SV):Prop:=tm'.length=tm.length∧∀i,i∉a->tm'[i]?=tm[i]?
theorem kp.refl(a:List Nat)(tm:List SV):kp a tm tm:=⟨rfl,fun _ _=>rfl⟩
theorem kp.trans{a b c:List Nat}{t t' t'':List SV}(h:kp a t t')(k:kp b t' t'')(ha:∀i∈a,i∈c)(hb:∀i∈b,i∈c):kp c t t'':=
 ⟨k.1.trans h.1,fun i hi=>(k.2 i fun e=>hi (hb i e)).trans (h.2 i fun e=>hi (ha i e))⟩
theorem kp.mono{a b:List Nat}{t t':List SV}(h:kp a t t')(ha:∀i∈a,i∈b):kp b t t':=⟨h.1,fun i hi=>h.2 i fun e=>hi (ha i e)⟩
def Gu(ν:Nat->Bool)(R:Wi):Res:=⟨R.e,zu (rho ν R.H) R.tm,R.ds,zK ν R.H,R.nx⟩
def Ze(P:Program)(rd:Option Nat)(c:Code)(tm:List SV)(ds:List Nat)(H:SH)(nx:Nat)(R:Wi):Prop:=jV H R.H∧wc H R.H∧kp (asg c) tm R.tm∧nx<=R.nx∧∀ν,VN ν nx H->VN ν R.nx R.H∧qY P rd c (zu (rho ν H) tm) ds (zK ν H) nx (Gu ν R)
def zqd(P:Program)(rd:Option Nat)(ops:Array Oper)(l:List Nat)(zqo:List Nat)(tm:List SV)(H:SH)(nx:Nat)(tm':List SV)(H':SH)(nx':Nat):Prop:=jV H H'∧wc H H'∧kp zqo tm tm'∧nx<=nx'∧∀ν,VN ν nx H->VN ν nx' H'∧QS P rd ops l (zu (rho ν H) tm) (zK ν H) nx (zu (rho ν H') tm') (zK ν H') nx'
theorem zeM(ρ:Nat->Value)(tm:List SV)(d:Option Tmp)(v:SV):zu ρ (KD tm d v)=xJ (zu ρ tm) d (den ρ v):=by
 cases d with
 |none=>rfl
 |some d=>rw[aK];simp only[KD,uM,qO,zsZ]
theorem zmb{ν:Nat->Bool}{H H1:SH}(hr:jV H H1){tm:List SV}{d:Option Tmp}{v:SV}{ts:Array Value}(h:qS φ (xJ (zu (rho ν H) tm) d (den (rho ν H1) v)) ts):qS φ (zu (rho ν H1) (KD tm d v)) ts:=by
 cases d with
 |none=>exact MH ν hr h
 |some d=>
  rw[aK]at h;rw[zeM,aK];refine⟨by simpa[wq]using h.1,fun i u hu=>?_⟩;rw[zrl]at hu;by_cases hdi:d=i
  ·subst hdi;rw[zqI rfl]at hu;split at hu
   ·cases hu;rename_i hlt;refine h.2 d _ ?_;grind[wq]
   ·cases hu
  ·rw[zqu hdi]at hu;rw[wF,zqp]at hu;obtain⟨x,hx,rfl⟩:=hu;rcases h.2 i (den (rho ν H) x) (by grind[wF])with h0 | ⟨v',h1,h2⟩
   ·exact .inl (ri (vv ν H) h0)
   ·exact .inr ⟨v',h1,Gs (dP ν hr) x v' h2⟩
theorem lu(tm:List SV)(d:Option Tmp)(v:SV):kp d.toList tm (KD tm d v):=by
 cases d with
 |none=>exact kp.refl _ _
 |some d=>
  simp only[KD,uM];refine⟨by simp,fun i hi=>?_⟩;grind
theorem zke{r:Option Nat}{ops:Array Oper}{l:List Nat}{tm tm2 tm':List Value}{H H':Hp}{nx nx':Nat}(h:QS P r ops l tm2 H nx tm' H' nx')(ht:∀φ ts,qS φ tm ts->qS φ tm2 ts):QS P r ops l tm H nx tm' H' nx':=
 ⟨h.1,fun φ w K a rc Q g hf htm hr hk=>h.2 φ w K a rc Q g hf (ht _ _ htm) hr hk⟩
def PR(ops:Array Oper)(tm:List SV)(o:Oper)(y n:List SV->Option R):Option R:=match o.guard with
 |none=>y tm
 |some (j,want)=>match gl ops.toList j with
  |some p=>match p.dst with
   |some d=>match gl tm d with
    |some (.bool b)=>bif b then(bif want then y (lsS tm d (.bool true))else n (lsS tm d (.bool true)))else(bif want then n (lsS tm d (.bool false))else y (lsS tm d (.bool false)))
    |some (.tup _)=>n tm
    |_=>none
   |none=>none
  |none=>none
theorem zmc{tm:List SV}{d:Nat}{v:SV}(h:tm[d]?=some v):lsS tm d v=tm:=by grind[uM,List.getElem?_eq_some_iff,List.set_getElem_self]
theorem zeN{ops:Array Oper}{tm:List SV}{o:Oper}{y n:List SV->Option R}{r:R}(h:PR ops tm o y n=some r) : ((∀tmv:List Value,(∀(i:Nat) u,tm[i]?=some u->∃ρ,tmv[i]?=some (den ρ u))->yD ops tmv o=some true)∧y tm=some r)∨((∀tmv:List Value,(∀(i:Nat) u,tm[i]?=some u->∃ρ,tmv[i]?=some (den ρ u))->yD ops tmv o=some false)∧n tm=some r):=by
 unfold PR at h;unfold yD;split at h
 ·grind
 ·rename_i j want hg;split at h;case h_2=>cases h
  rename_i p hp;split at h;all_goals grind[xk,bind,den,bool,zmc,pG]
theorem zil{ops:Array Oper}{tm:List SV}{o:Oper}{y n:List SV->Option R}{r:R}(h:PR ops tm o y n=some r):((∀ρ,yD ops (zu ρ tm) o=some true)∧y tm=some r)∨((∀ρ,yD ops (zu ρ tm) o=some false)∧n tm=some r):=by
 have hd:∀(ρ:Nat->Value) (i:Nat) (u:SV),tm[i]?=some u->∃ρ',(zu ρ tm)[i]?=some (den ρ' u):=fun ρ i u hu=>⟨ρ,by rw[wF,hu];rfl⟩;rcases zeN h with⟨h1,h2⟩ | ⟨h1,h2⟩
 all_goals simp_all
def zeO(op:List SV->SH->Nat->Oper->KO R->Option R)(ops:Array Oper):List Oper->List SV->SH->Nat->(List SV->SH->Nat->Option R)->Option R
 |[],tm,H,nx,k=>k tm H nx
 |o::l,tm,H,nx,k=>PR ops tm o
  (fun tm=>op tm H nx o fun v H1 nx1=>zeO op ops l (KD tm o.dst v) H1 nx1 k)
  (fun tm=>zeO op ops l (KD tm o.dst (.tup [])) H nx k)
def OpS(P:Program)(rd:Option Nat)(op:List SV->SH->Nat->Oper->KO R->Option R):Prop:=∀{tm H nx o k r},op tm H nx o k=some r->vl P rd o tm H nx k r
theorem TR{op:List SV->SH->Nat->Oper->KO R->Option R}{rd:Option Nat}(hop:OpS P rd op){ops:Array Oper}:∀{l:List Oper} {j:Nat} {tm:List SV} {H:SH} {nx:Nat} {k:List SV->SH->Nat->Option R} {r:R},(∀i:Nat,l[i]?=ops[j+i]?)->zeO op ops l tm H nx k=some r->∃tm' H' nx',zqd P rd ops (List.range' j l.length) (VF l) tm H nx tm' H' nx'∧k tm' H' nx'=some r
 |[],j,tm,H,nx,k,r,_,h=>⟨tm,H,nx,⟨jV.refl H,wc.refl H,kp.refl _ _,FW _,fun ν hv=>⟨hv,zbj⟩⟩,h⟩
 |o::l,j,tm,H,nx,k,r,hl,h=>by
  have h0:ops[j]?=some o:=by simpa using(hl 0).symm
  have hl':∀i:Nat,l[i]?=ops[j+1+i]?:=fun i=>by have:=hl (i+1);grind
  have hin1:∀i∈o.dst.toList,i∈VF (o::l):=fun i hi=>by grind[VF]
  have hin2:∀i∈VF l,i∈VF (o::l):=fun i hi=>by grind[VF,List.mem_cons_of_mem]
  simp only[zeO]at h;rw[zru,ztv];rcases zil h with⟨hw,h1⟩ | ⟨hw,h1⟩
  ·obtain⟨v,H1,nx1,⟨s1,s2,s3,s4⟩,h2⟩:=hop h1;obtain⟨tm',H',nx',⟨t1,t2,t3,t4,t5⟩,h3⟩:=TR hop hl' h2;refine⟨tm',H',nx',⟨s1.trans t1,s2.trans t2,(lu tm o.dst v).trans t3 hin1 hin2,zqw s3 t4,fun ν hv=>?_⟩,h3⟩;grind[Po,zke,zmb]
  ·obtain⟨tm',H',nx',⟨t1,t2,t3,t4,t5⟩,h3⟩:=TR hop hl' h1;refine⟨tm',H',nx',⟨t1,t2,(lu tm o.dst _).trans t3 hin1 hin2,t4,fun ν hv=>?_⟩,h3⟩;grind[Pp,zeM,den,zu,undef]
def uN(x0 x:Blk):Prop:=match x0,x with
 |.cells ds r,.cells cs r'=>r=r'∧∀(j:Nat) v,cs[j]?=some v->∃u,ds[j]?=some u∧∀φ v',zp φ u v'->zp φ v v'
 |.loop A,.loop B=>B.state=A.state∧B.pending=A.pending∧B.params=A.params∧B.assign=A.assign∧B.body=A.body∧B.defers=A.defers∧∀φ ts,qS φ A.tmps.toList ts->qS φ B.tmps.toList ts
 |a,b=>a=b
theorem uN.refl(x:Blk):uN x x:=by
 cases x with
 |cells cs r=>exact⟨rfl,fun j v hv=>⟨v,hv,fun _ _ h=>h⟩⟩
 |loop A=>exact⟨rfl,rfl,rfl,rfl,rfl,rfl,fun _ _ h=>h⟩
 |_=>rfl
theorem uN.rel{x0 x:Blk}(h:uN x0 x){L:Loc}(hb:ju φ w L x0):ju φ w L x:=by
 unfold uN at h;split at h
 ·obtain⟨rfl,h⟩:=h;obtain⟨arr,el,fr,e1,e2,e3⟩:=hb;refine⟨arr,el,fr,e1,fun j v hv=>?_,e3⟩;grind
 ·obtain⟨h1,h2,h3,h4,h5,h6,h7⟩:=h;obtain⟨l',e1,e2,e3,e4,e5,e6,e7,D,e8,e9⟩:=hb;exact⟨l',e1,e2.trans h1.symm,e3.trans h2.symm,h7 _ _ e4,e5.trans h3.symm,e6.trans h4.symm,e7.trans h5.symm,D,by rw[h6];exact e8,e9⟩
 ·subst h;exact hb
theorem uN.rw{x0 x:Blk}(h:uN x0 x):x.rw=x0.rw:=by
 unfold uN at h;split at h
 ·obtain⟨rfl,_⟩:=h;rfl
 ·rfl
 ·subst h;rfl
theorem uN.seen{x0 x:Blk}(h:uN x0 x)(wr:Nat->Bool)(b:Nat):uN (uA wr (fun _=>false) b x0) (uA wr (fun _=>false) b x):=by
 unfold uA;cases wr b with
 |true=>simpa using h
 |false=>
  simp only[zqB,zqZ];unfold uN at h;split at h
  ·exact⟨rfl,h.2⟩
  all_goals grind[uN.refl]
theorem uN.trans{x y z:Blk}(h:uN x y)(k:uN y z):uN x z:=by
 cases x<;>cases y<;>simp only[uN]at h<;>first | (cases h;done) | (cases h;exact k) | exact k | skip
 ·cases z<;>simp only[uN]at k ⊢<;>first | (cases k;done) | skip
  grind
 ·cases z<;>simp only[uN]at k ⊢<;>first | (cases k;done) | skip
  grind
theorem zeP{ρ ρ':Nat->Value}(hρ:∀b,ρ b≠Fz.junk)(h:RLe ρ ρ'){nil:Bool}{k:SB}{x':Blk}(hx:qB ρ' nil k=some x'):∃x,qB ρ nil k=some x∧uN x x':=by
 have key:∀(cs:List SV) (ro:Bool),uN (.cells (zu ρ cs) ro) (.cells (zu ρ' cs) ro):=fun cs ro=>⟨rfl,fun j v hv=>by
  grind[wF,Option.map_eq_some_iff,den,Gs]⟩
 cases k with
 |vars cs=>grind[qB,Option.some.injEq]
 |ro cs=>grind[qB,Option.some.injEq]
 |loop L=>
  simp only[qB,PL]at hx;subst hx;exact⟨_,rfl,rfl,rfl,rfl,rfl,rfl,rfl,fun φ ts ht=>by grind[wW,CO]⟩
 |_=>exact⟨x',hx,uN.refl _⟩
def Mix(G H:Hp):Prop:=∀b x,H.get b=some x->∃x0,G.get b=some x0∧uN x0 x
theorem Mix.refl(H:Hp):Mix H H:=fun b x h=>⟨x,h,uN.refl x⟩
theorem Mix.trans{F G H:Hp}(h:Mix F G)(k:Mix G H):Mix F H:=fun b x hx=>by obtain⟨y,h1,h2⟩:=k b x hx;obtain⟨z,h3,h4⟩:=h b y h1;exact⟨z,h3,h4.trans h2⟩
theorem Mix.good{G H:Hp}(h:Mix G H)(g:zF φ G K w):zF φ H K w:=by
 refine⟨fun b k hb=>?_,fun b c k k' L L' hb hc hne hkr hL hL'=>?_,fun b k L hb hkr hL=>?_,g.kin,g.fz,fun b k L c M hb hkr hL hM=>?_⟩
 ·obtain⟨x,h1,h2⟩:=h b k hb;obtain⟨L,hL,hB⟩:=g.rel b x h1;exact⟨L,hL,h2.rel hB⟩
 ·obtain⟨x,h1,h2⟩:=h b k hb;obtain⟨y,h3,_⟩:=h c k' hc;exact g.sep b c x y L L' h1 h3 hne (by rw[<-h2.rw];exact hkr) hL hL'
 ·obtain⟨x,h1,h2⟩:=h b k hb;exact g.prot b x L h1 (by rw[<-h2.rw];exact hkr) hL
 ·obtain⟨x,h1,h2⟩:=h b k hb;exact g.fsep b x L c M h1 (by rw[<-h2.rw];exact hkr) hL hM
def roS:SB->SB
 |.vars cs=>.ro cs
 |.arr nn t l=>.roa nn t l
 |.loop _=>.hid
 |.defd=>.hid
 |.mpb _ _ _ _=>.hid
 |.mpf _ _=>.hid
 |k=>k
def zmd:SB->SB
 |.arr nn t l=>.gone (rsz nn t l) l.length
 |.roa nn t l=>.gone (rsz nn t l) l.length
 |.fro nn t l=>.gone (rsz nn t l) l.length
 |.gone s n=>.gone s n
 |_=>.abs
def yR(l:List Nat)(b:Nat):Bool:=List.rec (motive:=fun _=>Bool) false (fun x _ ih=>bif Nat.beq x b then true else ih) l
def Di(vis wr:List Nat)(b:Nat)(k:SB):SB:=bif yR vis b then(bif yR wr b then k else roS k)else zmd k
def aj(vis wr:List Nat):SH->SH
 |[]=>[]
 |(b,k)::r=>(b,Di vis wr b k)::aj vis wr r
theorem QI(vis wr:List Nat)(n:Nat):∀H:SH,zo (aj vis wr H) n=(zo H n).map (Di vis wr n)
 |[]=>rfl
 |(b,k)::r=>by
  simp only[aj,qd];by_cases hb:b=n
  ·subst hb;simp
  ·rw[zqu hb,zqu hb];exact QI vis wr n r
theorem nZ(vis wr:List Nat)(b:Nat)(k:Option SB):reg (k.map (Di vis wr b))=reg k:=by
 cases k with
 |none=>rfl
 |some k=>
  simp only[zqQ,Di];cases yR vis b<;>cases yR wr b<;>cases k<;>first | rfl | exact dO _ _ _
theorem zim(vis wr:List Nat)(b:Nat)(k:Option SB)(h:ji (k.map (Di vis wr b))=true):ji k=true:=by
 cases k with
 |none=>exact h
 |some k=>
  simp only[zqQ,Di]at h;cases hv:yR vis b<;>cases hw:yR wr b<;>rw[hv,hw]at h<;>cases k<;>simp_all[ji,zmd,roS]
theorem zeQ(ν:Nat->Bool)(vis wr:List Nat)(H:SH):rho ν (aj vis wr H)=rho ν H:=wu (fun c=>by rw[QI,nZ]) ν
theorem zg8{ν:Nat->Bool}{nx:Nat}{vis wr:List Nat}{H:SH}(h:VN ν nx H):VN ν nx (aj vis wr H):=by grind[vy,QI,nZ,zim]
theorem zme{ν:Nat->Bool}{vis wr:List Nat}{H:SH}{G:Hp}(hm:Mix G (zK ν H))(wr':Nat->Bool)(hw:∀b,wr' b=(yR wr b&&(G.get b).isSome)) :
  Mix (Hp.only (yR vis) (Kv wr' (fun _=>false) G)) (zK ν (aj vis wr H)):=fun b x hx=>by
 rw[qe,QI,zeQ]at hx
 cases hk:zo H b with
 |none=>grind
 |some k=>
  rw[hk]at hx;simp only[zqQ,zqt,Di]at hx;cases hv:yR vis b with
  |false=>
   rw[hv,zqD]at hx;cases k<;>simp[zmd,qB]at hx
  |true=>
   rw[hv,zqJ]at hx;have hget:(Hp.only (yR vis) (Kv wr' (fun _=>false) G)).get b=(G.get b).map (uA wr' (fun _=>false) b):=by rw[Hp.get_only,hv,zqI rfl,Kw]
   have hH:∀y,qB (rho ν H) (ν b) k=some y->∃y0,G.get b=some y0∧uN y0 y:=fun y hy=>hm b y (by rw[qe,hk];exact hy);cases hwb:yR wr b with
   |true=>
    rw[hwb,zqJ]at hx;obtain⟨y0,h1,h2⟩:=hH x hx;refine⟨y0,?_,h2⟩;rw[hget,h1];have:wr' b=true:=by grind
    simp[uA,this]
   |false=>
    rw[hwb,zqD]at hx;have hwf:wr' b=false:=by rw[hw b,hwb];rfl
    have hs:∃y,qB (rho ν H) (ν b) k=some y∧uA wr' (fun _=>false) b y=x:=by cases k<;>grind[roS,qB,Option.some.injEq,uA,jE]
    obtain⟨y,h1,h2⟩:=hs;obtain⟨y0,h3,h4⟩:=hH y h1;refine⟨uA wr' (fun _=>false) b y0,by rw[hget,h3];rfl,?_⟩;rw[<-h2];exact h4.seen wr' b
structure Zo where
 ran:Bool
 vis:List Nat
 wr:List Nat
 lo:Nat
 hi:Nat
def gj(tm:List SV)(s:Nat):SV:=match gl tm s with
 |some v=>v
 |none=>.junk
def cX(tm:List SV):List Nat->List SV->List SV
 |[],t=>t
 |s::r,t=>cX tm r (lsS t s (gj tm s))
def wa(wr:List Nat)(lo hi:Nat)(b:Nat):Bool:=yR wr b||(Nat.ble lo b&&Nat.blt b hi)
def Wq(wr:List Nat)(lo hi:Nat):SH->SH
 |[]=>[]
 |(b,k)::r=>(b,bif wa wr lo hi b then(match k with | .fro nn t l=>.gone (rsz nn t l) l.length | k=>k)else k)::Wq wr lo hi r
def Hj(wr:List Nat)(lo hi:Nat):SH->SH
 |[]=>[]
 |(b,k)::r=>bif wa wr lo hi b then(b,k)::Hj wr lo hi r else Hj wr lo hi r
def Hk(wr:List Nat)(lo hi:Nat):SH->SH
 |[]=>[]
 |(b,k)::r=>bif wa wr lo hi b then Hk wr lo hi r else(b,k)::Hk wr lo hi r
def zeR(wr:List Nat)(lo hi:Nat)(H1 H:SH):SH:=Hj wr lo hi H1++Hk wr lo hi H
def rwK:SB->Bool
 |.ro _=>false
 |.roa _ _ _=>false
 |.fro _ _ _=>false
 |.hid=>false
 |_=>true
def okT(wr:List Nat)(lo hi:Nat)(H:SH):SH->Bool
 |[]=>true
 |(b,k)::r=>(bif wa wr lo hi b then rwK k else match reg (some k)with | none=>true | some _=>(reg (zo H b)).isSome)&&okT wr lo hi H r
def PS(lo hi:Nat):SH->Bool
 |[]=>true
 |(b,_)::r=>!(Nat.ble lo b&&Nat.blt b hi)&&PS lo hi r
def okW(H:SH):List Nat->Bool
 |[]=>true
 |b::r=>(match zo H b with
  |some (.gone _ _)=>false
  |some .abs=>false
  |none=>false
  |_=>true)&&okW H r
def rA(wr:List Nat)(lo hi:Nat):Bool:=(match wr with | []=>true | _=>false)&&Nat.beq lo hi
def dS(wr:List Nat)(lo hi:Nat)(H1 H:SH):Option SH:=match Wq wr lo hi H1 with
 |H2=>bif okT wr lo hi H H2&&(PS lo hi H&&okW H wr)then some (bif rA wr lo hi then H else zeR wr lo hi H2 H)else none
def zin(vis:List Nat):List Nat->Bool
 |[]=>true
 |b::r=>yR vis b&&zin vis r
theorem zeS{vis:List Nat}{b:Nat}:∀{wr:List Nat},zin vis wr=true->yR wr b=true->yR vis b=true
 |[],_,h=>by cases h
 |c::r,hs,h=>by
  simp only[zin,FT]at hs;have h:(bif Nat.beq c b then true else yR r b)=true:=h;cases hb:Nat.beq c b with
  |true=>simp_all
  |false=>rw[hb]at h;exact zeS hs.2 h
def Hl(op:List SV->SH->Nat->Oper->KO R->Option R)(ops:Array Oper)(cut:Nat->List SV->SH->List Zo->Option (List Nat×List Nat)):Nat->List Zo->List Oper->List SV->SH->Nat->(List Zo->List SV->SH->Nat->Option R)->Option R
 |_,done,[],tm,H,nx,k=>k done.reverse tm H nx
 |i,done,o::l,tm,H,nx,k=>PR ops tm o
  (fun tm=>match cut i tm H done with
   |some (wr,vis)=>bif zin vis wr then op (cX tm (yL ops o) (List.replicate tm.length .junk)) (aj vis wr H) nx o fun v H1 nx1=>match dS wr nx nx1 H1 H with
    |some H2=>Hl op ops cut (i+1) (⟨true,vis,wr,nx,nx1⟩::done) l (KD tm o.dst v) H2 nx1 k
    |none=>none
    else none
   |none=>none)
  (fun tm=>Hl op ops cut (i+1) (⟨false,[],[],nx,nx⟩::done) l (KD tm o.dst (.tup [])) H nx k)
theorem ZH(wr:List Nat)(lo hi n:Nat):∀H:SH,zo (Wq wr lo hi H) n=(zo H n).map fun k=>bif wa wr lo hi n then(match k with | .fro nn t l=>.gone (rsz nn t l) l.length | k=>k)else k
 |[]=>rfl
 |(b,k)::r=>by
  simp only[Wq,qd];by_cases hb:b=n
  ·subst hb;simp
  ·rw[zqu hb,zqu hb];exact ZH wr lo hi n r
theorem zbF(wr:List Nat)(lo hi n:Nat):∀H:SH,zo (Hj wr lo hi H) n=bif wa wr lo hi n then zo H n else none
 |[]=>by simp[Hj,WX]
 |(b,k)::r=>by have ih:=zbF wr lo hi n r;grind[Hj,qd,wa]
theorem zbG(wr:List Nat)(lo hi n:Nat):∀H:SH,zo (Hk wr lo hi H) n=bif wa wr lo hi n then none else zo H n
 |[]=>by simp[Hk,WX]
 |(b,k)::r=>by have ih:=zbG wr lo hi n r;grind[Hk,qd,wa]
theorem qo(n:Nat):∀H G:SH,zo (H++G) n=(match zo H n with | some k=>some k | none=>zo G n)
 |[],G=>by simp[WX]
 |(b,k)::r,G=>by have ih:=qo n r G;grind[qd]
theorem zio(wr:List Nat)(lo hi n:Nat)(H1 H:SH):zo (zeR wr lo hi H1 H) n=bif wa wr lo hi n then zo H1 n else zo H n:=by grind[zeR,qo,zbF,zbG,wa,zo]
theorem IK{wr:List Nat}{lo hi:Nat}(h:rA wr lo hi=true)(b:Nat):wa wr lo hi b=false:=by
 unfold rA at h;simp only[FT]at h;obtain⟨h1,h2⟩:=h;have h2:=zpK h2;subst h2;cases wr with
 |nil=>
  simp only[wa,yR,zrR,zsb];by_cases hb:lo<=b
  ·grind[Gj]
  ·left;cases hc:Nat.ble lo b with
   |false=>rfl
   |true=>exact absurd (zqH hc) hb
 |cons x r=>cases h1
theorem PT{wr:List Nat}{lo hi:Nat}{H1 H H2:SH}(h:dS wr lo hi H1 H=some H2)(n:Nat):zo H2 n=bif wa wr lo hi n then zo (Wq wr lo hi H1) n else zo H n:=by grind[dS,rA,IK,zio]
theorem IL{wr:List Nat}{lo hi:Nat}{H1 H H2:SH}(h:dS wr lo hi H1 H=some H2):okT wr lo hi H (Wq wr lo hi H1)=true∧PS lo hi H=true∧okW H wr=true:=by grind[dS]
theorem zg9{wr:List Nat}{lo hi:Nat}{H:SH}{b:Nat}{k:SB}:∀{H1:SH},okT wr lo hi H H1=true->zo H1 b=some k->(wa wr lo hi b=true->rwK k=true)∧(wa wr lo hi b=false->(reg (some k)).isSome=true->(reg (zo H b)).isSome=true)
 |[],_,h=>by cases h
 |(c,x)::r,ho,h=>by
  simp only[okT,FT]at ho;rw[qd]at h;by_cases hc:c=b
  ·grind
  ·rw[zqu hc]at h;exact zg9 ho.2 h
theorem zbH{lo hi b:Nat}{k:SB}:∀{H:SH},PS lo hi H=true->zo H b=some k->¬(lo<=b∧b < hi)
 |[],_,h=>by cases h
 |(c,x)::r,hf,h=>by
  simp only[PS,FT,zrq,zsb]at hf;rw[qd]at h;by_cases hc:c=b
  ·grind[Nat.ble_eq_true_of_le,Gj,decide_eq_false_iff_not]
  ·rw[zqu hc]at h;exact zbH hf.2 h
theorem KE{wr:List Nat}{lo hi b:Nat}:wa wr lo hi b=true↔yR wr b=true∨(lo<=b∧b < hi):=by grind[wa,Gj,Nat.ble_eq]
theorem dT(wr:List Nat)(lo hi b:Nat)(k:Option SB):reg (k.map fun k=>bif wa wr lo hi b then(match k with | .fro nn t l=>.gone (rsz nn t l) l.length | k=>k)else k)=reg k:=by
 cases k with
 |none=>rfl
 |some k=>simp only[zqQ];cases wa wr lo hi b<;>cases k<;>first | rfl | exact dO _ _ _
theorem zoj(wr:List Nat)(lo hi b:Nat)(k:Option SB):ji (k.map fun k=>bif wa wr lo hi b then(match k with | .fro nn t l=>.gone (rsz nn t l) l.length | k=>k)else k)=ji k:=by
 cases k with
 |none=>rfl
 |some k=>simp only[zqQ];cases wa wr lo hi b<;>cases k<;>rfl
structure zo4(vis wr:List Nat)(lo hi:Nat)(V1 H H2:SH):Prop where
 reg:jV H H2
 keep:wc H H2
 vn:∀ν nx nx',VN ν nx H->VN ν nx' V1->nx<=nx'->VN ν nx' H2
 rho:∀ν,RLe (Sy.rho ν V1) (Sy.rho ν H2)
theorem zbI{vis wr:List Nat}{lo hi:Nat}{V1 H H2:SH}(hr:jV (aj vis wr H) V1)(hk:wc (aj vis wr H) V1)(hvis:∀b,yR wr b=true->yR vis b=true)(h:dS wr lo hi V1 H=some H2):zo4 vis wr lo hi V1 H H2:=by
 have hg:=fun n=>PT h n;have hc:=IL h;have hreg2:∀b,wa wr lo hi b=true->Sy.reg (zo H2 b)=Sy.reg (zo V1 b):=fun b hb=>by rw[hg b,hb,zqJ,ZH,dT]
 have hregH:jV H H2:=fun b x hx=>by
  cases ht:wa wr lo hi b with
  |false=>grind
  |true=>rw[hreg2 b ht];exact hr b x (by rw[QI,nZ];exact hx)
 refine⟨hregH,fun l L hl=>?_,fun ν nx nx' hv hv1 hle=>⟨fun b n hb=>?_,hv1.old,fun b hb=>?_⟩,fun ν b=>?_⟩
 ·cases ht:wa wr lo hi l with
  |false=>exact⟨L.st,L.pend,by simp_all⟩
  |true=>
   have hw:yR wr l=true:=by
    rcases KE.1 ht with h1 | h1
    ·exact h1
    ·exact absurd h1 (zbH hc.2.1 hl)
   obtain⟨s,p,h1⟩:=hk l L (by rw[QI,hl];simp[Di,hw,hvis l hw]);grind[ZH]
 ·cases ht:wa wr lo hi b with
  |false=>rw[hg b,ht]at hb;exact hv.empty b n hb
  |true=>rw[hreg2 b ht]at hb;exact hv1.empty b n hb
 ·cases ht:wa wr lo hi b with
  |false=>rw[hg b,ht]at hb;exact hv.nn b hb
  |true=>rw[hg b,ht,zqJ,ZH,zoj]at hb;exact hv1.nn b hb
 ·unfold Sy.rho;cases hx:Sy.reg (zo V1 b)with
  |none=>exact .inl rfl
  |some x=>
   right;cases ht:wa wr lo hi b with
   |true=>rw[hreg2 b ht,hx]
   |false=>
    have h1:Sy.reg (zo (Wq wr lo hi V1) b)=some x:=by rw[ZH,dT];exact hx
    cases hd:zo (Wq wr lo hi V1) b with
    |none=>rw[hd]at h1;cases h1
    |some k=>
     have h2:=(zg9 hc.1 hd).2 ht (by rw[<-hd,h1];rfl);obtain⟨y,hy⟩:=zsj.1 h2;have h3:=hr b y (by rw[QI,nZ];exact hy);grind
theorem RLe.trans{a b c:Nat->Value}(h:RLe a b)(k:RLe b c):RLe a c:=fun n=>by
 rcases h n with h1 | h1
 ·exact .inl h1
 ·rcases k n with k1 | k1;all_goals grind
def Qw(ν:Nat->Bool)(H:SH)(tmv:List Value)(tm:List SV):Prop:=tmv.length=tm.length∧∀(i:Nat) u,tm[i]?=some u->∃ρ,(∀b,ρ b≠Fz.junk)∧RLe ρ (rho ν H)∧tmv[i]?=some (den ρ u)
theorem Qw.refl(ν:Nat->Bool)(H:SH)(tm:List SV):Qw ν H (zu (rho ν H) tm) tm:=⟨wq _ _,fun i u hu=>⟨rho ν H,vv ν H,RLe.refl _,by rw[wF,hu];rfl⟩⟩
theorem Qw.mono{ν:Nat->Bool}{H H2:SH}{tmv:List Value}{tm:List SV}(h:Qw ν H tmv tm)(hr:RLe (rho ν H) (rho ν H2)):Qw ν H2 tmv tm:=⟨h.1,fun i u hu=>by
 obtain⟨ρ,h1,h2,h3⟩:=h.2 i u hu;exact⟨ρ,h1,h2.trans hr,h3⟩⟩
theorem Qw.put{ν:Nat->Bool}{H:SH}{tmv:List Value}{tm:List SV}(h:Qw ν H tmv tm){ρ:Nat->Value}(hj:∀b,ρ b≠Fz.junk)(hr:RLe ρ (rho ν H))(d:Option Tmp)(v:SV):Qw ν H (xJ tmv d (den ρ v)) (KD tm d v):=by
 cases d with
 |none=>exact h
 |some d=>
  rw[aK];simp only[KD,uM];refine⟨by simp[h.1],fun i u hu=>?_⟩;rw[zrl]at hu ⊢;by_cases hdi:d=i
  ·subst hdi;rw[zqI rfl]at hu ⊢;split at hu
   ·rename_i hlt;cases hu;exact⟨ρ,hj,hr,by rw[zqI (by rw[h.1];exact hlt)]⟩
   ·cases hu
  ·rw[zqu hdi]at hu ⊢;exact h.2 i u hu
theorem Qw.rel{ν:Nat->Bool}{H:SH}{tmv:List Value}{tm:List SV}(h:Qw ν H tmv tm){ts:Array Value}(ht:qS φ tmv ts):qS φ (zu (rho ν H) tm) ts:=by
 refine⟨by rw[wq,<-h.1];exact ht.1,fun i v hv=>?_⟩;rw[wF,zqp]at hv;obtain⟨u,hu,rfl⟩:=hv;obtain⟨ρ,h1,h2,h3⟩:=h.2 i u hu;rcases ht.2 i _ h3 with h0 | ⟨v',e1,e2⟩
 all_goals grind[ri,Gs]
theorem zbJ(tm:List SV):∀(sl:List Nat) (t:List SV),(cX tm sl t).length=t.length∧∀(i:Nat),t.length=tm.length->((i∈sl->(cX tm sl t)[i]?=tm[i]?)∧(i∉sl->(cX tm sl t)[i]?=t[i]?)∧(t[i]?=tm[i]?->(cX tm sl t)[i]?=tm[i]?))
 |[],t=>⟨rfl,fun i _=>⟨(fun h=>by cases h),fun _=>rfl,fun h=>h⟩⟩
 |s::r,t=>by obtain⟨h1,h2⟩:=zbJ tm r (lsS t s (gj tm s));grind[uM,cX,gj,xk,List.getElem?_eq_none]
theorem Qw.keep{ν:Nat->Bool}{H:SH}{tmv:List Value}{tm:List SV}(h:Qw ν H tmv tm)(sl:List Nat):Qw ν H (uB tmv sl) (cX tm sl (List.replicate tm.length .junk)):=by
 obtain⟨k1,k2⟩:=zbJ tm sl (List.replicate tm.length .junk);have k3:=(iT (tm:=tmv) (slots:=sl)).1;refine⟨by rw[k3,k1,h.1];simp,fun i u hu=>?_⟩;obtain⟨e1,e2,_⟩:=k2 i (by simp);by_cases hi:i∈sl
 ·rw[e1 hi]at hu;rw[MA hi];exact h.2 i u hu
 ·rw[e2 hi,List.getElem?_replicate]at hu;split at hu
  ·rename_i hlt;cases hu;refine⟨rho ν H,vv ν H,RLe.refl _,?_⟩;have hl:i < (uB tmv sl).length:=by rw[k3,h.1];exact hlt
   grind[uB,iT,den]
  ·cases hu
theorem Qw.any{ν:Nat->Bool}{H:SH}{tmv:List Value}{tm:List SV}(h:Qw ν H tmv tm):∀(i:Nat) u,tm[i]?=some u->∃ρ,tmv[i]?=some (den ρ u):=fun i u hu=>by obtain⟨ρ,_,_,h3⟩:=h.2 i u hu;exact⟨ρ,h3⟩
theorem Dj{ν:Nat->Bool}{ρ:Nat->Value}{b:Nat}{x:Blk}:∀{H:SH},(b,x)∈xO ν ρ H->∃k,(b,k)∈H∧qB ρ (ν b) k=some x
 |[],h=>by cases h
 |(c,k)::r,h=>by
  have hdel:∀(G:Hp) (y:Nat×Blk),y∈G.del c->y∈G:=by intro G y hy;induction G<;>grind[Hp.del,List.mem_cons_of_mem]
  simp only[xO]at h;split at h
  ·rename_i y hy;rcases zqA.1 h with h | h
   ·grind
   ·obtain⟨k',h1,h2⟩:=Dj h;grind
  ·obtain⟨k',h1,h2⟩:=Dj (hdel _ _ h);grind
theorem zha{wr:List Nat}{lo hi:Nat}{H:SH}{b:Nat}{k:SB}:∀{H1:SH},okT wr lo hi H H1=true->(b,k)∈H1->wa wr lo hi b=true->rwK k=true
 |[],_,h,_=>by cases h
 |(c,x)::r,ho,h,ht=>by
  simp only[okT,FT]at ho;rcases zqA.1 h with h | h
  ·grind
  ·exact zha ho.2 h ht
theorem zeT:∀{H:Hp},(∀b x,(b,x)∈H->x.rw=true)->cO H=true
 |[],_=>rfl
 |(b,x)::r,h=>by simp only[cO,h b x (by simp),zrS];exact zeT fun c y hy=>h c y (zqP _ hy)
theorem Gv{p:Nat->Bool}{b:Nat}{x:Blk}:∀{H:Hp},(b,x)∈Hp.only p H->p b=true∧(b,x)∈H
 |[],h=>by cases h
 |(c,y)::r,h=>by
  simp only[Hp.only]at h;split at h
  ·rename_i hp;rcases zqA.1 h with h | h
   ·grind
   ·exact⟨(Gv h).1,zqP _ (Gv h).2⟩
  ·exact⟨(Gv h).1,zqP _ (Gv h).2⟩
theorem zok{ρ:Nat->Value}{nil:Bool}{k:SB}{x:Blk}(h:rwK k=true)(hx:qB ρ nil k=some x):x.rw=true:=by
 cases k with
 |arr nn t l=>
  simp only[qB]at hx;cases hn:jE nn l<;>rw[hn]at hx<;>cases hx;rfl
 |_=>simp[rwK]at h<;>simp only[qB,PL,reduceCtorEq]at hx<;>(subst hx;rfl)
theorem zmf{ρ:Nat->Value}{nil:Bool}{k:SB}{n:Nat}(h:reg (some k)=some (n,0)):qB ρ nil k=none:=by
 have key:∀(nn:Bool) (t:Ty) (l:List (T t)),some (l.length,rsz nn t l)=some (n,0)->jE nn l=true:=fun nn t l h=>by
  unfold rsz at h;cases hn:jE nn l with
  |true=>rfl
  |false=>rw[hn]at h;simp at h
 cases k<;>grind[qB,reg]
theorem zhb{H:SH}{b:Nat}:∀{wr:List Nat},okW H wr=true->yR wr b=true->∃k,zo H b=some k∧(∀s n,k≠.gone s n)∧k≠.abs
 |[],_,h=>by cases h
 |c::r,ho,h=>by
  simp only[okW,FT]at ho;have h:(bif Nat.beq c b then true else yR r b)=true:=h;by_cases hc:c=b
  ·subst hc;have h1:=ho.1;cases hk:zo H c<;>grind
  ·have:Nat.beq c b=false:=by grind[Nat.beq,Nat.eq_of_beq_eq_true]
   rw[this]at h;exact zhb ho.2 h
structure zmg(s:Stp)(t:Zo):Prop where
 ran:s.ran=t.ran
 lo:s.lo=t.lo
 hi:s.hi=t.hi
 vis:∀x∈s.V,yR t.vis x.1=true
 wr:∀b,s.wr b=true->yR t.wr b=true
theorem zol{op:List SV->SH->Nat->Oper->KO R->Option R}{rd:Option Nat}{ops:Array Oper}{o:Oper}{vis wr:List Nat}{tm:List SV}{H V1 H2:SH}{nx nx1:Nat}{v:SV}(hop:SOp P rd o (cX tm (yL ops o) (List.replicate tm.length .junk)) (aj vis wr H) nx v V1 nx1)(hvis:∀b,yR wr b=true->yR vis b=true)(hb:dS wr nx nx1 V1 H=some H2){ν:Nat->Bool}(hv:VN ν nx H){tmv:List Value}{G:Hp}(ht:Qw ν H tmv tm)(hm:Mix G (zK ν H))(hw:yD ops tmv o=some true) :
  ∃s:Stp,Pt P rd ops o tmv G nx s∧s.o=o∧s.hi=nx1∧VN ν nx1 H2∧Qw ν H2 (xJ tmv o.dst s.v) (KD tm o.dst v)∧Mix (if s.ran then YC s.touch s.H' G else G) (zK ν H2)∧zmg s ⟨true,vis,wr,nx,nx1⟩:=by
 obtain⟨r1,r2,r3,r4⟩:=hop
 obtain⟨v1,o1⟩:=r4 ν (zg8 hv)
 have B:=zbI r1 r2 hvis hb
 have hc:=IL hb
 have hg:=fun n=>PT hb n
 let wr':Nat->Bool:=fun b=>yR wr b&&(G.get b).isSome
 have hvm:=zme (vis:=vis) (wr:=wr) hm wr' (fun _=>rfl)
 have hdrop:∀b x,(zK ν (Wq wr nx nx1 V1)).get b=some x->(zK ν V1).get b=some x:=fun b x hx=>by
  have hr:rho ν (Wq wr nx nx1 V1)=rho ν V1:=wu (fun c=>by rw[ZH,dT]) ν;rw[qe,ZH,hr]at hx;rw[qe];cases hk:zo V1 b with
  |none=>rw[hk]at hx;cases hx
  |some k=>
   rw[hk]at hx;simp only[zqQ,zqt]at hx ⊢;cases htb:wa wr nx nx1 b with
   |false=>rw[htb]at hx;exact hx
   |true=>
    rw[htb,zqJ]at hx;cases k<;>first | exact hx | (simp[qB]at hx)
 have htouch:∀b,jK wr' nx nx1 b=true->wa wr nx nx1 b=true:=fun b hb=>by
  simp only[jK,wr',zrm,FT,zra]at hb;rw[KE];rcases hb with hb | hb
  ·exact .inl hb.1
  ·exact .inr hb
 refine⟨⟨o,true,den (rho ν V1) v,uB tmv (yL ops o),Hp.only (yR vis) (Kv wr' (fun _=>false) G),wr',zK ν (Wq wr nx nx1 V1),nx,nx1⟩,⟨rfl,rfl,r3,rfl,?_,fun _=>⟨?_,?_⟩,fun b k hk=>?_,(fun h=>by cases h),fun b hb=>?_⟩,rfl,rfl,B.vn ν nx nx1 hv v1 r3,?_,?_,⟨rfl,rfl,rfl,fun x hx=>(Gv (b:=x.1) (x:=x.2) hx).1,fun b hb=>?_⟩⟩
 ·rw[<-Kx];exact hw
 ·refine vN (zeK o1 (fun φ K w g=>hvm.good g) fun φ K w g ts htr=>?_) (fun φ v' h=>h) (fun φ K w g=>g.sub hdrop)
  rw[zeQ]
  exact(ht.keep (yL ops o)).rel htr
 ·refine zeT fun b x hx=>?_
  obtain⟨h1,h2⟩:=Gv hx
  obtain⟨k,h3,h4⟩:=Dj h2
  exact zok (zha hc.1 h3 (htouch b h1)) h4
 ·dsimp only at hk ⊢
  rw[Hp.get_only]at hk
  split at hk
  ·rw[Kw,zqp]at hk
   obtain⟨k0,h1,rfl⟩:=hk
   exact⟨k0,h1,rfl⟩
  ·cases hk
 ·simp only[wr',FT]at hb
  obtain⟨k0,hk0⟩:=zsj.1 hb.2
  refine⟨uA wr' (fun _=>false) b k0,?_⟩
  rw[Hp.get_only,zqI (hvis b hb.1),Kw,hk0];rfl
 ·exact(ht.mono (dP ν B.reg)).put (vv ν V1) (B.rho ν) o.dst v
 ·simp only[zqF]
  intro b x hx
  have hstouch:Stp.touch ⟨o,true,den (rho ν V1) v,uB tmv (yL ops o),Hp.only (yR vis) (Kv wr' (fun _=>false) G),wr',zK ν (Wq wr nx nx1 V1),nx,nx1⟩ b=jK wr' nx nx1 b:=rfl
  rw[WW,hstouch]
  rw[qe,hg b]at hx
  cases htb:wa wr nx nx1 b with
  |false=>
   have h0:jK wr' nx nx1 b=false:=by
    cases h0:jK wr' nx nx1 b with
    |false=>rfl
    |true=>rw[htouch b h0]at htb;cases htb
   rw[htb,zqD,zqs]at hx;obtain⟨k,hk,hx⟩:=hx;obtain⟨y,h1,h2⟩:=zeP (vv ν H) (dP ν B.reg) hx;obtain⟨z,h3,h4⟩:=hm b y (by rw[qe,hk];exact h1);rw[h0];exact⟨z,h3,h4.trans h2⟩
  |true=>
   rw[htb,zqJ,zqs]at hx;obtain⟨k,hk,hx⟩:=hx;have hr:rho ν (Wq wr nx nx1 V1)=rho ν V1:=wu (fun c=>by rw[ZH,dT]) ν;obtain⟨y,h1,h2⟩:=zeP (vv ν V1) (B.rho ν) hx;have hy:(zK ν (Wq wr nx nx1 V1)).get b=some y:=by rw[qe,hk,hr];exact h1
   cases h0:jK wr' nx nx1 b with
   |true=>exact⟨y,by simpa using hy,h2⟩
   |false=>
    exfalso;have hbw:yR wr b=true:=by
     rcases KE.1 htb with h | h
     ·exact h
     ·simp only[jK,zrI,zsb,zrC]at h0;omega
    have hGn:G.get b=none:=by
     simp only[jK,wr',zrI,hbw,zrS]at h0;cases hG:G.get b with
     |none=>rfl
     |some z=>rw[hG]at h0;simp at h0
    obtain⟨k0,hk0,hng,hna⟩:=zhb hc.2.2 hbw;have hdn:qB (rho ν H) (ν b) k0=none:=by
     cases hd:qB (rho ν H) (ν b) k0 with
     |none=>rfl
     |some z=>
      obtain⟨z0,h5,_⟩:=hm b z (by rw[qe,hk0];exact hd);rw[hGn]at h5;cases h5
    have hnil:∃n,reg (some k0)=some (n,0):=by
     cases k0 with
     |gone s n=>exact absurd rfl (hng s n)
     |abs=>exact absurd rfl hna
     |arr nn t l=>cases hn:jE nn l with
      |true=>exact⟨l.length,by simp[reg,rsz,hn]⟩
      |false=>simp[qB,hn]at hdn
     |roa nn t l=>cases hn:jE nn l with
      |true=>exact⟨l.length,by simp[reg,rsz,hn]⟩
      |false=>simp[qB,hn]at hdn
     |fro nn t l=>cases hn:jE nn l with
      |true=>exact⟨l.length,by simp[reg,rsz,hn]⟩
      |false=>simp[qB,hn]at hdn
     |_=>simp[qB]at hdn
    obtain⟨n0,hy0⟩:=hnil;have h6:=r1 b (n0,0) (by rw[QI,nZ,hk0];exact hy0);rw[ZH,zqp]at hk;obtain⟨k1,hk1,hk2⟩:=hk;rw[hk1]at h6;have h7:reg (some k)=some (n0,0):=by rw[<-h6,<-hk2];exact dT wr nx nx1 b (some k1)
    rw[zmf h7]at h1;cases h1
 grind
def zeU(t:Zo):List Nat->Bool
 |[]=>false
 |x::r=>wa t.wr t.lo t.hi x||zeU t r
def TS(ms:List Nat)(t:Zo)(j:Nat):Nat->List Zo->Bool
 |_,[]=>true
 |i,s::r=>(Nat.beq i j||(CG ms i j||!zeU t s.vis))&&TS ms t j (i+1) r
def TT(ms:List Nat)(all:List Zo):Nat->List Zo->Bool
 |_,[]=>true
 |j,t::r=>(!t.ran||(rA t.wr t.lo t.hi||TS ms t j 0 all))&&TT ms all (j+1) r
theorem zeV{t:Zo}{x:Nat}:∀{l:List Nat},zeU t l=false->yR l x=true->wa t.wr t.lo t.hi x=false
 |[],_,h=>by cases h
 |y::r,hh,h=>by
  simp only[zeU,zrI]at hh;have h:(bif Nat.beq y x then true else yR r x)=true:=h;cases hb:Nat.beq y x with
  |true=>simp_all
  |false=>rw[hb]at h;exact zeV hh.2 h
theorem zhc{ms:List Nat}{t:Zo}{j:Nat}:∀{l:List Zo} {i m:Nat} {s:Zo},TS ms t j i l=true->l[m]?=some s->i+m=j∨CG ms (i+m) j=true∨zeU t s.vis=false
 |[],_,_,_,_,h=>by simp at h
 |x::r,i,0,s,hf,h=>by grind[TS,Bool.not_eq_true',Nat.eq_of_beq_eq_true]
 |x::r,i,m+1,s,hf,h=>by simp only[TS,FT]at hf;have:=zhc (m:=m) hf.2 (by simpa using h);grind
theorem zhd{ms:List Nat}{all:List Zo}:∀{l:List Zo} {j m:Nat} {t:Zo},TT ms all j l=true->l[m]?=some t->t.ran=false∨rA t.wr t.lo t.hi=true∨TS ms t (j+m) 0 all=true
 |[],_,_,_,_,h=>by simp at h
 |x::r,j,0,t,hf,h=>by grind[TT,Bool.not_eq_true']
 |x::r,j,m+1,t,hf,h=>by simp only[TT,FT]at hf;have:=zhd (m:=m) hf.2 (by simpa using h);grind
theorem zmh{ms:List Nat}{ss:List Stp}{sl:List Zo}(hl:sl.length=ss.length)(hfit:∀(j:Nat) s t,ss[j]?=some s->sl[j]?=some t->zmg s t)(h:TT ms sl 0 sl=true):pV ms ss=true:=by
 unfold pV;rw[zqK];rintro⟨t,j⟩ ht;rw[zsv]at ht;dsimp only at ht ⊢;have hj:j < ss.length:=(zqr.1 ht).1;have ht':sl[j]?=some sl[j]:=by simp[hl,hj]
 have ft:=hfit j t _ ht ht';have htouch:∀x,t.touch x=true->wa sl[j].wr sl[j].lo sl[j].hi x=true:=fun x hx=>by
  simp only[Stp.touch,jK,zrm,FT,zra]at hx;rw[KE];rcases hx with hx | hx
  ·exact .inl (ft.wr x hx)
  ·exact .inr (by rw[<-ft.lo,<-ft.hi];exact hx)
 rcases zhd h ht' with h1 | h1 | h1
 ·rw[ft.ran,h1];rfl
 ·grind[IK,Nat.beq,rA,List.all_eq_true,wa,KE]
 ·rw[zrr]at h1;simp only[zrm];right;rw[zqK];rintro⟨s,i⟩ hs;rw[zsv]at hs;dsimp only at hs ⊢;have hi:i < ss.length:=(zqr.1 hs).1;have hs':sl[i]?=some sl[i]:=by simp[hl,hi]
  have fs:=hfit i s _ hs hs';have:=zhc h1 hs';rw[zrr]at this;rcases this with h2 | h2 | h2
  ·simp[h2]
  ·grind[YD,CG,dw]
  ·simp only[zrm];right;rw[zqK];intro x hx;have h3:=zeV h2 (fs.vis x hx);grind
theorem MU{op:List SV->SH->Nat->Oper->KO R->Option R}{rd:Option Nat}(hop:OpS P rd op){ops:Array Oper}{cut:Nat->List SV->SH->List Zo->Option (List Nat×List Nat)} : ∀ {l:List Oper} {i:Nat} {done:List Zo} {tm:List SV} {H:SH} {nx:Nat} {k:List Zo->List SV->SH->Nat->Option R} {r:R},Hl op ops cut i done l tm H nx k=some r->∃ (sl:List Zo) (tm':List SV) (H':SH) (nx':Nat),sl.length=l.length∧k (done.reverse++sl) tm' H' nx'=some r∧jV H H'∧wc H H'∧kp (VF l) tm tm'∧nx<=nx'∧∀ ν,VN ν nx H->VN ν nx' H'∧∀(tmv:List Value) (G:Hp),Qw ν H tmv tm->Mix G (zK ν H)->∃ ss:List Stp,ss.length=l.length∧(∀(j:Nat) o s,l[j]?=some o->ss[j]?=some s->Pt P rd ops o (tmR (ss.take j) tmv) (hpR (ss.take j) G) (nxR (ss.take j) nx) s)∧nxR ss nx=nx'∧Qw ν H' (tmR ss tmv) tm'∧Mix (hpR ss G) (zK ν H')∧∀(j:Nat) s t,ss[j]?=some s->sl[j]?=some t->zmg s t
 |[],i,done,tm,H,nx,k,r,h=>by simp only[Hl]at h;refine⟨[],tm,H,nx,rfl,by simpa using h,jV.refl H,wc.refl H,kp.refl _ _,FW _,fun ν hv=>⟨hv,fun tmv G ht hm=>⟨[],rfl,fun j o s hj=>by simp at hj,rfl,ht,hm,fun j s t hj=>by simp at hj⟩⟩⟩
 |o::l,i,done,tm,H,nx,k,r,h=>by
  have hin1:∀i∈o.dst.toList,i∈VF (o::l):=fun i hi=>by grind[VF]
  have hin2:∀i∈VF l,i∈VF (o::l):=fun i hi=>by grind[VF,List.mem_cons_of_mem]
  simp only[Hl]at h;rcases zeN h with⟨hw,h1⟩ | ⟨hw,h1⟩
  ·split at h1;case h_2=>cases h1
   rename_i wr vis hcut;have h6:=zT h1;clear h1;obtain⟨hsub,h1⟩:=h6;have hvis:∀b,yR wr b=true->yR vis b=true:=fun b hb=>zeS hsub hb;obtain⟨v,V1,nx1,hs,h2⟩:=hop h1;dsimp only at h2;split at h2;case h_2=>cases h2
   rename_i H2 hb;obtain⟨sl,tm',H',nx',e1,e2,e3,e4,e5,e6,e7⟩:=MU hop h2;have B:=zbI hs.1 hs.2.1 hvis hb;refine⟨⟨true,vis,wr,nx,nx1⟩::sl,tm',H',nx',by simp[e1],by simpa using e2,B.reg.trans e3,B.keep.trans e4,(lu tm o.dst v).trans e5 hin1 hin2,zqw hs.2.2.1 e6,fun ν hv=>?_⟩;have hvn:VN ν nx1 H2:=B.vn ν nx nx1 hv (hs.2.2.2 ν (zg8 hv)).1 hs.2.2.1;obtain⟨f1,f2⟩:=e7 ν hvn;refine⟨f1,fun tmv G ht hm=>?_⟩;obtain⟨s,g1,g2,g3,_,g5,g6,g7⟩:=zol (op:=op) hs hvis hb hv ht hm (hw tmv ht.any);obtain⟨ss,q1,q2,q3,q4,q5,q6⟩:=f2 _ _ g5 g6;have hhd:xJ tmv s.o.dst s.v=xJ tmv o.dst s.v:=by rw[g2]
   refine⟨s::ss,by simp[q1],fun j o' s' ho' hs'=>?_,?_,?_,?_,fun j s' t' hs' ht'=>?_⟩
   ·cases j with
    |zero=>simp at ho' hs';subst ho';subst hs';exact g1
    |succ j=>
     simp only[zrg]at ho' hs';have:=q2 j o' s' ho' hs';simp only[List.take_succ_cons,tmR,hpR,nxR,g3,hhd];exact this
   all_goals grind[nxR,tmR,hpR]
  ·obtain⟨sl,tm',H',nx',e1,e2,e3,e4,e5,e6,e7⟩:=MU hop h1;refine⟨⟨false,[],[],nx,nx⟩::sl,tm',H',nx',by simp[e1],by simpa using e2,e3,e4,(lu tm o.dst _).trans e5 hin1 hin2,e6,fun ν hv=>?_⟩;obtain⟨f1,f2⟩:=e7 ν hv;refine⟨f1,fun tmv G ht hm=>?_⟩;have hu:undef=den (rho ν H) (.tup []):=by simp[den,zu,undef]
   obtain⟨ss,q1,q2,q3,q4,q5,q6⟩:=f2 (xJ tmv o.dst undef) G (by rw[hu];exact ht.put (vv ν H) (RLe.refl _) o.dst _) hm;refine⟨⟨o,false,undef,uB tmv (yL ops o),[],fun _=>false,[],nx,nx⟩::ss,by simp[q1],fun j o' s' ho' hs'=>?_,?_,?_,?_,fun j s' t' hs' ht'=>?_⟩
   ·cases j with
    |zero=>
     simp at ho' hs';subst ho';subst hs';refine⟨rfl,rfl,FW _,rfl,?_,(fun h=>by cases h),(fun b k hb=>by simp[Hp.get_nil]at hb),fun _=>⟨rfl,fun b=>by simp[Stp.touch,jK]⟩,fun b hb=>by cases hb⟩;show yD ops (uB tmv (yL ops o)) o=some false;rw[<-Kx];exact hw tmv ht.any
    |succ j=>
     simp only[zrg]at ho' hs';exact q2 j o' s' ho' hs'
   ·exact q3
   ·exact q4
   ·grind[hpR,Bool.false_eq_true]
   ·cases j with
    |zero=>
     simp at hs' ht';subst hs';subst ht';exact⟨rfl,rfl,rfl,(fun x hx=>by cases hx),(fun b hb=>by cases hb)⟩
    |succ j=>grind
theorem mQ{r:Option Nat}{c:Code}{tm:List Value}{ds:List Nat}{H:Hp}{nx:Nat}{R R2:Res}(h:qY P r c tm ds H nx R)(he:R2.e=R.e)(hd:R2.ds=R.ds)(hn:R2.nx=R.nx)(hH:∀φ K w,zF φ R.H K w->zF φ R2.H K w)(ht:∀φ ts,qS φ R.tm ts->qS φ R2.tm ts):qY P r c tm ds H nx R2:=by obtain⟨e,t,d,H',n⟩:=R2;dsimp only at he hd hn hH ht;subst he;subst hd;subst hn;refine⟨h.1,fun φ w K a rc g hf htm hds hr=>zqX (h.2 φ w K a rc g hf htm hds hr) ?_⟩;rintro e a1 w1 ⟨rfl,φ1,k1,k2,k3,k4,k5⟩;exact⟨rfl,φ1,k1,hH _ _ _ k2,ht _ _ k3,k4,k5⟩
def zmi(tm:List SV)(x:Operand):List Nat:=match x with
 |.tmp t=>match gl tm t with
  |some (.ptr b _)=>[b]
  |some (.elp b _ _ _)=>[b]
  |some (.own b)=>[b]
  |_=>[]
 |_=>[]
def mR(tm:List SV)(x:Operand):List Nat:=match x with
 |.tmp t=>match gl tm t with
  |some (.own b)=>[b]
  |_=>[]
 |_=>[]
def mpS(tm:List SV)(x:Operand):List Nat:=match x with
 |.tmp t=>match gl tm t with
  |some (.mp b)=>[b]
  |_=>[]
 |_=>[]
def zo5(tm:List SV)(o:Oper):Option (List Nat):=match o.op with
 |.load _ a=>some (zmi tm a)
 |.store _ a x=>some (zmi tm a++mR tm x)
 |.indexAddr _ x _=>some (mR tm x)
 |.slice _ x _ _ _=>some (mR tm x)
 |.buildSlice _ _ ps=>some (ps.toList.flatMap fun p=>mR tm p.2)
 |.call {callee:=.builtin _,args:=args,argTypes:=_}=>some (args.toList.flatMap (mR tm))
 |.lookup _ m _ _=>some (mpS tm m)
 |.mapUpdate _ m _ _=>some (mpS tm m)
 |.insert _ m _ _=>some (mpS tm m)
 |.call _=>none
 |_=>some []
def zeW(tm:List SV)(o:Oper):List Nat:=match o.op with
 |.store _ a x=>zmi tm a++mR tm x
 |.slice _ x _ _ _=>mR tm x
 |.buildSlice _ _ ps=>ps.toList.flatMap fun p=>mR tm p.2
 |.lookup _ m _ _=>mpS tm m
 |.mapUpdate _ m _ _=>mpS tm m
 |.insert _ m _ _=>mpS tm m
 |.call {callee:=.builtin .append,args:=args,argTypes:=_}=>match args.toList with
  |s::_=>mR tm s
  |_=>[]
 |.call {callee:=.builtin .copy,args:=args,argTypes:=_}=>match args.toList with
  |s::_=>mR tm s
  |_=>[]
 |_=>[]
def zmj(H:SH)(b:Nat):Bool:=match zo H b with
 |some (.vars _)=>true
 |some (.arr _ _ _)=>true
 |some (.loop _)=>true
 |some .defd=>true
 |some (.mpb _ _ _ _)=>true
 |_=>false
def ja:SH->List Nat
 |[]=>[]
 |(b,_)::r=>b::ja r
def aQ(H:SH):List Nat->List Nat
 |[]=>[]
 |b::r=>bif zmj H b then b::aQ H r else aQ H r
def ziq:List SV->List Nat
 |[]=>[]
 |.own b::r=>b::ziq r
 |_::r=>ziq r
def zeX(tm:List SV):List Operand->List Nat
 |[]=>[]
 |.tmp t::r=>(match gl tm t with
  |some (.own b)=>[b]
  |some (.agg cs)=>ziq cs
  |_=>[])++zeX tm r
 |_::r=>zeX tm r
def zmk(o:Oper):List Operand:=match o.op with
 |.call {callee:=.value _,args:=args,argTypes:=_}=>args.toList
 |_=>[]
def zqe(ops:Array Oper)(ms:List Nat)(est:List (List Nat))(i:Nat)(tm:List SV)(H:SH)(done:List Zo):Option (List Nat×List Nat):=
 match gl ops.toList i with
 |none=>none
 |some o=>match zo5 tm o with
  |some bs=>some (aQ H (zeW tm o),bs)
  |none=>match (List.range ops.size).filter fun j=>j != i&&!CG ms i j with
   |[]=>some (aQ H (ja H),ja H)
   |others=>match others.flatMap (fun j=>est.getD j []++(match ops[j]? with | some p=>zeW tm p | none=>[])),others.filterMap fun j=>if j < i then(match (done.reverse)[j]? with | some s=>if s.lo < s.hi then some (s.lo,s.hi)else none | none=>none)else none with
    |mask,rs=>some (aQ H ((zeX tm (zmk o)).filter fun b=>!(mask.contains b||TF rs b)),(ja H).filter fun b=>!(mask.contains b||TF rs b))
def zkf(P:Program)(ops:Array Oper)(H:SH):List Oper->List SV->List (List Nat)
 |[],_=>[]
 |o::l,tm=>zeW tm o::zkf P ops H l (KD tm o.dst (match zh8 P tm H 0 o with
  |some (v,_,_)=>v
  |none=>.junk))
def Dk(H:SH)(tm:List SV):List Operand->SH
 |[]=>H
 |x::r=>match x with
  |.tmp t=>match gl tm t with
   |some (.own b)=>match zo H b with
    |some (.arr nn ty l)=>Dk (jB H b (.fro nn ty l)) tm r
    |_=>Dk H tm r
   |_=>Dk H tm r
  |_=>Dk H tm r
def zkg(o:Oper):List Operand:=match o.op with
 |.call {callee:=.value _,args:=args,argTypes:=_}=>args.toList
 |.slice _ x _ _ _=>[x]
 |_=>[]
def mvS(tm:List SV)(o:Oper):List SV:=match o.op with
 |.move (.tmp t)=>match gl tm t with
  |some (.own b)=>KD tm o.dst (.own b)
  |_=>tm
 |_=>tm
def plT:Ty->Bool
 |.list _=>false
 |.pair a b=>plT a&&plT b
 |_=>true
def zo6(P:Program)(o:Oper):Bool:=match o.op with
 |.call {callee:=.value (.func f),args:=_,argTypes:=_}=>match zdM P f with
  |some fn=>!(fn.resultTypes.toList.all fun t=>match CY P 30 t with
   |some ty=>plT ty
   |none=>true)
  |none=>false
 |_=>false
def zeY(P:Program)(H:SH)(tm0 tm:List SV):List Oper->SH
 |[]=>H
 |o::l=>zeY P (Dk (Dk H tm0 (zkg o)) (bif zo6 P o then tm else tm0) (zkg o)) tm0 (mvS tm o) l
theorem YE(tm:List SV):∀(xs:List Operand) (H:SH),yl H (Dk H tm xs)
 |[],H=>yl.refl H
 |x::r,H=>by
  unfold Dk;split
  ·split
   ·split
    ·rename_i hb;exact(Kz hb).trans (YE tm r _)
    ·exact YE tm r _
   ·exact YE tm r _
  ·exact YE tm r _
theorem PU(tm0:List SV):∀(l:List Oper) (tm:List SV) (H:SH),yl H (zeY P H tm0 tm l)
 |[],tm,H=>yl.refl H
 |o::l,tm,H=>((YE tm0 _ H).trans (YE _ _ _)).trans (PU tm0 l _ _)
def zir(P:Program)(op:List SV->SH->Nat->Oper->KO R->Option R)(ops:Array Oper)(tm:List SV)(H:SH)(nx:Nat)(k:List SV->SH->Nat->Option R):Option R:=
 match CE ops.toList 0 []with
 |ms=>match zeY P H tm tm ops.toList with
  |H1=>match (bif ops.toList.any zd2 then zkf P ops H1 ops.toList tm else[])with
   |est=>Hl op ops (zqe ops ms est) 0 [] ops.toList tm H1 nx fun sl tm' H' nx'=>bif FY ms ops&&(TT ms sl 0 sl&&P.follows .mixedOrders)then k tm' H' nx' else none
theorem zeZ{r:Option Nat}{c:Code}{tm:List Value}{ds:List Nat}{H H1:SH}{nx:Nat}{R:Res}{ν:Nat->Bool}(hg:yl H H1)(h:qY P r c tm ds (zK ν H1) nx R):qY P r c tm ds (zK ν H) nx R:=
 ⟨h.1,fun φ w K a rc g hf ht hd hr=>by
  obtain⟨φ1,e1,g1⟩:=hg.2 ν φ K w g;have hle:=(e1 0).1;refine zqX (h.2 φ1 w K a rc g1 (aP (mid:=0) hf e1) (ht.mono hle) (hd.mono hle) (hr.mono hle)) ?_;rintro e a1 w1 ⟨rfl,φ2,k1,k2,k3,k4,k5⟩;exact⟨rfl,φ2,(e1 nx).trans k1 (FW _) h.1,k2,k3,k4,k5⟩⟩
theorem zml{op:List SV->SH->Nat->Oper->KO R->Option R}{rd:Option Nat}(hop:OpS P rd op){id:Nat}{ops:Array Oper}{tm:List SV}{ds:List Nat}{H:SH}{nx:Nat}{k:List SV->SH->Nat->Option R}{r:R}(h:zir P op ops tm H nx k=some r) : ∃tm' H' nx',Ze P rd (.region id ops true) tm ds H nx ⟨.normal,tm',ds,H',nx'⟩∧k tm' H' nx'=some r:=by unfold zir at h;dsimp only at h;obtain⟨sl,tm',H',nx',e1,e2,e3,e4,e5,e6,e7⟩:=MU hop h;have h6:=zT e2;obtain⟨hc,h2⟩:=h6;simp only[FT,FY]at hc;obtain⟨⟨c1,c2⟩,c3,c4⟩:=hc;have c1:=dL c1;have c2:=zbr c2;have hg:=PU (P:=P) tm ops.toList tm H;refine⟨tm',H',nx',⟨hg.1.regLe.trans e3,hg.1.lkeep.trans e4,e5,e6,fun ν hv=>?_⟩,h2⟩;obtain⟨f1,f2⟩:=e7 ν (hg.1.vn hv);refine⟨f1,zeZ hg ?_⟩;obtain⟨ss,q1,q2,q3,q4,q5,q6⟩:=f2 _ _ (Qw.refl ν _ tm) (Mix.refl _);have hvf:=zmh (ms:=CE ops.toList 0 []) (by rw[e1,q1]) q6 (by simpa using c3);obtain⟨D,hs,ht⟩:=zbn (ms:=CE ops.toList 0 []) ⟨q1,q2⟩ c1 c2 hvf;have:=IB (id:=id) (ds:=ds) c4 D (HF:=hpR ss (zK ν (zeY P H tm tm ops.toList))) (fun b k hb=>by rw[hs];exact hb);rw[ht,q3]at this;rw[show rho ν H=rho ν (zeY P H tm tm ops.toList) from(hg.1.rho ν).symm];exact mQ this rfl rfl rfl (fun φ K w g=>q5.good g) (fun φ ts ht=>q4.rel ht)
def cY(P:Program)(f:FuncId)(args:List SV)(H:SH)(nx:Nat)(v:SV)(H':SH)(nx':Nat):Prop:=(∃fn,P.funcs[f]?=some fn∧fn.body.isSome=true)∧jV H H'∧wc H H'∧nx<=nx'∧∀ν,VN ν nx H->VN ν nx' H'∧wM P f (zu (rho ν H) args) (zK ν H) nx (den (rho ν H') v) (zK ν H') nx'
def PV(P:Program)(rd:Option Nat)(c:Code)(tm:List SV)(ds:List Nat)(H:SH)(nx:Nat)(R:Wi):Prop:=jV H R.H∧wc H R.H∧kp (asg c) tm R.tm∧nx<=R.nx∧∀ν,VN ν nx H->VN ν R.nx R.H∧WU P rd c (zu (rho ν H) tm) ds (zK ν H) nx (Gu ν R)
def zmm(P:Program)(c x:Code)(tm:List SV)(ds:List Nat)(H:SH)(nx:Nat)(R:Wi):Prop:=jV H R.H∧wc H R.H∧kp (asg c) tm R.tm∧nx<=R.nx∧∀ν,VN ν nx H->VN ν R.nx R.H∧FV P c x (zu (rho ν H) tm) ds (zK ν H) nx (Gu ν R)
structure EvS(R:Type) where
 call:FuncId->List SV->SH->Nat->KO R->Option R
 code:Option Nat->Code->List SV->List Nat->SH->Nat->KC R->Option R
 loop:Option Nat->Code->List SV->List Nat->SH->Nat->KC R->Option R
 scp:Code->Nat->Code->List SV->List Nat->SH->Nat->KC R->Option R
 join:Option Nat->Code->List SV->List Nat->SH->Nat->KC R->Option R
 code0:Option Nat->Code->List SV->List Nat->SH->Nat->KC R->Option R
 jq:Code->Nat->Bool
structure EvS.Ok(P:Program)(E:EvS R):Prop where
 call:∀{f args H nx k r},E.call f args H nx k=some r->∃v H' nx',cY P f args H nx v H' nx'∧k v H' nx'=some r
 code:∀{rd c tm ds H nx k r},E.code rd c tm ds H nx k=some r->∃S,Ze P rd c tm ds H nx S∧k S=some r
 loop:∀{rd c tm ds H nx k r},E.loop rd c tm ds H nx k=some r->∃S,PV P rd c tm ds H nx S∧k S=some r
 scp:∀{c l x tm ds H nx k r},findLabel c l=some x->(∀i∈asg x,i∈asg c)->E.scp c l x tm ds H nx k=some r->∃S,zmm P c x tm ds H nx S∧k S=some r
 join:∀{rd c tm ds H nx k r},E.join rd c tm ds H nx k=some r->∃S,Ze P rd c tm ds H nx S∧k S=some r
 code0:∀{rd c tm ds H nx k r},E.code0 rd c tm ds H nx k=some r->∃S,Ze P rd c tm ds H nx S∧k S=some r
theorem zis{r:Option Nat}{c:Code}{tm tm0:List Value}{ds:List Nat}{H H0:Hp}{nx:Nat}{R:Res}(h:qY P r c tm0 ds H0 nx R)(hH:∀φ K w,zF φ H K w->zF φ H0 K w)(hT:∀φ ts,qS φ tm ts->qS φ tm0 ts):qY P r c tm ds H nx R:=
 ⟨h.1,fun φ w K a rc g hf ht hd hr=>h.2 φ w K a rc (hH _ _ _ g) hf (hT _ _ ht) hd hr⟩
theorem Gw{H:SH}{l:Nat}{L L':SL}(hl:zo H l=some (.loop L))(c:Nat):reg (zo (jB H l (.loop L')) c)=reg (zo H c):=by grind[qU,reg]
theorem zhe{H:SH}{l:Nat}{L L':SL}(hl:zo H l=some (.loop L))(c:Nat)(h:ji (zo (jB H l (.loop L')) c)=true):ji (zo H c)=true:=by grind[qU,ji]
theorem ze0{ν:Nat->Bool}{H:SH}{l:Nat}{L L':SL}(hl:zo H l=some (.loop L))(c:Nat):(zK ν (jB H l (.loop L'))).get c=((zK ν H).set l (.loop (wW (rho ν H) L'))).get c:=by grind[qe,qU,wu,Gw,Hp.get_set,qB]
theorem PW{H:SH}{l:Nat}{L:SL}(hl:zo H l=some (.loop L))(s:LoopState)(p:Option Code):wc H (jB H l (.loop {L with st:=s,pend:=p})):=fun m M hm=>by
 rw[qU];by_cases h:m=l
 ·simp_all
 ·rw[zqu h];exact⟨M.st,M.pend,hm⟩
def TU:List Tmp->List SV->List SV->List SV
 |t::ts,v::vs,tm=>TU ts vs (lsS tm t v)
 |_,_,tm=>tm
theorem ze1(ρ:Nat->Value):∀(ps:List Tmp) (vs tm:List SV),zu ρ (TU ps vs tm)=vM ps (zu ρ vs) (zu ρ tm)
 |[],vs,tm=>by simp[TU,vM]
 |p::ps,[],tm=>by simp[TU,vM,zu]
 |p::ps,v::vs,tm=>by simp only[TU,zu,vM,uM];rw[ze1 ρ ps vs];congr 1;simp[qO,zsZ]
def ze2(E:EvS R)(l:Nat)(vs:List SV)(H:SH)(nx:Nat)(k:KO R):Option R:=match zo H l with
 |some (.loop L)=>bif MO vs L.params.size then E.code (some l) L.assign (TU L.params.toList vs L.tm) [] H nx fun R1=>match R1.e,R1.ds,zo R1.H l with
   |.normal,[],some (.loop L1)=>match L1.st with
    |.ready=>E.code (some l) L.body R1.tm [] (jB R1.H l (.loop {L1 with st:=.busy})) R1.nx fun R2=>match zo R2.H l,pS R2.e with
     |some (.loop L2),some (b,s,p)=>k (.bool b) (jB R2.H l (.loop {L2 with st:=s,pend:=p})) R2.nx
     |_,_=>none
    |_=>none
   |_,_,_=>none
  else none
 |_=>none
theorem zkh{E:EvS R}(hE:E.Ok P){rd:Option Nat}{o:Oper}{tm:List SV}{H:SH}{nx:Nat}{k:KO R}{r:R}{cf:Operand}{args:Array Operand}{ats:Array TypeId}(ho:o.op=.call {callee:=.value cf,args:=args,argTypes:=ats}){l:Nat}{vs:List SV}(hcf:jF tm H cf=some (.yld l))(hvs:cT tm H args.toList=some vs)(h:ze2 E l vs H nx k=some r):vl P rd o tm H nx k r:=by
 unfold ze2 at h;split at h;case h_2=>cases h
 rename_i L hl;have h6:=zT h;clear h;obtain⟨hn,h⟩:=h6;have hn:=dx hn;obtain⟨R1,⟨a1,a2,a3,a4,a5⟩,h1⟩:=hE.code h;split at h1;case h_2=>cases h1
 rename_i he1 hd1 hl1;rename_i L1;split at h1;case h_2=>cases h1
 rename_i hst;obtain⟨R2,⟨b1,b2,b3,b4,b5⟩,h2⟩:=hE.code h1;split at h2;case h_2=>cases h2
 rename_i L2 b s p hl2 he2;have hpl:L1.pend=L1.pend:=rfl;refine xm (v:=.bool b) ⟨?_,?_,zqw a4 b4,fun ν hv=>?_⟩ h2
 ·exact fun c x hx=>by rw[Gw hl2];exact b1 c x (by rw[Gw hl1];exact a1 c x hx)
 ·exact((a2.trans (PW hl1 .busy L1.pend)).trans b2).trans (PW hl2 s p)
 ·obtain⟨v1,o1⟩:=a5 ν hv;have v1':VN ν R1.nx (jB R1.H l (.loop {L1 with st:=.busy})):=vy (Gw hl1) (zhe hl1) v1;obtain⟨v2,o2⟩:=b5 ν v1';refine⟨vy (Gw hl2) (zhe hl2) v2,?_⟩;have hcf':=qq hcf ν;simp only[den]at hcf';have hlv:(zK ν H).get l=some (.loop (wW (rho ν H) L)):=by rw[qe,hl];rfl
  have key:=Pn (P:=P) (r:=rd) (o:=o) ho (R1:=Gu ν R1) (R2:=Gu ν R2) (L1:=wW (rho ν R1.H) L1) (L2:=wW (rho ν R2.H) L2) (b:=b) (s:=s) (p:=p) hcf' (aN ν hvs) hlv (by rw[wq];exact hn)
   (by have:=o1;rw[ze1]at this;simpa[wW]using this) he1 hd1 (by show(zK ν R1.H).get l=_;rw[qe,hl1];rfl) hst
   (zis o2 (fun φ K w g=>g.sub fun c x hx=>by rw[ze0 hl1]at hx;exact hx) (fun φ ts ht=>by rw[wu (Gw hl1)];exact ht))
   (by show(zK ν R2.H).get l=_;rw[qe,hl2];rfl) he2
  refine vN key (fun φ v' hv=>by simpa only[den]using hv) (fun φ K w g=>g.sub fun c x hx=>?_);rw[ze0 hl2]at hx;exact hx
def opE(P:Program)(E:EvS R)(tm:List SV)(H:SH)(nx:Nat)(o:Oper)(k:KO R):Option R:=match o.op with
 |.call {callee:=.value cf,args:=args,argTypes:=_}=>match jF tm H cf,cT tm H args.toList with
  |some (.fn f fs cs),some vs=>E.call f (fs++(vs++cs)) H nx k
  |some (.yld l),some vs=>ze2 E l vs H nx k
  |_,_=>none
 |_=>zma P tm H nx o k
theorem zo7{E:EvS R}(hE:E.Ok P)(hs:jA P){rd:Option Nat}:OpS P rd (opE P E):=by
 intro tm H nx o k r h;unfold opE at h;split at h
 ·rename_i cf args ats ho;split at h
  ·rename_i f fs cs vs hcf hvs;obtain⟨v,H',nx',⟨⟨fn,hfn,hb⟩,a1,a2,a3,a4⟩,h2⟩:=hE.call h;refine xm ⟨a1,a2,a3,fun ν hv=>?_⟩ h2;obtain⟨v1,o1⟩:=a4 ν hv;refine⟨v1,zbi ho hs hfn hb (f:=f) (fs:=(zu (rho ν H) fs).toArray) (cs:=(zu (rho ν H) cs).toArray) ?_ (aN ν hvs) ?_⟩
   ·have:=qq hcf ν;simpa only[den]using this
   ·have:zu (rho ν H) (fs++(vs++cs))=zu (rho ν H) fs++zu (rho ν H) vs++zu (rho ν H) cs:=by simp[qO]
    rw[this]at o1;exact o1
  all_goals grind[zkh]
 ·exact zoi h
def opX(P:Program)(E:EvS R)(tm:List SV)(H:SH)(nx:Nat)(o:Oper)(k:KO R):Option R:=opE P E tm H nx o k
theorem zki{E:EvS R}(hE:E.Ok P)(hs:jA P){rd:Option Nat}:OpS P rd (opX P E):=by intro tm H nx o k r h;obtain⟨v,H',nx',h1,h2⟩:=zo7 hE hs h;exact⟨v,H',nx',h1,h2⟩
def PX:LoopState->Option Code->Option Exit
 |.busy,_=>none
 |_,none=>some .normal
 |_,some .ret=>some .ret
 |_,some (.exit i)=>some (.exit i)
 |_,some (.goto i)=>some (.goto i)
 |_,_=>none
theorem IM{L:Loop}{tm:List Value}{ds:List Nat}{H:Hp}{nx:Nat}{e:Exit}(h:PX L.state L.pending=some e):uL L tm ds H nx=some ⟨e,tm,ds,H,nx⟩:=by grind[PX,uL]
def ze3(E:EvS R)(rd:Option Nat)(g:Operand)(ps:Array Tmp)(assign body:Code)(tm:List SV)(ds:List Nat)(H:SH)(nx:Nat)(k:KC R):Option R:=match jF tm H g with
 |some (.fn f fs cs)=>match rd with
  |none=>match kX H nx .defd with
   |some H1=>match kX H1 (nx+1) (.loop ⟨tm,ps,assign,body,.ready,none,nx⟩)with
    |some H2=>E.call f (fs++(.yld (nx+1)::cs)) H2 (nx+2) fun _ H3 nx3=>match zo H3 (nx+1)with
     |some (.loop L)=>match PX L.st L.pend with
      |some e=>k ⟨e,tm,nx::ds,jB H3 (nx+1) .abs,nx3⟩
      |none=>none
     |_=>none
    |none=>none
   |none=>none
  |some l0=>match zo H l0 with
   |some (.loop L0)=>match kX H nx (.loop ⟨tm,ps,assign,body,.ready,none,L0.dfr⟩)with
    |some H2=>E.call f (fs++(.yld nx::cs)) H2 (nx+1) fun _ H3 nx3=>match zo H3 nx with
     |some (.loop L)=>match PX L.st L.pend with
      |some e=>k ⟨e,tm,ds,jB H3 nx .abs,nx3⟩
      |none=>none
     |_=>none
    |none=>none
   |_=>none
 |_=>none
theorem Gx{H:SH}{l:Nat}{L:SL}(hl:zo H l=some (.loop L))(c:Nat):reg (zo (jB H l .abs) c)=reg (zo H c):=by grind[qU,reg]
theorem zkj{H:SH}{l:Nat}{L:SL}(hl:zo H l=some (.loop L))(c:Nat)(h:ji (zo (jB H l .abs) c)=true):ji (zo H c)=true:=by grind[qU,ji]
theorem zhf{ν:Nat->Bool}{H:SH}{l:Nat}{L:SL}(hl:zo H l=some (.loop L))(c:Nat)(x:Blk)(h:(zK ν (jB H l .abs)).get c=some x):((zK ν H).del l).get c=some x:=by grind[qe,qU,wu,Gx,Hp.get_del,qB]
theorem Hm{H:SH}{nx:Nat}{k:SB}(h:zo H nx=none)(hk:reg (some k)=none)(ν:Nat->Bool):rho ν ((nx,k)::H)=rho ν H:=wu (fun c=>by
 rw[qd];by_cases hc:nx=c
 ·subst hc;rw[zqI rfl,hk,h];rfl
 ·rw[zqu hc]) ν
theorem TV{H:SH}{nx:Nat}{k:SB}(h:zo H nx=none)(hk:reg (some k)=none){ν:Nat->Bool}{x:Blk}(hx:qB (rho ν H) (ν nx) k=some x):zK ν ((nx,k)::H)=(nx,x)::zK ν H:=by grind[zK,Hm,xO]
theorem zkk{E:EvS R}(hE:E.Ok P)(hs:jA P){rd:Option Nat}{g:Operand}{ps:Array Tmp}{assign body:Code}{tm:List SV}{ds:List Nat}{H:SH}{nx:Nat}{k:KC R}{r:R}(h:ze3 E rd g ps assign body tm ds H nx k=some r) : ∃S,Ze P rd (.rangeFunc g ps assign body) tm ds H nx S∧k S=some r:=by
 unfold ze3 at h;split at h;case h_2=>cases h
 rename_i f fs cs hg;split at h
 ·split at h;case h_2=>cases h
  rename_i H1 hn1;split at h;case h_2=>cases h
  rename_i H2 hn2;obtain⟨q1,rfl⟩:=yQ hn1;obtain⟨q2,rfl⟩:=yQ hn2;obtain⟨v,H3,nx3,⟨⟨fn,hfn,hb⟩,a1,a2,a3,a4⟩,h2⟩:=hE.call h;split at h2;case h_2=>cases h2
  rename_i L hl;split at h2;case h_2=>cases h2
  rename_i e he;have hq2:zo H (nx+1)=none:=by grind[qd]
  refine⟨_,⟨?_,?_,kp.refl _ _,?_,fun ν hv=>?_⟩,h2⟩
  ·exact fun c x hx=>by rw[Gx hl];exact a1 c x (xI q2 c x (xI q1 c x hx))
  ·intro m M hm;have hne:m≠nx+1:=fun e=>by subst e;rw[hq2]at hm;cases hm
   obtain⟨s,p,h3⟩:=((xY q1).trans (xY q2)).trans a2 m M hm;grind[qU]
  ·grind
  ·have v2:VN ν (nx+2) ((nx+1,.loop ⟨tm,ps,assign,body,.ready,none,nx⟩)::(nx,.defd)::H):=ZG (ZG hv);obtain⟨v3,o3⟩:=a4 ν v2;refine⟨vy (Gx hl) (zkj hl) v3,?_⟩;have hρ1:rho ν ((nx,SB.defd)::H)=rho ν H:=Hm q1 rfl ν;have hρ2:rho ν ((nx+1,SB.loop ⟨tm,ps,assign,body,.ready,none,nx⟩)::(nx,.defd)::H)=rho ν H:=(Hm q2 rfl ν).trans hρ1;have hd:zK ν ((nx+1,SB.loop ⟨tm,ps,assign,body,.ready,none,nx⟩)::(nx,.defd)::H)=(nx+1,.loop (JY (zu (rho ν H) tm) ps assign body nx))::(nx,.defd)::zK ν H:=by rw[TV q2 rfl (x:=.loop (wW (rho ν H) ⟨tm,ps,assign,body,.ready,none,nx⟩)) (by simp only[qB,hρ1]),TV q1 rfl (x:=.defd) rfl];rfl
   rw[hρ2,hd]at o3;have hg':=qq hg ν;simp only[den]at hg';have hargs:zu (rho ν H) (fs++(.yld (nx+1)::cs))=zu (rho ν H) fs++[.func (.yield (nx+1)) #[] #[]]++zu (rho ν H) cs:=by simp[qO,den]
   rw[hargs]at o3;have key:=dH (P:=P) (g:=g) (ps:=ps) (assign:=assign) (body:=body) (tm:=zu (rho ν H) tm) (ds:=ds) (nx:=nx) hs hfn hb hg' (by simpa using o3) (by rw[qe,hl];rfl) (IM (L:=wW (rho ν H3) L) he);refine mQ key rfl rfl rfl (fun φ K w g=>g.sub fun c x hx=>zhf hl c x hx) (fun φ ts ht=>?_);refine MH ν (fun c x hx=>?_) ht;rw[Gx hl];exact a1 c x (xI q2 c x (xI q1 c x hx))
 ·rename_i l0;split at h;case h_2=>cases h
  rename_i L0 hl0;split at h;case h_2=>cases h
  rename_i H2 hn2;obtain⟨q2,rfl⟩:=yQ hn2;obtain⟨v,H3,nx3,⟨⟨fn,hfn,hb⟩,a1,a2,a3,a4⟩,h2⟩:=hE.call h;split at h2;case h_2=>cases h2
  rename_i L hl;split at h2;case h_2=>cases h2
  rename_i e he;refine⟨_,⟨?_,?_,kp.refl _ _,?_,fun ν hv=>?_⟩,h2⟩
  ·exact fun c x hx=>by rw[Gx hl];exact a1 c x (xI q2 c x hx)
  ·intro m M hm;have hne:m≠nx:=fun e=>by subst e;rw[q2]at hm;cases hm
   obtain⟨s,p,h3⟩:=(xY q2).trans a2 m M hm;grind[qU]
  ·grind
  ·have v2:VN ν (nx+1) ((nx,.loop ⟨tm,ps,assign,body,.ready,none,L0.dfr⟩)::H):=ZG hv;obtain⟨v3,o3⟩:=a4 ν v2;refine⟨vy (Gx hl) (zkj hl) v3,?_⟩;have hρ2:rho ν ((nx,SB.loop ⟨tm,ps,assign,body,.ready,none,L0.dfr⟩)::H)=rho ν H:=Hm q2 rfl ν;have hd:zK ν ((nx,SB.loop ⟨tm,ps,assign,body,.ready,none,L0.dfr⟩)::H)=(nx,.loop (JY (zu (rho ν H) tm) ps assign body L0.dfr))::zK ν H:=by rw[TV q2 rfl (x:=.loop (wW (rho ν H) ⟨tm,ps,assign,body,.ready,none,L0.dfr⟩)) rfl];rfl
   rw[hρ2,hd]at o3;have hg':=qq hg ν;simp only[den]at hg';have hargs:zu (rho ν H) (fs++(.yld nx::cs))=zu (rho ν H) fs++[.func (.yield nx) #[] #[]]++zu (rho ν H) cs:=by simp[qO,den]
   rw[hargs]at o3;have key:=UU (P:=P) (l0:=l0) (g:=g) (ps:=ps) (assign:=assign) (body:=body) (tm:=zu (rho ν H) tm) (ds:=ds) (nx:=nx) (L0:=wW (rho ν H) L0) hs hfn hb hg' (by rw[qe,hl0];rfl) (by simpa[wW]using o3) (by rw[qe,hl];rfl) (IM (L:=wW (rho ν H3) L) he);refine mQ key rfl rfl rfl (fun φ K w g=>g.sub fun c x hx=>zhf hl c x hx) (fun φ ts ht=>?_);refine MH ν (fun c x hx=>?_) ht;rw[Gx hl];exact a1 c x (xI q2 c x hx)
def lx:List Nat->SH->Option SH
 |[],H=>some H
 |d::ds,H=>match zo H d with
  |some .defd=>lx ds (jB H d .abs)
  |_=>none
theorem ze4{H:SH}{d:Nat}(hd:zo H d=some .defd)(c:Nat):reg (zo (jB H d .abs) c)=reg (zo H c):=by grind[qU,reg]
theorem zom{H:SH}{d:Nat}(hd:zo H d=some .defd)(c:Nat)(h:ji (zo (jB H d .abs) c)=true):ji (zo H c)=true:=by grind[qU,ji]
theorem ze5{ν:Nat->Bool}:∀{ds:List Nat} {H H1:SH} {Hd:Hp},(∀b,Hd.get b=(zK ν H).get b)->lx ds H=some H1->∃Hd1,Ku ds Hd=some Hd1∧(∀b,Hd1.get b=(zK ν H1).get b)
 |[],H,H1,Hd,hg,h=>by simp only[lx,PL]at h;subst h;exact⟨Hd,rfl,hg⟩
 |d::ds,H,H1,Hd,hg,h=>by
  simp only[lx]at h;split at h;case h_2=>cases h
  rename_i hd;have h1:Hd.get d=some .defd:=by rw[hg,qe,hd];rfl
  simp only[Ku,h1];refine ze5 (fun b=>?_) h;grind[Hp.get_del,qe,qU,wu,ze4,qB]
theorem zbK:∀{ds:List Nat} {H H1:SH},lx ds H=some H1->(∀c,reg (zo H1 c)=reg (zo H c))∧(∀c,ji (zo H1 c)=true->ji (zo H c)=true)∧wc H H1
 |[],H,H1,h=>by grind[lx,Option.some.injEq,wc.refl]
 |d::ds,H,H1,h=>by
  simp only[lx]at h;split at h;case h_2=>cases h
  rename_i hd;obtain⟨h1,h2,h3⟩:=zbK h;exact⟨fun c=>(h1 c).trans (ze4 hd c),fun c hc=>zom hd c (h2 c hc),(ZF hd (fun L=>by simp)).trans h3⟩
def MV(P:Program)(H:SH)(tm:List SV):List ResultVar->Option (List SV)
 |[]=>some []
 |.tmp t::rs=>match jF tm H (.tmp t),MV P H tm rs with
  |some v,some vs=>some (v::vs)
  |_,_=>none
 |.cell a t::rs=>match jF tm H (.tmp a),MV P H tm rs with
  |some (.ptr b o),some vs=>match zds P H t (.ptr b o)with
   |some v=>some (v::vs)
   |none=>none
  |_,_=>none
theorem zmn{Hd Hd2:Hp}(h:∀b,Hd.get b=Hd2.get b)(t:TypeId)(v:Value):uJ P Hd t v=uJ P Hd2 t v:=by unfold uJ;grind
theorem TW{ν:Nat->Bool}{H0 H:SH}{Hd:Hp}(hg:∀b,Hd.get b=(zK ν H).get b){tm:List SV}(hr:rho ν H0=rho ν H):∀{rs:List ResultVar} {vs:List SV},MV P H tm rs=some vs->Gn P Hd (zu (rho ν H0) tm) rs=some (zu (rho ν H) vs)
 |[],vs,h=>by grind[MV,Option.some.injEq,Gn,zu]
 |.tmp t::rs,vs,h=>by
  simp only[MV]at h;split at h
  ·rename_i v us h1 h2;cases h;have e1:=qq h1 ν;simp only[Gn,TW hg hr h2,zu];rw[hr,e1]
  ·cases h
 |.cell a t::rs,vs,h=>by
  simp only[MV]at h;split at h
  ·rename_i b o us h1 h2;split at h;case h_2=>cases h
   rename_i v hv;cases h;have e1:=qq h1 ν;have e2:=zbz (ν:=ν) hv;have e3:uJ P (zK ν H) t (den (rho ν H) (.ptr b o))=some (den (rho ν H) v):=by grind[uJ,zK,den,rho,dB,Mx]
   simp only[Gn,TW hg hr h2,zu];rw[hr,e1,zqt,zmn hg,e3]
  ·cases h
def VG:List SV->SV
 |[v]=>v
 |vs=>.tup vs
theorem Yd(ρ:Nat->Value):∀vs:List SV,den ρ (VG vs)=gI (zu ρ vs)
 |[]=>by simp[VG,den,zu,gI]
 |[v]=>by simp[VG,zu,gI]
 |_::_::_=>by simp[VG,den,zu,gI]
def zny:Exit->Bool
 |.normal=>true
 |.ret=>true
 |_=>false
def Hn(P:Program)(E:EvS R)(f:FuncId)(args:List SV)(H:SH)(nx:Nat)(k:KO R):Option R:=match zdM P f with
 |some fn=>match fn.body with
  |some c=>E.code none c (args++List.replicate (fn.ntmps - args.length) (.tup [])) [] H nx fun S=>bif zny S.e then match lx S.ds S.H with
   |some H1=>match MV P H1 S.tm fn.results.toList with
    |some vs=>k (VG vs) H1 S.nx
    |none=>none
   |none=>none
   else none
  |none=>none
 |none=>none
theorem TX(ρ:Nat->Value)(n:Nat):zu ρ (List.replicate n (.tup []))=List.replicate n undef:=by simp[qO,den,undef,zu]
theorem rB{E:EvS R}(hE:E.Ok P){f:FuncId}{args:List SV}{H:SH}{nx:Nat}{k:KO R}{r:R}(h:Hn P E f args H nx k=some r):∃v H' nx',cY P f args H nx v H' nx'∧k v H' nx'=some r:=by
 unfold Hn at h;split at h;case h_2=>cases h
 rename_i fn hfn;rw[FR]at hfn;split at h;case h_2=>cases h
 rename_i c hb;obtain⟨S,⟨a1,a2,a3,a4,a5⟩,h1⟩:=hE.code h;have h6:=zT h1;clear h1;obtain⟨he,h1⟩:=h6;split at h1;case h_2=>cases h1
 rename_i H1 hk;split at h1;case h_2=>cases h1
 rename_i vs hv;obtain⟨k1,k2,k3⟩:=zbK hk;refine⟨_,_,_,⟨⟨fn,hfn,by rw[hb];rfl⟩,fun c x hx=>by rw[k1 c];exact a1 c x hx,a2.trans k3,a4,fun ν hv2=>?_⟩,h1⟩;obtain⟨v1,o1⟩:=a5 ν hv2;refine⟨vy k1 k2 v1,?_⟩;obtain⟨Hd1,e1,e2⟩:=ze5 (ν:=ν) (fun _=>rfl) hk;have hr:=TW (P:=P) (ν:=ν) (H0:=S.H) e2 (wu k1 ν).symm hv;have hlen:(zu (rho ν H) args).length=args.length:=wq _ _;have o1':qY P none c (zu (rho ν H) args++List.replicate (fn.ntmps - (zu (rho ν H) args).length) undef) [] (zK ν H) nx (Gu ν S):=by rw[hlen,<-TX (rho ν H),qO,qO,<-zrJ,<-qO];exact o1
 have key:=CB (P:=P) (f:=f) (R:=Gu ν S) (H2:=Hd1) hfn hb o1' (by
  unfold zny at he;show S.e=.normal∨S.e=.ret;grind) e1 hr (fun _ _ h=>h)
 rw[Yd];exact pZ key fun b x hx=>by rw[e2];exact hx
theorem xy{φ φ0:Ren}(hF:∀b L,φ (FZ+b)=some L->φ0 (FZ+b)=some L):∀(t:Ty) (x:T t) (c:Value),c∈qA t x->∀v',zp φ c v'->zp φ0 c v'
 |.unit,x,c,hc,v',h=>by simp[qA]at hc
 |.bool,x,c,hc,v',h=>by simp only[qA,zqU]at hc;subst hc;cases h;exact .bool _
 |.int k,x,c,hc,v',h=>by simp only[qA,zqU]at hc;subst hc;cases h;exact .int _ _
 |.str,x,c,hc,v',h=>by simp only[qA,zqU]at hc;subst hc;cases h;exact .str _
 |.list t,l,c,hc,v',h=>by
  simp only[qA,zqU]at hc;subst hc;unfold fzV at h ⊢;simp only[zqD]at h ⊢;generalize hs:sz t=s at h ⊢;generalize he:(List.map (fun x=>Value.agg (qA t x).toArray) l).toArray=es at h ⊢;cases h with
  |fz _ _ b o c L hL hn ho hc hsz h=>
   refine .fz _ _ b o c L (hF b L hL) hn ho hc hsz fun j k e u u' h1 h2 h3=>?_;rw[<-he]at h1;simp only[zrB,zrF,zqp]at h1;obtain⟨x,hx,rfl⟩:=h1;refine xy hF t x u ?_ u' (h j k (Value.agg (qA t x).toArray) u u' (by rw[<-he];simp[hx]) h2 h3);grind[Value.cells,List.mem_of_getElem?]
  |fz0 _ a c=>exact .fz0 _ _ _
 |.pair a b,x,c,hc,v',h=>by
  simp only[qA,zqS]at hc;rcases hc with hc | hc
  ·exact xy hF a x.1 c hc v' h
  ·exact xy hF b x.2 c hc v' h
theorem cZ{φ φ0:Ren}(hF:∀b L,φ (FZ+b)=some L->φ0 (FZ+b)=some L){t:Ty}{x:T t}{us:List Value}(h:zD φ (qA t x) us):zD φ0 (qA t x) us:=by refine zD.of_get h.length fun i v v' hv hv'=>?_;obtain⟨u,h1,h2⟩:=h.get hv;grind[xy,List.mem_of_getElem?]
theorem zbL{φ φ0:Ren}(hF:∀b L,φ (FZ+b)=some L->φ0 (FZ+b)=some L){ρ:Nat->Value}(t:VT)(x:T t.ty){v':Value}(h:zp φ (den ρ (mkV t x)) v'):zp φ0 (den ρ (mkV t x)) v':=by
 obtain⟨ag,ty⟩:=t;cases ag with
 |true=>
  simp only[mkV,zqJ,den]at h ⊢;obtain⟨ys,rfl,hl⟩:=h.agg_inv;refine .agg' ?_;grind[qO,wt,cZ]
 |false=>
  simp only[mkV,zqD]at h ⊢;have h2:=wt ρ ty x
  match he:jN ty x with
  |[v]=>
   grind[mk1,xy]
  |[]=>grind[mk1,den,WO]
  |_::_::_=>grind[mk1,den,WO]
@[reducible] def wA (l:List VT):Ty:=List.rec (motive:=fun _=>Ty) .unit (fun a _ ih=>.pair a.ty ih) l
def gL:(l:List VT)->List SV->SH->Option (T (wA l)×SH)
 |[],[],H=>some ((),H)
 |a::r,v::vs,H=>match cvV a v H with
  |some (x,H1)=>match gL r vs H1 with
   |some (y,H2)=>some ((x,y),H2)
   |none=>none
  |none=>none
 |_,_,_=>none
def jg:(l:List VT)->T (wA l)->List SV
 |[],_=>[]
 |a::r,x=>mkV a (p1 x)::jg r (p2 x)
theorem Ye:∀{l:List VT} {vs:List SV} {H H':SH} {x:T (wA l)},gL l vs H=some (x,H')->yl H H'∧∀ν G,GLe H' G->∀(φ:Ren) (K:Nat->Prop) (w:World) (nx:Nat) (us:List Value),zF φ (zK ν G) K w->VN ν nx G->zD φ (zu (rho ν H) vs) us->∀ρ,zD φ (zu ρ (jg l x)) us
 |[],[],H,H',x,h=>by grind[gL,yl.refl,zu,jg]
 |a::r,v::vs,H,H',x,h=>by
  simp only[gL]at h;split at h;case h_2=>cases h
  rename_i x1 H1 h1;split at h;case h_2=>cases h
  rename_i y H2 h2;cases h;obtain⟨g1,r1⟩:=PA h1;obtain⟨g2,r2⟩:=Ye h2;refine⟨g1.trans g2,fun ν G hG φ K w nx us g hv hr ρ=>?_⟩
  match us,hr with
  |[],hr=>simp[zu,zD]at hr
  |u::us,hr=>
   simp only[zu,zD,jg]at hr ⊢
   refine⟨r1 ν G (g2.1.trans hG) φ K w nx u g hv hr.1 ρ,r2 ν G hG φ K w nx us g hv ?_ ρ⟩
   rw[g1.1.rho ν];exact hr.2
 |[],_::_,_,_,_,h=>by simp[gL]at h
 |_::_,[],_,_,_,h=>by simp[gL]at h
theorem gM{φ φ0:Ren}(hF:∀b L,φ (FZ+b)=some L->φ0 (FZ+b)=some L){ρ:Nat->Value}:∀(l:List VT) (x:T (wA l)) {us:List Value},zD φ (zu ρ (jg l x)) us->zD φ0 (zu ρ (jg l x)) us
 |[],x,[],h=>trivial
 |[],x,_::_,h=>by simp[jg,zu,zD]at h
 |a::r,x,[],h=>by simp[jg,zu,zD]at h
 |a::r,x,u::us,h=>by simp only[jg,zu,zD]at h ⊢;exact⟨zbL hF a x.1 h.1,gM hF r x.2 h.2⟩
theorem PY{φ φ0:Ren}(hF:∀b L,φ (FZ+b)=some L->φ0 (FZ+b)=some L){ρ:Nat->Value}(l:List VT)(x:T (wA l)){v':Value}(h:zp φ (den ρ (VG (jg l x))) v'):zp φ0 (den ρ (VG (jg l x))) v':=by
 rw[Yd]at h ⊢;have key:=fun(us:List Value) (hr:zD φ (zu ρ (jg l x)) us)=>gM hF l x hr;generalize zu ρ (jg l x)=vs at h key
 match vs,h,key with
 |[],h,key=>
  simp only[gI]at h ⊢
  obtain⟨ys,rfl,hl⟩:=h.tuple_inv
  exact .tuple' (key _ hl)
 |[v],h,key=>
  simp only[gI]at h ⊢
  exact(key [v'] ⟨h,trivial⟩).1
 |a::b::r,h,key=>
  simp only[gI]at h ⊢
  obtain⟨ys,rfl,hl⟩:=h.tuple_inv
  exact .tuple' (key _ hl)
structure Con where
 args:List VT
 res:List VT
 F:T (wA args)->Option (T (wA res))
def Con.Ok(P:Program)(f:FuncId)(c:Con):Prop:=(∃fn,P.funcs[f]?=some fn∧fn.body.isSome=true)∧∀x r,c.F x=some r->∃Hd nx',nx'<=FZ∧wM P f (zu (fun _=>bad) (jg c.args x)) [] 0 (den (fun _=>bad) (VG (jg c.res r))) Hd nx'
theorem zbM{f:FuncId}{args:List Value}{Hd:Hp}{nx':Nat}{v:Value}(hz:nx'<=FZ)(h:wM P f args [] 0 v Hd nx')(ha:∀φ φ0:Ren,(∀b L,φ (FZ+b)=some L->φ0 (FZ+b)=some L)->∀us,zD φ args us->zD φ0 args us)(hv:∀φ φ0:Ren,(∀b L,φ (FZ+b)=some L->φ0 (FZ+b)=some L)->∀v',zp φ v v'->zp φ0 v v')(H:Hp)(nx:Nat):wM P f args H nx v H nx:=by
 refine⟨FW _,fun φ w K us g hf hl=>?_⟩;let φ0:Ren:=fun b=>if FZ<=b then φ b else none;have e0:∀b,φ0 (FZ+b)=φ (FZ+b):=fun b=>by grind
 have g0:zF φ0 [] (fun c=>c < w.heap.size) w:=⟨fun b k hb=>by simp[Hp.get_nil]at hb,fun b c k k' L L' hb=>by simp[Hp.get_nil]at hb,fun b k L hb=>by simp[Hp.get_nil]at hb,fun c hc=>hc,fun b L hL=>g.fz b L (by rw[<-e0];exact hL),fun b k L c M hb=>by simp[Hp.get_nil]at hb⟩;refine zrs (h.2 φ0 w (fun c=>c < w.heap.size) us g0 ⟨hz,fun b _ hb=>by grind⟩ (ha φ φ0 (fun b L hL=>by rw[e0];exact hL) us hl)) ?_;rintro e w' ⟨v',φ',rfl,x1,x2,x3,x4⟩;let φ2:Ren:=fun b=>if FZ<=b then φ' b else φ b;have e2:∀b,φ2 (FZ+b)=φ' (FZ+b):=fun b=>by grind
 have e3:∀b,b < FZ->φ2 b=φ b:=fun b hb=>by grind
 have hle:φ.le φ2:=fun b L hb=>by
  by_cases hz:FZ<=b
  ·simp only[φ2,hz,zqF];exact x2.1 b L (by simp only[φ0,hz,zqF];exact hb)
  grind
 have hnew:∀b L,φ2 (FZ+b)=some L->φ (FZ+b)=some L∨¬b < w.heap.size:=fun b L hL=>by
  rw[e2]at hL;rcases x2.2.2 b L hL with h1 | h1
  all_goals grind
 have hname:∀b k,H.get b=some k->b < FZ∨∃L,φ b=some L:=fun b k hb=>by obtain⟨L,hL,_⟩:=g.rel b k hb;grind
 have hφ2:∀b k L,H.get b=some k->φ2 b=some L->φ b=some L:=fun b k L hb hL=>by obtain⟨M,hM,_⟩:=g.rel b k hb;have:=hle b M hM;grind
 refine⟨v',φ2,rfl,hv φ' φ2 (fun b L hL=>by rw[e2];exact hL) v' x1,⟨hle,fun b hz _=>e3 b hz,fun b L hL=>(hnew b L hL).imp id fun h1 h2=>h1 (g.kin b h2)⟩,?_,⟨x4.os,x4.tape,x4.output,x4.size,fun c hc=>x4.kept c (g.kin c hc)⟩⟩;refine⟨fun b k hb=>?_,fun b c k k' L L' hb hc hne hkr hL hL'=>g.sep b c k k' L L' hb hc hne hkr (hφ2 b k L hb hL) (hφ2 c k' L' hc hL'),fun b k L hb hkr hL=>g.prot b k L hb hkr (hφ2 b k L hb hL),fun c hc=>zqC (g.kin c hc) x4.size,fun b L hL=>x3.fz b L (by rw[<-e2];exact hL),fun b k L c M hb hkr hL hM=>?_⟩
 ·obtain⟨L,hL,hB⟩:=g.rel b k hb;exact⟨L,hle b L hL,(hB.congr (x4.kept L.blk hB.lt)).mono hle⟩
 ·have hL1:=hφ2 b k L hb hL;rcases hnew c M hM with h1 | h1
  ·exact g.fsep b k L c M hb hkr hL1 h1
  ·have:=(g.at hb hL1).lt;omega
def oa:Ty->Bool
 |.list _=>false
 |.pair a b=>oa a&&oa b
 |_=>true
def Dl:List VT->Bool
 |[]=>true
 |a::r=>oa a.ty&&Dl r
theorem ly{φ φ0:Ren}:∀(t:Ty) (x:T t) (_:oa t=true) (c:Value),c∈qA t x->∀v',zp φ c v'->zp φ0 c v'
 |.unit,x,_,c,hc,v',h=>by simp[qA]at hc
 |.bool,x,_,c,hc,v',h=>by simp only[qA,zqU]at hc;subst hc;cases h;exact .bool _
 |.int k,x,_,c,hc,v',h=>by simp only[qA,zqU]at hc;subst hc;cases h;exact .int _ _
 |.str,x,_,c,hc,v',h=>by simp only[qA,zqU]at hc;subst hc;cases h;exact .str _
 |.list t,l,hp,c,hc,v',h=>by cases hp
 |.pair a b,x,hp,c,hc,v',h=>by
  simp only[oa,FT]at hp;simp only[qA,zqS]at hc;rcases hc with hc | hc
  ·exact ly a x.1 hp.1 c hc v' h
  ·exact ly b x.2 hp.2 c hc v' h
theorem zkl{φ φ0:Ren}{ρ:Nat->Value}(t:VT)(x:T t.ty)(hp:oa t.ty=true){v':Value}(h:zp φ (den ρ (mkV t x)) v'):zp φ0 (den ρ (mkV t x)) v':=by
 obtain⟨ag,ty⟩:=t;cases ag with
 |true=>
  simp only[mkV,zqJ,den]at h ⊢;obtain⟨ys,rfl,hl⟩:=h.agg_inv;refine .agg' ?_;rw[qO,wt]at hl ⊢;simp only at hl ⊢;have hl:zD φ (qA ty x) ys.toList:=by simpa using hl
  refine zD.of_get hl.length fun i v v' hv hv'=>?_;obtain⟨u,h1,h2⟩:=hl.get hv;grind[ly,List.mem_of_getElem?]
 |false=>
  simp only[mkV,zqD]at h ⊢;have h2:=wt ρ ty x
  match he:jN ty x with
  |[v]=>
   grind[mk1,ly]
  |[]=>grind[mk1,den,WO]
  |_::_::_=>grind[mk1,den,WO]
theorem Dm{φ φ0:Ren}{ρ:Nat->Value}:∀(l:List VT) (x:T (wA l)) (_:Dl l=true) {us:List Value},zD φ (zu ρ (jg l x)) us->zD φ0 (zu ρ (jg l x)) us
 |[],x,_,[],h=>trivial
 |[],x,_,_::_,h=>by simp[jg,zu,zD]at h
 |a::r,x,_,[],h=>by simp[jg,zu,zD]at h
 |a::r,x,hp,u::us,h=>by simp only[Dl,FT]at hp;simp only[jg,zu,zD]at h ⊢;exact⟨zkl a x.1 hp.1 h.1,Dm r x.2 hp.2 h.2⟩
theorem zit{φ φ0:Ren}{ρ:Nat->Value}(l:List VT)(x:T (wA l))(hp:Dl l=true){v':Value}(h:zp φ (den ρ (VG (jg l x))) v'):zp φ0 (den ρ (VG (jg l x))) v':=by
 rw[Yd]at h ⊢;have key:=fun(us:List Value) (hr:zD φ (zu ρ (jg l x)) us)=>Dm (φ0:=φ0) l x hp hr;generalize zu ρ (jg l x)=vs at h key
 match vs,h,key with
 |[],h,key=>
  simp only[gI]at h ⊢
  obtain⟨ys,rfl,hl⟩:=h.tuple_inv
  exact .tuple' (key _ hl)
 |[v],h,key=>
  simp only[gI]at h ⊢
  exact(key [v'] ⟨h,trivial⟩).1
 |a::b::r,h,key=>
  simp only[gI]at h ⊢
  obtain⟨ys,rfl,hl⟩:=h.tuple_inv
  exact .tuple' (key _ hl)
theorem ziu{f:FuncId}{args:List Value}{Hd:Hp}{nx':Nat}{v:Value}(hz:nx'<=FZ)(h:wM P f args [] 0 v Hd nx')(ha:∀φ φ0:Ren,(∀b L,φ (FZ+b)=some L->φ0 (FZ+b)=some L)->∀us,zD φ args us->zD φ0 args us)(hv:∀(φ φ0:Ren) v',zp φ v v'->zp φ0 v v'){φ φ1:Ren}{H:Hp}{K:Nat->Prop}{w:World}{us:List Value}(g:zF φ H K w)(g1:∀b L,φ1 (FZ+b)=some L->Mu w b L)(hl:zD φ1 args us) : Calls P f us.toArray w fun e w'=>∃v',e=.returned v'∧zp φ v v'∧zF φ H K w'∧qJ K w w':=by
 let φ0:Ren:=fun b=>if FZ<=b then φ1 b else none;have e0:∀b,φ0 (FZ+b)=φ1 (FZ+b):=fun b=>by grind
 have g0:zF φ0 [] (fun c=>c < w.heap.size) w:=⟨fun b k hb=>by simp[Hp.get_nil]at hb,fun b c k k' L L' hb=>by simp[Hp.get_nil]at hb,fun b k L hb=>by simp[Hp.get_nil]at hb,fun c hc=>hc,fun b L hL=>g1 b L (by rw[<-e0];exact hL),fun b k L c M hb=>by simp[Hp.get_nil]at hb⟩;refine zrs (h.2 φ0 w (fun c=>c < w.heap.size) us g0 ⟨hz,fun b _ hb=>by grind⟩ (ha φ1 φ0 (fun b L hL=>by rw[e0];exact hL) us hl)) ?_;rintro e w' ⟨v',φ',rfl,x1,x2,x3,x4⟩;refine⟨v',rfl,hv φ' φ v' x1,⟨fun b k hb=>?_,g.sep,g.prot,fun c hc=>zqC (g.kin c hc) x4.size,fun b L hL=>?_,g.fsep⟩,⟨x4.os,x4.tape,x4.output,x4.size,fun c hc=>x4.kept c (g.kin c hc)⟩⟩
 ·obtain⟨L,hL,hB⟩:=g.rel b k hb;exact⟨L,hL,hB.congr (x4.kept L.blk hB.lt)⟩
 ·obtain⟨h1,h2,a,el,fr,h3,h4⟩:=g.fz b L hL;refine⟨h1,h2,a,el,fr,?_,h4⟩;rw[x4.kept b (by
   grind)]
  exact h3
def zmo(c:Con)(args:List SV)(H:SH)(nx:Nat)(k:KO R):Option R:=match gL c.args args H with
 |some (x,H1)=>bif Dl c.res then opt (c.F x) fun r=>k (VG (jg c.res r)) H nx else opt (c.F x) fun r=>k (VG (jg c.res r)) H1 nx
 |none=>none
theorem VH(l:List VT)(x:T (wA l))(ρ ρ':Nat->Value):zu ρ (jg l x)=zu ρ' (jg l x):=by
 have hc:∀(t:Ty) (y:T t),zu ρ (jN t y)=zu ρ' (jN t y):=fun t y=>by grind[qO,wt]
 have hv:∀(t:VT) (y:T t.ty),den ρ (mkV t y)=den ρ' (mkV t y):=fun t y=>by
  obtain⟨ag,ty⟩:=t;cases ag with
  |true=>grind[mkV,den]
  |false=>
   simp only[mkV,zqD];have:=hc ty y
   match he:jN ty y with
   |[v]=>grind[mk1,zu]
   |[]=>simp[mk1,den]
   |_::_::_=>simp[mk1,den]
 induction l with
 |nil=>rfl
 |cons a r ih=>simp only[jg,zu,hv a x.1,ih x.2]
theorem zon{f:FuncId}{c:Con}(hc:c.Ok P f){args:List SV}{H:SH}{nx:Nat}{k:KO R}{r:R}(h:zmo c args H nx k=some r):∃v H' nx',cY P f args H nx v H' nx'∧k v H' nx'=some r:=by
 unfold zmo at h;split at h;case h_2=>cases h
 rename_i x H1 hx;obtain⟨hg,hr⟩:=Ye hx;rcases vO h with⟨hp,h⟩ | ⟨_,h⟩
 ·obtain⟨y,hy,h2⟩:=ug h;obtain⟨Hd,n1,hz,hcall⟩:=hc.2 x y hy;refine⟨_,_,_,⟨hc.1,jV.refl H,wc.refl H,FW _,fun ν hv=>⟨hv,FW _,fun φ w K us g hf hl=>?_⟩⟩,h2⟩;obtain⟨φ1,e1,g1⟩:=hg.2 ν φ K w g;have hl1:=hr ν H1 (GLe.refl _) φ1 K w nx us g1 (hg.1.vn hv) (hl.mono (e1 0).1) (fun _=>bad);refine zrs (ziu hz hcall (fun φ φ0 hF us h=>gM hF c.args x h) (fun φ φ0 v' h=>zit c.res y hp h) g g1.fz hl1) ?_;rintro e w' ⟨v',rfl,x1,x3,x4⟩;refine⟨v',φ,rfl,?_,Ext.refl _ _ _ _,x3,x4⟩;rw[Yd]at x1 ⊢;rwa [VH c.res y (rho ν H) (fun _=>bad)]
 obtain⟨y,hy,h2⟩:=ug h;obtain⟨Hd,n1,hz,hcall⟩:=hc.2 x y hy;refine⟨_,_,_,⟨hc.1,hg.1.regLe,hg.1.lkeep,FW _,fun ν hv=>⟨hg.1.vn hv,FW _,fun φ w K us g hf hl=>?_⟩⟩,h2⟩;obtain⟨φ1,e1,g1⟩:=hg.2 ν φ K w g;have hl1:=hr ν H1 (GLe.refl _) φ1 K w nx us g1 (hg.1.vn hv) (hl.mono (e1 0).1) (fun _=>bad);have hd:=zbM hz hcall (fun φ φ0 hF us h=>gM hF c.args x h) (fun φ φ0 hF v' h=>PY hF c.res y h) (zK ν H1) nx;refine zrs (hd.2 φ1 w K us g1 (aP (mid:=0) hf e1) hl1) ?_;rintro e w' ⟨v',φ',rfl,x1,x2,x3,x4⟩;refine⟨v',φ',rfl,?_,(e1 nx).comp x2,x3,x4⟩;grind[Yd,VH,rho,bad]
end Go.Fz.Sy
end
