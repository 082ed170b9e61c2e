/- Parts of a proof, joined. -/
import Derived.ChangeArms
import Derived.ChangeSlices
import Derived.DataReads
import Derived.KernelRfl
import Derived.OpenShut
import Derived.SizedLaws
import Derived.Test.YtlfkgkedfciccaaGreatProg
import Derived.Test.YtlfkgkedfciccaaGreatH14
set_option linter.unusedSectionVars false
set_option linter.unusedVariables false
set_option linter.unusedSimpArgs false
set_option maxHeartbeats 0
set_option maxRecDepth 100000
noncomputable section
namespace Go.Fz.Sy
def zmP:List SV->Option Ty
 |[]=>some .unit
 |v
   ::r=>match (match v with
   |.bool _=>some .bool
   |.int k _=>some (.int k)
   |.str _=>some .str
   |.lst t _ _=>some (.list t)
   |_=>none),zmP r with
  |some a,some b=>some (match r with
   |[]=>a
   |_=>.pair a b)
  |_,_=>none
def wk:Ty->List Ty
 |.unit=>[]
 |.pair a b=>wk a++wk b
 |t=>[t]
def zpQ:SV->Ty->Bool
 |.bool _,.bool=>true
 |.int k _,.int k'=>gD k k'
 |.str _,.str=>true
 |.lst _ _ _,.list _=>true
 |.nils,.list _=>true
 |.own _,.list _=>true
 |_,_=>false
def lstTy:SV->Option Ty
 |.lst t _ _=>some t
 |_=>none
def tyQ:Ty->Ty->Bool
 |.unit,.unit=>true
 |.bool,.bool=>true
 |.int k,.int k'=>gD k k'
 |.str,.str=>true
 |.list a,.list b=>tyQ a b
 |.pair a b,.pair c d=>tyQ a c&&tyQ b d
 |_,_=>false
def zfq:List SV->List Ty->Bool
 |[],[]=>true
 |v::r,t::s=>(zpQ v t&&(match v,t with
  |.lst a _ _,.list b=>tyQ a b
  |_,_=>true))&&zfq r s
 |_,_=>false
structure Dz where
 ty:Ty
 fl:List Ty
 gs:List Nat:=[]
def znD(cands:List Dz)(cs:List SV):Option Dz:=match cands with
 |[]=>none
 |h::r=>bif zfq cs h.fl then some h else znD r cs
def zpR(gs:List Nat)(lo hi:Nat):Bool:=gs.any fun g=>Nat.ble lo g&&Nat.blt g hi
def zfr(H:SH)(cs:List SV)(gs:List Nat):Ty->Nat->Nat->List CK×Nat
 |.pair a b,i,c=>bif zpR gs i (i+sz (.pair a b))then match zfr H cs gs a i c with
   |(k1,c1)=>match zfr H cs gs b (i+sz a) c1 with
    |(k2,c2)=>(k1++k2,c2)
  else([.d (.pair a b)],c)
 |.list e,i,c=>bif yb gs i then(match gl cs i with
   |some (.own b)=>match zo H b with
    |some (.arr nn _ _)=>([.o c nn e],c+1)
    |_=>([.d (.list e)],c)
   |some .nils=>([.o c false e],c+1)
   |_=>([.d (.list e)],c))
  else([.d (.list e)],c)
 |t,_,c=>([.d t],c)
def zkC(cands:List Dz)(cs:List SV):Option Ty:=match cands with
 |[]=>zmP cs
 |h::r=>bif zfq cs h.fl then some h.ty else zkC r cs
def zqg(cands:List Dz):SV->Option VT
 |.bool _=>some ⟨false,.bool⟩
 |.int k _=>some ⟨false,.int k⟩
 |.str _=>some ⟨false,.str⟩
 |.lst t _ _=>some ⟨false,.list t⟩
 |.agg cs=>match zkC cands cs with
  |some t=>some ⟨true,t⟩
  |none=>none
 |_=>none
def rO:List Nat->List Nat
 |[]=>[]
 |a::r=>bif yb r a then rO r else a::rO r
def Zn:Operand->List Nat
 |.tmp t=>[t]
 |_=>[]
def zdA:Nat:=1000000
def zpe(l:List Nat):List Nat:=l.map (·+zdA)
def zpf(i:Nat):Nat:=bif Nat.ble zdA i then i - zdA else i
def ziN(W:List Nat)(d:Nat)(l:List Nat):List Nat:=bif yb W d then l++W else bif yb W (d+zdA)then zpe l++W else W
def wOp(pf:List Nat)(W:List Nat)(o:Oper):List Nat:=
 match o.op with
 |.store _ a _=>Zn a++W
 |.lookup _ m _ _=>Zn m++W
 |.mapUpdate _ m _ _=>Zn m++W
 |.insert _ m _ _=>Zn m++W
 |.call c=>match c.callee with
  |.value (.func f)=>bif yb pf f then zpe (c.args.toList.flatMap Zn)++W else c.args.toList.flatMap Zn++W
  |.value f=>Zn f++(c.args.toList.flatMap Zn++W)
  |.builtin .copy=>c.args.toList.flatMap Zn++W
  |.builtin .append=>match o.dst with
   |some d=>c.args.toList.flatMap Zn++W
   |none=>W
  |_=>W
 |.fieldAddr _ x _=>match o.dst with
  |some d=>bif yb W d then Zn x++W else W
  |none=>W
 |.indexAddr _ x _=>match o.dst with
  |some d=>bif yb W d then Zn x++W else W
  |none=>W
 |.load _ x=>match o.dst with
  |some d=>bif yb W d then Zn x++W else W
  |none=>W
 |.move x=>match o.dst with
  |some d=>ziN W d (Zn x)
  |none=>W
 |.nilCheck x=>match o.dst with
  |some d=>bif yb W d then Zn x++W else W
  |none=>W
 |.pick _ x y=>match o.dst with
  |some d=>ziN W d (Zn x++Zn y)
  |none=>W
 |.assign x=>match o.dst with
  |some d=>ziN W d (Zn x)
  |none=>W
 |_=>W
def zpg(pf:List Nat):List Oper->List Nat->List Nat
 |[],W=>W
 |o::r,W=>wOp pf (zpg pf r W) o
def YH(pf:List Nat):Code->List Nat->List Nat
 |.region _ ops _,W=>zpg pf ops.toList W
 |.seq a b,W=>YH pf a (YH pf b W)
 |.cond _ a b,W=>YH pf a (YH pf b W)
 |.block _ c,W=>YH pf c W
 |.loop c,W=>YH pf c W
 |.scope c,W=>YH pf c W
 |.rangeFunc g _ a b,W=>Zn g++YH pf a (YH pf b W)
 |_,W=>W
mutual
def znE:SV->List Nat
 |.ptr b _=>[b]
 |.own b=>[b]
 |.mp b=>[b]
 |.slv b _=>[b]
 |.agg cs=>HB cs
 |.fn _ fs cs=>HB fs++HB cs
 |_=>[]
def HB:List SV->List Nat
 |[]=>[]
 |v::r=>znE v++HB r
end
def ziO(tm:List SV):List Nat->List Nat
 |[]=>[]
 |i::r=>(match gl tm (zpf i)with
  |some v=>znE v
  |none=>[])++ziO tm r
def reachS(H:SH):Nat->List Nat->List Nat
 |0,l=>rO l
 |n+1,l=>match rO l with
  |l=>reachS H n (l++l.flatMap fun b=>match zo H b with
   |some (.vars cs)=>HB cs
   |some (.ro cs)=>HB cs
   |_=>[])
def znF(pf:List Nat)(H:SH):List Nat->List Nat
 |[]=>[]
 |l::r=>(match zo H l with
  |some (.loop L)=>ziO L.tm (rO (YH pf L.assign (YH pf L.body [])))
  |_=>[])++znF pf H r
structure Na where
 rid:Nat
 ntm:Nat
 tmp:Option Nat
 ty:Ty
 own:Bool:=true
def Nb(rid ntm:Nat)(i:Option Nat):List Na->Option Na
 |[]=>none
 |h::r=>bif Nat.beq h.rid rid&&(Nat.beq h.ntm ntm&&(match h.tmp,i with
  |some a,some b=>Nat.beq a b
  |none,none=>true
  |_,_=>false))then some h else Nb rid ntm i r
def ziP(rid ntm:Nat):List (Nat×Nat)->Bool
 |[]=>false
 |p::r=>bif Nat.beq p.1 rid&&Nat.beq p.2 ntm then true else ziP rid ntm r
def zkD(cands:List Dz)(ns:List Na)(rid:Nat)(tm:List SV)(H:SH)(nx:Nat):List Nat->List DPl×List OPl×Nat
 |[]=>([],[],0)
 |i::r=>match zkD cands ns rid tm H nx r with
  |(dl,ol,g)=>match gl tm i with
   |some (.own b)=>match zo H b with
    |some (.arr nn t _)=>match Nb rid tm.length (some i) ns with
     |some ⟨_,_,_,_,false⟩=>(.tmp i ⟨false,.list t⟩::dl,ol,g)
     |_=>(dl,.otmp i (nx+g) nn t::ol,g+1)
    |some (.fro _ t _)=>(.tmp i ⟨false,.list t⟩::dl,ol,g)
    |_=>(dl,ol,g)
   |some .nils=>match Nb rid tm.length (some i) ns with
    |some h=>bif h.own then(dl,.otmp i (nx+g) false h.ty::ol,g+1)else(.tmp i ⟨false,.list h.ty⟩::dl,ol,g)
    |none=>(dl,ol,g)
   |some .nilp=>match Nb rid tm.length (some i) ns with
    |some _=>(.npt i::dl,ol,g)
    |none=>(dl,ol,g)
   |some v=>match zqg cands v with
    |some vt=>(.tmp i vt::dl,ol,g)
    |none=>(dl,ol,g)
   |none=>(dl,ol,g)
abbrev GrT:=Nat×Nat×Nat×List Nat
def grT(rid ntm d:Nat):List GrT->List Nat
 |[]=>[]
 |h::r=>bif Nat.beq h.1 rid&&(Nat.beq h.2.1 ntm&&Nat.beq h.2.2.1 d)then h.2.2.2 else grT rid ntm d r
def zdB(b:Nat):List SV->Nat->Option Nat
 |[],_=>none
 |v::r,i=>match v with
  |.ptr c o=>bif Nat.beq c b&&Nat.beq o 0 then some i else zdB b r (i+1)
  |_=>zdB b r (i+1)
def zph(ns:List Na)(rid:Nat)(tm:List SV)(b:Nat):Option Na:=match zdB b tm 0 with
 |some d=>match Nb rid tm.length (some d) ns with
  |some h=>some h
  |none=>Nb rid tm.length none ns
 |none=>Nb rid tm.length none ns
def zkE(cands:List Dz)(ns:List Na)(gt:List GrT)(rid:Nat)(tm:List SV)(H:SH)(nx:Nat)(own:List Nat):List Nat->List DPl×List OPl×Nat->List DPl×List OPl×Nat
 |[],x=>x
 |b::r,x=>match zkE cands ns gt rid tm H nx own r x with
  |(dl,ol,g)=>match zo H b with
   |some (.vars [.own c])=>match zo H c with
    |some (.arr nn t _)=>match zph ns rid tm b with
     |some ⟨_,_,some _,_,false⟩=>(.blk b (.list t)::dl,ol,g)
     |_=>(dl,.sblk b [.o (nx+g) nn t]::ol,g+1)
    |some (.fro _ t _)=>(.blk b (.list t)::dl,ol,g)
    |_=>(dl,ol,g)
   |some (.vars [.nils])=>match zph ns rid tm b with
    |some h=>bif h.own then(dl,.sblk b [.o (nx+g) false h.ty]::ol,g+1)else(.blk b (.list h.ty)::dl,ol,g)
    |none=>(dl,ol,g)
   |some (.vars cs)=>match znD cands cs with
    |some h=>match zfr H cs (match zdB b tm 0 with
      |some d=>grT rid tm.length d gt
      |none=>h.gs) h.ty 0 (nx+g)with
     |(ks,c')=>bif ks.all (fun k=>match k with
       |.d _=>true
       |.o _ _ _=>false)then(.blk b h.ty::dl,ol,g)else(.frz b ks::dl,.sblk b ks::ol,c' - nx)
    |none=>match zmP cs with
     |some t=>(.blk b t::dl,ol,g)
     |none=>(dl,ol,g)
   |some (.arr nn t _)=>bif yb own b then(dl,ol,g)else(dl,.arr b nn t::ol,g)
   |some (.mpb k ag t _)=>(dl,.mpl b k ag t::ol,g)
   |_=>(dl,ol,g)
def ziQ:List SV->List Nat
 |[]=>[]
 |.own c::r=>c::ziQ r
 |_::r=>ziQ r
def zfs(tm:List SV)(H:SH)(bs:List Nat):List Nat->List Nat
 |[]=>bs.flatMap fun b=>match zo H b with
  |some (.vars cs)=>ziQ cs
  |_=>[]
 |i::r=>match gl tm i with
  |some (.own b)=>b::zfs tm H bs r
  |_=>zfs tm H bs r
def zqh(l:List Operand):List Nat:=l.flatMap Zn
def oe(D:List Nat):List Nat->List Nat
 |[]=>[]
 |a::r=>bif yb D a then oe D r else a::oe D r
def ziR(D:List Nat):List Nat->List Nat
 |[]=>[]
 |a::r=>bif yb D a then a::ziR D r else ziR D r
def znG:List Oper->List Nat->List Nat×List Nat
 |[],D=>([],D)
 |o::r,D=>match znG r (o.dst.toList++D)with
  |(us,D')=>(oe D (zqh o.op.operands.toList)++us,D')
def lvC:Code->List Nat->List Nat×List Nat
 |.region _ ops _,D=>znG ops.toList D
 |.seq a b,D=>match lvC a D with
  |(ra,Da)=>match lvC b Da with
   |(rb,Db)=>(ra++rb,Db)
 |.cond c a b,D=>match lvC a D with
  |(ra,Da)=>match lvC b D with
   |(rb,Db)=>(oe D (Zn c)++(ra++rb),ziR Da Db)
 |.block _ c,D=>lvC c D
 |.loop c,D=>lvC c D
 |.scope c,D=>lvC c D
 |.rangeFunc g _ a b,D=>match lvC a D with
  |(ra,Da)=>match lvC b Da with
   |(rb,_)=>(oe D (Zn g)++(ra++rb),D)
 |_,D=>([],D)
def zft:List Oper->List Nat
 |[]=>[]
 |o::r=>match o.op with
  |.assign _=>o.dst.toList++zft r
  |_=>zft r
def DA:Code->List Nat
 |.region _ ops _=>zft ops.toList
 |.seq a b=>DA a++DA b
 |.cond _ a b=>DA a++DA b
 |.block _ c=>DA c
 |.loop c=>DA c
 |.scope c=>DA c
 |_=>[]
def aQ:Code->Bool
 |.region _ ops _=>ops.toList.any fun o=>match o.op with
  |.call {callee:=.value _,..}=>true
  |_=>false
 |.seq a b=>aQ a||aQ b
 |.cond _ a b=>aQ a||aQ b
 |.block _ c=>aQ c
 |.loop c=>aQ c
 |.scope c=>aQ c
 |.rangeFunc _ _ _ _=>true
 |_=>false
def zpi(tm:List SV):List Nat->Bool
 |[]=>false
 |i::r=>(match gl tm i with
  |some (.slv _ _)=>true
  |_=>false)||zpi tm r
def zG(cands:List Dz)(un:List (Nat×Nat))(ns:List Na)(gt:List GrT:=[])(pf:List Nat:=[]):ym:=fun c tm H nx=>match Xz c with
 |some rid=>bif ziP rid tm.length un||zpi tm (lvC c []).1 then none else
  match ziR (DA c++(lvC c []).1) (rO (asg c))with
  |aq=>match reachS H 3 (ziO tm (rO (YH pf c (YH pf c [])))++(bif aQ c then znF pf H (ja H)else[]))with
   |bs=>some (zkE cands ns gt rid tm H nx (zfs tm H bs aq) bs (zkD cands ns rid tm H nx aq))
 |none=>none
def XA(i:Nat):Code->Bool
 |.exit j=>Nat.beq i j
 |.seq a b=>XA i a||XA i b
 |.cond _ a b=>XA i a||XA i b
 |.block _ c=>XA i c
 |.loop c=>XA i c
 |.scope c=>XA i c
 |.rangeFunc _ _ a b=>XA i a||XA i b
 |_=>false
def rP:Code->Bool
 |.ret=>false
 |.exit _=>false
 |.goto _=>false
 |.seq a b=>rP a&&rP b
 |.cond _ a b=>rP a||rP b
 |.block i c=>rP c||XA i c
 |.loop _=>false
 |_=>true
def zpj(ops:Array Oper):Bool:=ops.toList.any fun o=>o.guard.isSome
def zdC:Code->Bool
 |.skip=>true
 |.exit _=>true
 |.ret=>true
 |.goto _=>true
 |_=>false
def znH(g:Bool):Code->Bool
 |.cond _ a b=>(rP a&&(rP b&&!(zdC a&&zdC b)))||(g&&((rP a||rP b)&&!(zdC a&&zdC b)))
 |.seq (.region _ ops _) (.cond c a b)=>znH (g||zpj ops) (.cond c a b)
 |_=>false
def zy(ex:List (Nat×Nat))(re:List (Nat×Nat):=[])(c:Code)(ntm:Nat):Bool:=match c with
 |.scope (.loop b)=>(match Xz b with
  |some rid=>ziP rid ntm re
  |none=>false)
 |_=>bif znH false c then(match Xz c with
 |some rid=>!ziP rid ntm ex
 |none=>false)else false
end Go.Fz.Sy
namespace Go.Fz.Sy
variable {P:Program} {w:World}
open Go.RowKit Go.ChangeShapes Go.WideShapes
def alT:Ty->Nat
 |.unit=>1
 |.bool=>1
 |.int k=>k.bits / 8
 |.str=>8
 |.list _=>8
 |.pair a b=>max (alT a) (alT b)
def upT(o a:Nat):Nat:=(o+a - 1) / a*a
def zmQ:Ty->Nat->Nat
 |.unit,o=>o
 |.bool,o=>o+1
 |.int k,o=>upT o (k.bits / 8)+k.bits / 8
 |.str,o=>upT o 8+16
 |.list _,o=>upT o 8+24
 |.pair a b,o=>zmQ b (zmQ a o)
def bsT(y:Ty):Nat:=upT (zmQ y 0) (alT y)
def wfT:(t:Ty)->T t->Prop
 |.unit,_=>True
 |.bool,_=>True
 |.int k,n=>k.min<=n∧n<=k.max
 |.str,s=>s.size<=maxLen
 |.list t,l=>(List.length (α:=T t) l<=maxLen∧List.length (α:=T t) l*bsT t<=reachBytes)∧∀x:T t,List.Mem x l->wfT t x
 |.pair a b,x=>wfT a x.1∧wfT b x.2
def QW(ft:TypeId->Ty->Bool)(cz:TypeId->Nat):List Field->Nat->Ty->Bool
 |[],_,.unit=>true
 |[f],off,y=>Nat.beq f.offset off&&(ft f.type y&&Nat.beq (sz y) (cz f.type))
 |f::g::fs,off,.pair a b=>Nat.beq f.offset off&&(ft f.type a&&(Nat.beq (sz a) (cz f.type)&&QW ft cz (g::fs) (off+sz a) b))
 |_,_,_=>false
def QX(ft:Ty->Bool)(cz:Nat):Nat->Ty->Bool
 |0,.unit=>true
 |1,y=>ft y&&Nat.beq (sz y) cz
 |n+2,.pair a b=>ft a&&(Nat.beq (sz a) cz&&QX ft cz (n+1) b)
 |_,_=>false
def Nc(P:Program):Nat->TypeId->Ty->Bool
 |0,_,_=>false
 |n+1,t,y=>match P.underlying t,y with
  |some .bool,.bool=>true
  |some (.int k),.int k'=>decide (k=k')
  |some .string,.str=>true
  |some (.slice e),.list y=>Nc P n e y&&(Nat.blt 0 (sz y)&&(Nat.beq (sz y) (P.cellsOf e)&&Nat.ble (bsT y) (P.bytesOf e)))
  |some (.struct fs),y=>QW (Nc P n) P.cellsOf fs.toList 0 y&&Nat.beq (sz y) (P.cellsOf t)
  |some (.array m e),y=>QX (Nc P n e) (P.cellsOf e) m y&&Nat.beq (sz y) (P.cellsOf t)
  |_,_=>false
def xr(w:World):Ren:=fun n=>if FZ<=n then match w.heap[n - FZ]? with
 |some (.cells a _ _)=>some ⟨n - FZ,0,0,a⟩
 |_=>none else none
theorem zgx{b:Nat}{a:Array Value}{el:TypeId}{fr:Nat×Nat}(h:w.heap[b]?=some (.cells a el fr)):xr w (FZ+b)=some ⟨b,0,0,a⟩:=by
 have h1:FZ<=FZ+b:=by omega
 have h2:FZ+b - FZ=b:=by omega
 simp only[xr,h1,zqF,h2,h]
theorem ziS(w:World):zF (xr w) [] (fun c=>c < w.heap.size) w:=by
 refine⟨fun b k h=>by simp[Hp.get_nil]at h,fun b c k k' L L' h=>by simp[Hp.get_nil]at h,fun b k L h=>by simp[Hp.get_nil]at h,fun c hc=>hc,fun b L hL=>?_,fun b k L c M h=>by simp[Hp.get_nil]at h⟩;have h1:FZ<=FZ+b:=by omega
 have h2:FZ+b - FZ=b:=by omega
 simp only[xr,h1,zqF,h2]at hL;split at hL
 ·rename_i a el fr ha;cases hL;exact⟨rfl,rfl,a,el,fr,ha,fun j u h=>h⟩
 ·cases hL
theorem zgy(w:World){n m:Nat}(hm:m<=FZ):wU (xr w) n m:=⟨hm,fun b h1 h2=>by
 have:¬FZ<=b:=by omega
 simp only[xr,this,zqZ]⟩
theorem ziT{f:FuncId}{args:List Value}{H':Hp}{n':Nat}(hz:n'<=FZ)(hm:wM P f args [] 0 (.bool true) H' n'){us:List Value}(hl:zE (xr w) args us) : Calls P f us.toArray w fun e w'=>e=.returned (.bool true)∧Below w.heap.size w w':=by refine zrs (hm.2 (xr w) w (fun c=>c < w.heap.size) us (ziS w) (zgy w hz) hl) ?_;rintro e w' ⟨v',φ',rfl,x1,x2,x3,x4⟩;cases x1;exact⟨rfl,zcm x4⟩
section
variable {H:Type} {enc:TypeId×Value→H} {base:Nat} {spare:Nat→Bool} {held:Bool}
theorem Nd{φ:Ren}:∀{a b x y:List Value},zE φ a x->zE φ b y->zE φ (a++b) (x++y)
 |[],_,[],_,_,h=>h
 |_::_,_,_::_,_,h,k=>⟨h.1,Nd h.2 k⟩
 |[],_,_::_,_,h,_=>h.elim
 |_::_,_,[],_,h,_=>h.elim
theorem zb1{α:Type}{Φ:Nat->α->Prop}:∀(n:Nat),(∀i,i < n->∃q,Φ i q)->∃l:List α,l.length=n∧∀i q,l[i]?=some q->Φ i q
 |0,_=>⟨[],rfl,fun i q h=>by simp at h⟩
 |n+1,h=>by obtain⟨l,hl,hq⟩:=zb1 n fun i hi=>h i (by omega);obtain⟨q,hn⟩:=h n (by omega);refine⟨l++[q],by simp[hl],fun i q' hi=>?_⟩;grind
def ei(w:World)(y:Ty)(cs:List Value):Prop:=∃a:T y,wfT y a∧zE (xr w) (qB y a) cs
theorem zfu{ft:TypeId->Ty->Bool}{cz:TypeId->Nat}{cs:List Value}:∀{fs:List Field} {off:Nat} {y:Ty},QW ft cz fs off y=true->(∀f∈fs,∀z,ft f.type z=true->ei w z ((cs.drop f.offset).take (cz f.type)))->off+sz y=cs.length->ei w y (cs.drop off)
 |[],off,.unit,h,hf,hl=>⟨(),trivial,by
   have:cs.drop off=[]:=by simp[sz]at hl ⊢;omega
   rw[this];trivial⟩
 |[f],off,y,h,hf,hl=>by grind[QW,Nat.eq_of_beq_eq_true,List.take_of_length_le]
 |f::g::fs,off,.pair a b,h,hf,hl=>by
  simp only[QW,FT]at h;obtain⟨h1,h2,h3,h4⟩:=h;have h1:=zpM h1;have h3:=zpM h3;obtain⟨x,wx,rx⟩:=hf f (by simp) a h2;simp only[sz]at hl;obtain⟨z,wz,rz⟩:=zfu (cs:=cs) h4 (fun q hq=>hf q (by grind)) (by omega);refine⟨(x,z),⟨wx,wz⟩,?_⟩;rw[h1,<-h3]at rx;have e:cs.drop off=(cs.drop off).take (sz a)++cs.drop (off+sz a):=by grind[List.drop_drop,List.take_append_drop]
  rw[e];exact Nd rx rz
 |[],_,.bool,h,_,_=>by simp[QW]at h
 |[],_,.int _,h,_,_=>by simp[QW]at h
 |[],_,.str,h,_,_=>by simp[QW]at h
 |[],_,.list _,h,_,_=>by simp[QW]at h
 |[],_,.pair _ _,h,_,_=>by simp[QW]at h
 |_::_::_,_,.unit,h,_,_=>by simp[QW]at h
 |_::_::_,_,.bool,h,_,_=>by simp[QW]at h
 |_::_::_,_,.int _,h,_,_=>by simp[QW]at h
 |_::_::_,_,.str,h,_,_=>by simp[QW]at h
 |_::_::_,_,.list _,h,_,_=>by simp[QW]at h
theorem zfv{ft:Ty->Bool}{cz:Nat}{cs:List Value}{N:Nat}(hf:∀i,i < N->∀z,ft z=true->ei w z ((cs.drop (i*cz)).take cz)):∀{m:Nat} {y:Ty} {i:Nat},QX ft cz m y=true->i+m=N->i*cz+sz y=cs.length->ei w y (cs.drop (i*cz))
 |0,.unit,i,h,hN,hl=>⟨(),trivial,by
   have:cs.drop (i*cz)=[]:=by simp[sz]at hl ⊢;omega
   rw[this];trivial⟩
 |1,y,i,h,hN,hl=>by simp only[QX,FT]at h;obtain⟨h1,h2⟩:=h;have h2:=zpM h2;have:=hf i (by omega) y h1;grind[List.take_of_length_le]
 |m+2,.pair a b,i,h,hN,hl=>by
  simp only[QX,FT]at h;obtain⟨h1,h2,h3⟩:=h;have h2:=zpM h2;obtain⟨x,wx,rx⟩:=hf i (by omega) a h1;simp only[sz]at hl;have e1:(i+1)*cz=i*cz+cz:=by grind
  obtain⟨z,wz,rz⟩:=zfv hf (m:=m+1) (i:=i+1) h3 (by omega) (by rw[e1];omega);refine⟨(x,z),⟨wx,wz⟩,?_⟩;have e:cs.drop (i*cz)=(cs.drop (i*cz)).take cz++cs.drop ((i+1)*cz):=by grind[List.drop_drop,List.take_append_drop]
  rw[e];exact Nd rx rz
 |0,.bool,_,h,_,_=>by simp[QX]at h
 |0,.int _,_,h,_,_=>by simp[QX]at h
 |0,.str,_,h,_,_=>by simp[QX]at h
 |0,.list _,_,h,_,_=>by simp[QX]at h
 |0,.pair _ _,_,h,_,_=>by simp[QX]at h
 |_+2,.unit,_,h,_,_=>by simp[QX]at h
 |_+2,.bool,_,h,_,_=>by simp[QX]at h
 |_+2,.int _,_,h,_,_=>by simp[QX]at h
 |_+2,.str,_,h,_,_=>by simp[QX]at h
 |_+2,.list _,_,h,_,_=>by simp[QX]at h
theorem mX{e:TypeId}{d:DataW H}:∀{l:List (DataW H)},d∈l->∀n∈d.weights P e,n∈DataW.weightsAll P e l
 |a::l,h,n,hn=>by
  simp only[DataW.weightsAll,zqV];rcases zqA.1 h with rfl | h
  ·exact .inl hn
  ·exact .inr (mX h n hn)
theorem zmR{e:TypeId}{y:Ty}{cs:List Value}{t:TypeId}{fuel:Nat}{x:DataW H×List MemPlace}(hu:P.underlying t=some (.slice e))(h:DataW.trod enc P w base spare held fuel t cs=some x)(hw:∀n∈x.1.weights P t,n<=reachBytes)(ih:∀{fuel:Nat} {cs:List Value} {x:DataW H×List MemPlace},DataW.trod enc P w base spare held fuel e cs=some x->(∀n∈x.1.weights P e,n<=reachBytes)->ei w y cs)(hs:0 < sz y)(hz:sz y=P.cellsOf e)(hbs:bsT y<=P.bytesOf e):ei w (.list y) cs:=by
 rcases DataW.trod_slice hu h with⟨rfl,_⟩ | ⟨a,len,cap,elems,rest,m,_,rfl,rfl,hb,hl,hm,hlen,hel,_,_⟩
 ·exact⟨([]:List (T y)),⟨⟨ztC _,by grind⟩,fun x hx=>by cases hx⟩,by
   have:=zp.fz0 (φ:=xr w) (sz y) none 0;exact⟨this,trivial⟩⟩
 ·have hw1:(elems.length+rest.length)*P.bytesOf e<=reachBytes:=by have:=hw ((elems.length+rest.length)*P.bytesOf e) (by simp[DataW.weights,hu]);exact this
  have hw2:∀z∈elems,∀n∈z.1.weights P e,n<=reachBytes:=fun z hz n hn=>hw n (by
   grind[DataW.weights,List.mem_cons_of_mem,List.mem_append_left,mX,List.mem_map_of_mem])
  have hall:∀i,i < len->∃q:T y,wfT y q∧∃us,zE (xr w) (qB y q) us∧us.length=sz y∧∀j,j < sz y->w.cell? ((a.add (i*sz y)).add j)=us[j]?:=fun i hi=>by have h1:=hel i hi;obtain⟨z,hz2⟩:∃z,elems[i]?=some z:=⟨elems[i],FL (by omega)⟩;rw[hz2,zqs]at h1;obtain⟨us,h2,h3⟩:=h1;obtain⟨q,q1,q2⟩:=ih h3 (hw2 z (zqy hz2));obtain⟨_,h4,h5⟩:=World.cells?_some h2;grind
  obtain⟨l,hll,hl2⟩:=zb1 len hall;refine⟨l,⟨⟨by omega,zqx (Nat.mul_le_mul (show l.length<=elems.length+rest.length by omega) hbs) hw1⟩,fun q hq=>?_⟩,?_⟩
  ·obtain⟨i,hi⟩:=zrw hq;exact(hl2 i q hi).1
  ·show zE (xr w) [fzV (sz y) false (l.map fun x=>Value.agg (qB y x).toArray)] [Value.slice (some a) len cap];refine⟨?_,trivial⟩;by_cases h0:len=0
   ·subst h0;obtain rfl:l=[]:=zrh.1 hll;exact zp.fz0 _ _ _
   ·obtain⟨q0,hq0⟩:∃q,l[0]?=some q:=⟨l[0],FL (by omega)⟩;obtain⟨_,us0,r0,l0,c0⟩:=hl2 0 q0 hq0;have c00:=c0 0 hs;have:∃v,us0[0]?=some v:=⟨us0[0],FL (by omega)⟩;obtain⟨v0,hv0⟩:=this;obtain⟨b,o,sp⟩:=a;have e0:((⟨b,o,sp⟩:Addr).add (0*sz y)).add 0=⟨b,o,sp⟩:=by simp[Addr.add]
    rw[e0,hv0]at c00;unfold World.cell? at c00;cases hh:w.heap[b]? with
    |none=>grind
    |some ob=>
     rw[hh]at c00;cases ob with
     |cells arr el fr=>
      have hsp:sp=none:=by cases sp<;>grind
      subst hsp;have hcell:∀k,w.cell? (⟨b,k,none⟩:Addr)=arr[k]?:=fun k=>by grind[World.cell?]
      have hat:∀i (q:T y),l[i]?=some q->∃us,zE (xr w) (qB y q) us∧us.length=sz y∧∀j,j < sz y->arr[o+i*sz y+j]?=us[j]?:=fun i q hi=>by grind[Addr.add_none]
      have hsz:∀(j:Nat) e,(l.map fun x=>Value.agg (qB y x).toArray).toArray[j]?=some e->e.cells.size=sz y:=fun j e he=>by grind[Option.map_eq_some_iff,Value.cells,wQ]
      have hsize:(l.map fun x=>Value.agg (qB y x).toArray).toArray.size=len:=by simp[hll]
      have key:=zp.fz (φ:=xr w) (sz y) (l.map fun x=>Value.agg (qB y x).toArray).toArray b o cap ⟨b,0,0,arr⟩ (zgx hh) (by rw[hsize];omega) (by
        rw[hsize];obtain⟨q,hq⟩:∃q,l[len - 1]?=some q:=⟨l[len - 1],FL (by omega)⟩;obtain⟨us,r,hlu,hc⟩:=hat (len - 1) q hq;have h1:=hc (sz y - 1) (by omega);have:∃v,us[sz y - 1]?=some v:=⟨us[sz y - 1],FL (by omega)⟩;obtain⟨v,hv⟩:=this;rw[hv]at h1;have h2:=(zqM.1 h1).1;have h3:len*sz y=(len - 1)*sz y+sz y:=by
         have:len=(len - 1)+1:=by omega
         rw[this,zrE,ztf];simp
        grind) (by rw[hsize];omega) hsz (fun j k e u u' he hu hu'=>by
        simp only[zry,zrF,zqp]at he;obtain⟨q,hq,rfl⟩:=he;obtain⟨us,r,hlu,hc⟩:=hat j q hq;simp only[Value.cells,zry]at hu;have hk:k < sz y:=by have:=(zqr.1 hu).1;rw[wQ]at this;exact this
        obtain⟨v',hv',hr⟩:=r.get hu;grind)
      rw[hsize]at key;exact key
     |_=>simp at c00
theorem Rp:∀(n:Nat) {t:TypeId} {y:Ty} {fuel:Nat} {cs:List Value} {x:DataW H×List MemPlace},Nc P n t y=true->DataW.trod enc P w base spare held fuel t cs=some x->(∀n∈x.1.weights P t,n<=reachBytes)->ei w y cs
 |0,_,_,_,_,_,h,_,_=>by cases h
 |n+1,t,y,0,cs,x,_,h,_=>by cases h
 |n+1,t,y,fuel+1,cs,x,h,hx,hw=>by
  simp only[Nc]at h;split at h
  ·rename_i hu;simp only[DataW.trod,hu]at hx;split at hx<;>first | (rename_i e1 e2;cases e1;done) | skip
   all_goals first | (exact⟨_,trivial,.bool _,trivial⟩) | (simp_all;done) | cases hx
  ·rename_i k k' hu;have hk:k=k':=zsP h;subst hk;obtain⟨m,h1,h2,h3⟩:=DataW.trod_int hu hx;subst h1;simp only[Lit.wf,FT,zrb]at h3;exact⟨m,h3,.int _ _,trivial⟩
  ·rename_i hu;obtain⟨s,h1,h2,h3⟩:=DataW.trod_string hu hx;subst h1;exact⟨s,h3,.str _,trivial⟩
  ·rename_i e y' hu;simp only[FT]at h;obtain⟨h1,h2,h3,h4⟩:=h;exact zmR hu hx hw (fun hy hwy=>Rp n h1 hy hwy) (by simpa using h2) (zpM h3) (zqH h4)
  ·rename_i fs hu;simp only[FT]at h;obtain⟨h1,h2⟩:=h;have h2:=zpM h2;obtain⟨xs,m,_,rfl,hl,hlen,hf⟩:=DataW.trod_struct hu hx;simp only[DataW.weights,hu]at hw;have:=zfu (w:=w) (cs:=cs) h1 (fun f hf2 z hz=>by
    obtain⟨i,hi⟩:=zrw hf2;have h4:=hf i f (by simpa using hi);have hlt:i < xs.length:=by grind
    rw[FL hlt]at h4;exact Rp n hz h4 fun k hk=>hw k (DataW.weights_mem_each (j:=i) (t:=f.type) (d:=xs[i].1) (by grind) (by grind) k hk)) (by omega)
   simpa using this
  ·rename_i m e hu;simp only[FT]at h;obtain⟨h1,h2⟩:=h;have h2:=zpM h2;obtain⟨xs,q,_,rfl,hl,hlen,hf⟩:=DataW.trod_array hu hx;simp only[DataW.weights,hu]at hw;have:=zfv (w:=w) (cs:=cs) (N:=m) (cz:=P.cellsOf e) (fun i hi z hz=>by
    have h4:=hf i hi;have hlt:i < xs.length:=by omega
    rw[FL hlt]at h4;exact Rp n hz h4 fun k hk=>hw k (mX (List.mem_map_of_mem (zqq hlt)) k hk)) (m:=m) (i:=0) h1 (by omega) (by rw[hl,h2];simp)
   simpa using this
  ·cases h
def DB(P:Program)(t:TypeId):Bool:=match P.underlying t with
 |some (.struct _)=>true
 |some (.array _ _)=>true
 |_=>false
def GI(P:Program)(n:Nat):List TypeId->List VT->Bool
 |[],[]=>true
 |t::ts,v::vs=>Nc P n t v.ty&&((bif DB P t then v.agg else !v.agg)&&GI P n ts vs)
 |_,_=>false
theorem zmS{φ:Ren}{x v:Value}{a:List Value}(h:zE φ a [v])(ha:a=[x]):zp φ x v:=by subst ha;exact h.1
theorem zpS{n:Nat}{t:TypeId}{vt:VT}{r:Reach}{b0:Nat}{v:Value}{d:DataW H}{ps:List MemPlace}(hf:Nc P n t vt.ty=true)(ha:(bif DB P t then vt.agg else !vt.agg)=true)(hv:Value.okWide P w r b0 t v)(hd:DataW.Trod enc P w base spare held t v d ps)(hw:∀n∈d.weights P t,n<=reachBytes) : ∃x:T vt.ty,wfT vt.ty x∧∀ρ,zp (xr w) (den ρ (mkV vt x)) v:=by
 obtain⟨ag,ty⟩:=vt;obtain⟨fuel,hd⟩:=hd;obtain⟨x,wx,rx⟩:=Rp n hf hd hw;refine⟨x,wx,fun ρ=>?_⟩;cases ag with
 |true=>
  have hag:DB P t=true:=by
   cases h:DB P t with
   |true=>rfl
   |false=>rw[h]at ha;cases ha
  have:∃cs,v=.agg cs:=by
   unfold DB at hag;unfold Value.okWide at hv;split at hv
   ·obtain⟨cs,h1,_⟩:=hv;exact⟨cs,h1⟩
   ·obtain⟨cs,h1,_⟩:=hv;exact⟨cs,h1⟩
   ·rename_i h1 h2;split at hag
    ·rename_i h3;exact absurd h3 (h1 _)
    ·rename_i h3;exact absurd h3 (h2 _ _)
    ·cases hag
  obtain⟨cs,rfl⟩:=this;simp only[mkV,zqJ,den];refine .agg' ?_;rw[qN,wv];exact rx
 |false=>
  have hag:DB P t=false:=by
   cases h:DB P t with
   |true=>rw[h]at ha;cases ha
   |false=>rfl
  have hcell:v.cells.toList=[v]:=by
   unfold DB at hag;unfold Value.okWide at hv;split at hv
   ·rename_i h1;simp only[h1]at hag;cases hag
   ·rename_i h1;simp only[h1]at hag;cases hag
   ·cases v with
    |agg cs=>
     unfold Cell.okWide at hv;split at hv<;>first | (exfalso;revert hv;unfold Cell.ok;split<;>simp_all;done) | (rename_i e1 e2;cases e2)
    |_=>rfl
  rw[hcell]at rx;have hlen:=rx.length;have h2:=wv ρ ty x;simp only[mkV,zqD]
  match he:jM ty x with
  |[u]=>
   rw[he]at h2;exact zmS rx h2.symm
  |[]=>rw[he]at h2;rw[<-h2]at hlen;simp at hlen
  |_::_::_=>rw[he]at h2;rw[<-h2]at hlen;simp at hlen
theorem zkF{n:Nat}{r:Reach}{b0:Nat}:∀{ts:List TypeId} {a:List VT} {us:List Value} {ds:List (DataW H)} {ps:List MemPlace},GI P n ts a=true->(∀(j:Nat) t v,ts[j]?=some t->us[j]?=some v->Value.okWide P w r b0 t v)->DataW.TrodAll enc P w base spare held ts us ds ps->(∀n∈DataW.weightsEach P ts ds,n<=reachBytes)->∃x:T (wC a),wfT (wC a) x∧∀ρ,zE (xr w) (zv ρ (ji a x)) us
 |[],[],us,ds,ps,_,_,h,_=>by obtain⟨rfl,_,_⟩:=trodAll_nil h;exact⟨(),trivial,fun ρ=>trivial⟩
 |t::ts,v::a,us,ds,ps,hf,hv,h,hw=>by simp only[GI,FT]at hf;obtain⟨f1,f2,f3⟩:=hf;obtain⟨u,us',d,ds',p,q,rfl,rfl,rfl,h1,h2⟩:=trodAll_cons h;obtain⟨x,wx,rx⟩:=zpS f1 f2 (hv 0 t u rfl rfl) h1 (fun n hn=>hw n (by grind[DataW.weightsEach]));obtain⟨y,wy,ry⟩:=zkF (ts:=ts) (a:=a) f3 (fun j t v ht hv2=>hv (j+1) t v (by simpa using ht) (by simpa using hv2)) h2 (fun n hn=>hw n (by grind[DataW.weightsEach]));exact⟨(x,y),⟨wx,wy⟩,fun ρ=>⟨rx ρ,ry ρ⟩⟩
 |[],_::_,_,_,_,hf,_,_,_=>by simp[GI]at hf
 |_::_,[],_,_,_,hf,_,_,_=>by simp[GI]at hf
theorem IV:∀{ts:List TypeId} {us:List Value} {ds:List (DataW H)} {ps:List MemPlace},DataW.TrodAll enc P w base spare held ts us ds ps->ds.length=ts.length
 |[],_,_,_,h=>by obtain⟨_,rfl,_⟩:=trodAll_nil h;rfl
 |t::ts,us,ds,ps,h=>by obtain⟨u,us',d,ds',p,q,rfl,rfl,rfl,h1,h2⟩:=trodAll_cons h;rw[zru,zru,IV h2]
theorem zkG{f:FuncId}{a:List VT}{G:T (wC a)->Option (T (wC [⟨false,.bool⟩]))}(hc:Con.Ok P f ⟨a,[⟨false,.bool⟩],G⟩)(hG:∀x,wfT (wC a) x->G x=some (true,())){n:Nat}{r:Reach}{b0:Nat}{ts:List TypeId}{us:List Value}{ds:List (DataW H)}{ps:List MemPlace}(hf:GI P n ts a=true)(hv:∀(j:Nat) t v,ts[j]?=some t->us[j]?=some v->Value.okWide P w r b0 t v)(h:DataW.TrodAll enc P w base spare held ts us ds ps)(hw:(DataW.weightsEach P ts ds).all (·<=reachBytes)=true) : Calls P f us.toArray w fun e w'=>e=.returned (.bool true)∧Below w.heap.size w w':=by obtain⟨x,wx,rx⟩:=zkF hf hv h (fun n hn=>zsP (zqK.1 hw n hn));obtain⟨Hd,nx',hz,hcall⟩:=hc.2 x _ (hG x wx);exact ziT hz hcall (rx _)
end
def Rq:Ty->List Value
 |.unit=>[]
 |.bool=>[.bool false]
 |.int k=>[.int k 0]
 |.str=>[.string ByteArray.empty]
 |.list _=>[.slice none 0 0]
 |.pair a b=>Rq a++Rq b
def zqi(v:VT):Value:=bif v.agg then .agg (Rq v.ty).toArray else match Rq v.ty with
 |[u]=>u
 |_=>.nilFunc
def zpT(a:List VT):Array Value:=(a.map zqi).toArray
theorem zn:KJ P []:=fun x h=>by cases h
theorem ze{f:FuncId}{c:Con}{t:Tbl}(h:c.Ok P f)(ht:KJ P t):KJ P ((f,c)::t):=fun x hx=>by
 rcases zqA.1 hx with rfl | hx
 ·exact h
 ·exact ht x hx
end Go.Fz.Sy
namespace Go.Fz.Sy
variable {P:Program}
structure jH where
 f:FuncId
 args:List Value
 v:Value
def jH.Ok(P:Program)(m:jH):Prop:=(vS (jy 0 16) m.args=true∧jy 0 16 m.v=true)∧(∃fn,P.funcs[m.f]?=some fn∧fn.body.isSome=true)∧∃Hd nx',nx'<=FZ∧wM P m.f m.args [] 0 m.v Hd nx'
def zdD:List jH->FuncId->List Value->Option Value
 |[],_,_=>none
 |m::ms,f,args=>bif Nat.beq m.f f&&XW (veq 17) m.args args then some m.v else zdD ms f args
theorem Nf:∀{ms:List jH},(∀m∈ms,m.Ok P)->∀{f:FuncId} {args:List Value} {v:Value},zdD ms f args=some v->(∃fn,P.funcs[f]?=some fn∧fn.body.isSome=true)∧∀H nx,wM P f args H nx v H nx
 |[],_,_,_,_,h=>by cases h
 |m::ms,hm,f,args,v,h=>by
  simp only[zdD]at h;cases hb:Nat.beq m.f f&&XW (veq 17) m.args args with
  |false=>rw[hb]at h;exact Nf (fun x hx=>hm x (by simp[hx])) h
  |true=>
   rw[hb]at h;cases h;simp only[FT]at hb;have h1:=zpM hb.1;have h2:=pY (Pw 17) hb.2;obtain⟨⟨h3,h4⟩,h5,Hd,nx',hz,h6⟩:=hm m (by simp);subst h1 h2;exact⟨h5,zbO hz h6 (fun φ φ0 hF us hl=>kR (zd7 hF 16) h3 hl) fun φ φ0 hF v' hv=>zd7 hF 16 _ _ h4 hv⟩
def zdE(b s:Nat)(tm:List Value)(H:Hp):List Value×Hp:=match H.get b with
 |some (.cells cs false)=>(tm.map (frV b s cs 16),frH (fun _ k=>match k with | .cells _ _=>true | _=>false) b s cs (H.del b))
 |_=>(tm,H)
theorem zmT{φ:Ren}{H:Hp}{K:Nat->Prop}{w:World}(g:zF φ H K w){tm:List Value}{ts:Array Value}(ht:qS φ tm ts)(b s:Nat):∃φ',(∀n,Ext K φ φ' n n)∧zF φ' (zdE b s tm H).2 K w∧qS φ' (zdE b s tm H).1 ts:=by
 unfold zdE;split
 ·rename_i cs hb;obtain⟨φ',h1,h2,h3⟩:=zby g hb;refine⟨φ',h1,zed (h3 s) (h1 0).1 g h2,by simp[ht.1],fun i v hv=>?_⟩;simp only[zrF,zqp]at hv;obtain⟨u,hu,rfl⟩:=hv;rcases ht.2 i u hu with rfl | ⟨v',h4,h5⟩
  ·exact .inl rfl
  ·exact .inr ⟨v',h4,h3 s 16 u v' h5⟩
 grind[Ext.refl]
def zdF:List (Nat×Nat)->List Value->Hp->List Value×Hp
 |[],tm,H=>(tm,H)
 |(b,s)::r,tm,H=>match zdE b s tm H with
  |(t1,H1)=>zdF r t1 H1
theorem zfw{K:Nat->Prop}{w:World}{ts:Array Value}:∀(l:List (Nat×Nat)) {φ:Ren} {H:Hp} {tm:List Value},zF φ H K w->qS φ tm ts->∃φ',(∀n,Ext K φ φ' n n)∧zF φ' (zdF l tm H).2 K w∧qS φ' (zdF l tm H).1 ts
 |[],φ,H,tm,g,ht=>⟨φ,fun n=>Ext.refl _ _ _ _,g,ht⟩
 |(b,s)::r,φ,H,tm,g,ht=>by obtain⟨φ1,h1,h2,h3⟩:=zmT g ht b s;obtain⟨φ2,k1,k2,k3⟩:=zfw r h2 h3;exact⟨φ2,fun n=>(h1 n).comp (k1 n),k2,k3⟩
def ziU(R:Res):Res:=match zdF (yl R.H 0 100000 R.tm ([],[])).2 R.tm R.H with
 |(t,H)=>{R with tm:=t,H:=H}
theorem ziV{r:Option Nat}{c:Code}{tm:List Value}{ds:List Nat}{H:Hp}{nx:Nat}{R:Res}(h:qY P r c tm ds H nx R):qY P r c tm ds H nx (ziU R):=by refine⟨h.1,fun φ w K a rc g hf ht hd hr=>zqX (h.2 φ w K a rc g hf ht hd hr) ?_⟩;rintro e a' w' ⟨rfl,φ',k1,k2,k3,k4,k5⟩;obtain⟨φ2,m1,m2,m3⟩:=zfw (yl R.H 0 100000 R.tm ([],[])).2 k2 k3;exact⟨rfl,φ2,k1.comp ((m1 R.nx).wide h.1 (FW _)),m2,m3,k4.mono (m1 0).1,k5⟩
def HC(z:List Nat)(x:Code)(R:Res):Res:=match x with
 |.region i _ _=>bif z.any (Nat.beq i)then ziU R else R
 |_=>R
theorem zmU{r:Option Nat}{x c:Code}{z:List Nat}{tm:List Value}{ds:List Nat}{H:Hp}{nx:Nat}{R:Res}(h:qY P r c tm ds H nx R):qY P r c tm ds H nx (HC z x R):=by
 cases x with
 |region i _ _=>
  show qY P r c tm ds H nx (bif z.any (Nat.beq i)then ziU R else R);grind[Nat.beq,ziV]
 |_=>exact h
theorem zov(z:List Nat)(x:Code)(R:Res):(HC z x R).e=R.e:=by
 cases x with
 |region i _ _=>
  show(bif z.any (Nat.beq i)then ziU R else R).e=R.e;cases z.any (Nat.beq i)<;>rfl
 |_=>rfl
def zdG(P:Program)(E:Ev)(z:List Nat):Code->List Value->List Nat->Hp->Nat->Option Res
 |.seq x y,tm,ds,H,nx=>match jG P E none x tm ds H nx with
  |some R=>match R.e with
   |.normal=>zdG P E z y (HC z x R).tm (HC z x R).ds (HC z x R).H (HC z x R).nx
   |_=>some R
  |none=>none
 |c,tm,ds,H,nx=>jG P E none c tm ds H nx
theorem zmV{E:Ev}(hE:E.Ok P)(hs:jz P){z:List Nat}(c:Code):∀{tm:List Value} {ds:List Nat} {H:Hp} {nx:Nat} {R:Res},zdG P E z c tm ds H nx=some R->qY P none c tm ds H nx R:=by
 induction c with
 |seq x y _ ih=>
  intro tm ds H nx R h;simp only[zdG]at h;split at h;case h_2=>cases h
  rename_i R1 h1;have c1:=gq hE hs x h1;split at h
  ·rename_i he;exact pP (zmU c1) (by rw[zov];exact he) (ih h)
  grind[Yz]
 |_=>intro tm ds H nx R h;exact gq hE hs _ h
def DC(P:Program)(cfg:FuncId->Nat)(E:Ev)(z:List Nat)(f:FuncId)(args:List Value)(H:Hp)(nx:Nat):Option (Value×Hp×Nat):=
 match P.funcs[f]? with
 |some fn=>match fn.body with
  |some c=>match zdG P E z c (args++List.replicate (fn.ntmps - args.length) undef) [] H nx with
   |some R=>match (match R.e with | .normal=>true | .ret=>true | _=>false)with
    |true=>match Ku R.ds R.H with
     |some H1=>match Gm P H1 R.tm fn.results.toList with
      |some vs=>match dM (cfg f) nx (gF vs) H1 with
       |(v2,H2)=>some (v2,gc nx v2 H2,R.nx)
      |none=>none
     |none=>none
    |false=>none
   |none=>none
  |none=>none
 |none=>none
theorem DD{cfg:FuncId->Nat}{E:Ev}(hE:E.Ok P)(hs:jz P){z:List Nat}{f:FuncId}{args:List Value}{H:Hp}{nx:Nat}{v:Value}{H':Hp}{nx':Nat}(h:DC P cfg E z f args H nx=some (v,H',nx')) : (∃fn,P.funcs[f]?=some fn∧fn.body.isSome=true)∧wM P f args H nx v H' nx':=by
 unfold DC at h;split at h;case h_2=>cases h
 rename_i fn hfn;split at h;case h_2=>cases h
 rename_i c hc;split at h;case h_2=>cases h
 rename_i R hR;split at h;case h_2=>cases h
 rename_i he;split at h;case h_2=>cases h
 rename_i H1 hk;split at h;case h_2=>cases h
 rename_i vs hv;cases he2:dM (cfg f) nx (gF vs) H1 with
 |mk v2 H2=>
 rw[he2]at h;cases h;refine⟨⟨fn,hfn,by rw[hc];rfl⟩,rf (PA (CC hfn hc (zmV hE hs c hR) ?_ hk hv (fun _ _ h=>h)) _ he2) (zjU nx _ _)⟩;grind
def evD(P:Program)(cfg:FuncId->Nat)(z:FuncId->List Nat)(ms:List jH):Nat->Ev
 |0=>⟨fun _ _ _ _=>none,fun _ _ _ _ _ _=>none,fun _ _ _ _ _ _=>none,fun _ _ _ _ _ _=>none⟩
 |n
   + 1=>{CN P cfg (evD P cfg z ms n)with call:=fun f args H nx=>match zdD ms f args with
   |some v=>some (v,H,nx)
   |none=>DC P cfg (evD P cfg z ms n) (z f) f args H nx}
theorem zfx{cfg:FuncId->Nat}{z:FuncId->List Nat}(hs:jz P){ms:List jH}(hms:∀m∈ms,m.Ok P):∀n,(evD P cfg z ms n).Ok P
 |0=>⟨(fun h=>by cases h),(fun h=>by cases h),(fun h=>by cases h),(fun h=>by cases h),(fun h=>by cases h)⟩
 |n+1=>by
  have h0:=zfx (cfg:=cfg) (z:=z) hs hms n;have hE:=zjV (cfg:=cfg) h0 hs;refine⟨fun{f args H nx v H' nx'} h=>?_,fun{f args H nx v H' nx'} h=>?_,fun h=>hE.code h,fun h=>hE.loop h,fun h=>hE.scp h⟩
  ·simp only[evD]at h;split at h
   ·rename_i r hr;cases h;exact(Nf hms hr).2 _ _
   ·exact(DD h0 hs h).2
  ·simp only[evD]at h;split at h
   ·rename_i r hr;cases h;exact(Nf hms hr).1
   ·exact(DD h0 hs h).1
def znI(P:Program)(cfg:FuncId->Nat)(z:FuncId->List Nat)(ms:List jH)(n:Nat)(m:jH):Bool:=vS (jy 0 16) m.args&&jy 0 16 m.v&&(match (evD P cfg z ms n).call m.f m.args [] 0 with
 |some (v,_,nx)=>veq 17 v m.v&&Nat.ble nx FZ
 |none=>false)
theorem jr{cfg:FuncId->Nat}{z:FuncId->List Nat}{n:Nat}{ms:List jH}{m:jH}(hs:jz P)(hms:∀m∈ms,m.Ok P)(h:znI P cfg z ms n m=true):m.Ok P:=by
 simp only[znI,FT]at h;obtain⟨⟨h1,h2⟩,h3⟩:=h;split at h3
 ·rename_i v H' nx he;simp only[FT]at h3;have:=Pw 17 _ _ h3.1;subst this;exact⟨⟨h1,h2⟩,(zfx hs hms n).named he,H',nx,zqH h3.2,(zfx hs hms n).call he⟩
 ·cases h3
theorem jK:∀x∈([]:List jH),x.Ok P:=fun _ h=>by cases h
theorem qf{m:jH}{ms:List jH}(h:m.Ok P)(hs:∀x∈ms,x.Ok P):∀x∈m::ms,x.Ok P:=by grind
theorem zkH{f:FuncId}(h:jH.Ok P ⟨f,[],.bool true⟩):Con.Ok P f ⟨[],[⟨false,.bool⟩],fun _=>some (true,())⟩:=by obtain⟨_,h1,Hd,nx',hz,h2⟩:=h;exact⟨h1,fun x r hr=>by cases hr;exact⟨Hd,nx',hz,h2⟩⟩
end Go.Fz.Sy
namespace Go.Fz.Sy
theorem zT{z:Int}(h1 : -9223372036854775808<=z)(h2:z<=9223372036854775807):wrF .i64 z=z:=by
 rw[Zy];have e:IntKind.i64.wrap z=if z % 18446744073709551616>=9223372036854775808 then z % 18446744073709551616 - 18446744073709551616 else z % 18446744073709551616:=by unfold IntKind.wrap;show(if(true&&decide (z % 18446744073709551616>=9223372036854775808))=true then z % 18446744073709551616 - 18446744073709551616 else z % 18446744073709551616)=_;simp only[zrS,zrb]
 omega
theorem zq{α R:Type}(a:α)(f:α->Option R):opt (some a) f=f a:=rfl
theorem zho{α:Type}(l:List α)(n:Nat):atI l (n:Int)=l[n]?:=by show gl l n=_;exact xi l n
theorem Rs{α:Type}{l:List α}{z:Int}(h0:0<=z)(h:z < l.length):∃x,atI l z=some x∧l[z.toNat]?=some x:=by
 obtain⟨n,rfl⟩:=Int.eq_ofNat_of_zero_le h0;have hn:n < l.length:=by omega
 exact⟨l[n],by rw[zho];simp[hn],by simp[hn]⟩
theorem gw{α:Type}{l:List α}{n:Nat}{x:α}(h:l[n]?=some x):atI l (n:Int)=some x:=by rw[zho];exact h
theorem zb2{X S:Type}{B:S->Option (X ⊕ S)}{I:S->Prop}{J:X->Prop}{m:S->Nat}(h:∀s,I s->(∃x,B s=some (.inl x)∧J x)∨(∃s',B s=some (.inr s')∧I s'∧m s' < m s)) : ∀(N:Nat) (s:S),I s->m s < N->∃x,zI B N s=some x∧J x
 |0,s,_,hm=>by omega
 |N+1,s,hI,hm=>by
  rw[QU];rcases h s hI with⟨x,hx,hJ⟩ | ⟨s',hs,hI',hlt⟩
  ·grind
  ·rw[hs];exact zb2 h N s' hI' (by omega)
theorem zmW{X S:Type}{B:S->Option (X ⊕ S)}(I:S->Prop)(J:X->Prop)(m:S->Nat)(h:∀s,I s->(∃x,B s=some (.inl x)∧J x)∨(∃s',B s=some (.inr s')∧I s'∧m s' < m s)){s:S}(hI:I s)(hm:m s < 1180591620717411303424) : ∃x,zI B zR s=some x∧J x:=zb2 h zR s hI (zqC hm zhn)
def zt{α:Type}(o:Option α)(Q:α->Prop):Prop:=∃r,o=some r∧Q r
theorem za{α:Type}{a:α}{Q:α->Prop}(h:Q a):zt (some a) Q:=⟨a,rfl,h⟩
theorem dy{α:Type}{o:Option α}{a:α}{Q:α->Prop}(e:o=some a)(h:Q a):zt o Q:=⟨a,e,h⟩
theorem zb{α R:Type}{x:Option α}{f:α->Option R}{Q:R->Prop}(h:zt x fun a=>zt (f a) Q):zt (opt x f) Q:=by obtain⟨a,rfl,r,h1,h2⟩:=h;exact⟨r,h1,h2⟩
theorem zk{α R:Type}{x:Option α}{f:α->Option R}{J:α->Prop}{Q:R->Prop}(h:zt x J)(hf:∀a,J a->zt (f a) Q):zt (opt x f) Q:=by obtain⟨a,rfl,ha⟩:=h;exact hf a ha
theorem zd{α:Type}{b:Bool}{x y:Option α}{Q:α->Prop}(h1:b=true->zt x Q)(h2:b=false->zt y Q):zt (bif b then x else y) Q:=by grind
theorem zkI{α:Type}{o:Option α}{Q Q':α->Prop}(h:zt o Q)(hq:∀a,Q a->Q' a):zt o Q':=by obtain⟨a,e,ha⟩:=h;exact⟨a,e,hq a ha⟩
theorem qH{α:Type}{o:Option α}{a:α}(h:zt o fun r=>r=a):o=some a:=by obtain⟨r,e,rfl⟩:=h;exact e
def Round{X S:Type}(I:S->Prop)(J:X->Prop)(m:S->Nat)(s:S)(r:X ⊕ S):Prop:=(∀x,r=.inl x->J x)∧∀s',r=.inr s'->I s'∧m s' < m s
theorem Yi{X S:Type}{I:S->Prop}{J:X->Prop}{m:S->Nat}{s:S}{x:X}(h:J x):Round I J m s (.inl x):=⟨fun y e=>by cases e;exact h,fun s' e=>by cases e⟩
theorem GJ{X S:Type}{I:S->Prop}{J:X->Prop}{m:S->Nat}{s s':S}(h:I s')(hm:m s' < m s):Round I J m s (.inr s'):=⟨(fun y e=>by cases e),fun s'' e=>by grind⟩
theorem aR{X S:Type}{B:S->Option (X ⊕ S)}{s:S}(I:S->Prop)(J:X->Prop)(m:S->Nat)(hI:I s)(hm:m s < 1180591620717411303424)(h:∀s,I s->zt (B s) (Round I J m s)):zt (zI B zR s) J:=by
 obtain⟨x,h1,h2⟩:=zmW (B:=B) I J m (fun s hs=>by
  obtain⟨r,e,h3,h4⟩:=h s hs;grind) hI hm
 exact⟨x,h1,h2⟩
theorem zm{α:Type}{l:List α}{n:Nat}{x:α}{Q:α->Prop}(h:l[n]?=some x)(hq:Q x):zt (atI l (n:Int)) Q:=⟨x,gw h,hq⟩
end Go.Fz.Sy
namespace Go.Proofs.YtlfkgkedfciccaaGreat.nd
open Go Go.Fz Go.Fz.Sy
abbrev I:Ty:=.int .i64
theorem qP:jz Tryz.prog:=zeh (by kernel_rfl)
abbrev qA:Ty:=(.pair I (.pair I (.pair I I)))
abbrev aS:Type:=(Int×(Int×(Int×Int)))
abbrev zS:Ty:=(.pair I (.pair (.list .bool) (.list qA)))
abbrev qk:Type:=(Int×((List Bool)×(List aS)))
abbrev yK:Ty:=(.pair (.int .u8) (.pair (.int .u8) (.pair (.list (.int .u8)) (.pair (.list (.int .u8)) (.pair (.list (.int .u8)) (.list (.int .u8)))))))
abbrev kW:Type:=(Int×(Int×((List Int)×((List Int)×((List Int)×(List Int))))))
abbrev xb:Ty:=(.pair I (.pair I (.pair I I)))
abbrev wm:Type:=(Int×(Int×(Int×Int)))
abbrev zr:Ty:=(.pair I I)
abbrev zC:Type:=(Int×Int)
abbrev zN:Ty:=(.pair I (.pair I (.pair I (.pair I (.pair I (.pair I (.pair zr (.pair I (.list (.list I))))))))))
abbrev qh:Type:=(Int×(Int×(Int×(Int×(Int×(Int×(zC×(Int×(List (List Int))))))))))
abbrev qy:Ty:=(.pair .bool (.pair .bool (.pair (.int .u8) (.pair (.int .u8) (.pair (.int .u8) (.pair (.int .u8) (.pair (.int .u8) (.int .u16))))))))
abbrev xl:Type:=(Bool×(Bool×(Int×(Int×(Int×(Int×(Int×Int)))))))
abbrev gu:Ty:=(.pair I (.pair I (.pair I (.pair I I))))
abbrev rQ:Type:=(Int×(Int×(Int×(Int×Int))))
abbrev QH:Ty:=(.pair I (.pair I (.pair I I)))
abbrev Ng:Type:=(Int×(Int×(Int×Int)))
abbrev jb:Ty:=(.pair (.list I) (.list QH))
abbrev qQ:Type:=((List Int)×(List Ng))
abbrev YI:Ty:=(.pair I (.pair I I))
abbrev Kc:Type:=(Int×(Int×Int))
abbrev yS:Ty:=(.pair I (.pair I (.pair I I)))
abbrev zmX:Type:=(Int×(Int×(Int×Int)))
abbrev qD:Ty:=(.pair I (.list yS))
abbrev jN:Type:=(Int×(List zmX))
abbrev uU:Ty:=(.pair (.list qD) (.pair (.list I) I))
abbrev jd:Ty:=(.pair I (.pair I (.pair I (.pair I (.pair I I)))))
abbrev yL:Type:=(Int×(Int×(Int×(Int×(Int×Int)))))
abbrev je:Ty:=(.pair I I)
abbrev ziW:Type:=(Int×Int)
abbrev qF:Ty:=(.pair (.list je) I)
abbrev jC:Type:=((List ziW)×Int)
abbrev jB:Ty:=(.pair zS (.pair xb (.pair (.list qF) I)))
abbrev wL:Type:=(qk×(wm×((List jC)×Int)))
abbrev jm:Ty:=(.pair I I)
abbrev yB:Type:=(Int×Int)
abbrev Qf:Ty:=(.pair I I)
abbrev kX:Type:=(Int×Int)
abbrev Qg:Ty:=(.pair zr (.pair Qf (.pair I I)))
abbrev db:Type:=(zC×(kX×(Int×Int)))
abbrev yM:Ty:=(.pair yK (.pair (.pair (.int .u8) (.pair (.int .u8) (.int .u8))) (.pair (.list qy) (.pair (.list (.int .i8)) (.pair .bool I)))))
abbrev we:Type:=(kW×((Int×(Int×Int))×((List xl)×((List Int)×(Bool×Int)))))
abbrev qg:Ty:=(.pair I (.pair zr zr))
abbrev jO:Type:=(Int×(zC×zC))
abbrev vy:Ty:=(.pair jB (.pair (.list zN) (.pair (.list I) (.pair (.list I) (.pair (.list qg) (.pair I I))))))
abbrev vl:Type:=(wL×((List qh)×((List Int)×((List Int)×((List jO)×(Int×Int))))))
abbrev xc:Ty:=(.pair I I)
abbrev jv:Type:=(Int×Int)
abbrev qj:Ty:=(.pair I (.pair I (.pair .bool (.pair I (.pair I (.int .u64))))))
abbrev qn:Type:=(Int×(Int×(Bool×(Int×(Int×Int)))))
abbrev zY:Ty:=(.pair I (.pair I I))
abbrev qK:Type:=(Int×(Int×Int))
abbrev zX:Ty:=(.pair I (.pair I (.pair I (.pair I (.pair I (.pair I I))))))
abbrev qu:Type:=(Int×(Int×(Int×(Int×(Int×(Int×Int))))))
abbrev qv:Ty:=(.pair (.list zX) (.pair (.list qg) (.pair I (.pair (.list I) (.list zY)))))
abbrev zH:Type:=((List qu)×((List jO)×(Int×((List Int)×(List qK)))))
abbrev jg:Ty:=(.pair I (.pair zr (.pair I xc)))
abbrev jP:Type:=(Int×(zC×(Int×jv)))
abbrev yC:Ty:=(.pair I (.pair I (.pair I I)))
abbrev xQ:Type:=(Int×(Int×(Int×Int)))
abbrev qR:Ty:=(.pair I (.pair qv (.pair (.list jg) (.pair (.list yC) (.list qj)))))
abbrev zK:Type:=(Int×(zH×((List jP)×((List xQ)×(List qn)))))
abbrev qI:Ty:=(.pair I (.pair I (.pair I (.pair I I))))
abbrev zM:Type:=(Int×(Int×(Int×(Int×Int))))
abbrev vz:Ty:=(.pair (.int .u16) (.pair (.int .u8) (.pair (.int .u8) qI)))
abbrev wu:Type:=(Int×(Int×(Int×zM)))
abbrev gx:Ty:=(.pair I I)
abbrev xM:Type:=(Int×Int)
abbrev qV:Ty:=(.pair qj (.pair I I))
abbrev qL:Type:=(qn×(Int×Int))
abbrev Kd:Ty:=(.pair I (.pair I (.pair I I)))
abbrev yT:Type:=(Int×(Int×(Int×Int)))
abbrev qz:Ty:=(.pair qR (.pair I (.pair qI (.pair I Kd))))
abbrev zO:Type:=(zK×(Int×(zM×(Int×yT))))
abbrev uh:Ty:=(.pair gx (.pair I (.pair zr zr)))
abbrev xd:Type:=(xM×(Int×(zC×zC)))
abbrev wo:Ty:=qv
abbrev jc:Type:=zH
abbrev prg:Program:=Tryz.prog
abbrev cdF(t:Ty):Dz:=⟨t,wk t,[]⟩
theorem zpk{α:Type}(x:α):∃y,y=x:=⟨x,rfl⟩
def opq{α:Type}(x:α):α:=Classical.choose (zpk x)
theorem zkJ{α:Type}(x:α):opq x=x:=Classical.choose_spec (zpk x)
theorem zA{α β:Type}{F:α->β}{x:α}{r:β}(h:F x=r):opq F x=r:=by rw[zkJ];exact h
theorem okF{f:FuncId}{a b:List VT}{t:Tbl}{pl:ym}{jq:Code->Nat->Bool}{n:Nat}(ht:KJ prg t)(hf:Dw prg f=true):Con.Ok prg f ⟨a,b,opq (sF prg t pl jq n f a b)⟩:=by rw[zkJ];exact Ro ht qP hf
abbrev DE:List VT:=[⟨false,(.list (.int .u8))⟩,⟨false,I⟩]
abbrev DF:List VT:=[⟨false,I⟩]
def DG(a0:(List Int))(a1:Int):Option (Int×Unit):=bif(zg a1 ((a0.length:Nat):Int))then opt (atI a0 a1) fun x0=>some ((wrF .i64 x0),())else some (0,())
abbrev zfy:Type:=((List Int)×Int×Unit)->Option (Int×Unit)
def jI:zfy:=opq (sF prg [] (zG [] [] [] [] []) (zy []) 30 95 DE DF)
abbrev DH:Con:=⟨DE,DF,jI⟩
theorem Rt:Con.Ok prg 95 DH:=okF zn (by kernel_rfl)
theorem Ru(a0)(a1):jI (a0,a1,())=DG a0 a1:=zA (by kernel_rfl)
abbrev DI:List VT:=[⟨true,zS⟩,⟨false,I⟩]
abbrev DJ:List VT:=[⟨false,.bool⟩]
def DK(a0:qk)(a1:Int):Option (Bool×Unit):=bif !(zg a1 0)then some ((zg a1 a0.1),())else some (false,())
abbrev zfz:Type:=(qk×Int×Unit)->Option (Bool×Unit)
def Yj:zfz:=opq (sF prg [] (zG [cdF zS,cdF qA] [] [] [] []) (zy []) 30 224 DI DJ)
abbrev DL:Con:=⟨DI,DJ,Yj⟩
theorem Rv:Con.Ok prg 224 DL:=okF zn (by kernel_rfl)
theorem Rw(a0)(a1):Yj (a0,a1,())=DK a0 a1:=zA (by kernel_rfl)
abbrev DM:List VT:=[⟨true,zS⟩,⟨true,qA⟩]
abbrev DN:List VT:=[⟨false,.bool⟩]
def DO(a0:qk)(a1:aS):Option (Bool×Unit):=opt (opt (Yj (a0,(a1.1,()))) fun x0=>bif !x0.1 then some (1,((false,()),()))else opt (Yj (a0,(a1.2.1,()))) fun x1=>bif !x1.1 then some (1,((false,()),()))else bif zj a1.1 a1.2.1 then some (1,((false,()),()))else opt (atI a0.2.1 a1.1) fun x2=>bif x2 then opt (atI a0.2.1 a1.2.1) fun x3=>bif x3 then some (1,((false,()),()))else some (0,((false,()),()))else some (0,((false,()),()))) fun x4=>bif Nat.beq x4.1 0 then bif !(zg a1.2.2.1 1)then bif !(zg 1000 a1.2.2.1)then bif !(zg a1.2.2.2 0)then some ((!(zg 10000 a1.2.2.2)),())else some (false,())else some (false,())else some (false,())else some (x4.2.1.1,())
abbrev zfA:Type:=(qk×aS×Unit)->Option (Bool×Unit)
def xH:zfA:=opq (sF prg [(224,DL)] (zG [cdF zS,cdF qA] [] [] [] [224]) (zy []) 30 159 DM DN)
abbrev ej:Con:=⟨DM,DN,xH⟩
theorem lC:Con.Ok prg 159 ej:=okF (ze Rv zn) (by kernel_rfl)
theorem Rx(a0)(a1):xH (a0,a1,())=DO a0 a1:=zA (by kernel_rfl)
abbrev sS:List VT:=[⟨true,qA⟩,⟨false,I⟩,⟨false,I⟩]
abbrev sT:List VT:=[⟨false,.bool⟩]
def sU(a0:aS)(a1:Int)(a2:Int):Option (Bool×Unit):=bif zj a0.1 a1 then bif zj a0.2.1 a2 then some (true,())else bif zj a0.1 a2 then some ((zj a0.2.1 a1),())else some (false,())else bif zj a0.1 a2 then some ((zj a0.2.1 a1),())else some (false,())
abbrev zco:Type:=(aS×Int×Int×Unit)->Option (Bool×Unit)
def wb:zco:=opq (sF prg [] (zG [cdF qA] [] [] [] []) (zy []) 30 160 sS sT)
abbrev bp:Con:=⟨sS,sT,wb⟩
theorem eA:Con.Ok prg 160 bp:=okF zn (by kernel_rfl)
theorem Nh(a0)(a1)(a2):wb (a0,a1,a2,())=sU a0 a1 a2:=zA (by kernel_rfl)
abbrev ZI:List VT:=[⟨true,yK⟩]
abbrev ZJ:List VT:=[⟨true,zS⟩]
def aT(a0:kW):Option (qk×Unit):=opt (zI (fun s0:((Unit×(Int×Unit))×((Int×((List Bool)×((List (Int×(Int×(Int×Int))))×Unit)))×Unit))=>bif zg s0.1.2.1 s0.2.1.1 then bif(qe s0.2.1.2.1.length (((!(zg s0.1.2.1 (wrF .i64 (1+(wrF .i64 (Int.tmod a0.1 6))))))::[]).length) 1)then some (.inr (((),((wrF .i64 (s0.1.2.1+1)),())),((s0.2.1.1,((s0.2.1.2.1++((!(zg s0.1.2.1 (wrF .i64 (1+(wrF .i64 (Int.tmod a0.1 6))))))::[])),(s0.2.1.2.2.1,()))),())))else none else some (.inl (0,(((),(s0.1.2.1,())),((s0.2.1.1,(s0.2.1.2.1,(s0.2.1.2.2.1,()))),()))))) zR (((),(0,())),(((wrF .i64 ((wrF .i64 (1+(wrF .i64 (Int.tmod a0.1 6))))+(wrF .i64 (2+(wrF .i64 (Int.tmod a0.2.1 5)))))),([],([],()))),()))) fun x1=>opt (zI (fun s2:(((Int×(Int×((List Int)×((List Int)×((List Int)×(List Int))))))×(Unit×(Int×Unit)))×((Int×((List Bool)×((List (Int×(Int×(Int×Int))))×Unit)))×Unit))=>bif(zg s2.1.2.2.1 (wrF .i64 (1+(wrF .i64 (Int.tmod a0.1 6)))))then opt (jI (s2.1.1.2.2.2.2.1,(((s2.2.1.2.2.1.length:Nat):Int),()))) fun x3=>opt (jI (s2.1.1.2.2.2.2.2,(((s2.2.1.2.2.1.length:Nat):Int),()))) fun x4=>bif(zj ((s2.2.1.2.2.1.length:Nat):Int) 24)then some (.inr ((s2.1.1,((),((wrF .i64 (s2.1.2.2.1+1)),()))),((s2.2.1.1,(s2.2.1.2.1,(s2.2.1.2.2.1,()))),())))else opt (xH ((s2.2.1.1,(s2.2.1.2.1,s2.2.1.2.2.1)),(((wrF .i64 (s2.1.2.2.1 - 1)),(s2.1.2.2.1,((wrF .i64 (1+(Int.tmod x3.1 20))),(Int.tmod x4.1 50)))),()))) fun x5=>bif !x5.1 then some (.inr ((s2.1.1,((),((wrF .i64 (s2.1.2.2.1+1)),()))),((s2.2.1.1,(s2.2.1.2.1,(s2.2.1.2.2.1,()))),())))else opt (zI (fun s6:(((Int×((List Bool)×(List (Int×(Int×(Int×Int))))))×(Int×Unit))×Unit)=>bif(zg s6.1.2.1 ((s2.2.1.2.2.1.length:Nat):Int))then opt (atI s2.2.1.2.2.1 s6.1.2.1) fun x7=>opt (gl s2.2.1.2.2.1 (Int.toNat s6.1.2.1)) fun x8=>opt (wb (x8,((wrF .i64 (s2.1.2.2.1 - 1)),(s2.1.2.2.1,())))) fun x9=>bif x9.1 then some (.inl s6)else some (.inr ((s6.1.1,((wrF .i64 (s6.1.2.1+1)),())),()))else some (.inl s6)) zR (((0,([],[])),(0,())),())) fun x10=>bif(zg x10.1.2.1 ((s2.2.1.2.2.1.length:Nat):Int))then opt (atI s2.2.1.2.2.1 x10.1.2.1) fun x11=>opt (gl s2.2.1.2.2.1 (Int.toNat x10.1.2.1)) fun x12=>opt (wb (x12,((wrF .i64 (s2.1.2.2.1 - 1)),(s2.1.2.2.1,())))) fun x13=>bif x13.1 then some (.inr ((s2.1.1,((),((wrF .i64 (s2.1.2.2.1+1)),()))),((s2.2.1.1,(s2.2.1.2.1,(s2.2.1.2.2.1,()))),())))else none else bif(qe s2.2.1.2.2.1.length ((((wrF .i64 (s2.1.2.2.1 - 1)),(s2.1.2.2.1,((wrF .i64 (1+(Int.tmod x3.1 20))),(Int.tmod x4.1 50))))::[]).length) 32)then some (.inr ((s2.1.1,((),((wrF .i64 (s2.1.2.2.1+1)),()))),((s2.2.1.1,(s2.2.1.2.1,((s2.2.1.2.2.1++(((wrF .i64 (s2.1.2.2.1 - 1)),(s2.1.2.2.1,((wrF .i64 (1+(Int.tmod x3.1 20))),(Int.tmod x4.1 50))))::[])),()))),())))else none else some (.inl (0,((s2.1.1,((),(s2.1.2.2.1,()))),((s2.2.1.1,(s2.2.1.2.1,(s2.2.1.2.2.1,()))),()))))) zR ((a0,((),(1,()))),((x1.2.2.1.1,(x1.2.2.1.2.1,(x1.2.2.1.2.2.1,()))),()))) fun x14=>opt (zI (fun s15:(((Int×(Int×((List Int)×((List Int)×((List Int)×(List Int))))))×(Unit×(Int×Unit)))×((Int×((List Bool)×((List (Int×(Int×(Int×Int))))×Unit)))×Unit))=>bif(zg s15.1.2.2.1 (wrF .i64 (2+(wrF .i64 (Int.tmod a0.2.1 5)))))then opt (jI (s15.1.1.2.2.2.1,((wrF .i64 (2*s15.1.2.2.1)),()))) fun x16=>bif(zj (wrF .i64 (1+(wrF .i64 (Int.tmod a0.1 6)))) 0)then none else opt (jI (s15.1.1.2.2.2.2.1,(((s15.2.1.2.2.1.length:Nat):Int),()))) fun x17=>opt (jI (s15.1.1.2.2.2.2.2,(((s15.2.1.2.2.1.length:Nat):Int),()))) fun x18=>bif(zj ((s15.2.1.2.2.1.length:Nat):Int) 24)then some (.inr ((s15.1.1,((),((wrF .i64 (s15.1.2.2.1+1)),()))),((s15.2.1.1,(s15.2.1.2.1,(s15.2.1.2.2.1,()))),())))else opt (xH ((s15.2.1.1,(s15.2.1.2.1,s15.2.1.2.2.1)),(((wrF .i64 ((wrF .i64 (1+(wrF .i64 (Int.tmod a0.1 6))))+s15.1.2.2.1)),((Int.tmod x16.1 (wrF .i64 (1+(wrF .i64 (Int.tmod a0.1 6))))),((wrF .i64 (1+(Int.tmod x17.1 20))),(Int.tmod x18.1 50)))),()))) fun x19=>bif !x19.1 then some (.inr ((s15.1.1,((),((wrF .i64 (s15.1.2.2.1+1)),()))),((s15.2.1.1,(s15.2.1.2.1,(s15.2.1.2.2.1,()))),())))else opt (zI (fun s20:(((Int×((List Bool)×(List (Int×(Int×(Int×Int))))))×(Int×Unit))×Unit)=>bif(zg s20.1.2.1 ((s15.2.1.2.2.1.length:Nat):Int))then opt (atI s15.2.1.2.2.1 s20.1.2.1) fun x21=>opt (gl s15.2.1.2.2.1 (Int.toNat s20.1.2.1)) fun x22=>opt (wb (x22,((wrF .i64 ((wrF .i64 (1+(wrF .i64 (Int.tmod a0.1 6))))+s15.1.2.2.1)),((Int.tmod x16.1 (wrF .i64 (1+(wrF .i64 (Int.tmod a0.1 6))))),())))) fun x23=>bif x23.1 then some (.inl s20)else some (.inr ((s20.1.1,((wrF .i64 (s20.1.2.1+1)),())),()))else some (.inl s20)) zR (((0,([],[])),(0,())),())) fun x24=>bif(zg x24.1.2.1 ((s15.2.1.2.2.1.length:Nat):Int))then opt (atI s15.2.1.2.2.1 x24.1.2.1) fun x25=>opt (gl s15.2.1.2.2.1 (Int.toNat x24.1.2.1)) fun x26=>opt (wb (x26,((wrF .i64 ((wrF .i64 (1+(wrF .i64 (Int.tmod a0.1 6))))+s15.1.2.2.1)),((Int.tmod x16.1 (wrF .i64 (1+(wrF .i64 (Int.tmod a0.1 6))))),())))) fun x27=>bif x27.1 then some (.inr ((s15.1.1,((),((wrF .i64 (s15.1.2.2.1+1)),()))),((s15.2.1.1,(s15.2.1.2.1,(s15.2.1.2.2.1,()))),())))else none else bif(qe s15.2.1.2.2.1.length ((((wrF .i64 ((wrF .i64 (1+(wrF .i64 (Int.tmod a0.1 6))))+s15.1.2.2.1)),((Int.tmod x16.1 (wrF .i64 (1+(wrF .i64 (Int.tmod a0.1 6))))),((wrF .i64 (1+(Int.tmod x17.1 20))),(Int.tmod x18.1 50))))::[]).length) 32)then some (.inr ((s15.1.1,((),((wrF .i64 (s15.1.2.2.1+1)),()))),((s15.2.1.1,(s15.2.1.2.1,((s15.2.1.2.2.1++(((wrF .i64 ((wrF .i64 (1+(wrF .i64 (Int.tmod a0.1 6))))+s15.1.2.2.1)),((Int.tmod x16.1 (wrF .i64 (1+(wrF .i64 (Int.tmod a0.1 6))))),((wrF .i64 (1+(Int.tmod x17.1 20))),(Int.tmod x18.1 50))))::[])),()))),())))else none else some (.inl (0,((s15.1.1,((),(s15.1.2.2.1,()))),((s15.2.1.1,(s15.2.1.2.1,(s15.2.1.2.2.1,()))),()))))) zR ((x14.2.1.1,((),(0,()))),((x14.2.2.1.1,(x14.2.2.1.2.1,(x14.2.2.1.2.2.1,()))),()))) fun x28=>opt (bif(zg 2 (wrF .i64 (1+(wrF .i64 (Int.tmod a0.1 6)))))then bif zj (Int.tmod x28.2.1.1.1 2) 0 then opt (jI (x28.2.1.1.2.2.2.2.1,(((x28.2.2.1.2.2.1.length:Nat):Int),()))) fun x29=>opt (jI (x28.2.1.1.2.2.2.2.2,(((x28.2.2.1.2.2.1.length:Nat):Int),()))) fun x30=>bif(zj ((x28.2.2.1.2.2.1.length:Nat):Int) 24)then some (0,((x28.2.1.1,((),())),((x28.2.2.1.1,(x28.2.2.1.2.1,(x28.2.2.1.2.2.1,()))),())))else opt (xH ((x28.2.2.1.1,(x28.2.2.1.2.1,x28.2.2.1.2.2.1)),(((wrF .i64 ((wrF .i64 (1+(wrF .i64 (Int.tmod a0.1 6)))) - 1)),(0,((wrF .i64 (1+(Int.tmod x29.1 20))),(Int.tmod x30.1 50)))),()))) fun x31=>bif !x31.1 then some (0,((x28.2.1.1,((),())),((x28.2.2.1.1,(x28.2.2.1.2.1,(x28.2.2.1.2.2.1,()))),())))else opt (zI (fun s32:(((Int×((List Bool)×(List (Int×(Int×(Int×Int))))))×(Int×Unit))×Unit)=>bif(zg s32.1.2.1 ((x28.2.2.1.2.2.1.length:Nat):Int))then opt (atI x28.2.2.1.2.2.1 s32.1.2.1) fun x33=>opt (gl x28.2.2.1.2.2.1 (Int.toNat s32.1.2.1)) fun x34=>opt (wb (x34,((wrF .i64 ((wrF .i64 (1+(wrF .i64 (Int.tmod a0.1 6)))) - 1)),(0,())))) fun x35=>bif x35.1 then some (.inl s32)else some (.inr ((s32.1.1,((wrF .i64 (s32.1.2.1+1)),())),()))else some (.inl s32)) zR (((0,([],[])),(0,())),())) fun x36=>bif(zg x36.1.2.1 ((x28.2.2.1.2.2.1.length:Nat):Int))then opt (atI x28.2.2.1.2.2.1 x36.1.2.1) fun x37=>opt (gl x28.2.2.1.2.2.1 (Int.toNat x36.1.2.1)) fun x38=>opt (wb (x38,((wrF .i64 ((wrF .i64 (1+(wrF .i64 (Int.tmod a0.1 6)))) - 1)),(0,())))) fun x39=>bif x39.1 then some (0,((x28.2.1.1,((),())),((x28.2.2.1.1,(x28.2.2.1.2.1,(x28.2.2.1.2.2.1,()))),())))else none else bif(qe x28.2.2.1.2.2.1.length ((((wrF .i64 ((wrF .i64 (1+(wrF .i64 (Int.tmod a0.1 6)))) - 1)),(0,((wrF .i64 (1+(Int.tmod x29.1 20))),(Int.tmod x30.1 50))))::[]).length) 32)then some (0,((x28.2.1.1,((),())),((x28.2.2.1.1,(x28.2.2.1.2.1,((x28.2.2.1.2.2.1++(((wrF .i64 ((wrF .i64 (1+(wrF .i64 (Int.tmod a0.1 6)))) - 1)),(0,((wrF .i64 (1+(Int.tmod x29.1 20))),(Int.tmod x30.1 50))))::[])),()))),())))else none else some (0,((x28.2.1.1,((),())),((x28.2.2.1.1,(x28.2.2.1.2.1,(x28.2.2.1.2.2.1,()))),())))else some (0,((x28.2.1.1,((),())),((x28.2.2.1.1,(x28.2.2.1.2.1,(x28.2.2.1.2.2.1,()))),())))) fun x40=>opt (zI (fun s41:(((Int×(Int×((List Int)×((List Int)×((List Int)×(List Int))))))×(Unit×(Int×Unit)))×((Int×((List Bool)×((List (Int×(Int×(Int×Int))))×Unit)))×Unit))=>bif(zg s41.1.2.2.1 (wrF .i64 (2+(wrF .i64 (Int.tmod a0.2.1 5)))))then opt (opt (jI (s41.1.1.2.2.2.1,((wrF .i64 ((wrF .i64 (2*s41.1.2.2.1))+1)),()))) fun x42=>bif zg 0 (Int.tmod x42.1 3)then opt (jI (s41.1.1.2.2.2.1,((wrF .i64 ((wrF .i64 (2*s41.1.2.2.1))+1)),()))) fun x43=>bif(zj (wrF .i64 (1+(wrF .i64 (Int.tmod a0.1 6)))) 0)then none else opt (jI (s41.1.1.2.2.2.2.1,(((s41.2.1.2.2.1.length:Nat):Int),()))) fun x44=>opt (jI (s41.1.1.2.2.2.2.2,(((s41.2.1.2.2.1.length:Nat):Int),()))) fun x45=>bif(zj ((s41.2.1.2.2.1.length:Nat):Int) 24)then some (0,((s41.1.1,((),())),((s41.2.1.1,(s41.2.1.2.1,(s41.2.1.2.2.1,()))),())))else opt (xH ((s41.2.1.1,(s41.2.1.2.1,s41.2.1.2.2.1)),(((wrF .i64 ((wrF .i64 (1+(wrF .i64 (Int.tmod a0.1 6))))+s41.1.2.2.1)),((Int.tmod x43.1 (wrF .i64 (1+(wrF .i64 (Int.tmod a0.1 6))))),((wrF .i64 (1+(Int.tmod x44.1 20))),(Int.tmod x45.1 50)))),()))) fun x46=>bif !x46.1 then some (0,((s41.1.1,((),())),((s41.2.1.1,(s41.2.1.2.1,(s41.2.1.2.2.1,()))),())))else opt (zI (fun s47:(((Int×((List Bool)×(List (Int×(Int×(Int×Int))))))×(Int×Unit))×Unit)=>bif(zg s47.1.2.1 ((s41.2.1.2.2.1.length:Nat):Int))then opt (atI s41.2.1.2.2.1 s47.1.2.1) fun x48=>opt (gl s41.2.1.2.2.1 (Int.toNat s47.1.2.1)) fun x49=>opt (wb (x49,((wrF .i64 ((wrF .i64 (1+(wrF .i64 (Int.tmod a0.1 6))))+s41.1.2.2.1)),((Int.tmod x43.1 (wrF .i64 (1+(wrF .i64 (Int.tmod a0.1 6))))),())))) fun x50=>bif x50.1 then some (.inl s47)else some (.inr ((s47.1.1,((wrF .i64 (s47.1.2.1+1)),())),()))else some (.inl s47)) zR (((0,([],[])),(0,())),())) fun x51=>bif(zg x51.1.2.1 ((s41.2.1.2.2.1.length:Nat):Int))then opt (atI s41.2.1.2.2.1 x51.1.2.1) fun x52=>opt (gl s41.2.1.2.2.1 (Int.toNat x51.1.2.1)) fun x53=>opt (wb (x53,((wrF .i64 ((wrF .i64 (1+(wrF .i64 (Int.tmod a0.1 6))))+s41.1.2.2.1)),((Int.tmod x43.1 (wrF .i64 (1+(wrF .i64 (Int.tmod a0.1 6))))),())))) fun x54=>bif x54.1 then some (0,((s41.1.1,((),())),((s41.2.1.1,(s41.2.1.2.1,(s41.2.1.2.2.1,()))),())))else none else bif(qe s41.2.1.2.2.1.length ((((wrF .i64 ((wrF .i64 (1+(wrF .i64 (Int.tmod a0.1 6))))+s41.1.2.2.1)),((Int.tmod x43.1 (wrF .i64 (1+(wrF .i64 (Int.tmod a0.1 6))))),((wrF .i64 (1+(Int.tmod x44.1 20))),(Int.tmod x45.1 50))))::[]).length) 32)then some (0,((s41.1.1,((),())),((s41.2.1.1,(s41.2.1.2.1,((s41.2.1.2.2.1++(((wrF .i64 ((wrF .i64 (1+(wrF .i64 (Int.tmod a0.1 6))))+s41.1.2.2.1)),((Int.tmod x43.1 (wrF .i64 (1+(wrF .i64 (Int.tmod a0.1 6))))),((wrF .i64 (1+(Int.tmod x44.1 20))),(Int.tmod x45.1 50))))::[])),()))),())))else none else some (0,((s41.1.1,((),())),((s41.2.1.1,(s41.2.1.2.1,(s41.2.1.2.2.1,()))),())))) fun x55=>some (.inr ((x55.2.1.1,((),((wrF .i64 (s41.1.2.2.1+1)),()))),((x55.2.2.1.1,(x55.2.2.1.2.1,(x55.2.2.1.2.2.1,()))),())))else some (.inl (0,((s41.1.1,((),(s41.1.2.2.1,()))),((s41.2.1.1,(s41.2.1.2.1,(s41.2.1.2.2.1,()))),()))))) zR ((x40.2.1.1,((),(0,()))),((x40.2.2.1.1,(x40.2.2.1.2.1,(x40.2.2.1.2.2.1,()))),()))) fun x56=>opt (zI (fun s57:(((Int×(Int×((List Int)×((List Int)×((List Int)×(List Int))))))×(Unit×(Int×Unit)))×((Int×((List Bool)×((List (Int×(Int×(Int×Int))))×Unit)))×Unit))=>bif(zg (wrF .i64 (s57.1.2.2.1+1)) ((s57.1.1.2.2.1.length:Nat):Int))then bif zg s57.1.2.2.1 12 then opt (atI s57.1.1.2.2.1 s57.1.2.2.1) fun x58=>bif(zj (wrF .i64 (1+(wrF .i64 (Int.tmod a0.1 6)))) 0)then none else opt (atI s57.1.1.2.2.1 (wrF .i64 (s57.1.2.2.1+1))) fun x59=>bif(zj (wrF .i64 (1+(wrF .i64 (Int.tmod a0.1 6)))) 0)then none else opt (jI (s57.1.1.2.2.2.2.1,(((s57.2.1.2.2.1.length:Nat):Int),()))) fun x60=>opt (jI (s57.1.1.2.2.2.2.2,(((s57.2.1.2.2.1.length:Nat):Int),()))) fun x61=>bif(zj ((s57.2.1.2.2.1.length:Nat):Int) 24)then some (.inr ((s57.1.1,((),((wrF .i64 (s57.1.2.2.1+2)),()))),((s57.2.1.1,(s57.2.1.2.1,(s57.2.1.2.2.1,()))),())))else opt (xH ((s57.2.1.1,(s57.2.1.2.1,s57.2.1.2.2.1)),(((Int.tmod (wrF .i64 x58) (wrF .i64 (1+(wrF .i64 (Int.tmod a0.1 6))))),((Int.tmod (wrF .i64 x59) (wrF .i64 (1+(wrF .i64 (Int.tmod a0.1 6))))),((wrF .i64 (1+(Int.tmod x60.1 20))),(Int.tmod x61.1 50)))),()))) fun x62=>bif !x62.1 then some (.inr ((s57.1.1,((),((wrF .i64 (s57.1.2.2.1+2)),()))),((s57.2.1.1,(s57.2.1.2.1,(s57.2.1.2.2.1,()))),())))else opt (zI (fun s63:(((Int×((List Bool)×(List (Int×(Int×(Int×Int))))))×(Int×Unit))×Unit)=>bif(zg s63.1.2.1 ((s57.2.1.2.2.1.length:Nat):Int))then opt (atI s57.2.1.2.2.1 s63.1.2.1) fun x64=>opt (gl s57.2.1.2.2.1 (Int.toNat s63.1.2.1)) fun x65=>opt (wb (x65,((Int.tmod (wrF .i64 x58) (wrF .i64 (1+(wrF .i64 (Int.tmod a0.1 6))))),((Int.tmod (wrF .i64 x59) (wrF .i64 (1+(wrF .i64 (Int.tmod a0.1 6))))),())))) fun x66=>bif x66.1 then some (.inl s63)else some (.inr ((s63.1.1,((wrF .i64 (s63.1.2.1+1)),())),()))else some (.inl s63)) zR (((0,([],[])),(0,())),())) fun x67=>bif(zg x67.1.2.1 ((s57.2.1.2.2.1.length:Nat):Int))then opt (atI s57.2.1.2.2.1 x67.1.2.1) fun x68=>opt (gl s57.2.1.2.2.1 (Int.toNat x67.1.2.1)) fun x69=>opt (wb (x69,((Int.tmod (wrF .i64 x58) (wrF .i64 (1+(wrF .i64 (Int.tmod a0.1 6))))),((Int.tmod (wrF .i64 x59) (wrF .i64 (1+(wrF .i64 (Int.tmod a0.1 6))))),())))) fun x70=>bif x70.1 then some (.inr ((s57.1.1,((),((wrF .i64 (s57.1.2.2.1+2)),()))),((s57.2.1.1,(s57.2.1.2.1,(s57.2.1.2.2.1,()))),())))else none else bif(qe s57.2.1.2.2.1.length ((((Int.tmod (wrF .i64 x58) (wrF .i64 (1+(wrF .i64 (Int.tmod a0.1 6))))),((Int.tmod (wrF .i64 x59) (wrF .i64 (1+(wrF .i64 (Int.tmod a0.1 6))))),((wrF .i64 (1+(Int.tmod x60.1 20))),(Int.tmod x61.1 50))))::[]).length) 32)then some (.inr ((s57.1.1,((),((wrF .i64 (s57.1.2.2.1+2)),()))),((s57.2.1.1,(s57.2.1.2.1,((s57.2.1.2.2.1++(((Int.tmod (wrF .i64 x58) (wrF .i64 (1+(wrF .i64 (Int.tmod a0.1 6))))),((Int.tmod (wrF .i64 x59) (wrF .i64 (1+(wrF .i64 (Int.tmod a0.1 6))))),((wrF .i64 (1+(Int.tmod x60.1 20))),(Int.tmod x61.1 50))))::[])),()))),())))else none else some (.inl (0,((s57.1.1,((),(s57.1.2.2.1,()))),((s57.2.1.1,(s57.2.1.2.1,(s57.2.1.2.2.1,()))),()))))else some (.inl (0,((s57.1.1,((),(s57.1.2.2.1,()))),((s57.2.1.1,(s57.2.1.2.1,(s57.2.1.2.2.1,()))),()))))) zR ((x56.2.1.1,((),(0,()))),((x56.2.2.1.1,(x56.2.2.1.2.1,(x56.2.2.1.2.2.1,()))),()))) fun x71=>some ((x71.2.2.1.1,(x71.2.2.1.2.1,x71.2.2.1.2.2.1)),())
abbrev aU:Type:=(kW×Unit)->Option (qk×Unit)
def yU:aU:=opq (sF prg [(95,DH),(159,ej),(160,bp)] (zG [cdF yK,⟨zS,wk zS,[1,2]⟩,cdF qA] [] [⟨5,141,none,.bool,true⟩,⟨9,141,none,.bool,true⟩,⟨13,141,none,.bool,true⟩,⟨16,141,none,.bool,true⟩,⟨19,141,none,.bool,true⟩,⟨21,141,none,.bool,true⟩,⟨24,141,none,.bool,true⟩,⟨3,59,none,qA,true⟩,⟨6,59,none,qA,true⟩,⟨8,59,none,qA,true⟩] [(5,141,5,[1,2]),(9,141,5,[2]),(13,141,5,[2]),(16,141,5,[2]),(19,141,5,[2]),(21,141,5,[2]),(24,141,5,[2]),(5,141,5,[1])] [95,159,160]) (zy [(3,59),(8,59)] [(6,59)]) 30 47 ZI ZJ)
abbrev DP:Con:=⟨ZI,ZJ,yU⟩
theorem og:Con.Ok prg 47 DP:=okF (ze Rt (ze lC (ze eA zn))) (by kernel_rfl)
theorem oh(a0):yU (a0,())=aT a0:=zA (by kernel_rfl)
abbrev Wq:List VT:=[⟨false,(.int .u8)⟩,⟨false,(.int .u8)⟩,⟨false,(.int .u8)⟩]
abbrev Wr:List VT:=[⟨true,xb⟩]
def lD(a0:Int)(a1:Int)(a2:Int):Option (wm×Unit):=some (((wrF .i64 (100+(wrF .i64 (20*(wrF .i64 a0))))),((wrF .i64 (Int.tmod a1 40)),((wrF .i64 a2),8000))),())
abbrev lE:Type:=(Int×Int×Int×Unit)->Option (wm×Unit)
def uV:lE:=opq (sF prg [] (zG [cdF xb] [] [] [] []) (zy []) 30 48 Wq Wr)
abbrev Ry:Con:=⟨Wq,Wr,uV⟩
theorem DQ:Con.Ok prg 48 Ry:=okF zn (by kernel_rfl)
theorem DR(a0)(a1)(a2):uV (a0,a1,a2,())=lD a0 a1 a2:=zA (by kernel_rfl)
abbrev DT:List VT:=[⟨true,zS⟩,⟨false,I⟩]
abbrev DU:List VT:=[⟨false,I⟩]
def DV(a0:qk)(a1:Int):Option (Int×Unit):=opt (atI a0.2.2 (wrF .i64 (Int.tdiv a1 2))) fun x0=>bif zj (Int.tmod a1 2) 1 then some (x0.2.1,())else some (x0.1,())
abbrev zfB:Type:=(qk×Int×Unit)->Option (Int×Unit)
def yd:zfB:=opq (sF prg [] (zG [cdF zS,cdF qA] [] [] [] []) (zy []) 30 18 DT DU)
abbrev gM:Con:=⟨DT,DU,yd⟩
theorem uW:Con.Ok prg 18 gM:=okF zn (by kernel_rfl)
theorem Rz(a0)(a1):yd (a0,a1,())=DV a0 a1:=zA (by kernel_rfl)
abbrev sV:List VT:=[⟨true,zS⟩,⟨false,I⟩]
abbrev sW:List VT:=[⟨false,(.list I)⟩]
def sX(a0:qk)(a1:Int):Option ((List Int)×Unit):=opt (zI (fun s0:((Int×Unit)×((List Int)×Unit))=>bif(zg s0.1.1 (wrF .i64 (2*((a0.2.2.length:Nat):Int))))then opt (opt (yd (a0,(s0.1.1,()))) fun x1=>bif zj x1.1 a1 then bif(qe s0.2.1.length ((s0.1.1::[]).length) 8)then some (0,((),((s0.2.1++(s0.1.1::[])),())))else none else some (0,((),(s0.2.1,())))) fun x2=>some (.inr (((wrF .i64 (s0.1.1+1)),()),(x2.2.2.1,())))else some (.inl (0,((s0.1.1,()),(s0.2.1,()))))) zR ((0,()),([],()))) fun x3=>some (x3.2.2.1,())
abbrev zcp:Type:=(qk×Int×Unit)->Option ((List Int)×Unit)
def kp:zcp:=opq (sF prg [(18,gM)] (zG [cdF zS,cdF qA] [] [⟨3,25,some 4,I,false⟩,⟨3,25,some 5,I,true⟩,⟨5,25,some 4,I,false⟩,⟨5,25,some 5,I,true⟩] [] [18]) (zy []) 30 227 sV sW)
abbrev sY:Con:=⟨sV,sW,kp⟩
theorem Ni:Con.Ok prg 227 sY:=okF (ze uW zn) (by kernel_rfl)
theorem Nj(a0)(a1):kp (a0,a1,())=sX a0 a1:=zA (by kernel_rfl)
abbrev RA:List VT:=[⟨true,zS⟩,⟨false,I⟩]
abbrev RB:List VT:=[⟨false,I⟩]
def RC(a0:qk)(a1:Int):Option (Int×Unit):=opt (atI a0.2.2 (wrF .i64 (Int.tdiv a1 2))) fun x0=>bif zj (Int.tmod a1 2) 1 then some (x0.1,())else some (x0.2.1,())
abbrev ziX:Type:=(qk×Int×Unit)->Option (Int×Unit)
def jQ:ziX:=opq (sF prg [] (zG [cdF zS,cdF qA] [] [] [] []) (zy []) 30 24 RA RB)
abbrev YJ:Con:=⟨RA,RB,jQ⟩
theorem JA:Con.Ok prg 24 YJ:=okF zn (by kernel_rfl)
theorem zcq(a0)(a1):jQ (a0,a1,())=RC a0 a1:=zA (by kernel_rfl)
abbrev RD:List VT:=[⟨false,(.list I)⟩,⟨false,I⟩]
abbrev RE:List VT:=[⟨false,.bool⟩]
def RF(a0:(List Int))(a1:Int):Option (Bool×Unit):=opt (zI (fun s0:((Bool×(Int×Unit))×Unit)=>bif(zg s0.1.2.1 ((a0.length:Nat):Int))then opt (atI a0 s0.1.2.1) fun x1=>bif zj x1 a1 then some (.inl (1,((true,(s0.1.2.1,())),())))else some (.inr ((s0.1.1,((wrF .i64 (s0.1.2.1+1)),())),()))else some (.inl (0,((s0.1.1,(s0.1.2.1,())),())))) zR ((false,(0,())),())) fun x2=>bif Nat.beq x2.1 0 then some (false,())else some (x2.2.1.1,())
abbrev ziY:Type:=((List Int)×Int×Unit)->Option (Bool×Unit)
def vA:ziY:=opq (sF prg [] (zG [] [] [] [] []) (zy []) 30 225 RD RE)
abbrev KK:Con:=⟨RD,RE,vA⟩
theorem XZ:Con.Ok prg 225 KK:=okF zn (by kernel_rfl)
theorem zcr(a0)(a1):vA (a0,a1,())=RF a0 a1:=zA (by kernel_rfl)
abbrev DW:List VT:=[⟨true,zS⟩,⟨false,(.int .u8)⟩,⟨false,(.int .u8)⟩]
abbrev DX:List VT:=[⟨false,(.list I)⟩]
def DY(a0:qk)(a1:Int)(a2:Int):Option ((List Int)×Unit):=bif zj a0.1 0 then none else opt (zI (fun s0:(((Int×((List Bool)×(List (Int×(Int×(Int×Int))))))×((List Int)×(Int×Unit)))×((List Int)×((List Int)×Unit)))=>bif(zg ((s0.2.1.length:Nat):Int) 8)then bif(zj ((s0.2.1.length:Nat):Int) 0)then opt (kp (s0.1.1,(s0.1.2.2.1,()))) fun x1=>opt (zI (fun s2:((Int×Unit)×((List Int)×((List Int)×Unit)))=>bif(zg s2.1.1 ((x1.1.length:Nat):Int))then opt (opt (atI x1.1 s2.1.1) fun x3=>opt (jQ (s0.1.1,(x3,()))) fun x4=>opt (vA (s2.2.1,(x4.1,()))) fun x5=>bif !x5.1 then opt (atI x1.1 s2.1.1) fun x6=>bif(qe s2.2.2.1.length ((x6::[]).length) 8)then some (0,((),(s2.2.1,((s2.2.2.1++(x6::[])),()))))else none else some (0,((),(s2.2.1,(s2.2.2.1,()))))) fun x7=>some (.inr (((wrF .i64 (s2.1.1+1)),()),(x7.2.2.1,(x7.2.2.2.1,()))))else some (.inl (0,((s2.1.1,()),(s2.2.1,(s2.2.2.1,())))))) zR ((0,()),(s0.2.2.1,([],())))) fun x8=>bif(zj ((x8.2.2.2.1.length:Nat):Int) 0)then some (.inl s0)else bif(zj ((x8.2.2.2.1.length:Nat):Int) 0)then none else opt (atI x8.2.2.2.1 (Int.tmod (wrF .i64 ((wrF .i64 a2)+(wrF .i64 (3*((s0.2.1.length:Nat):Int))))) ((x8.2.2.2.1.length:Nat):Int))) fun x9=>opt (gl x8.2.2.2.1 (Int.toNat (Int.tmod (wrF .i64 ((wrF .i64 a2)+(wrF .i64 (3*((s0.2.1.length:Nat):Int))))) ((x8.2.2.2.1.length:Nat):Int)))) fun x10=>bif(qe s0.2.1.length ((x10::[]).length) 8)then opt (jQ (s0.1.1,(x10,()))) fun x11=>bif(qe x8.2.2.1.length ((x11.1::[]).length) 8)then some (.inr ((s0.1.1,(s0.1.2.1,(x11.1,()))),((s0.2.1++(x10::[])),((x8.2.2.1++(x11.1::[])),()))))else none else none else opt (atI s0.1.1.2.1 s0.1.2.2.1) fun x12=>bif !x12 then opt (kp (s0.1.1,(s0.1.2.2.1,()))) fun x13=>opt (zI (fun s14:((Int×Unit)×((List Int)×((List Int)×Unit)))=>bif(zg s14.1.1 ((x13.1.length:Nat):Int))then opt (opt (atI x13.1 s14.1.1) fun x15=>opt (jQ (s0.1.1,(x15,()))) fun x16=>opt (vA (s14.2.1,(x16.1,()))) fun x17=>bif !x17.1 then opt (atI x13.1 s14.1.1) fun x18=>bif(qe s14.2.2.1.length ((x18::[]).length) 8)then some (0,((),(s14.2.1,((s14.2.2.1++(x18::[])),()))))else none else some (0,((),(s14.2.1,(s14.2.2.1,()))))) fun x19=>some (.inr (((wrF .i64 (s14.1.1+1)),()),(x19.2.2.1,(x19.2.2.2.1,()))))else some (.inl (0,((s14.1.1,()),(s14.2.1,(s14.2.2.1,())))))) zR ((0,()),(s0.2.2.1,([],())))) fun x20=>bif(zj ((x20.2.2.2.1.length:Nat):Int) 0)then some (.inl s0)else bif(zj ((x20.2.2.2.1.length:Nat):Int) 0)then none else opt (atI x20.2.2.2.1 (Int.tmod (wrF .i64 ((wrF .i64 a2)+(wrF .i64 (3*((s0.2.1.length:Nat):Int))))) ((x20.2.2.2.1.length:Nat):Int))) fun x21=>opt (gl x20.2.2.2.1 (Int.toNat (Int.tmod (wrF .i64 ((wrF .i64 a2)+(wrF .i64 (3*((s0.2.1.length:Nat):Int))))) ((x20.2.2.2.1.length:Nat):Int)))) fun x22=>bif(qe s0.2.1.length ((x22::[]).length) 8)then opt (jQ (s0.1.1,(x22,()))) fun x23=>bif(qe x20.2.2.1.length ((x23.1::[]).length) 8)then some (.inr ((s0.1.1,(s0.1.2.1,(x23.1,()))),((s0.2.1++(x22::[])),((x20.2.2.1++(x23.1::[])),()))))else none else none else some (.inl s0)else some (.inl s0)) zR ((a0,([],((Int.tmod (wrF .i64 a1) a0.1),()))),([],(((Int.tmod (wrF .i64 a1) a0.1)::[]),())))) fun x24=>bif(zg ((x24.2.1.length:Nat):Int) 8)then bif(zj ((x24.2.1.length:Nat):Int) 0)then opt (kp (x24.1.1,(x24.1.2.2.1,()))) fun x25=>opt (zI (fun s26:((Int×Unit)×((List Int)×((List Int)×Unit)))=>bif(zg s26.1.1 ((x25.1.length:Nat):Int))then opt (opt (atI x25.1 s26.1.1) fun x27=>opt (jQ (x24.1.1,(x27,()))) fun x28=>opt (vA (s26.2.1,(x28.1,()))) fun x29=>bif !x29.1 then opt (atI x25.1 s26.1.1) fun x30=>bif(qe s26.2.2.1.length ((x30::[]).length) 8)then some (0,((),(s26.2.1,((s26.2.2.1++(x30::[])),()))))else none else some (0,((),(s26.2.1,(s26.2.2.1,()))))) fun x31=>some (.inr (((wrF .i64 (s26.1.1+1)),()),(x31.2.2.1,(x31.2.2.2.1,()))))else some (.inl (0,((s26.1.1,()),(s26.2.1,(s26.2.2.1,())))))) zR ((0,()),(x24.2.2.1,([],())))) fun x32=>bif(zj ((x32.2.2.2.1.length:Nat):Int) 0)then some (x24.2.1,())else bif(zj ((x32.2.2.2.1.length:Nat):Int) 0)then none else opt (atI x32.2.2.2.1 (Int.tmod (wrF .i64 ((wrF .i64 a2)+(wrF .i64 (3*((x24.2.1.length:Nat):Int))))) ((x32.2.2.2.1.length:Nat):Int))) fun x33=>opt (gl x32.2.2.2.1 (Int.toNat (Int.tmod (wrF .i64 ((wrF .i64 a2)+(wrF .i64 (3*((x24.2.1.length:Nat):Int))))) ((x32.2.2.2.1.length:Nat):Int)))) fun x34=>bif(qe x24.2.1.length ((x34::[]).length) 8)then opt (jQ (x24.1.1,(x34,()))) fun x35=>bif(qe x32.2.2.1.length ((x35.1::[]).length) 8)then none else none else none else opt (atI x24.1.1.2.1 x24.1.2.2.1) fun x36=>bif !x36 then opt (kp (x24.1.1,(x24.1.2.2.1,()))) fun x37=>opt (zI (fun s38:((Int×Unit)×((List Int)×((List Int)×Unit)))=>bif(zg s38.1.1 ((x37.1.length:Nat):Int))then opt (opt (atI x37.1 s38.1.1) fun x39=>opt (jQ (x24.1.1,(x39,()))) fun x40=>opt (vA (s38.2.1,(x40.1,()))) fun x41=>bif !x41.1 then opt (atI x37.1 s38.1.1) fun x42=>bif(qe s38.2.2.1.length ((x42::[]).length) 8)then some (0,((),(s38.2.1,((s38.2.2.1++(x42::[])),()))))else none else some (0,((),(s38.2.1,(s38.2.2.1,()))))) fun x43=>some (.inr (((wrF .i64 (s38.1.1+1)),()),(x43.2.2.1,(x43.2.2.2.1,()))))else some (.inl (0,((s38.1.1,()),(s38.2.1,(s38.2.2.1,())))))) zR ((0,()),(x24.2.2.1,([],())))) fun x44=>bif(zj ((x44.2.2.2.1.length:Nat):Int) 0)then some (x24.2.1,())else bif(zj ((x44.2.2.2.1.length:Nat):Int) 0)then none else opt (atI x44.2.2.2.1 (Int.tmod (wrF .i64 ((wrF .i64 a2)+(wrF .i64 (3*((x24.2.1.length:Nat):Int))))) ((x44.2.2.2.1.length:Nat):Int))) fun x45=>opt (gl x44.2.2.2.1 (Int.toNat (Int.tmod (wrF .i64 ((wrF .i64 a2)+(wrF .i64 (3*((x24.2.1.length:Nat):Int))))) ((x44.2.2.2.1.length:Nat):Int)))) fun x46=>bif(qe x24.2.1.length ((x46::[]).length) 8)then opt (jQ (x24.1.1,(x46,()))) fun x47=>bif(qe x44.2.2.1.length ((x47.1::[]).length) 8)then none else none else none else some (x24.2.1,())else some (x24.2.1,())
abbrev zfC:Type:=(qk×Int×Int×Unit)->Option ((List Int)×Unit)
def gN:zfC:=opq (sF prg [(227,sY),(24,YJ),(225,KK)] (zG [cdF zS,cdF qA] [] [⟨4,90,some 6,I,false⟩,⟨4,90,some 9,I,true⟩,⟨4,90,some 10,I,true⟩,⟨8,90,some 6,I,false⟩,⟨8,90,some 9,I,true⟩,⟨8,90,some 10,I,true⟩,⟨10,90,some 6,I,false⟩,⟨10,90,some 9,I,true⟩,⟨10,90,some 10,I,true⟩,⟨12,90,some 6,I,false⟩,⟨12,90,some 9,I,true⟩,⟨12,90,some 10,I,true⟩] [] [24,225]) (zy [] [(4,90)]) 30 167 DW DX)
abbrev DZ:Con:=⟨DW,DX,gN⟩
theorem RG:Con.Ok prg 167 DZ:=okF (ze Ni (ze JA (ze XZ zn))) (by kernel_rfl)
theorem RH(a0)(a1)(a2):gN (a0,a1,a2,())=DY a0 a1 a2:=zA (by kernel_rfl)
abbrev Ea:List VT:=[⟨true,zS⟩,⟨false,I⟩]
abbrev Eb:List VT:=[⟨false,.bool⟩]
def Ec(a0:qk)(a1:Int):Option (Bool×Unit):=bif !(zg a1 0)then some ((zg a1 (wrF .i64 (2*((a0.2.2.length:Nat):Int)))),())else some (false,())
abbrev zfD:Type:=(qk×Int×Unit)->Option (Bool×Unit)
def KL:zfD:=opq (sF prg [] (zG [cdF zS,cdF qA] [] [] [] []) (zy []) 30 228 Ea Eb)
abbrev Ed:Con:=⟨Ea,Eb,KL⟩
theorem RI:Con.Ok prg 228 Ed:=okF zn (by kernel_rfl)
theorem RJ(a0)(a1):KL (a0,a1,())=Ec a0 a1:=zA (by kernel_rfl)
abbrev sZ:List VT:=[⟨true,zS⟩,⟨false,(.list I)⟩]
abbrev tc:List VT:=[⟨false,(.list I)⟩]
def td(a0:qk)(a1:(List Int)):Option ((List Int)×Unit):=opt (atI a1 0) fun x0=>opt (yd (a0,(x0,()))) fun x1=>opt (zI (fun s2:((Int×Unit)×((List Int)×Unit))=>bif(zg s2.1.1 ((a1.length:Nat):Int))then opt (atI a1 s2.1.1) fun x3=>opt (jQ (a0,(x3,()))) fun x4=>bif(qe s2.2.1.length ((x4.1::[]).length) 8)then some (.inr (((wrF .i64 (s2.1.1+1)),()),((s2.2.1++(x4.1::[])),())))else none else some (.inl (0,((s2.1.1,()),(s2.2.1,()))))) zR ((0,()),((x1.1::[]),()))) fun x5=>some (x5.2.2.1,())
abbrev zcs:Type:=(qk×(List Int)×Unit)->Option ((List Int)×Unit)
def vP:zcs:=opq (sF prg [(18,gM),(24,YJ)] (zG [cdF zS,cdF qA] [] [⟨3,29,some 4,I,false⟩] [] [18,24]) (zy []) 30 170 sZ tc)
abbrev bq:Con:=⟨sZ,tc,vP⟩
theorem eB:Con.Ok prg 170 bq:=okF (ze uW (ze JA zn)) (by kernel_rfl)
theorem Nk(a0)(a1):vP (a0,a1,())=td a0 a1:=zA (by kernel_rfl)
abbrev te:List VT:=[⟨true,zS⟩,⟨false,(.list I)⟩]
abbrev tf:List VT:=[⟨false,.bool⟩]
def tg(a0:qk)(a1:(List Int)):Option (Bool×Unit):=opt (bif(zg ((a1.length:Nat):Int) 1)then some (1,((false,()),()))else bif(zg 8 ((a1.length:Nat):Int))then some (1,((false,()),()))else some (0,((false,()),()))) fun x0=>bif Nat.beq x0.1 0 then opt (zI (fun s1:((Bool×(Int×Unit))×Unit)=>bif(zg s1.1.2.1 ((a1.length:Nat):Int))then opt (atI a1 s1.1.2.1) fun x2=>opt (KL (a0,(x2,()))) fun x3=>bif !x3.1 then some (.inl (1,((false,(s1.1.2.1,())),())))else some (.inr ((s1.1.1,((wrF .i64 (s1.1.2.1+1)),())),()))else some (.inl (0,((s1.1.1,(s1.1.2.1,())),())))) zR ((x0.2.1.1,(0,())),())) fun x4=>bif Nat.beq x4.1 0 then opt (vP (a0,(a1,()))) fun x5=>opt (zI (fun s6:((Bool×(Int×Unit))×Unit)=>bif(zg s6.1.2.1 ((x5.1.length:Nat):Int))then opt (KB x5.1 none (some s6.1.2.1) none) fun x7=>opt (atI x5.1 s6.1.2.1) fun x8=>opt (vA (x7,(x8,()))) fun x9=>bif x9.1 then some (.inl (1,((false,(s6.1.2.1,())),())))else opt (bif zg 0 s6.1.2.1 then bif(zg s6.1.2.1 ((a1.length:Nat):Int))then opt (atI x5.1 s6.1.2.1) fun x10=>opt (atI a0.2.1 x10) fun x11=>bif x11 then some (1,((false,()),()))else opt (atI a1 s6.1.2.1) fun x12=>opt (yd (a0,(x12,()))) fun x13=>opt (atI x5.1 s6.1.2.1) fun x14=>bif !(zj x13.1 x14)then some (1,((false,()),()))else some (0,((s6.1.1,()),()))else some (0,((s6.1.1,()),()))else some (0,((s6.1.1,()),()))) fun x15=>bif Nat.beq x15.1 0 then some (.inr ((x15.2.1.1,((wrF .i64 (s6.1.2.1+1)),())),()))else some (.inl (1,((x15.2.1.1,(s6.1.2.1,())),())))else some (.inl (0,((s6.1.1,(s6.1.2.1,())),())))) zR ((x4.2.1.1,(0,())),())) fun x16=>bif Nat.beq x16.1 0 then some (true,())else some (x16.2.1.1,())else some (x4.2.1.1,())else some (x0.2.1.1,())
abbrev zct:Type:=(qk×(List Int)×Unit)->Option (Bool×Unit)
def kq:zct:=opq (sF prg [(228,Ed),(170,bq),(225,KK),(18,gM)] (zG [cdF zS,cdF qA] [] [] [] [228,225,18]) (zy []) 30 168 te tf)
abbrev br:Con:=⟨te,tf,kq⟩
theorem eD:Con.Ok prg 168 br:=okF (ze RI (ze eB (ze XZ (ze uW zn)))) (by kernel_rfl)
theorem Nl(a0)(a1):kq (a0,a1,())=tg a0 a1:=zA (by kernel_rfl)
abbrev lF:List VT:=[⟨false,(.list I)⟩,⟨false,(.list I)⟩]
abbrev lG:List VT:=[⟨false,.bool⟩]
def lH(a0:(List Int))(a1:(List Int)):Option (Bool×Unit):=opt (zI (fun s0:((Bool×(Int×Unit))×Unit)=>bif(zg s0.1.2.1 (wrF .i64 (((a0.length:Nat):Int) - 1)))then opt (atI a0 s0.1.2.1) fun x1=>opt (vA (a1,(x1,()))) fun x2=>bif x2.1 then some (.inl (1,((true,(s0.1.2.1,())),())))else some (.inr ((s0.1.1,((wrF .i64 (s0.1.2.1+1)),())),()))else some (.inl (0,((s0.1.1,(s0.1.2.1,())),())))) zR ((false,(1,())),())) fun x3=>bif Nat.beq x3.1 0 then some (false,())else some (x3.2.1.1,())
abbrev RK:Type:=((List Int)×(List Int)×Unit)->Option (Bool×Unit)
def ZK:RK:=opq (sF prg [(225,KK)] (zG [] [] [] [] [225]) (zy []) 30 169 lF lG)
abbrev lI:Con:=⟨lF,lG,ZK⟩
theorem Ee:Con.Ok prg 169 lI:=okF (ze XZ zn) (by kernel_rfl)
theorem Ef(a0)(a1):ZK (a0,a1,())=lH a0 a1:=zA (by kernel_rfl)
abbrev th:List VT:=[⟨true,zS⟩,⟨false,(.list I)⟩,⟨false,(.list I)⟩]
abbrev ti:List VT:=[⟨false,.bool⟩]
def tj(a0:qk)(a1:(List Int))(a2:(List Int)):Option (Bool×Unit):=opt (zI (fun s0:((Bool×(Int×Unit))×Unit)=>bif(zg s0.1.2.1 ((a1.length:Nat):Int))then opt (zI (fun s1:((Bool×(Int×Unit))×Unit)=>bif(zg s1.1.2.1 ((a2.length:Nat):Int))then opt (atI a1 s0.1.2.1) fun x2=>opt (atI a2 s1.1.2.1) fun x3=>bif(zj (wrF .i64 (Int.tdiv x2 2)) (wrF .i64 (Int.tdiv x3 2)))then some (.inl (1,((false,(s1.1.2.1,())),())))else some (.inr ((s1.1.1,((wrF .i64 (s1.1.2.1+1)),())),()))else some (.inl (0,((s1.1.1,(s1.1.2.1,())),())))) zR ((s0.1.1,(0,())),())) fun x4=>bif Nat.beq x4.1 0 then some (.inr ((x4.2.1.1,((wrF .i64 (s0.1.2.1+1)),())),()))else some (.inl (1,((x4.2.1.1,(s0.1.2.1,())),())))else some (.inl (0,((s0.1.1,(s0.1.2.1,())),())))) zR ((false,(0,())),())) fun x5=>bif Nat.beq x5.1 0 then opt (vP (a0,(a1,()))) fun x6=>opt (vP (a0,(a2,()))) fun x7=>opt (ZK (x6.1,(x7.1,()))) fun x8=>bif !x8.1 then opt (vP (a0,(a2,()))) fun x9=>opt (vP (a0,(a1,()))) fun x10=>opt (ZK (x9.1,(x10.1,()))) fun x11=>some ((!x11.1),())else some (false,())else some (x5.2.1.1,())
abbrev zcu:Type:=(qk×(List Int)×(List Int)×Unit)->Option (Bool×Unit)
def JB:zcu:=opq (sF prg [(170,bq),(169,lI)] (zG [cdF zS,cdF qA] [] [] [] [169]) (zy []) 30 106 th ti)
abbrev bt:Con:=⟨th,ti,JB⟩
theorem eE:Con.Ok prg 106 bt:=okF (ze eB (ze Ee zn)) (by kernel_rfl)
theorem Nm(a0)(a1)(a2):JB (a0,a1,a2,())=tj a0 a1 a2:=zA (by kernel_rfl)
abbrev RL:List VT:=[⟨false,I⟩,⟨false,I⟩,⟨false,I⟩]
abbrev RM:List VT:=[⟨false,.bool⟩]
def RN(a0:Int)(a1:Int)(a2:Int):Option (Bool×Unit):=bif !(zg a0 a1)then some ((!(zg a2 a0)),())else some (false,())
abbrev ziZ:Type:=(Int×Int×Int×Unit)->Option (Bool×Unit)
def yE:ziZ:=opq (sF prg [] (zG [] [] [] [] []) (zy []) 30 162 RL RM)
abbrev dc:Con:=⟨RL,RM,yE⟩
theorem bu:Con.Ok prg 162 dc:=okF zn (by kernel_rfl)
theorem zcv(a0)(a1)(a2):yE (a0,a1,a2,())=RN a0 a1 a2:=zA (by kernel_rfl)
abbrev lJ:List VT:=[⟨true,zS⟩,⟨false,I⟩]
abbrev lK:List VT:=[⟨false,.bool⟩]
def lL(a0:qk)(a1:Int):Option (Bool×Unit):=opt (yE (a1,(0,((wrF .i64 (a0.1 - 1)),())))) fun x0=>bif x0.1 then opt (atI a0.2.1 a1) fun x1=>some (x1,())else some (false,())
abbrev RO:Type:=(qk×Int×Unit)->Option (Bool×Unit)
def ZL:RO:=opq (sF prg [(162,dc)] (zG [cdF zS,cdF qA] [] [] [] [162]) (zy []) 30 171 lJ lK)
abbrev lM:Con:=⟨lJ,lK,ZL⟩
theorem Eg:Con.Ok prg 171 lM:=okF (ze bu zn) (by kernel_rfl)
theorem Eh(a0)(a1):ZL (a0,a1,())=lL a0 a1:=zA (by kernel_rfl)
abbrev tk:List VT:=[⟨true,zS⟩,⟨true,zN⟩]
abbrev tn:List VT:=[⟨false,.bool⟩]
def tp(a0:qk)(a1:qh):Option (Bool×Unit):=opt (opt (yE (a1.1,(1,(4095,())))) fun x0=>bif !x0.1 then some (1,((false,()),()))else opt (ZL (a0,(a1.2.1,()))) fun x1=>bif !x1.1 then some (1,((false,()),()))else opt (ZL (a0,(a1.2.2.1,()))) fun x2=>bif !x2.1 then some (1,((false,()),()))else bif zj a1.2.1 a1.2.2.1 then some (1,((false,()),()))else opt (yE (a1.2.2.2.2.1,(84,(1542,())))) fun x3=>bif !x3.1 then some (1,((false,()),()))else opt (yE (a1.2.2.2.2.2.2.2.1,(1,(1099511627776,())))) fun x4=>bif !x4.1 then some (1,((false,()),()))else some (0,((false,()),()))) fun x5=>bif Nat.beq x5.1 0 then opt (bif zj a1.2.2.2.1 7 then opt (opt (yE (a1.2.2.2.2.2.1,(1,(240,())))) fun x6=>bif !x6.1 then some (1,((false,()),()))else bif(!((zj a1.2.2.2.2.2.2.1.1 0)&&((zj a1.2.2.2.2.2.2.1.2 0)&&true)))then some (1,((false,()),()))else some (0,((x5.2.1.1,()),()))) fun x7=>bif Nat.beq x7.1 0 then some (0,((x7.2.1.1,()),()))else some (1,((x7.2.1.1,()),()))else bif zj a1.2.2.2.1 6 then opt (bif !(zj a1.2.2.2.2.2.1 0)then some (1,((false,()),()))else opt (yE (a1.2.2.2.2.2.2.1.1,(a1.2.2.2.2.1,(1048576,())))) fun x8=>bif !x8.1 then some (1,((false,()),()))else opt (yE (a1.2.2.2.2.2.2.1.2,(1,(2097152,())))) fun x9=>bif !x9.1 then some (1,((false,()),()))else some (0,((x5.2.1.1,()),()))) fun x10=>bif Nat.beq x10.1 0 then some (0,((x10.2.1.1,()),()))else some (1,((x10.2.1.1,()),()))else some (1,((false,()),()))) fun x11=>bif Nat.beq x11.1 0 then opt (bif(zg ((a1.2.2.2.2.2.2.2.2.length:Nat):Int) 1)then some (1,((false,()),()))else bif(zg 2 ((a1.2.2.2.2.2.2.2.2.length:Nat):Int))then some (1,((false,()),()))else some (0,((x11.2.1.1,()),()))) fun x12=>bif Nat.beq x12.1 0 then opt (zI (fun s13:((Bool×(Int×Unit))×Unit)=>bif(zg s13.1.2.1 ((a1.2.2.2.2.2.2.2.2.length:Nat):Int))then opt (atI a1.2.2.2.2.2.2.2.2 s13.1.2.1) fun x14=>opt (opt (kq (a0,(x14,()))) fun x15=>bif !x15.1 then some (1,((false,()),()))else opt (atI x14 0) fun x16=>opt (yd (a0,(x16,()))) fun x17=>bif !(zj x17.1 a1.2.1)then some (1,((false,()),()))else opt (atI x14 (wrF .i64 (((x14.length:Nat):Int) - 1))) fun x18=>opt (jQ (a0,(x18,()))) fun x19=>bif !(zj x19.1 a1.2.2.1)then some (1,((false,()),()))else some (0,((s13.1.1,()),()))) fun x20=>bif Nat.beq x20.1 0 then some (.inr ((x20.2.1.1,((wrF .i64 (s13.1.2.1+1)),())),()))else some (.inl (1,((x20.2.1.1,(s13.1.2.1,())),())))else some (.inl (0,((s13.1.1,(s13.1.2.1,())),())))) zR ((x12.2.1.1,(0,())),())) fun x21=>bif Nat.beq x21.1 0 then bif(zj ((a1.2.2.2.2.2.2.2.2.length:Nat):Int) 1)then some (true,())else opt (atI a1.2.2.2.2.2.2.2.2 0) fun x22=>opt (atI a1.2.2.2.2.2.2.2.2 1) fun x23=>opt (JB (a0,(x22,(x23,())))) fun x24=>some (x24.1,())else some (x21.2.1.1,())else some (x12.2.1.1,())else some (x11.2.1.1,())else some (x5.2.1.1,())
abbrev zcw:Type:=(qk×qh×Unit)->Option (Bool×Unit)
def Zo:zcw:=opq (sF prg [(162,dc),(171,lM),(168,br),(18,gM),(24,YJ),(106,bt)] (zG [cdF zN,cdF zS,cdF qA,cdF zr] [] [] [] [162,171,168,18,24,106]) (zy []) 30 107 tk tn)
abbrev Va:Con:=⟨tk,tn,Zo⟩
theorem VM:Con.Ok prg 107 Va:=okF (ze bu (ze Eg (ze eD (ze uW (ze JA (ze eE zn)))))) (by kernel_rfl)
theorem Nn(a0)(a1):Zo (a0,a1,())=tp a0 a1:=zA (by kernel_rfl)
abbrev KM:List VT:=[⟨true,qy⟩,⟨true,zS⟩,⟨false,I⟩]
abbrev KN:List VT:=[⟨true,zN⟩,⟨false,.bool⟩]
def KP(a0:xl)(a1:qk)(a2:Int):Option (qh×Bool×Unit):=bif zj a1.1 0 then none else opt (zI (fun s0:((Int×(Int×Unit))×Unit)=>bif zg s0.1.2.1 a1.1 then opt (atI a1.2.1 s0.1.1) fun x1=>bif !x1 then bif zj a1.1 0 then none else some (.inr (((Int.tmod (wrF .i64 (s0.1.1+1)) a1.1),((wrF .i64 (s0.1.2.1+1)),())),()))else some (.inl (0,((s0.1.1,(s0.1.2.1,())),())))else some (.inl (0,((s0.1.1,(s0.1.2.1,())),())))) zR (((Int.tmod (wrF .i64 a0.2.2.1) a1.1),(0,())),())) fun x2=>opt (zI (fun s3:(((Int×((List Bool)×(List (Int×(Int×(Int×Int))))))×((List Int)×(Int×Unit)))×Unit)=>bif zg s3.1.2.2.1 16 then opt (gN (s3.1.1,((wrF .u8 x2.2.1.1),((wrF .u8 (a0.2.2.2.1+(wrF .u8 s3.1.2.2.1))),())))) fun x4=>opt (bif(zg 0 ((x4.1.length:Nat):Int))then opt (kq (s3.1.1,(x4.1,()))) fun x5=>bif x5.1 then opt (atI x4.1 0) fun x6=>opt (yd (s3.1.1,(x6,()))) fun x7=>opt (atI s3.1.1.2.1 x7.1) fun x8=>bif x8 then opt (atI x4.1 (wrF .i64 (((x4.1.length:Nat):Int) - 1))) fun x9=>opt (jQ (s3.1.1,(x9,()))) fun x10=>opt (atI s3.1.1.2.1 x10.1) fun x11=>bif x11 then some (1,((x4.1,()),()))else some (0,((s3.1.2.1,()),()))else some (0,((s3.1.2.1,()),()))else some (0,((s3.1.2.1,()),()))else some (0,((s3.1.2.1,()),()))) fun x12=>bif Nat.beq x12.1 0 then some (.inr ((s3.1.1,(x12.2.1.1,((wrF .i64 (s3.1.2.2.1+1)),()))),()))else some (.inl (1,((s3.1.1,(x12.2.1.1,(s3.1.2.2.1,()))),())))else some (.inl (0,((s3.1.1,(s3.1.2.1,(s3.1.2.2.1,()))),())))) zR ((a1,([],(0,()))),())) fun x13=>bif Nat.beq x13.1 0 then some ((0,(0,(0,(0,(0,(0,((0,0),(0,[])))))))),(false,()))else bif dQ x13.2.1.2.1 then opt (atI x13.2.1.2.1 0) fun x14=>opt (yd (a1,(x14,()))) fun x15=>opt (atI x13.2.1.2.1 (wrF .i64 (((x13.2.1.2.1.length:Nat):Int) - 1))) fun x16=>opt (jQ (a1,(x16,()))) fun x17=>opt (bif a0.1 then some (0,(((),()),((a2,(x15.1,(x17.1,(6,((wrF .i64 (84+(wrF .i64 a0.2.2.2.2.1))),(0,(((wrF .i64 ((wrF .i64 (84+(wrF .i64 a0.2.2.2.2.1)))+(wrF .i64 (4*(wrF .i64 a0.2.2.2.2.2.2.1))))),(wrF .i64 (1+(wrF .i64 a0.2.2.2.2.2.2.2)))),(1099511627776,((x13.2.1.2.1::[]),()))))))))),())))else opt (atI (α:=Int) (4::(6::(8::(12::(16::(24::(48::(10::(5::(240::[])))))))))) (Int.tmod a0.2.2.2.2.2.1 10)) fun x18=>opt (gl (α:=Int) (4::(6::(8::(12::(16::(24::(48::(10::(5::(240::[])))))))))) (Int.toNat (Int.tmod a0.2.2.2.2.2.1 10))) fun x19=>some (0,(((),()),((a2,(x15.1,(x17.1,(7,((wrF .i64 (84+(wrF .i64 a0.2.2.2.2.1))),(x19,((0,0),(1099511627776,((x13.2.1.2.1::[]),()))))))))),())))) fun x20=>opt (zI (fun s21:(((Int×((List Bool)×(List (Int×(Int×(Int×Int))))))×(Unit×(Int×Unit)))×((Int×(Int×(Int×(Int×(Int×(Int×((Int×Int)×(Int×((List (List Int))×Unit)))))))))×Unit))=>bif zg s21.1.2.2.1 24 then bif a0.2.1 then bif(zj ((s21.2.1.2.2.2.2.2.2.2.2.1.length:Nat):Int) 1)then opt (zI (fun s22:(((Int×((List Bool)×(List (Int×(Int×(Int×Int))))))×((List Int)×(Int×Unit)))×Unit)=>bif zg s22.1.2.2.1 16 then opt (gN (s22.1.1,((wrF .u8 x2.2.1.1),((wrF .u8 ((wrF .u8 (a0.2.2.2.1+(wrF .u8 s21.1.2.2.1)))+(wrF .u8 s22.1.2.2.1))),())))) fun x23=>opt (bif(zg 0 ((x23.1.length:Nat):Int))then opt (kq (s22.1.1,(x23.1,()))) fun x24=>bif x24.1 then opt (atI x23.1 0) fun x25=>opt (yd (s22.1.1,(x25,()))) fun x26=>opt (atI s22.1.1.2.1 x26.1) fun x27=>bif x27 then opt (atI x23.1 (wrF .i64 (((x23.1.length:Nat):Int) - 1))) fun x28=>opt (jQ (s22.1.1,(x28,()))) fun x29=>opt (atI s22.1.1.2.1 x29.1) fun x30=>bif x30 then some (1,((x23.1,()),()))else some (0,((s22.1.2.1,()),()))else some (0,((s22.1.2.1,()),()))else some (0,((s22.1.2.1,()),()))else some (0,((s22.1.2.1,()),()))) fun x31=>bif Nat.beq x31.1 0 then some (.inr ((s22.1.1,(x31.2.1.1,((wrF .i64 (s22.1.2.2.1+1)),()))),()))else some (.inl (1,((s22.1.1,(x31.2.1.1,(s22.1.2.2.1,()))),())))else some (.inl (0,((s22.1.1,(s22.1.2.1,(s22.1.2.2.1,()))),())))) zR ((s21.1.1,([],(0,()))),())) fun x32=>bif Nat.beq x32.1 0 then some (.inr ((s21.1.1,((),((wrF .i64 (s21.1.2.2.1+1)),()))),((s21.2.1.1,(s21.2.1.2.1,(s21.2.1.2.2.1,(s21.2.1.2.2.2.1,(s21.2.1.2.2.2.2.1,(s21.2.1.2.2.2.2.2.1,(s21.2.1.2.2.2.2.2.2.1,(s21.2.1.2.2.2.2.2.2.2.1,(s21.2.1.2.2.2.2.2.2.2.2.1,()))))))))),())))else opt (bif dQ x32.2.1.2.1 then opt (atI x32.2.1.2.1 (wrF .i64 (((x32.2.1.2.1.length:Nat):Int) - 1))) fun x33=>opt (jQ (s21.1.1,(x33,()))) fun x34=>bif zj x34.1 s21.2.1.2.2.1 then opt (JB (s21.1.1,(x13.2.1.2.1,(x32.2.1.2.1,())))) fun x35=>bif x35.1 then bif(qe s21.2.1.2.2.2.2.2.2.2.2.1.length ((x32.2.1.2.1::[]).length) 24)then some (0,(((),()),((s21.2.1.1,(s21.2.1.2.1,(s21.2.1.2.2.1,(s21.2.1.2.2.2.1,(s21.2.1.2.2.2.2.1,(s21.2.1.2.2.2.2.2.1,(s21.2.1.2.2.2.2.2.2.1,(s21.2.1.2.2.2.2.2.2.2.1,((s21.2.1.2.2.2.2.2.2.2.2.1++(x32.2.1.2.1::[])),()))))))))),())))else none else some (0,(((),()),((s21.2.1.1,(s21.2.1.2.1,(s21.2.1.2.2.1,(s21.2.1.2.2.2.1,(s21.2.1.2.2.2.2.1,(s21.2.1.2.2.2.2.2.1,(s21.2.1.2.2.2.2.2.2.1,(s21.2.1.2.2.2.2.2.2.2.1,(s21.2.1.2.2.2.2.2.2.2.2.1,()))))))))),())))else some (0,(((),()),((s21.2.1.1,(s21.2.1.2.1,(s21.2.1.2.2.1,(s21.2.1.2.2.2.1,(s21.2.1.2.2.2.2.1,(s21.2.1.2.2.2.2.2.1,(s21.2.1.2.2.2.2.2.2.1,(s21.2.1.2.2.2.2.2.2.2.1,(s21.2.1.2.2.2.2.2.2.2.2.1,()))))))))),())))else none) fun x36=>some (.inr ((s21.1.1,((),((wrF .i64 (s21.1.2.2.1+1)),()))),((x36.2.2.1.1,(x36.2.2.1.2.1,(x36.2.2.1.2.2.1,(x36.2.2.1.2.2.2.1,(x36.2.2.1.2.2.2.2.1,(x36.2.2.1.2.2.2.2.2.1,(x36.2.2.1.2.2.2.2.2.2.1,(x36.2.2.1.2.2.2.2.2.2.2.1,(x36.2.2.1.2.2.2.2.2.2.2.2.1,()))))))))),())))else some (.inl (0,((s21.1.1,((),(s21.1.2.2.1,()))),((s21.2.1.1,(s21.2.1.2.1,(s21.2.1.2.2.1,(s21.2.1.2.2.2.1,(s21.2.1.2.2.2.2.1,(s21.2.1.2.2.2.2.2.1,(s21.2.1.2.2.2.2.2.2.1,(s21.2.1.2.2.2.2.2.2.2.1,(s21.2.1.2.2.2.2.2.2.2.2.1,()))))))))),()))))else some (.inl (0,((s21.1.1,((),(s21.1.2.2.1,()))),((s21.2.1.1,(s21.2.1.2.1,(s21.2.1.2.2.1,(s21.2.1.2.2.2.1,(s21.2.1.2.2.2.2.1,(s21.2.1.2.2.2.2.2.1,(s21.2.1.2.2.2.2.2.2.1,(s21.2.1.2.2.2.2.2.2.2.1,(s21.2.1.2.2.2.2.2.2.2.2.1,()))))))))),()))))else some (.inl (0,((s21.1.1,((),(s21.1.2.2.1,()))),((s21.2.1.1,(s21.2.1.2.1,(s21.2.1.2.2.1,(s21.2.1.2.2.2.1,(s21.2.1.2.2.2.2.1,(s21.2.1.2.2.2.2.2.1,(s21.2.1.2.2.2.2.2.2.1,(s21.2.1.2.2.2.2.2.2.2.1,(s21.2.1.2.2.2.2.2.2.2.2.1,()))))))))),()))))) zR ((a1,((),(0,()))),((x20.2.2.1.1,(x20.2.2.1.2.1,(x20.2.2.1.2.2.1,(x20.2.2.1.2.2.2.1,(x20.2.2.1.2.2.2.2.1,(x20.2.2.1.2.2.2.2.2.1,(x20.2.2.1.2.2.2.2.2.2.1,(x20.2.2.1.2.2.2.2.2.2.2.1,(x20.2.2.1.2.2.2.2.2.2.2.2.1,()))))))))),()))) fun x37=>opt (Zo (x37.2.1.1,((x37.2.2.1.1,(x37.2.2.1.2.1,(x37.2.2.1.2.2.1,(x37.2.2.1.2.2.2.1,(x37.2.2.1.2.2.2.2.1,(x37.2.2.1.2.2.2.2.2.1,(x37.2.2.1.2.2.2.2.2.2.1,(x37.2.2.1.2.2.2.2.2.2.2.1,x37.2.2.1.2.2.2.2.2.2.2.2.1)))))))),()))) fun x38=>some ((x37.2.2.1.1,(x37.2.2.1.2.1,(x37.2.2.1.2.2.1,(x37.2.2.1.2.2.2.1,(x37.2.2.1.2.2.2.2.1,(x37.2.2.1.2.2.2.2.2.1,(x37.2.2.1.2.2.2.2.2.2.1,(x37.2.2.1.2.2.2.2.2.2.2.1,x37.2.2.1.2.2.2.2.2.2.2.2.1)))))))),(x38.1,()))else none
abbrev rR:Type:=(xl×qk×Int×Unit)->Option (qh×Bool×Unit)
def xm:rR:=opq (sF prg [(167,DZ),(168,br),(18,gM),(24,YJ),(106,bt),(107,Va)] (zG [⟨zN,wk zN,[9]⟩,cdF qy,cdF zS,cdF qA,cdF zr] [] [⟨3,147,none,(.list I),true⟩,⟨7,147,none,(.list I),true⟩,⟨10,147,none,(.list I),true⟩,⟨16,147,none,(.list I),true⟩,⟨19,147,none,(.list I),true⟩,⟨2,54,some 6,I,false⟩,⟨5,54,some 6,I,false⟩,⟨2,54,none,(.list I),true⟩,⟨5,54,none,(.list I),true⟩] [(3,147,11,[9]),(7,147,11,[9]),(10,147,11,[9]),(16,147,11,[9]),(19,147,11,[9]),(16,147,11,[9]),(19,147,11,[9])] [168,18,24,106,107]) (zy []) 30 53 KM KN)
abbrev KQ:Con:=⟨KM,KN,xm⟩
theorem iC:Con.Ok prg 53 KQ:=okF (ze RG (ze eD (ze uW (ze JA (ze eE (ze VM zn)))))) (by kernel_rfl)
theorem iD(a0)(a1)(a2):xm (a0,a1,a2,())=KP a0 a1 a2:=zA (by kernel_rfl)
abbrev Ws:List VT:=[⟨true,zS⟩,⟨false,(.list qy)⟩]
abbrev Wt:List VT:=[⟨false,(.list zN)⟩]
def lN(a0:qk)(a1:(List xl)):Option ((List qh)×Unit):=opt (zI (fun s0:(((Int×((List Bool)×(List (Int×(Int×(Int×Int))))))×(Int×Unit))×((List (Int×(Int×(Int×(Int×(Int×(Int×((Int×Int)×(Int×(List (List Int)))))))))))×Unit))=>bif(zg s0.1.2.1 ((a1.length:Nat):Int))then bif(zg ((s0.2.1.length:Nat):Int) 6)then opt (atI a1 s0.1.2.1) fun x1=>opt (xm (x1,(s0.1.1,((wrF .i64 (((s0.2.1.length:Nat):Int)+1)),())))) fun x2=>opt (bif x2.2.1 then bif(qe s0.2.1.length ((x2.1::[]).length) 96)then some (0,((),((s0.2.1++(x2.1::[])),())))else none else some (0,((),(s0.2.1,())))) fun x3=>some (.inr ((s0.1.1,((wrF .i64 (s0.1.2.1+1)),())),(x3.2.2.1,())))else some (.inl (0,((s0.1.1,(s0.1.2.1,())),(s0.2.1,()))))else some (.inl (0,((s0.1.1,(s0.1.2.1,())),(s0.2.1,()))))) zR ((a0,(0,())),([],()))) fun x4=>some (x4.2.2.1,())
abbrev lO:Type:=(qk×(List xl)×Unit)->Option ((List qh)×Unit)
def xx:lO:=opq (sF prg [(53,KQ)] (zG [cdF zN,cdF qy,cdF zS,cdF qA,cdF zr] [] [⟨3,38,some 4,zN,false⟩,⟨3,38,some 5,zN,true⟩,⟨6,38,some 4,zN,false⟩,⟨6,38,some 5,zN,true⟩] [] []) (zy []) 30 15 Ws Wt)
abbrev RP:Con:=⟨Ws,Wt,xx⟩
theorem Ei:Con.Ok prg 15 RP:=okF (ze iC zn) (by kernel_rfl)
theorem Ej(a0)(a1):xx (a0,a1,())=lN a0 a1:=zA (by kernel_rfl)
abbrev tq:List VT:=[⟨true,zS⟩,⟨false,I⟩,⟨false,(.list I)⟩]
abbrev tr:List VT:=[⟨false,(.list .bool)⟩]
def tu(a0:qk)(a1:Int)(a2:(List Int)):Option ((List Bool)×Unit):=bif ru a0.1 a0.1 1 then opt (atI (List.replicate (Int.toNat a0.1) false) a1) fun x0=>opt (gl (List.replicate (Int.toNat a0.1) false) (Int.toNat a1)) fun x1=>opt (zI (fun s2:((Int×Unit)×((List Bool)×Unit))=>bif zg s2.1.1 a0.1 then opt (zI (fun s3:((Int×Unit)×((List Bool)×Unit))=>bif(zg s3.1.1 ((a0.2.2.length:Nat):Int))then opt (atI a0.2.2 s3.1.1) fun x4=>opt (opt (vA (a2,(s3.1.1,()))) fun x5=>bif !x5.1 then opt (atI s3.2.1 x4.1) fun x6=>opt (gl s3.2.1 (Int.toNat x4.1)) fun x7=>bif x7 then opt (atI s3.2.1 x4.1) fun x8=>opt (gl s3.2.1 (Int.toNat x4.1)) fun x9=>opt (atI (s3.2.1.set (Int.toNat x4.1) true) x4.2.1) fun x10=>opt (gl (s3.2.1.set (Int.toNat x4.1) true) (Int.toNat x4.2.1)) fun x11=>some (0,((),(((s3.2.1.set (Int.toNat x4.1) true).set (Int.toNat x4.2.1) true),())))else opt (atI s3.2.1 x4.2.1) fun x12=>opt (gl s3.2.1 (Int.toNat x4.2.1)) fun x13=>bif x13 then opt (atI s3.2.1 x4.1) fun x14=>opt (gl s3.2.1 (Int.toNat x4.1)) fun x15=>opt (atI (s3.2.1.set (Int.toNat x4.1) true) x4.2.1) fun x16=>opt (gl (s3.2.1.set (Int.toNat x4.1) true) (Int.toNat x4.2.1)) fun x17=>some (0,((),(((s3.2.1.set (Int.toNat x4.1) true).set (Int.toNat x4.2.1) true),())))else some (0,((),(s3.2.1,())))else some (0,((),(s3.2.1,())))) fun x18=>some (.inr (((wrF .i64 (s3.1.1+1)),()),(x18.2.2.1,())))else some (.inl (0,((s3.1.1,()),(s3.2.1,()))))) zR ((0,()),(s2.2.1,()))) fun x19=>some (.inr (((wrF .i64 (s2.1.1+1)),()),(x19.2.2.1,())))else some (.inl (0,((s2.1.1,()),(s2.2.1,()))))) zR ((0,()),(((List.replicate (Int.toNat a0.1) false).set (Int.toNat a1) true),()))) fun x20=>some (x20.2.2.1,())else none
abbrev zcx:Type:=(qk×Int×(List Int)×Unit)->Option ((List Bool)×Unit)
def Vb:zcx:=opq (sF prg [(225,KK)] (zG [cdF zS,cdF qA] [] [⟨4,62,some 6,.bool,false⟩,⟨7,62,some 6,.bool,false⟩,⟨10,62,some 6,.bool,false⟩] [] [225]) (zy []) 30 161 tq tr)
abbrev tx:Con:=⟨tq,tr,Vb⟩
theorem No:Con.Ok prg 161 tx:=okF (ze XZ zn) (by kernel_rfl)
theorem Np(a0)(a1)(a2):Vb (a0,a1,a2,())=tu a0 a1 a2:=zA (by kernel_rfl)
abbrev tz:List VT:=[⟨true,zS⟩]
abbrev tA:List VT:=[⟨false,.bool⟩]
def tB(a0:qk):Option (Bool×Unit):=opt (bif zg a0.1 2 then some (1,((false,()),()))else bif zg 12 a0.1 then some (1,((false,()),()))else bif(!(zj ((a0.2.1.length:Nat):Int) a0.1))then some (1,((false,()),()))else bif(zg 24 ((a0.2.2.length:Nat):Int))then some (1,((false,()),()))else some (0,((false,()),()))) fun x0=>bif Nat.beq x0.1 0 then bif ru a0.1 a0.1 8 then opt (zI (fun s1:((Bool×(Int×Unit))×((List Int)×Unit))=>bif(zg s1.1.2.1 ((a0.2.2.length:Nat):Int))then opt (atI a0.2.2 s1.1.2.1) fun x2=>opt (xH (a0,(x2,()))) fun x3=>bif !x3.1 then some (.inl (1,((false,(s1.1.2.1,())),(s1.2.1,()))))else opt (zI (fun s4:((Bool×(Int×Unit))×Unit)=>bif zg s4.1.2.1 s1.1.2.1 then opt (atI a0.2.2 s4.1.2.1) fun x5=>opt (wb (x5,(x2.1,(x2.2.1,())))) fun x6=>bif x6.1 then some (.inl (1,((false,(s4.1.2.1,())),())))else some (.inr ((s4.1.1,((wrF .i64 (s4.1.2.1+1)),())),()))else some (.inl (0,((s4.1.1,(s4.1.2.1,())),())))) zR ((s1.1.1,(0,())),())) fun x7=>bif Nat.beq x7.1 0 then opt (atI s1.2.1 x2.1) fun x8=>opt (gl s1.2.1 (Int.toNat x2.1)) fun x9=>opt (atI s1.2.1 x2.1) fun x10=>opt (gl s1.2.1 (Int.toNat x2.1)) fun x11=>opt (atI (s1.2.1.set (Int.toNat x2.1) (wrF .i64 (x9+1))) x2.2.1) fun x12=>opt (gl (s1.2.1.set (Int.toNat x2.1) (wrF .i64 (x9+1))) (Int.toNat x2.2.1)) fun x13=>opt (atI (s1.2.1.set (Int.toNat x2.1) (wrF .i64 (x9+1))) x2.2.1) fun x14=>opt (gl (s1.2.1.set (Int.toNat x2.1) (wrF .i64 (x9+1))) (Int.toNat x2.2.1)) fun x15=>some (.inr ((x7.2.1.1,((wrF .i64 (s1.1.2.1+1)),())),(((s1.2.1.set (Int.toNat x2.1) (wrF .i64 (x9+1))).set (Int.toNat x2.2.1) (wrF .i64 (x13+1))),())))else some (.inl (1,((x7.2.1.1,(s1.1.2.1,())),(s1.2.1,()))))else some (.inl (0,((s1.1.1,(s1.1.2.1,())),(s1.2.1,()))))) zR ((x0.2.1.1,(0,())),((List.replicate (Int.toNat a0.1) 0),()))) fun x16=>bif Nat.beq x16.1 0 then opt (Vb (a0,(0,([],())))) fun x17=>opt (zI (fun s18:((Bool×(Int×Unit))×Unit)=>bif zg s18.1.2.1 a0.1 then opt (opt (atI x17.1 s18.1.2.1) fun x19=>bif !x19 then some (1,((false,()),()))else opt (atI a0.2.1 s18.1.2.1) fun x20=>bif x20 then opt (atI x16.2.2.1 s18.1.2.1) fun x21=>opt (gl x16.2.2.1 (Int.toNat s18.1.2.1)) fun x22=>bif zg x22 1 then some (1,((false,()),()))else opt (atI x16.2.2.1 s18.1.2.1) fun x23=>opt (gl x16.2.2.1 (Int.toNat s18.1.2.1)) fun x24=>bif zg 2 x24 then some (1,((false,()),()))else some (0,((s18.1.1,()),()))else some (0,((s18.1.1,()),()))) fun x25=>bif Nat.beq x25.1 0 then some (.inr ((x25.2.1.1,((wrF .i64 (s18.1.2.1+1)),())),()))else some (.inl (1,((x25.2.1.1,(s18.1.2.1,())),())))else some (.inl (0,((s18.1.1,(s18.1.2.1,())),())))) zR ((x16.2.1.1,(0,())),())) fun x26=>bif Nat.beq x26.1 0 then some (true,())else some (x26.2.1.1,())else some (x16.2.1.1,())else none else some (x0.2.1.1,())
abbrev zcy:Type:=(qk×Unit)->Option (Bool×Unit)
def kr:zcy:=opq (sF prg [(159,ej),(160,bp),(161,tx)] (zG [cdF zS,cdF qA] [] [] [] [159,160]) (zy []) 30 96 tz tA)
abbrev JC:Con:=⟨tz,tA,kr⟩
theorem QY:Con.Ok prg 96 JC:=okF (ze lC (ze eA (ze No zn))) (by kernel_rfl)
theorem Nq(a0):kr (a0,())=tB a0:=zA (by kernel_rfl)
abbrev tC:List VT:=[⟨true,xb⟩]
abbrev tD:List VT:=[⟨false,.bool⟩]
def tE(a0:wm):Option (Bool×Unit):=opt (yE (a0.1,(1,(10000,())))) fun x0=>bif x0.1 then opt (yE (a0.2.1,(0,(1000,())))) fun x1=>bif x1.1 then opt (yE (a0.2.2.1,(0,(10000,())))) fun x2=>bif x2.1 then opt (yE (a0.2.2.2,(1542,(65536,())))) fun x3=>some (x3.1,())else some (false,())else some (false,())else some (false,())
abbrev zcz:Type:=(wm×Unit)->Option (Bool×Unit)
def JD:zcz:=opq (sF prg [(162,dc)] (zG [cdF xb] [] [] [] [162]) (zy []) 30 97 tC tD)
abbrev bw:Con:=⟨tC,tD,JD⟩
theorem eF:Con.Ok prg 97 bw:=okF (ze bu zn) (by kernel_rfl)
theorem Nr(a0):JD (a0,())=tE a0:=zA (by kernel_rfl)
abbrev eG:List VT:=[⟨true,zS⟩,⟨false,(.list zN)⟩]
abbrev eH:List VT:=[⟨false,I⟩]
def eI(a0:qk)(a1:(List qh)):Option (Int×Unit):=opt (kr (a0,())) fun x0=>bif !x0.1 then some (260,())else bif(zg 12 ((a1.length:Nat):Int))then some (3,())else opt (zI (fun s1:((Int×(Int×Unit))×Unit)=>bif(zg s1.1.2.1 ((a1.length:Nat):Int))then opt (atI a1 s1.1.2.1) fun x2=>opt (Zo (a0,(x2,()))) fun x3=>bif !x3.1 then some (.inl (1,((321,(s1.1.2.1,())),())))else some (.inr ((s1.1.1,((wrF .i64 (s1.1.2.1+1)),())),()))else some (.inl (0,((s1.1.1,(s1.1.2.1,())),())))) zR ((0,(0,())),())) fun x4=>bif Nat.beq x4.1 0 then opt (zI (fun s5:((Int×(Int×Unit))×Unit)=>bif(zg s5.1.2.1 ((a1.length:Nat):Int))then opt (zI (fun s6:((Int×(Int×Unit))×Unit)=>bif zg s6.1.2.1 s5.1.2.1 then opt (atI a1 s6.1.2.1) fun x7=>opt (atI a1 s5.1.2.1) fun x8=>bif zj x7.1 x8.1 then some (.inl (1,((322,(s6.1.2.1,())),())))else some (.inr ((s6.1.1,((wrF .i64 (s6.1.2.1+1)),())),()))else some (.inl (0,((s6.1.1,(s6.1.2.1,())),())))) zR ((s5.1.1,(0,())),())) fun x9=>bif Nat.beq x9.1 0 then some (.inr ((x9.2.1.1,((wrF .i64 (s5.1.2.1+1)),())),()))else some (.inl (1,((x9.2.1.1,(s5.1.2.1,())),())))else some (.inl (0,((s5.1.1,(s5.1.2.1,())),())))) zR ((x4.2.1.1,(0,())),())) fun x10=>bif Nat.beq x10.1 0 then some (0,())else some (x10.2.1.1,())else some (x4.2.1.1,())
abbrev Ns:Type:=(qk×(List qh)×Unit)->Option (Int×Unit)
def gO:Ns:=opq (sF prg [(96,JC),(107,Va)] (zG [cdF zN,cdF zS,cdF qA,cdF zr] [] [] [] [96,107]) (zy []) 30 98 eG eH)
abbrev VO:Con:=⟨eG,eH,gO⟩
theorem UW:Con.Ok prg 98 VO:=okF (ze QY (ze VM zn)) (by kernel_rfl)
theorem BF(a0)(a1):gO (a0,a1,())=eI a0 a1:=zA (by kernel_rfl)
abbrev IW:List VT:=[⟨true,zS⟩,⟨false,I⟩]
abbrev IX:List VT:=[⟨false,I⟩]
def IY(a0:qk)(a1:Int):Option (Int×Unit):=opt (atI a0.2.2 (wrF .i64 (Int.tdiv a1 2))) fun x0=>some (x0.2.2.1,())
abbrev zgz:Type:=(qk×Int×Unit)->Option (Int×Unit)
def JY:zgz:=opq (sF prg [] (zG [cdF zS,cdF qA] [] [] [] []) (zy []) 30 56 IW IX)
abbrev mY:Con:=⟨IW,IX,JY⟩
theorem oi:Con.Ok prg 56 mY:=okF zn (by kernel_rfl)
theorem zai(a0)(a1):JY (a0,a1,())=IY a0 a1:=zA (by kernel_rfl)
abbrev tG:List VT:=[⟨true,zS⟩,⟨false,I⟩]
abbrev tH:List VT:=[⟨false,I⟩]
def tI(a0:qk)(a1:Int):Option (Int×Unit):=opt (atI a0.2.2 (wrF .i64 (Int.tdiv a1 2))) fun x0=>some (x0.2.2.2,())
abbrev zcA:Type:=(qk×Int×Unit)->Option (Int×Unit)
def ku:zcA:=opq (sF prg [] (zG [cdF zS,cdF qA] [] [] [] []) (zy []) 30 57 tG tH)
abbrev Vc:Con:=⟨tG,tH,ku⟩
theorem VP:Con.Ok prg 57 Vc:=okF zn (by kernel_rfl)
theorem Nt(a0)(a1):ku (a0,a1,())=tI a0 a1:=zA (by kernel_rfl)
abbrev IZ:List VT:=[⟨true,zS⟩,⟨true,xb⟩,⟨true,zN⟩,⟨false,(.list I)⟩]
abbrev La:List VT:=[⟨false,(.list gu)⟩]
def Lb(a0:qk)(a1:wm)(a2:qh)(a3:(List Int)):Option ((List rQ)×Unit):=opt (atI a3 0) fun x0=>opt (atI a3 0) fun x1=>opt (JY (a0,(x1,()))) fun x2=>opt (zI (fun s3:((Int×Unit)×((List (Int×(Int×(Int×(Int×Int)))))×Unit))=>bif(zg s3.1.1 ((a3.length:Nat):Int))then opt (atI s3.2.1 (wrF .i64 (s3.1.1 - 1))) fun x4=>opt (gl s3.2.1 (Int.toNat (wrF .i64 (s3.1.1 - 1)))) fun x5=>opt (ku (a0,(x5.1,()))) fun x6=>opt (atI a3 s3.1.1) fun x7=>opt (atI a3 s3.1.1) fun x8=>opt (JY (a0,(x8,()))) fun x9=>opt (zI (fun s10:(((Int×(Int×(Int×(Int×Int))))×Unit)×Unit)=>bif zg s10.1.1.2.2.2.1 s10.1.1.2.2.1 then some (.inr (((s10.1.1.1,(s10.1.1.2.1,(s10.1.1.2.2.1,((wrF .i64 (s10.1.1.2.2.2.1+a1.1)),s10.1.1.2.2.2.2)))),()),()))else some (.inl (0,((s10.1.1,()),())))) zR (((x7,((wrF .i64 ((wrF .i64 ((wrF .i64 ((wrF .i64 (x5.2.2.2.1+x5.2.2.2.2))+x6.1))+a1.2.2.1)) - (wrF .i64 (2*a1.2.1)))),((wrF .i64 ((wrF .i64 ((wrF .i64 ((wrF .i64 (x5.2.2.2.1+x5.2.2.2.2))+x6.1))+a1.2.2.1))+(wrF .i64 (2*a1.2.1)))),(0,(wrF .i64 (a2.2.2.2.2.1*x9.1)))))),()),())) fun x11=>bif(qe s3.2.1.length ((x11.2.1.1::[]).length) 40)then some (.inr (((wrF .i64 (s3.1.1+1)),()),((s3.2.1++(x11.2.1.1::[])),())))else none else some (.inl (0,((s3.1.1,()),(s3.2.1,()))))) zR ((1,()),(((x0,(0,(0,(0,(wrF .i64 (a2.2.2.2.2.1*x2.1))))))::[]),()))) fun x12=>some (x12.2.2.1,())
abbrev zgA:Type:=(qk×wm×qh×(List Int)×Unit)->Option ((List rQ)×Unit)
def xI:zgA:=opq (sF prg [(56,mY),(57,Vc)] (zG [cdF zN,cdF zS,cdF gu,cdF qA,cdF zr] [] [⟨3,91,some 8,gu,false⟩,⟨8,91,some 8,gu,false⟩] [] [56,57]) (zy []) 30 19 IZ La)
abbrev XB:Con:=⟨IZ,La,xI⟩
theorem YK:Con.Ok prg 19 XB:=okF (ze oi (ze VP zn)) (by kernel_rfl)
theorem zaj(a0)(a1)(a2)(a3):xI (a0,a1,a2,a3,())=Lb a0 a1 a2 a3:=zA (by kernel_rfl)
abbrev Ld:List VT:=[⟨false,I⟩,⟨false,I⟩]
abbrev Le:List VT:=[⟨false,I⟩]
def Lf(a0:Int)(a1:Int):Option (Int×Unit):=bif zj a1 0 then none else opt (bif zg (Int.tmod a0 a1) 0 then some (0,(((wrF .i64 ((Int.tmod a0 a1)+a1)),()),()))else some (0,(((Int.tmod a0 a1),()),()))) fun x0=>some (x0.2.1.1,())
abbrev zgB:Type:=(Int×Int×Unit)->Option (Int×Unit)
def vo:zgB:=opq (sF prg [] (zG [] [] [] [] []) (zy []) 30 164 Ld Le)
abbrev XC:Con:=⟨Ld,Le,vo⟩
theorem YL:Con.Ok prg 164 XC:=okF zn (by kernel_rfl)
theorem zak(a0)(a1):vo (a0,a1,())=Lf a0 a1:=zA (by kernel_rfl)
abbrev tJ:List VT:=[⟨false,I⟩,⟨false,I⟩]
abbrev tK:List VT:=[⟨false,I⟩]
def tL(a0:Int)(a1:Int):Option (Int×Unit):=opt (vo (a0,(a1,()))) fun x0=>bif zj a1 0 then none else some ((wrF .i64 (Int.tdiv (wrF .i64 (a0 - x0.1)) a1)),())
abbrev zcB:Type:=(Int×Int×Unit)->Option (Int×Unit)
def JE:zcB:=opq (sF prg [(164,XC)] (zG [] [] [] [] [164]) (zy []) 30 163 tJ tK)
abbrev tM:Con:=⟨tJ,tK,JE⟩
theorem Nu:Con.Ok prg 163 tM:=okF (ze YL zn) (by kernel_rfl)
theorem Nv(a0)(a1):JE (a0,a1,())=tL a0 a1:=zA (by kernel_rfl)
abbrev Lg:List VT:=[⟨true,xb⟩,⟨false,I⟩,⟨false,I⟩,⟨true,gu⟩]
abbrev Lh:List VT:=[⟨true,QH⟩]
def Li(a0:wm)(a1:Int)(a2:Int)(a3:rQ):Option (Ng×Unit):=opt (JE (a3.2.1,(a0.1,()))) fun x0=>opt (JE ((wrF .i64 (0 - (wrF .i64 (a3.2.2.2.1+a3.2.2.2.2)))),(a0.1,()))) fun x1=>opt (vo (x0.1,(a2,()))) fun x2=>some ((a1,(a3.1,(x2.1,(wrF .i64 ((wrF .i64 (0 - x1.1)) - x0.1))))),())
abbrev zgC:Type:=(wm×Int×Int×rQ×Unit)->Option (Ng×Unit)
def XD:zgC:=opq (sF prg [(163,tM),(164,XC)] (zG [cdF gu,cdF xb] [] [] [] [163,164]) (zy []) 30 99 Lg Lh)
abbrev Lj:Con:=⟨Lg,Lh,XD⟩
theorem zal:Con.Ok prg 99 Lj:=okF (ze Nu (ze YL zn)) (by kernel_rfl)
theorem zam(a0)(a1)(a2)(a3):XD (a0,a1,a2,a3,())=Li a0 a1 a2 a3:=zA (by kernel_rfl)
abbrev Lk:List VT:=[⟨true,zS⟩,⟨true,xb⟩,⟨true,zN⟩,⟨false,(.list I)⟩]
abbrev Ll:List VT:=[⟨false,I⟩]
def Lm(a0:qk)(a1:wm)(a2:qh)(a3:(List Int)):Option (Int×Unit):=opt (xI (a0,(a1,(a2,(a3,()))))) fun x0=>opt (atI x0.1 (wrF .i64 (((x0.1.length:Nat):Int) - 1))) fun x1=>opt (ku (a0,(x1.1,()))) fun x2=>some ((wrF .i64 ((wrF .i64 ((wrF .i64 (x1.2.2.2.1+x1.2.2.2.2))+x2.1))+a1.2.2.1)),())
abbrev zgD:Type:=(qk×wm×qh×(List Int)×Unit)->Option (Int×Unit)
def XE:zgD:=opq (sF prg [(19,XB),(57,Vc)] (zG [cdF zN,cdF zS,cdF gu,cdF qA,cdF zr] [] [] [] [57]) (zy []) 30 100 Lk Ll)
abbrev Ln:Con:=⟨Lk,Ll,XE⟩
theorem zan:Con.Ok prg 100 Ln:=okF (ze YK (ze VP zn)) (by kernel_rfl)
theorem zao(a0)(a1)(a2)(a3):XE (a0,a1,a2,a3,())=Lm a0 a1 a2 a3:=zA (by kernel_rfl)
abbrev ar:List VT:=[⟨false,(.list I)⟩]
abbrev au:List VT:=[⟨false,I⟩]
def Lo(a0:(List Int)):Option (Int×Unit):=opt (zI (fun s0:((Int×(Int×Unit))×Unit)=>bif !(zg 960 s0.1.2.1)then opt (zI (fun s1:((Bool×(Int×Unit))×Unit)=>bif(zg s1.1.2.1 ((a0.length:Nat):Int))then bif s1.1.1 then opt (atI a0 s1.1.2.1) fun x2=>bif zj x2 0 then none else some (.inr (((zj (Int.tmod s0.1.2.1 x2) 0),((wrF .i64 (s1.1.2.1+1)),())),()))else some (.inr ((false,((wrF .i64 (s1.1.2.1+1)),())),()))else some (.inl (0,((s1.1.1,(s1.1.2.1,())),())))) zR ((true,(0,())),())) fun x3=>bif x3.2.1.1 then some (.inl (1,((s0.1.2.1,(s0.1.2.1,())),())))else some (.inr ((s0.1.1,((wrF .i64 (s0.1.2.1+1)),())),()))else some (.inl (0,((s0.1.1,(s0.1.2.1,())),())))) zR ((0,(1,())),())) fun x4=>bif Nat.beq x4.1 0 then some (0,())else some (x4.2.1.1,())
abbrev Lp:Type:=((List Int)×Unit)->Option (Int×Unit)
def xe:Lp:=opq (sF prg [] (zG [] [] [] [] []) (zy []) 30 52 ar au)
abbrev mZ:Con:=⟨ar,au,xe⟩
theorem GK:Con.Ok prg 52 mZ:=okF zn (by kernel_rfl)
theorem zap(a0):xe (a0,())=Lo a0:=zA (by kernel_rfl)
abbrev de:List VT:=[⟨true,zS⟩,⟨true,xb⟩,⟨false,(.list zN)⟩]
abbrev df:List VT:=[⟨true,jb⟩,⟨false,I⟩]
def RQ(a0:qk)(a1:wm)(a2:(List qh)):Option (qQ×Int×Unit):=opt (kr (a0,())) fun x0=>bif !x0.1 then some (([],[]),(260,()))else opt (JD (a1,())) fun x1=>bif !x1.1 then some (([],[]),(320,()))else opt (gO (a0,(a2,()))) fun x2=>bif !(zj x2.1 0)then some (([],[]),(x2.1,()))else opt (zI (fun s3:(((Int×((List Bool)×(List (Int×(Int×(Int×Int))))))×((Int×(Int×(Int×Int)))×(Unit×(Bool×(Int×Unit)))))×(((List Int)×((List (Int×(Int×(Int×Int))))×Unit))×Unit))=>bif(zg s3.1.2.2.2.2.1 ((a2.length:Nat):Int))then opt (atI a2 s3.1.2.2.2.2.1) fun x4=>bif !(zj x4.2.2.2.1 7)then some (.inr ((s3.1.1,(s3.1.2.1,((),(s3.1.2.2.2.1,((wrF .i64 (s3.1.2.2.2.2.1+1)),()))))),((s3.2.1.1,(s3.2.1.2.1,())),())))else opt (zI (fun s5:(((Int×((List Bool)×(List (Int×(Int×(Int×Int))))))×((Int×(Int×(Int×Int)))×(Unit×(Bool×(Int×Unit)))))×(((List Int)×((List (Int×(Int×(Int×Int))))×Unit))×Unit))=>opt (atI a2 s3.1.2.2.2.2.1) fun x6=>bif(zg s5.1.2.2.2.2.1 ((x6.2.2.2.2.2.2.2.2.length:Nat):Int))then opt (atI a2 s3.1.2.2.2.2.1) fun x7=>opt (atI a2 s3.1.2.2.2.2.1) fun x8=>opt (atI x8.2.2.2.2.2.2.2.2 s5.1.2.2.2.2.1) fun x9=>opt (xI (s5.1.1,(s5.1.2.1,(x7,(x9,()))))) fun x10=>opt (zI (fun s11:((Unit×(Int×Unit))×(((List Int)×((List (Int×(Int×(Int×Int))))×Unit))×Unit))=>bif(zg s11.1.2.1 ((x10.1.length:Nat):Int))then opt (atI a2 s3.1.2.2.2.2.1) fun x12=>opt (atI x10.1 s11.1.2.1) fun x13=>opt (XD (s5.1.2.1,(((s11.2.1.1.length:Nat):Int),(x12.2.2.2.2.2.1,(x13,()))))) fun x14=>bif(qe s11.2.1.2.1.length ((x14.1::[]).length) 32)then some (.inr (((),((wrF .i64 (s11.1.2.1+1)),())),((s11.2.1.1,((s11.2.1.2.1++(x14.1::[])),())),())))else none else some (.inl (0,(((),(s11.1.2.1,())),((s11.2.1.1,(s11.2.1.2.1,())),()))))) zR (((),(0,())),((s5.2.1.1,(s5.2.1.2.1,())),()))) fun x15=>bif s5.1.2.2.2.1 then some (.inr ((s5.1.1,(s5.1.2.1,((),(true,((wrF .i64 (s5.1.2.2.2.2.1+1)),()))))),((x15.2.2.1.1,(x15.2.2.1.2.1,())),())))else opt (atI a2 s3.1.2.2.2.2.1) fun x16=>opt (atI a2 s3.1.2.2.2.2.1) fun x17=>opt (atI x17.2.2.2.2.2.2.2.2 s5.1.2.2.2.2.1) fun x18=>opt (XE (s5.1.1,(s5.1.2.1,(x16,(x18,()))))) fun x19=>opt (atI a2 s3.1.2.2.2.2.1) fun x20=>some (.inr ((s5.1.1,(s5.1.2.1,((),((zg x20.2.2.2.2.2.2.2.1 (wrF .i64 (x19.1+(wrF .i64 (2*s5.1.2.1.2.1))))),((wrF .i64 (s5.1.2.2.2.2.1+1)),()))))),((x15.2.2.1.1,(x15.2.2.1.2.1,())),())))else some (.inl (0,((s5.1.1,(s5.1.2.1,((),(s5.1.2.2.2.1,(s5.1.2.2.2.2.1,()))))),((s5.2.1.1,(s5.2.1.2.1,())),()))))) zR ((s3.1.1,(s3.1.2.1,((),(s3.1.2.2.2.1,(0,()))))),((s3.2.1.1,(s3.2.1.2.1,())),()))) fun x21=>opt (atI a2 s3.1.2.2.2.2.1) fun x22=>bif(qe x21.2.2.1.1.length ((x22.2.2.2.2.2.1::[]).length) 8)then some (.inr ((x21.2.1.1,(x21.2.1.2.1,((),(x21.2.1.2.2.2.1,((wrF .i64 (s3.1.2.2.2.2.1+1)),()))))),(((x21.2.2.1.1++(x22.2.2.2.2.2.1::[])),(x21.2.2.1.2.1,())),())))else none else some (.inl (0,((s3.1.1,(s3.1.2.1,((),(s3.1.2.2.2.1,(s3.1.2.2.2.2.1,()))))),((s3.2.1.1,(s3.2.1.2.1,())),()))))) zR ((a0,(a1,((),(false,(0,()))))),(([],([],())),()))) fun x23=>opt (xe (x23.2.2.1.1,())) fun x24=>bif zj x24.1 0 then some (([],[]),(6,()))else opt (zI (fun s25:((((List Int)×(List (Int×(Int×(Int×Int)))))×(Int×(Int×Unit)))×Unit)=>bif(zg s25.1.2.2.1 (wrF .i64 (2*((x23.2.1.1.2.2.length:Nat):Int))))then opt (zI (fun s26:((Int×(Int×Unit))×Unit)=>bif(zg s26.1.2.1 ((x23.2.2.1.2.1.length:Nat):Int))then opt (opt (atI x23.2.2.1.2.1 s26.1.2.1) fun x27=>opt (gl x23.2.2.1.2.1 (Int.toNat s26.1.2.1)) fun x28=>bif zj x28.2.1 s25.1.2.2.1 then opt (atI x23.2.2.1.2.1 s26.1.2.1) fun x29=>opt (gl x23.2.2.1.2.1 (Int.toNat s26.1.2.1)) fun x30=>opt (atI x23.2.2.1.1 x30.1) fun x31=>opt (gl x23.2.2.1.1 (Int.toNat x30.1)) fun x32=>bif zj x32 0 then none else some (0,(((wrF .i64 (s26.1.1+(wrF .i64 (Int.tdiv x24.1 x32)))),()),()))else some (0,((s26.1.1,()),()))) fun x33=>some (.inr ((x33.2.1.1,((wrF .i64 (s26.1.2.1+1)),())),()))else some (.inl (0,((s26.1.1,(s26.1.2.1,())),())))) zR ((0,(0,())),())) fun x34=>bif zg 63 x34.2.1.1 then some (.inl (1,((([],[]),(7,(s25.1.2.2.1,()))),())))else some (.inr ((s25.1.1,(s25.1.2.1,((wrF .i64 (s25.1.2.2.1+1)),()))),()))else some (.inl (0,((s25.1.1,(s25.1.2.1,(s25.1.2.2.1,()))),())))) zR ((([],[]),(0,(0,()))),())) fun x35=>bif Nat.beq x35.1 0 then opt (zI (fun s36:((Bool×(Int×Unit))×Unit)=>bif(zg s36.1.2.1 ((x23.2.2.1.2.1.length:Nat):Int))then bif s36.1.1 then some (.inr ((true,((wrF .i64 (s36.1.2.1+1)),())),()))else opt (atI x23.2.2.1.2.1 s36.1.2.1) fun x37=>opt (gl x23.2.2.1.2.1 (Int.toNat s36.1.2.1)) fun x38=>opt (atI x23.2.2.1.2.1 s36.1.2.1) fun x39=>opt (gl x23.2.2.1.2.1 (Int.toNat s36.1.2.1)) fun x40=>opt (atI x23.2.2.1.1 x40.1) fun x41=>opt (gl x23.2.2.1.1 (Int.toNat x40.1)) fun x42=>some (.inr (((zg x42 x38.2.2.2),((wrF .i64 (s36.1.2.1+1)),())),()))else some (.inl (0,((s36.1.1,(s36.1.2.1,())),())))) zR ((false,(0,())),())) fun x43=>bif x43.2.1.1 then some (([],[]),(341,()))else bif x23.2.1.2.2.2.1 then some (([],[]),(342,()))else some ((x23.2.2.1.1,x23.2.2.1.2.1),(0,()))else some (x35.2.1.1,(x35.2.1.2.1,()))
abbrev RR:Type:=(qk×wm×(List qh)×Unit)->Option (qQ×Int×Unit)
def vB:RR:=opq (sF prg [(96,JC),(97,bw),(98,VO),(19,XB),(99,Lj),(100,Ln),(52,mZ)] (zG [cdF zN,cdF zS,⟨jb,wk jb,[0,1]⟩,cdF gu,cdF qA,cdF zr] [] [] [(11,214,9,[0,1]),(15,214,9,[0,1]),(19,214,9,[0,1]),(11,214,9,[1,0]),(15,214,9,[1]),(19,214,9,[1])] [96,97,98,99,100,52]) (zy []) 30 49 de df)
abbrev zi0:Con:=⟨de,df,vB⟩
theorem zcC:Con.Ok prg 49 zi0:=okF (ze QY (ze eF (ze UW (ze YK (ze zal (ze zan (ze GK zn))))))) (by kernel_rfl)
theorem zcD(a0)(a1)(a2):vB (a0,a1,a2,())=RQ a0 a1 a2:=zA (by kernel_rfl)
abbrev Vd:List VT:=[⟨true,jb⟩]
abbrev Ve:List VT:=[⟨false,.bool⟩]
def tN(a0:qQ):Option (Bool×Unit):=opt (bif(zg 12 ((a0.1.length:Nat):Int))then some (1,((false,()),()))else bif(zg 192 ((a0.2.length:Nat):Int))then some (1,((false,()),()))else some (0,((false,()),()))) fun x0=>bif Nat.beq x0.1 0 then opt (zI (fun s1:((Bool×(Int×Unit))×Unit)=>bif(zg s1.1.2.1 ((a0.1.length:Nat):Int))then opt (opt (atI a0.1 s1.1.2.1) fun x2=>bif zg x2 1 then some (1,((false,()),()))else opt (atI a0.1 s1.1.2.1) fun x3=>bif zg 240 x3 then some (1,((false,()),()))else some (0,((s1.1.1,()),()))) fun x4=>bif Nat.beq x4.1 0 then some (.inr ((x4.2.1.1,((wrF .i64 (s1.1.2.1+1)),())),()))else some (.inl (1,((x4.2.1.1,(s1.1.2.1,())),())))else some (.inl (0,((s1.1.1,(s1.1.2.1,())),())))) zR ((x0.2.1.1,(0,())),())) fun x5=>bif Nat.beq x5.1 0 then opt (zI (fun s6:((Bool×(Int×Unit))×Unit)=>bif(zg s6.1.2.1 ((a0.2.length:Nat):Int))then opt (atI a0.2 s6.1.2.1) fun x7=>opt (bif zg x7.1 0 then some (1,((false,()),()))else bif(!(zg x7.1 ((a0.1.length:Nat):Int)))then some (1,((false,()),()))else bif zg x7.2.1 0 then some (1,((false,()),()))else bif !(zg x7.2.1 48)then some (1,((false,()),()))else some (0,((s6.1.1,()),()))) fun x8=>bif Nat.beq x8.1 0 then opt (bif zg x7.2.2.1 0 then some (1,((false,()),()))else opt (atI a0.1 x7.1) fun x9=>bif !(zg x7.2.2.1 x9)then some (1,((false,()),()))else bif zg x7.2.2.2 1 then some (1,((false,()),()))else opt (atI a0.1 x7.1) fun x10=>bif zg x10 x7.2.2.2 then some (1,((false,()),()))else some (0,((x8.2.1.1,()),()))) fun x11=>bif Nat.beq x11.1 0 then some (.inr ((x11.2.1.1,((wrF .i64 (s6.1.2.1+1)),())),()))else some (.inl (1,((x11.2.1.1,(s6.1.2.1,())),())))else some (.inl (1,((x8.2.1.1,(s6.1.2.1,())),())))else some (.inl (0,((s6.1.1,(s6.1.2.1,())),())))) zR ((x5.2.1.1,(0,())),())) fun x12=>bif Nat.beq x12.1 0 then opt (xe (a0.1,())) fun x13=>some ((zg 0 x13.1),())else some (x12.2.1.1,())else some (x5.2.1.1,())else some (x0.2.1.1,())
abbrev tO:Type:=(qQ×Unit)->Option (Bool×Unit)
def kx:tO:=opq (sF prg [(52,mZ)] (zG [cdF jb,cdF QH] [] [] [] [52]) (zy []) 30 101 Vd Ve)
abbrev zcE:Con:=⟨Vd,Ve,kx⟩
theorem Nw:Con.Ok prg 101 zcE:=okF (ze GK zn) (by kernel_rfl)
theorem Nx(a0):kx (a0,())=tN a0:=zA (by kernel_rfl)
abbrev RS:List VT:=[⟨true,jb⟩,⟨false,I⟩,⟨false,I⟩]
abbrev RT:List VT:=[⟨true,YI⟩]
def RU(a0:qQ)(a1:Int)(a2:Int):Option (Kc×Unit):=opt (atI a0.2 a1) fun x0=>opt (atI a0.1 x0.1) fun x1=>opt (atI a0.2 a1) fun x2=>bif zj x1 0 then none else opt (atI a0.2 a1) fun x3=>some ((x1,((Int.tmod (wrF .i64 (x2.2.2.1+a2)) x1),x3.2.2.2)),())
abbrev zi1:Type:=(qQ×Int×Int×Unit)->Option (Kc×Unit)
def QZ:zi1:=opq (sF prg [] (zG [cdF jb,cdF QH,cdF YI] [] [] [] []) (zy []) 30 253 RS RT)
abbrev RV:Con:=⟨RS,RT,QZ⟩
theorem zcF:Con.Ok prg 253 RV:=okF zn (by kernel_rfl)
theorem zcG(a0)(a1)(a2):QZ (a0,a1,a2,())=RU a0 a1 a2:=zA (by kernel_rfl)
abbrev Lq:List VT:=[⟨false,I⟩,⟨false,I⟩]
abbrev Lr:List VT:=[⟨false,I⟩]
def Ls(a0:Int)(a1:Int):Option (Int×Unit):=opt (zI (fun s0:((Int×(Int×Unit))×Unit)=>bif zg 1 s0.1.2.1 then opt (bif zj s0.1.2.1 0 then none else bif zj (Int.tmod a0 s0.1.2.1) 0 then bif zj s0.1.2.1 0 then none else bif zj (Int.tmod a1 s0.1.2.1) 0 then some (1,((s0.1.2.1,()),()))else some (0,((s0.1.1,()),()))else some (0,((s0.1.1,()),()))) fun x1=>bif Nat.beq x1.1 0 then some (.inr ((x1.2.1.1,((wrF .i64 (s0.1.2.1 - 1)),())),()))else some (.inl (1,((x1.2.1.1,(s0.1.2.1,())),())))else some (.inl (0,((s0.1.1,(s0.1.2.1,())),())))) zR ((0,(a0,())),())) fun x2=>bif Nat.beq x2.1 0 then some (1,())else some (x2.2.1.1,())
abbrev zgE:Type:=(Int×Int×Unit)->Option (Int×Unit)
def XF:zgE:=opq (sF prg [] (zG [] [] [] [] []) (zy []) 30 291 Lq Lr)
abbrev Lu:Con:=⟨Lq,Lr,XF⟩
theorem zaq:Con.Ok prg 291 Lu:=okF zn (by kernel_rfl)
theorem zar(a0)(a1):XF (a0,a1,())=Ls a0 a1:=zA (by kernel_rfl)
abbrev eJ:List VT:=[⟨true,YI⟩,⟨true,YI⟩]
abbrev eK:List VT:=[⟨false,.bool⟩]
def eM(a0:Kc)(a1:Kc):Option (Bool×Unit):=opt (XF (a0.1,(a1.1,()))) fun x0=>opt (zI (fun s1:((Bool×(Int×Unit))×Unit)=>bif zg s1.1.2.1 a0.2.2 then opt (vo ((wrF .i64 ((wrF .i64 (a1.2.1 - a0.2.1)) - s1.1.2.1)),(x0.1,()))) fun x2=>bif zj x2.1 0 then some (.inl (1,((false,(s1.1.2.1,())),())))else some (.inr ((s1.1.1,((wrF .i64 (s1.1.2.1+1)),())),()))else some (.inl (0,((s1.1.1,(s1.1.2.1,())),())))) zR ((false,((wrF .i64 (1 - a1.2.2)),())),())) fun x3=>bif Nat.beq x3.1 0 then some (true,())else some (x3.2.1.1,())
abbrev Ny:Type:=(Kc×Kc×Unit)->Option (Bool×Unit)
def ui:Ny:=opq (sF prg [(291,Lu),(164,XC)] (zG [cdF YI] [] [] [] [291,164]) (zy []) 30 252 eJ eK)
abbrev eO:Con:=⟨eJ,eK,ui⟩
theorem BG:Con.Ok prg 252 eO:=okF (ze zaq (ze YL zn)) (by kernel_rfl)
theorem BH(a0)(a1):ui (a0,a1,())=eM a0 a1:=zA (by kernel_rfl)
abbrev tP:List VT:=[⟨true,jb⟩,⟨false,I⟩,⟨false,I⟩,⟨false,I⟩,⟨false,I⟩]
abbrev tQ:List VT:=[⟨false,.bool⟩]
def tR(a0:qQ)(a1:Int)(a2:Int)(a3:Int)(a4:Int):Option (Bool×Unit):=opt (zI (fun s0:((Bool×(Int×Unit))×Unit)=>bif(zg s0.1.2.1 ((a0.2.length:Nat):Int))then opt (zI (fun s1:((Bool×(Int×Unit))×Unit)=>bif(zg s1.1.2.1 ((a0.2.length:Nat):Int))then opt (bif !(zj s0.1.2.1 s1.1.2.1)then opt (atI a0.2 s0.1.2.1) fun x2=>bif zj x2.1 a1 then opt (atI a0.2 s1.1.2.1) fun x3=>bif zj x3.1 a3 then opt (atI a0.2 s0.1.2.1) fun x4=>opt (atI a0.2 s1.1.2.1) fun x5=>bif zj x4.2.1 x5.2.1 then opt (QZ (a0,(s0.1.2.1,(a2,())))) fun x6=>opt (QZ (a0,(s1.1.2.1,(a4,())))) fun x7=>opt (ui (x6.1,(x7.1,()))) fun x8=>bif !x8.1 then some (1,((true,()),()))else some (0,((s1.1.1,()),()))else some (0,((s1.1.1,()),()))else some (0,((s1.1.1,()),()))else some (0,((s1.1.1,()),()))else some (0,((s1.1.1,()),()))) fun x9=>bif Nat.beq x9.1 0 then some (.inr ((x9.2.1.1,((wrF .i64 (s1.1.2.1+1)),())),()))else some (.inl (1,((x9.2.1.1,(s1.1.2.1,())),())))else some (.inl (0,((s1.1.1,(s1.1.2.1,())),())))) zR ((s0.1.1,(0,())),())) fun x10=>bif Nat.beq x10.1 0 then some (.inr ((x10.2.1.1,((wrF .i64 (s0.1.2.1+1)),())),()))else some (.inl (1,((x10.2.1.1,(s0.1.2.1,())),())))else some (.inl (0,((s0.1.1,(s0.1.2.1,())),())))) zR ((false,(0,())),())) fun x11=>bif Nat.beq x11.1 0 then some (false,())else some (x11.2.1.1,())
abbrev zcH:Type:=(qQ×Int×Int×Int×Int×Unit)->Option (Bool×Unit)
def ky:zcH:=opq (sF prg [(253,RV),(252,eO)] (zG [cdF jb,cdF QH,cdF YI] [] [] [] [253,252]) (zy []) 30 226 tP tQ)
abbrev tS:Con:=⟨tP,tQ,ky⟩
theorem Nz:Con.Ok prg 226 tS:=okF (ze zcF (ze BG zn)) (by kernel_rfl)
theorem NA(a0)(a1)(a2)(a3)(a4):ky (a0,a1,a2,a3,a4,())=tR a0 a1 a2 a3 a4:=zA (by kernel_rfl)
abbrev YM:List VT:=[⟨true,jb⟩,⟨false,(.list I)⟩,⟨false,I⟩]
abbrev YN:List VT:=[⟨false,I⟩]
def RW(a0:qQ)(a1:(List Int))(a2:Int):Option (Int×Unit):=opt (zI (fun s0:((Int×(Int×Unit))×Unit)=>bif(zg s0.1.2.1 ((a1.length:Nat):Int))then opt (atI a1 s0.1.2.1) fun x1=>opt (ky (a0,(((a1.length:Nat):Int),(a2,(s0.1.2.1,(x1,())))))) fun x2=>bif x2.1 then some (.inl (1,((s0.1.2.1,(s0.1.2.1,())),())))else some (.inr ((s0.1.1,((wrF .i64 (s0.1.2.1+1)),())),()))else some (.inl (0,((s0.1.1,(s0.1.2.1,())),())))) zR ((0,(0,())),())) fun x3=>bif Nat.beq x3.1 0 then opt (ky (a0,(((a1.length:Nat):Int),(a2,(((a1.length:Nat):Int),(a2,())))))) fun x4=>bif x4.1 then some (((a1.length:Nat):Int),())else some ((-1),())else some (x3.2.1.1,())
abbrev rS:Type:=(qQ×(List Int)×Int×Unit)->Option (Int×Unit)
def xN:rS:=opq (sF prg [(226,tS)] (zG [cdF jb,cdF QH] [] [] [] [226]) (zy []) 30 165 YM YN)
abbrev zi2:Con:=⟨YM,YN,xN⟩
theorem tT:Con.Ok prg 165 zi2:=okF (ze Nz zn) (by kernel_rfl)
theorem zcI(a0)(a1)(a2):xN (a0,a1,a2,())=RW a0 a1 a2:=zA (by kernel_rfl)
def GL:ym:=zG [⟨uU,wk uU,[0]⟩,cdF jb,cdF qD,cdF QH] [] [⟨3,133,some 11,yS,true⟩,⟨3,133,none,qD,true⟩,⟨9,133,some 11,yS,true⟩,⟨9,133,none,qD,true⟩,⟨11,133,some 11,yS,true⟩,⟨11,133,none,qD,true⟩,⟨14,133,some 11,yS,true⟩,⟨14,133,none,qD,true⟩,⟨15,133,some 11,yS,true⟩,⟨15,133,none,qD,true⟩,⟨19,133,some 11,yS,true⟩,⟨19,133,none,qD,true⟩,⟨25,133,some 11,yS,true⟩,⟨25,133,none,qD,true⟩] [(9,133,5,[0]),(9,133,8,[0])] [165]
def bz(vJ:rS)(yw:(qQ×Unit)->List jN->((List Int)×Int)->((List Int)×Int×Unit)->Option (List jN×((List Int)×Int)))(a0:qQ)(l:List jN)(y:((List Int)×Int))(a2:(List Int))(a3:Int):Option (List jN×((List Int)×Int)):=bif(zg a3 ((l.length:Nat):Int))then some (l,(y.1,2))else bif qe l.length 1 32 then opt (zI (fun s0:((((List Int)×(List (Int×(Int×(Int×Int)))))×(Unit×(Unit×(Int×Unit))))×(((List (Int×(List (Int×(Int×(Int×Int))))))×(((List Int)×Int)×Unit))×(((List (Int×(List (Int×(Int×(Int×Int))))))×(((List Int)×Int)×Unit))×((List (Int×(Int×(Int×Int))))×Unit))))=>opt (atI s0.1.1.1 ((a2.length:Nat):Int)) fun x1=>bif zg s0.1.2.2.2.1 x1 then opt (bif(zj ((a2.length:Nat):Int) 0)then bif zj s0.1.2.2.2.1 1 then opt (atI s0.1.1.1 0) fun x2=>bif(qe s0.2.2.2.1.length (((1,(x2,((-2),0)))::[]).length) 32)then some (1,((),((s0.2.2.2.1++((1,(x2,((-2),0)))::[])),())))else none else some (0,((),(s0.2.2.2.1,())))else some (0,((),(s0.2.2.2.1,())))) fun x3=>bif Nat.beq x3.1 0 then opt (vJ (s0.1.1,(a2,(s0.1.2.2.2.1,())))) fun x4=>bif(!(zj x4.1 (-1)))then opt (bif(zg 0 ((x3.2.2.1.length:Nat):Int))then opt (atI x3.2.2.1 (wrF .i64 (((x3.2.2.1.length:Nat):Int) - 1))) fun x5=>opt (gl x3.2.2.1 (Int.toNat (wrF .i64 (((x3.2.2.1.length:Nat):Int) - 1)))) fun x6=>bif zj x6.2.2.1 x4.1 then opt (atI x3.2.2.1 (wrF .i64 (((x3.2.2.1.length:Nat):Int) - 1))) fun x7=>opt (gl x3.2.2.1 (Int.toNat (wrF .i64 (((x3.2.2.1.length:Nat):Int) - 1)))) fun x8=>some (0,((),((x3.2.2.1.set (Int.toNat (wrF .i64 (((x3.2.2.1.length:Nat):Int) - 1))) (x8.1,((wrF .i64 (s0.1.2.2.2.1+1)),x8.2.2))),())))else bif(qe x3.2.2.1.length (((s0.1.2.2.2.1,((wrF .i64 (s0.1.2.2.2.1+1)),(x4.1,0)))::[]).length) 32)then some (0,((),((x3.2.2.1++((s0.1.2.2.2.1,((wrF .i64 (s0.1.2.2.2.1+1)),(x4.1,0)))::[])),())))else none else bif(qe x3.2.2.1.length (((s0.1.2.2.2.1,((wrF .i64 (s0.1.2.2.2.1+1)),(x4.1,0)))::[]).length) 32)then some (0,((),((x3.2.2.1++((s0.1.2.2.2.1,((wrF .i64 (s0.1.2.2.2.1+1)),(x4.1,0)))::[])),())))else none) fun x9=>some (.inr ((s0.1.1,((),((),((wrF .i64 (s0.1.2.2.2.1+1)),())))),((s0.2.1.1,(s0.2.1.2.1,())),((s0.2.2.1.1,(s0.2.2.1.2.1,())),(x9.2.2.1,())))))else bif qe 0 a2.length 8 then bif(qe a2.length ((s0.1.2.2.2.1::[]).length) 8)then bif(zj (((a2++(s0.1.2.2.2.1::[])).length:Nat):Int) ((s0.1.1.1.length:Nat):Int))then some (.inl s0)else bif(qe x3.2.2.1.length (((s0.1.2.2.2.1,((wrF .i64 (s0.1.2.2.2.1+1)),((-1),((s0.2.1.1.length:Nat):Int))))::[]).length) 32)then opt (yw (s0.1.1,()) s0.2.1.1 s0.2.1.2.1 ((a2++(s0.1.2.2.2.1::[])),(a3,()))) fun x10=>bif !(zj x10.2.2 0)then some (.inl s0)else some (.inr ((s0.1.1,((),((),((wrF .i64 (s0.1.2.2.2.1+1)),())))),((x10.1,(x10.2,())),((s0.2.2.1.1,(s0.2.2.1.2.1,())),((x3.2.2.1++((s0.1.2.2.2.1,((wrF .i64 (s0.1.2.2.2.1+1)),((-1),((s0.2.1.1.length:Nat):Int))))::[])),())))))else none else none else none else some (.inl s0)else some (.inl s0)) zR ((a0,((),((),(0,())))),(((l++((((a2.length:Nat):Int),[])::[])),(y,())),(([],(([],0),())),([],()))))) fun x11=>opt (atI x11.1.1.1 ((a2.length:Nat):Int)) fun x12=>bif zg x11.1.2.2.2.1 x12 then opt (bif(zj ((a2.length:Nat):Int) 0)then bif zj x11.1.2.2.2.1 1 then opt (atI x11.1.1.1 0) fun x13=>bif(qe x11.2.2.2.1.length (((1,(x13,((-2),0)))::[]).length) 32)then some (1,((),((x11.2.2.2.1++((1,(x13,((-2),0)))::[])),())))else none else some (0,((),(x11.2.2.2.1,())))else some (0,((),(x11.2.2.2.1,())))) fun x14=>bif Nat.beq x14.1 0 then opt (vJ (x11.1.1,(a2,(x11.1.2.2.2.1,())))) fun x15=>bif(!(zj x15.1 (-1)))then opt (bif(zg 0 ((x14.2.2.1.length:Nat):Int))then opt (atI x14.2.2.1 (wrF .i64 (((x14.2.2.1.length:Nat):Int) - 1))) fun x16=>opt (gl x14.2.2.1 (Int.toNat (wrF .i64 (((x14.2.2.1.length:Nat):Int) - 1)))) fun x17=>bif zj x17.2.2.1 x15.1 then opt (atI x14.2.2.1 (wrF .i64 (((x14.2.2.1.length:Nat):Int) - 1))) fun x18=>opt (gl x14.2.2.1 (Int.toNat (wrF .i64 (((x14.2.2.1.length:Nat):Int) - 1)))) fun x19=>some (0,((),((x14.2.2.1.set (Int.toNat (wrF .i64 (((x14.2.2.1.length:Nat):Int) - 1))) (x19.1,((wrF .i64 (x11.1.2.2.2.1+1)),x19.2.2))),())))else bif(qe x14.2.2.1.length (((x11.1.2.2.2.1,((wrF .i64 (x11.1.2.2.2.1+1)),(x15.1,0)))::[]).length) 32)then some (0,((),((x14.2.2.1++((x11.1.2.2.2.1,((wrF .i64 (x11.1.2.2.2.1+1)),(x15.1,0)))::[])),())))else none else bif(qe x14.2.2.1.length (((x11.1.2.2.2.1,((wrF .i64 (x11.1.2.2.2.1+1)),(x15.1,0)))::[]).length) 32)then some (0,((),((x14.2.2.1++((x11.1.2.2.2.1,((wrF .i64 (x11.1.2.2.2.1+1)),(x15.1,0)))::[])),())))else none) fun x20=>none else bif qe 0 a2.length 8 then bif(qe a2.length ((x11.1.2.2.2.1::[]).length) 8)then bif(zj (((a2++(x11.1.2.2.2.1::[])).length:Nat):Int) ((x11.1.1.1.length:Nat):Int))then some (x11.2.1.1,((a2++(x11.1.2.2.2.1::[])),1))else bif(qe x14.2.2.1.length (((x11.1.2.2.2.1,((wrF .i64 (x11.1.2.2.2.1+1)),((-1),((x11.2.1.1.length:Nat):Int))))::[]).length) 32)then opt (yw (x11.1.1,()) x11.2.1.1 x11.2.1.2.1 ((a2++(x11.1.2.2.2.1::[])),(a3,()))) fun x21=>bif !(zj x21.2.2 0)then some x21 else none else none else none else none else opt (atI x11.2.1.1 ((l.length:Nat):Int)) fun x22=>opt (gl x11.2.1.1 (Int.toNat ((l.length:Nat):Int))) fun x23=>some ((x11.2.1.1.set (Int.toNat ((l.length:Nat):Int)) (x23.1,x14.2.2.1)),x11.2.1.2.1)else opt (atI x11.2.1.1 ((l.length:Nat):Int)) fun x24=>opt (gl x11.2.1.1 (Int.toNat ((l.length:Nat):Int))) fun x25=>some ((x11.2.1.1.set (Int.toNat ((l.length:Nat):Int)) (x25.1,x11.2.2.2.1)),x11.2.1.2.1)else none
theorem zcJ(vJ:(qQ×(List Int)×Int×Unit)->Option (Int×Unit))(yw:(qQ×Unit)->List jN->((List Int)×Int)->((List Int)×Int×Unit)->Option (List jN×((List Int)×Int)))(a0:qQ)(l:List jN)(y:((List Int)×Int))(a2:(List Int))(a3:Int):sO prg ⟨[],[],[(102,⟨[⟨true,jb⟩],qD,(.pair (.list I) I),[⟨false,(.list I)⟩,⟨false,I⟩],yw⟩)]⟩ [(165,⟨YM,YN,vJ⟩)] GL (zy [] [(9,133)]) 40 102 [⟨true,jb⟩] qD (.pair (.list I) I) [⟨false,(.list I)⟩,⟨false,I⟩] (a0,()) l y (a2,a3,())=bz vJ yw a0 l y a2 a3:=by kernel_rfl
def xX:Nat->(qQ×Unit)->List jN->((List Int)×Int)->((List Int)×Int×Unit)->Option (List jN×((List Int)×Int))
 |0=>fun _ _ _ _=>none
 |n+1=>sO prg ⟨[],[],[(102,⟨[⟨true,jb⟩],qD,(.pair (.list I) I),[⟨false,(.list I)⟩,⟨false,I⟩],(xX n)⟩)]⟩ [(165,⟨YM,YN,xN⟩)] GL (zy [] [(9,133)]) 40 102 [⟨true,jb⟩] qD (.pair (.list I) I) [⟨false,(.list I)⟩,⟨false,I⟩]
theorem bV:∀n,Gx.Ok prg 102 ⟨[⟨true,jb⟩],qD,(.pair (.list I) I),[⟨false,(.list I)⟩,⟨false,I⟩],xX n⟩
 |0=>⟨(znC (lib:=⟨[],[],[]⟩) zb0 (t:=[]) zn qP (pl:=GL) (jq:=fun _ _=>false) (n:=0) (f:=102) (pre:=[]) (et:=.unit) (rest:=.unit) (post:=[]) (by kernel_rfl)).1,fun _ _ _ _ r h=>by cases h⟩
 |n+1=>znC ⟨yR,uS,(zfe (bV n) uT)⟩ (ze tT zn) qP (by kernel_rfl)
def Zp:(qQ×Unit)->List jN->((List Int)×Int)->((List Int)×Int×Unit)->Option (List jN×((List Int)×Int)):=xX 30
theorem NB:Gx.Ok prg 102 ⟨[⟨true,jb⟩],qD,(.pair (.list I) I),[⟨false,(.list I)⟩,⟨false,I⟩],Zp⟩:=bV 30
theorem HM(n:Nat)(a0:qQ)(l:List jN)(y:((List Int)×Int))(a2:(List Int))(a3:Int):xX (n+1) (a0,()) l y (a2,a3,())=bz xN (xX n) a0 l y a2 a3:=zcJ xN (xX n) a0 l y a2 a3
abbrev JF:List VT:=[⟨true,jb⟩,⟨false,I⟩]
abbrev JG:List VT:=[⟨false,(.list I)⟩,⟨false,(.list qD)⟩,⟨false,I⟩]
def oj:ym:=zG [⟨uU,wk uU,[0]⟩,cdF jb,cdF qD,cdF QH] [] [⟨1,35,some 4,I,false⟩,⟨1,35,some 5,qD,false⟩,⟨3,35,some 4,I,false⟩,⟨3,35,some 5,qD,false⟩,⟨5,35,some 4,I,false⟩,⟨5,35,some 5,qD,false⟩,⟨9,35,some 4,I,false⟩,⟨9,35,some 5,qD,false⟩,⟨11,35,some 4,I,false⟩,⟨11,35,some 5,qD,false⟩,⟨3,133,some 11,yS,true⟩,⟨3,133,none,qD,true⟩,⟨9,133,some 11,yS,true⟩,⟨9,133,none,qD,true⟩,⟨11,133,some 11,yS,true⟩,⟨11,133,none,qD,true⟩,⟨14,133,some 11,yS,true⟩,⟨14,133,none,qD,true⟩,⟨15,133,some 11,yS,true⟩,⟨15,133,none,qD,true⟩,⟨19,133,some 11,yS,true⟩,⟨19,133,none,qD,true⟩,⟨25,133,some 11,yS,true⟩,⟨25,133,none,qD,true⟩,⟨1,35,none,qD,true⟩,⟨3,35,none,qD,true⟩,⟨5,35,none,qD,true⟩,⟨9,35,none,qD,true⟩,⟨11,35,none,qD,true⟩] [(9,133,5,[0]),(9,133,8,[0])] [101,165]
def bA(Vs:tO)(vJ:rS)(yw:(qQ×Unit)->List jN->((List Int)×Int)->((List Int)×Int×Unit)->Option (List jN×((List Int)×Int)))(a0:qQ)(a1:Int):Option ((List Int)×(List jN)×Int×Unit):=opt (Vs (a0,())) fun x0=>bif !x0.1 then some ([],([],(340,())))else opt (bif zg a1 0 then some (1,(([],([],(2,()))),()))else bif !(zg a1 2000)then some (1,(([],([],(2,()))),()))else some (0,(([],([],(0,()))),()))) fun x1=>bif Nat.beq x1.1 0 then bif(zj ((a0.1.length:Nat):Int) 0)then some ([],([],(0,())))else bif zg a1 0 then some ([],([],(8,())))else bif qe 0 1 32 then opt (zI (fun s2:((((List Int)×(List (Int×(Int×(Int×Int)))))×(Unit×(Unit×(Int×Unit))))×(((List (Int×(List (Int×(Int×(Int×Int))))))×(((List Int)×Int)×Unit))×(((List (Int×(List (Int×(Int×(Int×Int))))))×(((List Int)×Int)×Unit))×((List (Int×(Int×(Int×Int))))×Unit))))=>opt (atI s2.1.1.1 0) fun x3=>bif zg s2.1.2.2.2.1 x3 then opt (bif zj s2.1.2.2.2.1 1 then opt (atI s2.1.1.1 0) fun x4=>bif(qe s2.2.2.2.1.length (((1,(x4,((-2),0)))::[]).length) 32)then some (1,((),((s2.2.2.2.1++((1,(x4,((-2),0)))::[])),())))else none else some (0,((),(s2.2.2.2.1,())))) fun x5=>bif Nat.beq x5.1 0 then opt (vJ (s2.1.1,([],(s2.1.2.2.2.1,())))) fun x6=>bif(!(zj x6.1 (-1)))then opt (bif(zg 0 ((x5.2.2.1.length:Nat):Int))then opt (atI x5.2.2.1 (wrF .i64 (((x5.2.2.1.length:Nat):Int) - 1))) fun x7=>opt (gl x5.2.2.1 (Int.toNat (wrF .i64 (((x5.2.2.1.length:Nat):Int) - 1)))) fun x8=>bif zj x8.2.2.1 x6.1 then opt (atI x5.2.2.1 (wrF .i64 (((x5.2.2.1.length:Nat):Int) - 1))) fun x9=>opt (gl x5.2.2.1 (Int.toNat (wrF .i64 (((x5.2.2.1.length:Nat):Int) - 1)))) fun x10=>some (0,((),((x5.2.2.1.set (Int.toNat (wrF .i64 (((x5.2.2.1.length:Nat):Int) - 1))) (x10.1,((wrF .i64 (s2.1.2.2.2.1+1)),x10.2.2))),())))else bif(qe x5.2.2.1.length (((s2.1.2.2.2.1,((wrF .i64 (s2.1.2.2.2.1+1)),(x6.1,0)))::[]).length) 32)then some (0,((),((x5.2.2.1++((s2.1.2.2.2.1,((wrF .i64 (s2.1.2.2.2.1+1)),(x6.1,0)))::[])),())))else none else bif(qe x5.2.2.1.length (((s2.1.2.2.2.1,((wrF .i64 (s2.1.2.2.2.1+1)),(x6.1,0)))::[]).length) 32)then some (0,((),((x5.2.2.1++((s2.1.2.2.2.1,((wrF .i64 (s2.1.2.2.2.1+1)),(x6.1,0)))::[])),())))else none) fun x11=>some (.inr ((s2.1.1,((),((),((wrF .i64 (s2.1.2.2.2.1+1)),())))),((s2.2.1.1,(s2.2.1.2.1,())),((s2.2.2.1.1,(s2.2.2.1.2.1,())),(x11.2.2.1,())))))else bif qe 0 0 8 then bif(qe 0 ((s2.1.2.2.2.1::[]).length) 8)then bif(zj (((s2.1.2.2.2.1::[]).length:Nat):Int) ((s2.1.1.1.length:Nat):Int))then some (.inl s2)else bif(qe x5.2.2.1.length (((s2.1.2.2.2.1,((wrF .i64 (s2.1.2.2.2.1+1)),((-1),((s2.2.1.1.length:Nat):Int))))::[]).length) 32)then bif(zg 0 ((s2.2.1.1.length:Nat):Int))then opt (yw (s2.1.1,()) s2.2.1.1 s2.2.1.2.1 ((s2.1.2.2.2.1::[]),(a1,()))) fun x12=>bif(zg 0 ((x12.1.length:Nat):Int))then bif !(zj x12.2.2 0)then some (.inl s2)else some (.inr ((s2.1.1,((),((),((wrF .i64 (s2.1.2.2.2.1+1)),())))),((x12.1,(x12.2,())),((s2.2.2.1.1,(s2.2.2.1.2.1,())),((x5.2.2.1++((s2.1.2.2.2.1,((wrF .i64 (s2.1.2.2.2.1+1)),((-1),((s2.2.1.1.length:Nat):Int))))::[])),())))))else none else none else none else none else none else some (.inl s2)else some (.inl s2)) zR ((a0,((),((),(0,())))),((((0,[])::[]),(([],0),())),(([],(([],0),())),([],()))))) fun x13=>opt (atI x13.1.1.1 0) fun x14=>bif zg x13.1.2.2.2.1 x14 then opt (bif zj x13.1.2.2.2.1 1 then opt (atI x13.1.1.1 0) fun x15=>bif(qe x13.2.2.2.1.length (((1,(x15,((-2),0)))::[]).length) 32)then some (1,((),((x13.2.2.2.1++((1,(x15,((-2),0)))::[])),())))else none else some (0,((),(x13.2.2.2.1,())))) fun x16=>bif Nat.beq x16.1 0 then opt (vJ (x13.1.1,([],(x13.1.2.2.2.1,())))) fun x17=>bif(!(zj x17.1 (-1)))then opt (bif(zg 0 ((x16.2.2.1.length:Nat):Int))then opt (atI x16.2.2.1 (wrF .i64 (((x16.2.2.1.length:Nat):Int) - 1))) fun x18=>opt (gl x16.2.2.1 (Int.toNat (wrF .i64 (((x16.2.2.1.length:Nat):Int) - 1)))) fun x19=>bif zj x19.2.2.1 x17.1 then opt (atI x16.2.2.1 (wrF .i64 (((x16.2.2.1.length:Nat):Int) - 1))) fun x20=>opt (gl x16.2.2.1 (Int.toNat (wrF .i64 (((x16.2.2.1.length:Nat):Int) - 1)))) fun x21=>some (0,((),((x16.2.2.1.set (Int.toNat (wrF .i64 (((x16.2.2.1.length:Nat):Int) - 1))) (x21.1,((wrF .i64 (x13.1.2.2.2.1+1)),x21.2.2))),())))else bif(qe x16.2.2.1.length (((x13.1.2.2.2.1,((wrF .i64 (x13.1.2.2.2.1+1)),(x17.1,0)))::[]).length) 32)then some (0,((),((x16.2.2.1++((x13.1.2.2.2.1,((wrF .i64 (x13.1.2.2.2.1+1)),(x17.1,0)))::[])),())))else none else bif(qe x16.2.2.1.length (((x13.1.2.2.2.1,((wrF .i64 (x13.1.2.2.2.1+1)),(x17.1,0)))::[]).length) 32)then some (0,((),((x16.2.2.1++((x13.1.2.2.2.1,((wrF .i64 (x13.1.2.2.2.1+1)),(x17.1,0)))::[])),())))else none) fun x22=>none else bif qe 0 0 8 then bif(qe 0 ((x13.1.2.2.2.1::[]).length) 8)then bif(zj (((x13.1.2.2.2.1::[]).length:Nat):Int) ((x13.1.1.1.length:Nat):Int))then some ((x13.1.2.2.2.1::[]),([],(0,())))else bif(qe x16.2.2.1.length (((x13.1.2.2.2.1,((wrF .i64 (x13.1.2.2.2.1+1)),((-1),((x13.2.1.1.length:Nat):Int))))::[]).length) 32)then bif(zg 0 ((x13.2.1.1.length:Nat):Int))then opt (yw (x13.1.1,()) x13.2.1.1 x13.2.1.2.1 ((x13.1.2.2.2.1::[]),(a1,()))) fun x23=>bif(zg 0 ((x23.1.length:Nat):Int))then bif !(zj x23.2.2 0)then bif zj x23.2.2 1 then some (x23.2.1,([],(0,())))else bif zj x23.2.2 2 then some ([],([],(8,())))else some ([],(x23.1,(4,())))else none else none else none else none else none else none else opt (atI x13.2.1.1 0) fun x24=>opt (gl x13.2.1.1 (Int.toNat 0)) fun x25=>bif zj x13.2.1.2.1.2 1 then some (x13.2.1.2.1.1,([],(0,())))else bif zj x13.2.1.2.1.2 2 then some ([],([],(8,())))else some ([],((x13.2.1.1.set (Int.toNat 0) (x25.1,x16.2.2.1)),(4,())))else opt (atI x13.2.1.1 0) fun x26=>opt (gl x13.2.1.1 (Int.toNat 0)) fun x27=>bif zj x13.2.1.2.1.2 1 then some (x13.2.1.2.1.1,([],(0,())))else bif zj x13.2.1.2.1.2 2 then some ([],([],(8,())))else some ([],((x13.2.1.1.set (Int.toNat 0) (x27.1,x13.2.2.2.1)),(4,())))else none else some (x1.2.1.1,(x1.2.1.2.1,(x1.2.1.2.2.1,())))
theorem zcK(Vs:(qQ×Unit)->Option (Bool×Unit))(vJ:(qQ×(List Int)×Int×Unit)->Option (Int×Unit))(yw:(qQ×Unit)->List jN->((List Int)×Int)->((List Int)×Int×Unit)->Option (List jN×((List Int)×Int)))(a0:qQ)(a1:Int):sFl prg ⟨[],[],[(102,⟨[⟨true,jb⟩],qD,(.pair (.list I) I),[⟨false,(.list I)⟩,⟨false,I⟩],yw⟩)]⟩ [(101,⟨Vd,Ve,Vs⟩),(165,⟨YM,YN,vJ⟩)] oj (zy [] [(9,133)]) 40 50 JF JG (a0,a1,())=bA Vs vJ yw a0 a1:=by kernel_rfl
def xf:(qQ×Int×Unit)->Option ((List Int)×(List jN)×Int×Unit):=sFl prg ⟨[],[],[(102,⟨[⟨true,jb⟩],qD,(.pair (.list I) I),[⟨false,(.list I)⟩,⟨false,I⟩],Zp⟩)]⟩ [(101,⟨Vd,Ve,kx⟩),(165,⟨YM,YN,xN⟩)] oj (zy [] [(9,133)]) 40 50 JF JG
theorem NC:Con.Ok prg 50 ⟨JF,JG,xf⟩:=Dy ⟨yR,uS,(zfe NB uT)⟩ (ze Nw (ze tT zn)) qP (by kernel_rfl)
theorem ND(a0:qQ)(a1:Int):xf (a0,a1,())=bA kx xN Zp a0 a1:=zcK kx xN Zp a0 a1
abbrev lP:List VT:=[⟨true,zS⟩,⟨true,xb⟩,⟨false,(.list zN)⟩,⟨false,(.list I)⟩]
abbrev lQ:List VT:=[⟨false,(.list jd)⟩]
def lR(a0:qk)(a1:wm)(a2:(List qh))(a3:(List Int)):Option ((List yL)×Unit):=opt (zI (fun s0:(((Int×((List Bool)×(List (Int×(Int×(Int×Int))))))×((Int×(Int×(Int×Int)))×(Int×(Int×Unit))))×((List (Int×(Int×(Int×(Int×(Int×Int))))))×Unit))=>bif(zg s0.1.2.2.2.1 ((a2.length:Nat):Int))then opt (atI a2 s0.1.2.2.2.1) fun x1=>bif !(zj x1.2.2.2.1 7)then some (.inr ((s0.1.1,(s0.1.2.1,(s0.1.2.2.1,((wrF .i64 (s0.1.2.2.2.1+1)),())))),(s0.2.1,())))else opt (zI (fun s2:(((Int×((List Bool)×(List (Int×(Int×(Int×Int))))))×((Int×(Int×(Int×Int)))×(Int×Unit)))×((List (Int×(Int×(Int×(Int×(Int×Int))))))×Unit))=>opt (atI a2 s0.1.2.2.2.1) fun x3=>bif(zg s2.1.2.2.1 ((x3.2.2.2.2.2.2.2.2.length:Nat):Int))then opt (atI a2 s0.1.2.2.2.1) fun x4=>opt (atI a2 s0.1.2.2.2.1) fun x5=>opt (atI x5.2.2.2.2.2.2.2.2 s2.1.2.2.1) fun x6=>opt (xI (s2.1.1,(s2.1.2.1,(x4,(x6,()))))) fun x7=>opt (zI (fun s8:((Int×Unit)×((List (Int×(Int×(Int×(Int×(Int×Int))))))×Unit))=>bif(zg s8.1.1 ((x7.1.length:Nat):Int))then opt (atI x7.1 s8.1.1) fun x9=>bif zj s2.1.2.1.1 0 then none else opt (atI a2 s0.1.2.2.2.1) fun x10=>opt (atI x7.1 s8.1.1) fun x11=>opt (atI x7.1 s8.1.1) fun x12=>opt (atI a3 s0.1.2.2.1) fun x13=>opt (atI a2 s0.1.2.2.2.1) fun x14=>opt (atI x7.1 s8.1.1) fun x15=>bif(qe s8.2.1.length (((x10.1,(x11.1,((wrF .i64 (x12.2.2.2.1+(wrF .i64 (x13*s2.1.2.1.1)))),((wrF .i64 (x14.2.2.2.2.2.1*s2.1.2.1.1)),((wrF .i64 ((wrF .i64 (Int.tdiv (wrF .i64 ((wrF .i64 (x9.2.2.2.2+s2.1.2.1.1)) - 1)) s2.1.2.1.1))*s2.1.2.1.1)),x15.2.2.2.2)))))::[]).length) 48)then some (.inr (((wrF .i64 (s8.1.1+1)),()),((s8.2.1++((x10.1,(x11.1,((wrF .i64 (x12.2.2.2.1+(wrF .i64 (x13*s2.1.2.1.1)))),((wrF .i64 (x14.2.2.2.2.2.1*s2.1.2.1.1)),((wrF .i64 ((wrF .i64 (Int.tdiv (wrF .i64 ((wrF .i64 (x9.2.2.2.2+s2.1.2.1.1)) - 1)) s2.1.2.1.1))*s2.1.2.1.1)),x15.2.2.2.2)))))::[])),())))else none else some (.inl (0,((s8.1.1,()),(s8.2.1,()))))) zR ((0,()),(s2.2.1,()))) fun x16=>some (.inr ((s2.1.1,(s2.1.2.1,((wrF .i64 (s2.1.2.2.1+1)),()))),(x16.2.2.1,())))else some (.inl (0,((s2.1.1,(s2.1.2.1,(s2.1.2.2.1,()))),(s2.2.1,()))))) zR ((s0.1.1,(s0.1.2.1,(0,()))),(s0.2.1,()))) fun x17=>some (.inr ((x17.2.1.1,(x17.2.1.2.1,((wrF .i64 (s0.1.2.2.1+1)),((wrF .i64 (s0.1.2.2.2.1+1)),())))),(x17.2.2.1,())))else some (.inl (0,((s0.1.1,(s0.1.2.1,(s0.1.2.2.1,(s0.1.2.2.2.1,())))),(s0.2.1,()))))) zR ((a0,(a1,(0,(0,())))),([],()))) fun x18=>some (x18.2.2.1,())
abbrev RX:Type:=(qk×wm×(List qh)×(List Int)×Unit)->Option ((List yL)×Unit)
def ZM:RX:=opq (sF prg [(19,XB)] (zG [cdF zN,cdF zS,cdF jd,cdF gu,cdF qA,cdF zr] [] [⟨4,118,some 8,jd,false⟩,⟨4,118,some 9,jd,true⟩,⟨6,118,some 8,jd,false⟩,⟨6,118,some 9,jd,true⟩,⟨8,118,some 8,jd,false⟩,⟨8,118,some 9,jd,true⟩,⟨12,118,some 8,jd,false⟩,⟨12,118,some 9,jd,true⟩] [] []) (zy []) 30 103 lP lQ)
abbrev lS:Con:=⟨lP,lQ,ZM⟩
theorem Ek:Con.Ok prg 103 lS:=okF (ze YK zn) (by kernel_rfl)
theorem El(a0)(a1)(a2)(a3):ZM (a0,a1,a2,a3,())=lR a0 a1 a2 a3:=zA (by kernel_rfl)
abbrev RY:List VT:=[⟨false,(.list jd)⟩,⟨false,I⟩,⟨false,I⟩]
abbrev RZ:List VT:=[⟨false,.bool⟩]
def Sa(a0:(List yL))(a1:Int)(a2:Int):Option (Bool×Unit):=opt (zI (fun s0:((Bool×(Int×Unit))×Unit)=>bif(zg s0.1.2.1 ((a0.length:Nat):Int))then opt (opt (atI a0 s0.1.2.1) fun x1=>bif zj x1.2.1 a1 then opt (atI a0 s0.1.2.1) fun x2=>opt (atI a0 s0.1.2.1) fun x3=>opt (vo ((wrF .i64 (a2 - x2.2.2.1)),(x3.2.2.2.1,()))) fun x4=>opt (atI a0 s0.1.2.1) fun x5=>bif zg x4.1 x5.2.2.2.2.1 then some (1,((true,()),()))else some (0,((s0.1.1,()),()))else some (0,((s0.1.1,()),()))) fun x6=>bif Nat.beq x6.1 0 then some (.inr ((x6.2.1.1,((wrF .i64 (s0.1.2.1+1)),())),()))else some (.inl (1,((x6.2.1.1,(s0.1.2.1,())),())))else some (.inl (0,((s0.1.1,(s0.1.2.1,())),())))) zR ((false,(0,())),())) fun x7=>bif Nat.beq x7.1 0 then some (false,())else some (x7.2.1.1,())
abbrev zi3:Type:=((List yL)×Int×Int×Unit)->Option (Bool×Unit)
def YO:zi3:=opq (sF prg [(164,XC)] (zG [cdF jd] [] [] [] [164]) (zy []) 30 166 RY RZ)
abbrev Sb:Con:=⟨RY,RZ,YO⟩
theorem zcL:Con.Ok prg 166 Sb:=okF (ze YL zn) (by kernel_rfl)
theorem zcM(a0)(a1)(a2):YO (a0,a1,a2,())=Sa a0 a1 a2:=zA (by kernel_rfl)
abbrev Em:List VT:=[⟨false,(.list jd)⟩,⟨false,I⟩,⟨false,I⟩,⟨false,I⟩]
abbrev En:List VT:=[⟨true,qF⟩]
def Eo(a0:(List yL))(a1:Int)(a2:Int)(a3:Int):Option (jC×Unit):=opt (zI (fun s0:((Unit×(Int×Unit))×(((List (Int×Int))×(Int×Unit))×Unit))=>bif zg s0.1.2.1 a2 then opt (opt (YO (a0,(a1,((wrF .i64 (s0.1.2.1*a3)),())))) fun x1=>bif x1.1 then some (0,((128,()),()))else some (0,((127,()),()))) fun x2=>opt (bif(zg 0 ((s0.2.1.1.length:Nat):Int))then opt (atI s0.2.1.1 (wrF .i64 (((s0.2.1.1.length:Nat):Int) - 1))) fun x3=>opt (gl s0.2.1.1 (Int.toNat (wrF .i64 (((s0.2.1.1.length:Nat):Int) - 1)))) fun x4=>bif zj x4.1 x2.2.1.1 then opt (atI s0.2.1.1 (wrF .i64 (((s0.2.1.1.length:Nat):Int) - 1))) fun x5=>opt (gl s0.2.1.1 (Int.toNat (wrF .i64 (((s0.2.1.1.length:Nat):Int) - 1)))) fun x6=>opt (atI s0.2.1.1 (wrF .i64 (((s0.2.1.1.length:Nat):Int) - 1))) fun x7=>opt (gl s0.2.1.1 (Int.toNat (wrF .i64 (((s0.2.1.1.length:Nat):Int) - 1)))) fun x8=>some (0,(((),()),(((s0.2.1.1.set (Int.toNat (wrF .i64 (((s0.2.1.1.length:Nat):Int) - 1))) (x8.1,(wrF .i64 (x6.2+a3)))),(s0.2.1.2.1,())),())))else bif(qe s0.2.1.1.length (((x2.2.1.1,a3)::[]).length) 16)then some (0,(((),()),(((s0.2.1.1++((x2.2.1.1,a3)::[])),(s0.2.1.2.1,())),())))else none else bif(qe s0.2.1.1.length (((x2.2.1.1,a3)::[]).length) 16)then some (0,(((),()),(((s0.2.1.1++((x2.2.1.1,a3)::[])),(s0.2.1.2.1,())),())))else none) fun x9=>some (.inr (((),((wrF .i64 (s0.1.2.1+1)),())),((x9.2.2.1.1,(x9.2.2.1.2.1,())),())))else some (.inl (0,(((),(s0.1.2.1,())),((s0.2.1.1,(s0.2.1.2.1,())),()))))) zR (((),(0,())),(([],((wrF .i64 (a2*a3)),())),()))) fun x10=>some ((x10.2.2.1.1,x10.2.2.1.2.1),())
abbrev zfE:Type:=((List yL)×Int×Int×Int×Unit)->Option (jC×Unit)
def Qu:zfE:=opq (sF prg [(166,Sb)] (zG [⟨qF,wk qF,[0]⟩,cdF je] [] [⟨3,68,none,je,true⟩,⟨6,68,none,je,true⟩,⟨9,68,none,je,true⟩] [(3,68,9,[0]),(9,68,9,[0])] [166]) (zy []) 30 104 Em En)
abbrev Ep:Con:=⟨Em,En,Qu⟩
theorem Sc:Con.Ok prg 104 Ep:=okF (ze zcL zn) (by kernel_rfl)
theorem Sd(a0)(a1)(a2)(a3):Qu (a0,a1,a2,a3,())=Eo a0 a1 a2 a3:=zA (by kernel_rfl)
abbrev aw:List VT:=[⟨true,zS⟩,⟨true,xb⟩,⟨false,(.list zN)⟩,⟨false,(.list I)⟩,⟨false,I⟩]
abbrev ay:List VT:=[⟨false,(.list qF)⟩]
def Lv(a0:qk)(a1:wm)(a2:(List qh))(a3:(List Int))(a4:Int):Option ((List jC)×Unit):=opt (ZM (a0,(a1,(a2,(a3,()))))) fun x0=>opt (zI (fun s1:(((Int×(Int×(Int×Int)))×(Int×Unit))×((List ((List (Int×Int))×Int))×Unit))=>bif(zg s1.1.2.1 (wrF .i64 (2*((a0.2.2.length:Nat):Int))))then opt (Qu (x0.1,(s1.1.2.1,(a4,(s1.1.1.1,()))))) fun x2=>bif(qe s1.2.1.length ((x2.1::[]).length) 32)then some (.inr ((s1.1.1,((wrF .i64 (s1.1.2.1+1)),())),((s1.2.1++(x2.1::[])),())))else none else some (.inl (0,((s1.1.1,(s1.1.2.1,())),(s1.2.1,()))))) zR ((a1,(0,())),([],()))) fun x3=>some (x3.2.2.1,())
abbrev Lw:Type:=(qk×wm×(List qh)×(List Int)×Int×Unit)->Option ((List jC)×Unit)
def uA:Lw:=opq (sF prg [(103,lS),(104,Ep)] (zG [cdF zS,cdF qA,cdF qF,cdF je] [] [⟨4,37,some 10,qF,false⟩,⟨4,37,some 12,qF,true⟩] [] []) (zy []) 30 51 aw ay)
abbrev zgF:Con:=⟨aw,ay,uA⟩
theorem zas:Con.Ok prg 51 zgF:=okF (ze Ek (ze Sc zn)) (by kernel_rfl)
theorem zat(a0)(a1)(a2)(a3)(a4):uA (a0,a1,a2,a3,a4,())=Lv a0 a1 a2 a3 a4:=zA (by kernel_rfl)
abbrev tU:List VT:=[⟨true,qF⟩]
abbrev tV:List VT:=[⟨false,.bool⟩]
def tW(a0:jC):Option (Bool×Unit):=opt (bif(zg ((a0.1.length:Nat):Int) 1)then some (1,((false,()),()))else bif(zg 128 ((a0.1.length:Nat):Int))then some (1,((false,()),()))else some (0,((false,()),()))) fun x0=>bif Nat.beq x0.1 0 then opt (zI (fun s1:((Bool×(Int×(Int×Unit)))×Unit)=>bif(zg s1.1.2.2.1 ((a0.1.length:Nat):Int))then opt (atI a0.1 s1.1.2.2.1) fun x2=>opt (bif zg x2.1 0 then some (1,((false,()),()))else bif zg 255 x2.1 then some (1,((false,()),()))else bif zg x2.2 1 then some (1,((false,()),()))else bif zg 9600000 x2.2 then some (1,((false,()),()))else some (0,((s1.1.1,()),()))) fun x3=>bif Nat.beq x3.1 0 then some (.inr ((x3.2.1.1,((wrF .i64 (s1.1.2.1+x2.2)),((wrF .i64 (s1.1.2.2.1+1)),()))),()))else some (.inl (1,((x3.2.1.1,(s1.1.2.1,(s1.1.2.2.1,()))),())))else some (.inl (0,((s1.1.1,(s1.1.2.1,(s1.1.2.2.1,()))),())))) zR ((x0.2.1.1,(0,(0,()))),())) fun x4=>bif Nat.beq x4.1 0 then bif zj x4.2.1.2.1 a0.2 then some ((!(zg 9600000 x4.2.1.2.1)),())else some (false,())else some (x4.2.1.1,())else some (x0.2.1.1,())
abbrev zcN:Type:=(jC×Unit)->Option (Bool×Unit)
def JH:zcN:=opq (sF prg [] (zG [cdF qF,cdF je] [] [] [] []) (zy []) 30 172 tU tV)
abbrev bB:Con:=⟨tU,tV,JH⟩
theorem eP:Con.Ok prg 172 bB:=okF zn (by kernel_rfl)
theorem NF(a0):JH (a0,())=tW a0:=zA (by kernel_rfl)
abbrev UX:List VT:=[⟨true,jB⟩]
abbrev UY:List VT:=[⟨false,I⟩]
def UZ(a0:wL):Option (Int×Unit):=opt (kr (a0.1,())) fun x0=>bif !x0.1 then some (260,())else opt (JD (a0.2.1,())) fun x1=>bif !x1.1 then some (320,())else opt (zI (fun s2:((Int×(Int×Unit))×Unit)=>bif(zg s2.1.2.1 ((a0.2.2.1.length:Nat):Int))then opt (atI a0.2.2.1 s2.1.2.1) fun x3=>opt (JH (x3,())) fun x4=>bif !x4.1 then some (.inl (1,((370,(s2.1.2.1,())),())))else some (.inr ((s2.1.1,((wrF .i64 (s2.1.2.1+1)),())),()))else some (.inl (0,((s2.1.1,(s2.1.2.1,())),())))) zR ((0,(0,())),())) fun x5=>bif Nat.beq x5.1 0 then opt (bif(!(zj ((a0.2.2.1.length:Nat):Int) (wrF .i64 (2*((a0.1.2.2.length:Nat):Int)))))then some (1,((410,()),()))else bif zg a0.2.2.2 84 then some (1,((410,()),()))else bif zg 1542 a0.2.2.2 then some (1,((410,()),()))else some (0,((x5.2.1.1,()),()))) fun x6=>bif Nat.beq x6.1 0 then some (0,())else some (x6.2.1.1,())else some (x5.2.1.1,())
abbrev BI:Type:=(wL×Unit)->Option (Int×Unit)
def Zd:BI:=opq (sF prg [(96,JC),(97,bw),(172,bB)] (zG [cdF jB,cdF zS,cdF qA,cdF qF,cdF je] [] [] [] [96,97,172]) (zy []) 30 109 UX UY)
abbrev Ga:Con:=⟨UX,UY,Zd⟩
theorem nc:Con.Ok prg 109 Ga:=okF (ze QY (ze eF (ze eP zn))) (by kernel_rfl)
theorem nf(a0):Zd (a0,())=UZ a0:=zA (by kernel_rfl)
abbrev Er:List VT:=[⟨true,jB⟩,⟨false,(.list zN)⟩]
abbrev Es:List VT:=[⟨false,I⟩]
def Et(a0:wL)(a1:(List qh)):Option (Int×Unit):=opt (Zd (a0,())) fun x0=>opt (bif zj x0.1 0 then opt (gO (a0.1,(a1,()))) fun x1=>some (0,((x1.1,()),()))else some (0,((x0.1,()),()))) fun x2=>bif !(zj x2.2.1.1 0)then some (x2.2.1.1,())else opt (zI (fun s3:((Int×(Int×Unit))×Unit)=>bif(zg s3.1.2.1 ((a1.length:Nat):Int))then opt (opt (atI a1 s3.1.2.1) fun x4=>bif !(zj x4.2.2.2.1 6)then some (1,((2,()),()))else opt (atI a1 s3.1.2.1) fun x5=>bif zg a0.2.2.2 x5.2.2.2.2.1 then some (1,((2,()),()))else some (0,((s3.1.1,()),()))) fun x6=>bif Nat.beq x6.1 0 then some (.inr ((x6.2.1.1,((wrF .i64 (s3.1.2.1+1)),())),()))else some (.inl (1,((x6.2.1.1,(s3.1.2.1,())),())))else some (.inl (0,((s3.1.1,(s3.1.2.1,())),())))) zR ((0,(0,())),())) fun x7=>bif Nat.beq x7.1 0 then some (0,())else some (x7.2.1.1,())
abbrev zfF:Type:=(wL×(List qh)×Unit)->Option (Int×Unit)
def Yk:zfF:=opq (sF prg [(109,Ga),(98,VO)] (zG [cdF jB,cdF zN,cdF zS,cdF qA,cdF qF,cdF je] [] [] [] [109,98]) (zy []) 30 58 Er Es)
abbrev eQ:Con:=⟨Er,Es,Yk⟩
theorem lT:Con.Ok prg 58 eQ:=okF (ze nc (ze UW zn)) (by kernel_rfl)
theorem Se(a0)(a1):Yk (a0,a1,())=Et a0 a1:=zA (by kernel_rfl)
abbrev om:List VT:=[⟨true,zN⟩,⟨false,I⟩]
abbrev oo:List VT:=[⟨false,.bool⟩]
def oq(a0:qh)(a1:Int):Option (Bool×Unit):=opt (zI (fun s0:((Bool×(Int×Unit))×Unit)=>bif(zg s0.1.2.1 ((a0.2.2.2.2.2.2.2.2.length:Nat):Int))then opt (zI (fun s1:((Bool×(Int×Unit))×Unit)=>opt (atI a0.2.2.2.2.2.2.2.2 s0.1.2.1) fun x2=>bif(zg s1.1.2.1 ((x2.length:Nat):Int))then opt (atI a0.2.2.2.2.2.2.2.2 s0.1.2.1) fun x3=>opt (atI x3 s1.1.2.1) fun x4=>bif zj x4 a1 then some (.inl (1,((true,(s1.1.2.1,())),())))else some (.inr ((s1.1.1,((wrF .i64 (s1.1.2.1+1)),())),()))else some (.inl (0,((s1.1.1,(s1.1.2.1,())),())))) zR ((s0.1.1,(0,())),())) fun x5=>bif Nat.beq x5.1 0 then some (.inr ((x5.2.1.1,((wrF .i64 (s0.1.2.1+1)),())),()))else some (.inl (1,((x5.2.1.1,(s0.1.2.1,())),())))else some (.inl (0,((s0.1.1,(s0.1.2.1,())),())))) zR ((false,(0,())),())) fun x6=>bif Nat.beq x6.1 0 then some (false,())else some (x6.2.1.1,())
abbrev zau:Type:=(qh×Int×Unit)->Option (Bool×Unit)
def YP:zau:=opq (sF prg [] (zG [cdF zN,cdF zr] [] [] [] []) (zy []) 30 110 om oo)
abbrev ot:Con:=⟨om,oo,YP⟩
theorem HN:Con.Ok prg 110 ot:=okF zn (by kernel_rfl)
theorem HO(a0)(a1):YP (a0,a1,())=oq a0 a1:=zA (by kernel_rfl)
abbrev Eu:List VT:=[⟨true,qF⟩,⟨false,I⟩,⟨false,I⟩]
abbrev Ew:List VT:=[⟨false,I⟩]
def Ex(a0:jC)(a1:Int)(a2:Int):Option (Int×Unit):=opt (JH (a0,())) fun x0=>bif !x0.1 then some (370,())else opt (bif zg a1 1 then some (1,((2,()),()))else bif zg 1000 a1 then some (1,((2,()),()))else bif zg a2 84 then some (1,((2,()),()))else bif zg 1542 a2 then some (1,((2,()),()))else some (0,((0,()),()))) fun x1=>bif Nat.beq x1.1 0 then some (0,())else some (x1.2.1.1,())
abbrev zfG:Type:=(jC×Int×Int×Unit)->Option (Int×Unit)
def KR:zfG:=opq (sF prg [(172,bB)] (zG [cdF qF,cdF je] [] [] [] [172]) (zy []) 30 173 Eu Ew)
abbrev Ey:Con:=⟨Eu,Ew,KR⟩
theorem Sf:Con.Ok prg 173 Ey:=okF (ze eP zn) (by kernel_rfl)
theorem Sg(a0)(a1)(a2):KR (a0,a1,a2,())=Ex a0 a1 a2:=zA (by kernel_rfl)
abbrev Lx:List VT:=[⟨false,I⟩,⟨false,I⟩]
abbrev Ly:List VT:=[⟨false,.bool⟩]
def Lz(a0:Int)(a1:Int):Option (Bool×Unit):=bif zg (wrF .u64 a1) 0 then none else some ((zj (Int.tmod (wH .i64 a0 (wrF .u64 a1)) 2) 1),())
abbrev zgG:Type:=(Int×Int×Unit)->Option (Bool×Unit)
def JZ:zgG:=opq (sF prg [] (zG [] [] [] [] []) (zy []) 30 230 Lx Ly)
abbrev az:Con:=⟨Lx,Ly,JZ⟩
theorem GM:Con.Ok prg 230 az:=okF zn (by kernel_rfl)
theorem zav(a0)(a1):JZ (a0,a1,())=Lz a0 a1:=zA (by kernel_rfl)
abbrev ou:List VT:=[⟨true,qF⟩]
abbrev ov:List VT:=[⟨false,.bool⟩]
def ow(a0:jC):Option (Bool×Unit):=opt (zI (fun s0:((Bool×(Int×Unit))×Unit)=>bif(zg s0.1.2.1 ((a0.1.length:Nat):Int))then opt (atI a0.1 s0.1.2.1) fun x1=>opt (JZ (x1.1,(6,()))) fun x2=>bif !x2.1 then some (.inl (1,((false,(s0.1.2.1,())),())))else some (.inr ((s0.1.1,((wrF .i64 (s0.1.2.1+1)),())),()))else some (.inl (0,((s0.1.1,(s0.1.2.1,())),())))) zR ((false,(0,())),())) fun x3=>bif Nat.beq x3.1 0 then some (true,())else some (x3.2.1.1,())
abbrev zaw:Type:=(jC×Unit)->Option (Bool×Unit)
def uj:zaw:=opq (sF prg [(230,az)] (zG [cdF qF,cdF je] [] [] [] [230]) (zy []) 30 175 ou ov)
abbrev YQ:Con:=⟨ou,ov,uj⟩
theorem Xn:Con.Ok prg 175 YQ:=okF (ze GM zn) (by kernel_rfl)
theorem HP(a0):uj (a0,())=ow a0:=zA (by kernel_rfl)
abbrev Sh:List VT:=[⟨true,qF⟩,⟨false,I⟩]
abbrev Si:List VT:=[⟨false,I⟩,⟨false,I⟩]
def Sj(a0:jC)(a1:Int):Option (Int×Int×Unit):=bif zj a0.2 0 then none else opt (bif zg (Int.tmod a1 a0.2) 0 then some (0,(((wrF .i64 ((Int.tmod a1 a0.2)+a0.2)),()),()))else some (0,(((Int.tmod a1 a0.2),()),()))) fun x0=>opt (zI (fun s1:((Int×(Int×Unit))×Unit)=>opt (atI a0.1 s1.1.2.1) fun x2=>bif !(zg s1.1.1 x2.2)then opt (atI a0.1 s1.1.2.1) fun x3=>some (.inr (((wrF .i64 (s1.1.1 - x3.2)),((wrF .i64 (s1.1.2.1+1)),())),()))else some (.inl (0,((s1.1.1,(s1.1.2.1,())),())))) zR ((x0.2.1.1,(0,())),())) fun x4=>some (x4.2.1.2.1,(x4.2.1.1,()))
abbrev zi4:Type:=(jC×Int×Unit)->Option (Int×Int×Unit)
def YR:zi4:=opq (sF prg [] (zG [cdF qF,cdF je] [] [] [] []) (zy []) 30 254 Sh Si)
abbrev Sk:Con:=⟨Sh,Si,YR⟩
theorem zcO:Con.Ok prg 254 Sk:=okF zn (by kernel_rfl)
theorem zcP(a0)(a1):YR (a0,a1,())=Sj a0 a1:=zA (by kernel_rfl)
abbrev eR:List VT:=[⟨true,qF⟩,⟨false,I⟩,⟨false,I⟩]
abbrev eS:List VT:=[⟨false,(.list jm)⟩]
def eU(a0:jC)(a1:Int)(a2:Int):Option ((List yB)×Unit):=opt (zI (fun s0:((Bool×(Int×Unit))×((List (Int×Int))×Unit))=>bif zg s0.1.2.1 a2 then opt (YR (a0,(s0.1.2.1,()))) fun x1=>opt (atI a0.1 x1.1) fun x2=>opt (atI a0.1 x1.1) fun x3=>opt (JZ (x3.1,(6,()))) fun x4=>opt (bif x4.1 then bif s0.1.1 then opt (atI s0.2.1 (wrF .i64 (((s0.2.1.length:Nat):Int) - 1))) fun x5=>opt (gl s0.2.1 (Int.toNat (wrF .i64 (((s0.2.1.length:Nat):Int) - 1)))) fun x6=>some (0,((),((s0.2.1.set (Int.toNat (wrF .i64 (((s0.2.1.length:Nat):Int) - 1))) (x6.1,(wN (wrF .i64 ((wrF .i64 (s0.1.2.1 - x1.2.1))+x2.2)) a2))),())))else some (0,((),(s0.2.1,())))else some (0,((),(s0.2.1,())))) fun x7=>opt (bif x4.1 then bif !s0.1.1 then bif(qe x7.2.2.1.length (((s0.1.2.1,(wN (wrF .i64 ((wrF .i64 (s0.1.2.1 - x1.2.1))+x2.2)) a2))::[]).length) 16)then some (0,((),((x7.2.2.1++((s0.1.2.1,(wN (wrF .i64 ((wrF .i64 (s0.1.2.1 - x1.2.1))+x2.2)) a2))::[])),())))else none else some (0,((),(x7.2.2.1,())))else some (0,((),(x7.2.2.1,())))) fun x8=>some (.inr ((x4.1,((wN (wrF .i64 ((wrF .i64 (s0.1.2.1 - x1.2.1))+x2.2)) a2),())),(x8.2.2.1,())))else some (.inl (0,((s0.1.1,(s0.1.2.1,())),(s0.2.1,()))))) zR ((false,(a1,())),([],()))) fun x9=>some (x9.2.2.1,())
abbrev NG:Type:=(jC×Int×Int×Unit)->Option ((List yB)×Unit)
def xR:NG:=opq (sF prg [(254,Sk),(230,az)] (zG [cdF qF,cdF je] [] [⟨4,68,some 6,jm,false⟩,⟨4,68,some 7,jm,true⟩,⟨8,68,some 6,jm,false⟩,⟨8,68,some 7,jm,true⟩,⟨10,68,some 6,jm,false⟩,⟨10,68,some 7,jm,true⟩] [] [254,230]) (zy []) 30 231 eR eS)
abbrev VQ:Con:=⟨eR,eS,xR⟩
theorem Gb:Con.Ok prg 231 VQ:=okF (ze zcO (ze GM zn)) (by kernel_rfl)
theorem BJ(a0)(a1)(a2):xR (a0,a1,a2,())=eU a0 a1 a2:=zA (by kernel_rfl)
abbrev tX:List VT:=[⟨true,qF⟩]
abbrev tY:List VT:=[⟨false,(.list jm)⟩]
def tZ(a0:jC):Option ((List yB)×Unit):=opt (zI (fun s0:((Int×(Int×Unit))×Unit)=>bif(zg s0.1.2.1 ((a0.1.length:Nat):Int))then opt (atI a0.1 s0.1.2.1) fun x1=>opt (JZ (x1.1,(6,()))) fun x2=>bif x2.1 then opt (atI a0.1 s0.1.2.1) fun x3=>some (.inr (((wrF .i64 (s0.1.1+x3.2)),((wrF .i64 (s0.1.2.1+1)),())),()))else some (.inl (0,((s0.1.1,(s0.1.2.1,())),())))else some (.inl (0,((s0.1.1,(s0.1.2.1,())),())))) zR ((0,(0,())),())) fun x4=>opt (xR (a0,(x4.2.1.1,((wrF .i64 (x4.2.1.1+a0.2)),())))) fun x5=>some (x5.1,())
abbrev zcQ:Type:=(jC×Unit)->Option ((List yB)×Unit)
def Zq:zcQ:=opq (sF prg [(230,az),(231,VQ)] (zG [cdF qF,cdF je] [] [⟨3,36,some 2,jm,false⟩] [] [230]) (zy []) 30 176 tX tY)
abbrev bC:Con:=⟨tX,tY,Zq⟩
theorem eV:Con.Ok prg 176 bC:=okF (ze GM (ze Gb zn)) (by kernel_rfl)
theorem NH(a0):Zq (a0,())=tZ a0:=zA (by kernel_rfl)
abbrev LA:List VT:=[⟨false,(.list jm)⟩,⟨false,I⟩]
abbrev LB:List VT:=[⟨false,I⟩]
def LC(a0:(List yB))(a1:Int):Option (Int×Unit):=opt (zI (fun s0:((Int×(Int×Unit))×Unit)=>bif(zg s0.1.2.1 ((a0.length:Nat):Int))then opt (atI a0 s0.1.2.1) fun x1=>opt (atI a0 s0.1.2.1) fun x2=>some (.inr (((wrF .i64 (s0.1.1+(jV 0 (wrF .i64 ((wrF .i64 (x1.2 - x2.1)) - a1))))),((wrF .i64 (s0.1.2.1+1)),())),()))else some (.inl (0,((s0.1.1,(s0.1.2.1,())),())))) zR ((0,(0,())),())) fun x3=>some (x3.2.1.1,())
abbrev zgH:Type:=((List yB)×Int×Unit)->Option (Int×Unit)
def Wa:zgH:=opq (sF prg [] (zG [cdF jm] [] [] [] []) (zy []) 30 229 LA LB)
abbrev ng:Con:=⟨LA,LB,Wa⟩
theorem ox:Con.Ok prg 229 ng:=okF zn (by kernel_rfl)
theorem zax(a0)(a1):Wa (a0,a1,())=LC a0 a1:=zA (by kernel_rfl)
abbrev Aa:List VT:=[⟨true,qF⟩,⟨false,I⟩,⟨false,I⟩]
abbrev Ab:List VT:=[⟨false,I⟩]
def Ac(a0:jC)(a1:Int)(a2:Int):Option (Int×Unit):=opt (uj (a0,())) fun x0=>bif x0.1 then some (a0.2,())else opt (Zq (a0,())) fun x1=>opt (Wa (x1.1,((wrF .i64 (a2*a1)),()))) fun x2=>some (x2.1,())
abbrev zcR:Type:=(jC×Int×Int×Unit)->Option (Int×Unit)
def Vf:zcR:=opq (sF prg [(175,YQ),(176,bC),(229,ng)] (zG [cdF qF,cdF je] [] [] [] [175,229]) (zy []) 30 174 Aa Ab)
abbrev Ad:Con:=⟨Aa,Ab,Vf⟩
theorem NI:Con.Ok prg 174 Ad:=okF (ze Xn (ze eV (ze ox zn))) (by kernel_rfl)
theorem NJ(a0)(a1)(a2):Vf (a0,a1,a2,())=Ac a0 a1 a2:=zA (by kernel_rfl)
abbrev Ae:List VT:=[⟨true,qF⟩,⟨false,I⟩,⟨false,I⟩,⟨false,I⟩,⟨false,I⟩]
abbrev Af:List VT:=[⟨false,I⟩]
def Ag(a0:jC)(a1:Int)(a2:Int)(a3:Int)(a4:Int):Option (Int×Unit):=opt (uj (a0,())) fun x0=>bif x0.1 then some ((wrF .i64 (a4 - (wrF .i64 (127*a1)))),())else opt (xR (a0,(a3,((wrF .i64 (a3+a4)),())))) fun x1=>opt (Wa (x1.1,((wrF .i64 (a2*a1)),()))) fun x2=>some ((wrF .i64 (x2.1 - (wrF .i64 (127*a1)))),())
abbrev zcS:Type:=(jC×Int×Int×Int×Int×Unit)->Option (Int×Unit)
def Vg:zcS:=opq (sF prg [(175,YQ),(231,VQ),(229,ng)] (zG [cdF qF,cdF je] [] [] [] [175,229]) (zy []) 30 177 Ae Af)
abbrev Ah:Con:=⟨Ae,Af,Vg⟩
theorem NK:Con.Ok prg 177 Ah:=okF (ze Xn (ze Gb (ze ox zn))) (by kernel_rfl)
theorem NL(a0)(a1)(a2)(a3)(a4):Vg (a0,a1,a2,a3,a4,())=Ag a0 a1 a2 a3 a4:=zA (by kernel_rfl)
abbrev Sl:List VT:=[⟨true,qF⟩,⟨false,I⟩,⟨false,I⟩]
abbrev Sm:List VT:=[⟨true,Qf⟩,⟨false,I⟩]
def Sn(a0:jC)(a1:Int)(a2:Int):Option (kX×Int×Unit):=opt (KR (a0,(a1,(a2,())))) fun x0=>bif !(zj x0.1 0)then some ((0,0),(x0.1,()))else opt (Vf (a0,(a1,(a2,())))) fun x1=>bif(zj (wrF .i64 (a0.2*a1)) 0)then none else bif(zg (wrF .i64 (Int.tdiv (wrF .i64 (x1.1*1048576)) (wrF .i64 (a0.2*a1)))) 1)then some ((0,0),(4,()))else opt (opt (uj (a0,())) fun x2=>bif !x2.1 then opt (Zq (a0,())) fun x3=>opt (zI (fun s4:((Int×(Int×Unit))×Unit)=>bif(zg s4.1.2.1 ((x3.1.length:Nat):Int))then opt (atI x3.1 s4.1.2.1) fun x5=>opt (atI x3.1 s4.1.2.1) fun x6=>opt (atI x3.1 s4.1.2.1) fun x7=>opt (zI (fun s8:((Int×(Int×Unit))×Unit)=>bif(zg s8.1.2.1 (wrF .i64 (2*((x3.1.length:Nat):Int))))then bif(zj ((x3.1.length:Nat):Int) 0)then none else opt (atI x3.1 (Int.tmod s8.1.2.1 ((x3.1.length:Nat):Int))) fun x9=>bif(zj ((x3.1.length:Nat):Int) 0)then none else opt (bif(zg (wrF .i64 (x5.2 - (wN (wrF .i64 (x6.2 - x7.1)) (wrF .i64 (a2*a1))))) (wrF .i64 ((wrF .i64 (x9.1+(wN (wrF .i64 (x9.2 - x9.1)) (wrF .i64 (a2*a1)))))+(wrF .i64 ((wrF .i64 (Int.tdiv s8.1.2.1 ((x3.1.length:Nat):Int)))*a0.2)))))then opt (Vg (a0,(a1,(a2,((wrF .i64 (x5.2 - (wN (wrF .i64 (x6.2 - x7.1)) (wrF .i64 (a2*a1))))),((wrF .i64 ((wrF .i64 ((wrF .i64 (x9.1+(wN (wrF .i64 (x9.2 - x9.1)) (wrF .i64 (a2*a1)))))+(wrF .i64 ((wrF .i64 (Int.tdiv s8.1.2.1 ((x3.1.length:Nat):Int)))*a0.2)))) - (wrF .i64 (x5.2 - (wN (wrF .i64 (x6.2 - x7.1)) (wrF .i64 (a2*a1))))))),())))))) fun x10=>some (0,(((jV s8.1.1 (wrF .i64 ((wrF .i64 ((wrF .i64 ((wrF .i64 ((wrF .i64 ((wrF .i64 (x9.1+(wN (wrF .i64 (x9.2 - x9.1)) (wrF .i64 (a2*a1)))))+(wrF .i64 ((wrF .i64 (Int.tdiv s8.1.2.1 ((x3.1.length:Nat):Int)))*a0.2)))) - (wrF .i64 (x5.2 - (wN (wrF .i64 (x6.2 - x7.1)) (wrF .i64 (a2*a1)))))))*(wrF .i64 (Int.tdiv (wrF .i64 (x1.1*1048576)) (wrF .i64 (a0.2*a1))))))*a1)) - (wrF .i64 (x10.1*1048576))))),()),()))else some (0,((s8.1.1,()),()))) fun x11=>some (.inr ((x11.2.1.1,((wrF .i64 (s8.1.2.1+1)),())),()))else some (.inl (0,((s8.1.1,(s8.1.2.1,())),())))) zR ((s4.1.1,(0,())),())) fun x12=>some (.inr ((x12.2.1.1,((wrF .i64 (s4.1.2.1+1)),())),()))else some (.inl (0,((s4.1.1,(s4.1.2.1,())),())))) zR (((wrF .i64 ((wrF .i64 (127*a1))*1048576)),(0,())),())) fun x13=>some (0,((a0,(x13.2.1.1,())),()))else some (0,((a0,((wrF .i64 ((wrF .i64 (127*a1))*1048576)),())),()))) fun x14=>bif(zj (wrF .i64 ((wrF .i64 (Int.tdiv (wrF .i64 (x1.1*1048576)) (wrF .i64 (a0.2*a1))))*a1)) 0)then none else some (((wrF .i64 (Int.tdiv (wrF .i64 (x1.1*1048576)) (wrF .i64 (a0.2*a1)))),(wrF .i64 (Int.tdiv (wrF .i64 ((wrF .i64 (x14.2.1.2.1+(wrF .i64 ((wrF .i64 (Int.tdiv (wrF .i64 (x1.1*1048576)) (wrF .i64 (a0.2*a1))))*a1)))) - 1)) (wrF .i64 ((wrF .i64 (Int.tdiv (wrF .i64 (x1.1*1048576)) (wrF .i64 (a0.2*a1))))*a1))))),(0,()))
abbrev zi5:Type:=(jC×Int×Int×Unit)->Option (kX×Int×Unit)
def KS:zi5:=opq (sF prg [(173,Ey),(174,Ad),(175,YQ),(176,bC),(177,Ah)] (zG [cdF qF,cdF je] [] [] [] [173,174,175,177]) (zy []) 30 111 Sl Sm)
abbrev So:Con:=⟨Sl,Sm,KS⟩
theorem zcT:Con.Ok prg 111 So:=okF (ze Sf (ze NI (ze Xn (ze eV (ze NK zn))))) (by kernel_rfl)
theorem zcU(a0)(a1)(a2):KS (a0,a1,a2,())=Sn a0 a1 a2:=zA (by kernel_rfl)
abbrev Ai:List VT:=[⟨true,zr⟩]
abbrev Aj:List VT:=[⟨false,.bool⟩]
def bD(a0:zC):Option (Bool×Unit):=bif !(zg a0.1 1)then bif !(zg 1048576 a0.1)then bif !(zg a0.2 1)then some ((!(zg 2097152 a0.2)),())else some (false,())else some (false,())else some (false,())
abbrev zcV:Type:=(zC×Unit)->Option (Bool×Unit)
def wZ:zcV:=opq (sF prg [] (zG [cdF zr] [] [] [] []) (zy []) 30 60 Ai Aj)
abbrev kz:Con:=⟨Ai,Aj,wZ⟩
theorem uk:Con.Ok prg 60 kz:=okF zn (by kernel_rfl)
theorem eW(a0):wZ (a0,())=bD a0:=zA (by kernel_rfl)
abbrev LD:List VT:=[⟨false,(.list zr)⟩]
abbrev LF:List VT:=[⟨true,zr⟩,⟨false,I⟩]
def LG(a0:(List zC)):Option (zC×Int×Unit):=bif(zj ((a0.length:Nat):Int) 0)then some ((0,0),(2,()))else bif(zg 12 ((a0.length:Nat):Int))then some ((0,0),(3,()))else opt (zI (fun s0:(((Int×Int)×((Int×Int)×(Int×(Int×Unit))))×Unit)=>bif(zg s0.1.2.2.2.1 ((a0.length:Nat):Int))then opt (atI a0 s0.1.2.2.2.1) fun x1=>opt (wZ (x1,())) fun x2=>bif !x2.1 then some (.inl (1,(((0,0),(s0.1.2.1,(130,(s0.1.2.2.2.1,())))),())))else opt (atI a0 s0.1.2.2.2.1) fun x3=>opt (atI a0 s0.1.2.2.2.1) fun x4=>some (.inr ((s0.1.1,(((wrF .i64 (s0.1.2.1.1+x3.1)),(wrF .i64 (s0.1.2.1.2+x4.2))),(s0.1.2.2.1,((wrF .i64 (s0.1.2.2.2.1+1)),())))),()))else some (.inl (0,((s0.1.1,(s0.1.2.1,(s0.1.2.2.1,(s0.1.2.2.2.1,())))),())))) zR (((0,0),((0,0),(0,(0,())))),())) fun x5=>bif Nat.beq x5.1 0 then opt (wZ (x5.2.1.2.1,())) fun x6=>bif !x6.1 then some ((0,0),(6,()))else some (x5.2.1.2.1,(0,()))else some (x5.2.1.1,(x5.2.1.2.2.1,()))
abbrev zgI:Type:=((List zC)×Unit)->Option (zC×Int×Unit)
def aA:zgI:=opq (sF prg [(60,kz)] (zG [cdF zr] [] [] [] [60]) (zy []) 30 112 LD LF)
abbrev LH:Con:=⟨LD,LF,aA⟩
theorem zay:Con.Ok prg 112 LH:=okF (ze uk zn) (by kernel_rfl)
theorem zaz(a0):aA (a0,())=LG a0:=zA (by kernel_rfl)
abbrev Ak:List VT:=[⟨true,Qf⟩]
abbrev Al:List VT:=[⟨false,.bool⟩]
def bE(a0:kX):Option (Bool×Unit):=bif !(zg a0.1 1)then bif !(zg 2097152 a0.1)then bif !(zg a0.2 0)then some ((!(zg 268435456 a0.2)),())else some (false,())else some (false,())else some (false,())
abbrev zcW:Type:=(kX×Unit)->Option (Bool×Unit)
def Zr:zcW:=opq (sF prg [] (zG [cdF Qf] [] [] [] []) (zy []) 30 178 Ak Al)
abbrev Am:Con:=⟨Ak,Al,Zr⟩
theorem NM:Con.Ok prg 178 Am:=okF zn (by kernel_rfl)
theorem eX(a0):Zr (a0,())=bE a0:=zA (by kernel_rfl)
abbrev Ez:List VT:=[⟨false,(.list zr)⟩,⟨false,I⟩]
abbrev EA:List VT:=[⟨false,.bool⟩]
def EB(a0:(List zC))(a1:Int):Option (Bool×Unit):=opt (zI (fun s0:((Bool×(Int×Unit))×Unit)=>bif(zg s0.1.2.1 ((a0.length:Nat):Int))then opt (atI a0 s0.1.2.1) fun x1=>bif !(zg a1 x1.2)then some (.inl (1,((true,(s0.1.2.1,())),())))else some (.inr ((s0.1.1,((wrF .i64 (s0.1.2.1+1)),())),()))else some (.inl (0,((s0.1.1,(s0.1.2.1,())),())))) zR ((false,(0,())),())) fun x2=>bif Nat.beq x2.1 0 then some (false,())else some (x2.2.1.1,())
abbrev zfH:Type:=((List zC)×Int×Unit)->Option (Bool×Unit)
def KT:zfH:=opq (sF prg [] (zG [cdF zr] [] [] [] []) (zy []) 30 179 Ez EA)
abbrev EC:Con:=⟨Ez,EA,KT⟩
theorem Sp:Con.Ok prg 179 EC:=okF zn (by kernel_rfl)
theorem Sq(a0)(a1):KT (a0,a1,())=EB a0 a1:=zA (by kernel_rfl)
abbrev ED:List VT:=[⟨false,I⟩,⟨false,I⟩]
abbrev EE:List VT:=[⟨false,I⟩]
def EF(a0:Int)(a1:Int):Option (Int×Unit):=bif zj a1 0 then none else opt (bif(zg (wrF .i64 ((wrF .i64 (Int.tdiv a0 a1))*a1)) a0)then some (0,(((wrF .i64 ((wrF .i64 (Int.tdiv a0 a1))+1)),()),()))else some (0,(((wrF .i64 (Int.tdiv a0 a1)),()),()))) fun x0=>some (x0.2.1.1,())
abbrev zfI:Type:=(Int×Int×Unit)->Option (Int×Unit)
def uL:zfI:=opq (sF prg [] (zG [] [] [] [] []) (zy []) 30 132 ED EE)
abbrev KU:Con:=⟨ED,EE,uL⟩
theorem KV:Con.Ok prg 132 KU:=okF zn (by kernel_rfl)
theorem Sr(a0)(a1):uL (a0,a1,())=EF a0 a1:=zA (by kernel_rfl)
abbrev eY:List VT:=[⟨false,(.list zr)⟩,⟨false,I⟩]
abbrev eZ:List VT:=[⟨false,I⟩]
def fa(a0:(List zC))(a1:Int):Option (Int×Unit):=opt (zI (fun s0:((Int×(Int×Unit))×Unit)=>bif(zg s0.1.2.1 ((a0.length:Nat):Int))then opt (atI a0 s0.1.2.1) fun x1=>bif zg a1 x1.2 then some (.inr ((s0.1.1,((wrF .i64 (s0.1.2.1+1)),())),()))else opt (uL ((wrF .i64 (x1.1*1048576)),(a1,()))) fun x2=>opt (bif zg s0.1.1 0 then some (0,((x2.1,()),()))else bif zg x2.1 s0.1.1 then some (0,((x2.1,()),()))else some (0,((s0.1.1,()),()))) fun x3=>opt (zI (fun s4:((Int×(Int×Unit))×Unit)=>bif(zg s4.1.2.1 ((a0.length:Nat):Int))then opt (atI a0 s4.1.2.1) fun x5=>opt (bif zg a1 x5.2 then bif zg x5.1 x1.1 then opt (uL ((wrF .i64 ((wrF .i64 ((wrF .i64 ((wrF .i64 (x5.2 - a1))*x1.1))+(wrF .i64 ((wrF .i64 (a1 - x1.2))*x5.1))))*1048576)),((wrF .i64 (a1*(wrF .i64 (x5.2 - x1.2)))),()))) fun x6=>some (0,(((wN s4.1.1 x6.1),()),()))else some (0,((s4.1.1,()),()))else some (0,((s4.1.1,()),()))) fun x7=>some (.inr ((x7.2.1.1,((wrF .i64 (s4.1.2.1+1)),())),()))else some (.inl (0,((s4.1.1,(s4.1.2.1,())),())))) zR ((x3.2.1.1,(0,())),())) fun x8=>some (.inr ((x8.2.1.1,((wrF .i64 (s0.1.2.1+1)),())),()))else some (.inl (0,((s0.1.1,(s0.1.2.1,())),())))) zR (((-1),(0,())),())) fun x9=>some (x9.2.1.1,())
abbrev NN:Type:=((List zC)×Int×Unit)->Option (Int×Unit)
def Ja:NN:=opq (sF prg [(132,KU)] (zG [cdF zr] [] [] [] [132]) (zy []) 30 180 eY eZ)
abbrev fb:Con:=⟨eY,eZ,Ja⟩
theorem BK:Con.Ok prg 180 fb:=okF (ze KV zn) (by kernel_rfl)
theorem BL(a0)(a1):Ja (a0,a1,())=fa a0 a1:=zA (by kernel_rfl)
abbrev An:List VT:=[⟨false,(.list zr)⟩,⟨true,Qf⟩]
abbrev Ao:List VT:=[⟨false,I⟩,⟨false,I⟩]
def bF(a0:(List zC))(a1:kX):Option (Int×Int×Unit):=bif(zj ((a0.length:Nat):Int) 0)then some (0,(2,()))else bif(zg 12 ((a0.length:Nat):Int))then some (0,(3,()))else opt (zI (fun s0:((Int×(Int×(Int×Unit)))×Unit)=>bif(zg s0.1.2.2.1 ((a0.length:Nat):Int))then opt (atI a0 s0.1.2.2.1) fun x1=>opt (wZ (x1,())) fun x2=>bif !x2.1 then some (.inl (1,((0,(130,(s0.1.2.2.1,()))),())))else some (.inr ((s0.1.1,(s0.1.2.1,((wrF .i64 (s0.1.2.2.1+1)),()))),()))else some (.inl (0,((s0.1.1,(s0.1.2.1,(s0.1.2.2.1,()))),())))) zR ((0,(0,(0,()))),())) fun x3=>bif Nat.beq x3.1 0 then opt (Zr (a1,())) fun x4=>bif !x4.1 then some (0,(140,()))else opt (KT (a0,(a1.1,()))) fun x5=>bif !x5.1 then some (0,(141,()))else opt (Ja (a0,(a1.1,()))) fun x6=>some ((wrF .i64 (a1.2+x6.1)),(0,()))else some (x3.2.1.1,(x3.2.1.2.1,()))
abbrev zcX:Type:=((List zC)×kX×Unit)->Option (Int×Int×Unit)
def Zs:zcX:=opq (sF prg [(60,kz),(178,Am),(179,EC),(180,fb)] (zG [cdF Qf] [] [] [] [60,178,179,180]) (zy []) 30 113 An Ao)
abbrev bG:Con:=⟨An,Ao,Zs⟩
theorem fc:Con.Ok prg 113 bG:=okF (ze uk (ze NM (ze Sp (ze BK zn)))) (by kernel_rfl)
theorem fe(a0)(a1):Zs (a0,a1,())=bF a0 a1:=zA (by kernel_rfl)
abbrev lU:List VT:=[⟨true,zr⟩,⟨true,Qf⟩]
abbrev lV:List VT:=[⟨false,I⟩,⟨false,I⟩]
def lW(a0:zC)(a1:kX):Option (Int×Int×Unit):=opt (Zs ((a0::[]),(a1,()))) fun x0=>bif !(zj x0.2.1 0)then some (0,(x0.2.1,()))else opt (uL ((wrF .i64 (a0.2*a1.2)),(1048576,()))) fun x1=>some ((wrF .i64 (a0.1+x1.1)),(0,()))
abbrev Ss:Type:=(zC×kX×Unit)->Option (Int×Int×Unit)
def Wu:Ss:=opq (sF prg [(113,bG),(132,KU)] (zG [cdF zr] [] [] [] [113,132]) (zy []) 30 114 lU lV)
abbrev lX:Con:=⟨lU,lV,Wu⟩
theorem EG:Con.Ok prg 114 lX:=okF (ze fc (ze KV zn)) (by kernel_rfl)
theorem EH(a0)(a1):Wu (a0,a1,())=lW a0 a1:=zA (by kernel_rfl)
abbrev LJ:List VT:=[⟨true,jB⟩,⟨false,(.list zN)⟩,⟨false,I⟩]
abbrev LK:List VT:=[⟨true,Qg⟩,⟨false,I⟩]
def LL(a0:wL)(a1:(List qh))(a2:Int):Option (db×Int×Unit):=opt (zI (fun s0:((Int×Unit)×((List (Int×Int))×Unit))=>bif(zg s0.1.1 ((a1.length:Nat):Int))then opt (opt (atI a1 s0.1.1) fun x1=>opt (YP (x1,(a2,()))) fun x2=>bif x2.1 then opt (atI a1 s0.1.1) fun x3=>bif(qe s0.2.1.length ((x3.2.2.2.2.2.2.1::[]).length) 16)then some (0,((),((s0.2.1++(x3.2.2.2.2.2.2.1::[])),())))else none else some (0,((),(s0.2.1,())))) fun x4=>some (.inr (((wrF .i64 (s0.1.1+1)),()),(x4.2.2.1,())))else some (.inl (0,((s0.1.1,()),(s0.2.1,()))))) zR ((0,()),([],()))) fun x5=>bif(zj ((x5.2.2.1.length:Nat):Int) 0)then some (((0,0),((0,0),(0,0))),(4,()))else opt (atI a0.2.2.1 a2) fun x6=>opt (JY (a0.1,(a2,()))) fun x7=>opt (KS (x6,(x7.1,(a0.2.2.2,())))) fun x8=>bif !(zj x8.2.1 0)then some (((0,0),((0,0),(0,0))),(411,()))else opt (aA (x5.2.2.1,())) fun x9=>bif !(zj x9.2.1 0)then some (((0,0),((0,0),(0,0))),(6,()))else opt (Zs ((x9.1::[]),(x8.1,()))) fun x10=>bif !(zj x10.2.1 0)then some (((0,0),((0,0),(0,0))),(141,()))else opt (Wu (x9.1,(x8.1,()))) fun x11=>some ((x9.1,(x8.1,(x10.1,x11.1))),(0,()))
abbrev zgJ:Type:=(wL×(List qh)×Int×Unit)->Option (db×Int×Unit)
def uB:zgJ:=opq (sF prg [(110,ot),(56,mY),(111,So),(112,LH),(113,bG),(114,lX)] (zG [cdF jB,cdF zN,cdF Qg,cdF zS,cdF qA,cdF qF,cdF je] [] [⟨3,87,some 8,zr,true⟩,⟨5,87,some 8,zr,true⟩,⟨7,87,some 8,zr,true⟩,⟨10,87,some 8,zr,true⟩,⟨13,87,some 8,zr,true⟩,⟨16,87,some 8,zr,true⟩] [] [110,56,111,112,113,114]) (zy []) 30 59 LJ LK)
abbrev aB:Con:=⟨LJ,LK,uB⟩
theorem GN:Con.Ok prg 59 aB:=okF (ze HN (ze oi (ze zcT (ze zay (ze fc (ze EG zn)))))) (by kernel_rfl)
theorem zaA(a0)(a1)(a2):uB (a0,a1,a2,())=LL a0 a1 a2:=zA (by kernel_rfl)
end Go.Proofs.YtlfkgkedfciccaaGreat.nd
end
