/- Parts of a proof, joined. -/
import Derived.ChangeArms
import Derived.ChangeSlices
import Derived.DataReads
import Derived.KernelRfl
import Derived.OpenShut
import Derived.SizedLaws
import Derived.Test.YtlfkgkedfciccaaGreatProg
import Derived.Test.YtlfkgkedfciccaaGreatH14
set_option linter.unusedSectionVars false
set_option linter.unusedVariables false
set_option linter.unusedSimpArgs false
set_option maxHeartbeats 0
set_option maxRecDepth 100000
noncomputable section
namespace Go.Fz.Sy
def zmP:List SV->Option Ty
 |[]=>some .unit
 |v
   ::r=>match (match v with
   |.bool _=>some .bool
   |.int k _=>some (.int k)
   |.str _=>some .str
   |.lst t _ _=>some (.list t)
   |_=>none),zmP r with
  |some a,some b=>some (match r with
   |[]=>a
   |_=>.pair a b)
  |_,_=>none
def wi:Ty->List Ty
 |.unit=>[]
 |.pair a b=>wi a++wi b
 |t=>[t]
def zpP:SV->Ty->Bool
 |.bool _,.bool=>true
 |.int k _,.int k'=>gD k k'
 |.str _,.str=>true
 |.lst _ _ _,.list _=>true
 |.nils,.list _=>true
 |.own _,.list _=>true
 |_,_=>false
def lstTy:SV->Option Ty
 |.lst t _ _=>some t
 |_=>none
def tyQ:Ty->Ty->Bool
 |.unit,.unit=>true
 |.bool,.bool=>true
 |.int k,.int k'=>gD k k'
 |.str,.str=>true
 |.list a,.list b=>tyQ a b
 |.pair a b,.pair c d=>tyQ a c&&tyQ b d
 |_,_=>false
def zfq:List SV->List Ty->Bool
 |[],[]=>true
 |v::r,t::s=>(zpP v t&&(match v,t with
  |.lst a _ _,.list b=>tyQ a b
  |_,_=>true))&&zfq r s
 |_,_=>false
structure Dx where
 ty:Ty
 fl:List Ty
 gs:List Nat:=[]
def znC(cands:List Dx)(cs:List SV):Option Dx:=match cands with
 |[]=>none
 |h::r=>bif zfq cs h.fl then some h else znC r cs
def zpQ(gs:List Nat)(lo hi:Nat):Bool:=gs.any fun g=>Nat.ble lo g&&Nat.blt g hi
def zfr(H:SH)(cs:List SV)(gs:List Nat):Ty->Nat->Nat->List CK×Nat
 |.pair a b,i,c=>bif zpQ gs i (i+sz (.pair a b))then match zfr H cs gs a i c with
   |(k1,c1)=>match zfr H cs gs b (i+sz a) c1 with
    |(k2,c2)=>(k1++k2,c2)
  else([.d (.pair a b)],c)
 |.list e,i,c=>bif wY gs i then(match gl cs i with
   |some (.own b)=>match zo H b with
    |some (.arr nn _ _)=>([.o c nn e],c+1)
    |_=>([.d (.list e)],c)
   |some .nils=>([.o c false e],c+1)
   |_=>([.d (.list e)],c))
  else([.d (.list e)],c)
 |t,_,c=>([.d t],c)
def zkC(cands:List Dx)(cs:List SV):Option Ty:=match cands with
 |[]=>zmP cs
 |h::r=>bif zfq cs h.fl then some h.ty else zkC r cs
def zqf(cands:List Dx):SV->Option VT
 |.bool _=>some ⟨false,.bool⟩
 |.int k _=>some ⟨false,.int k⟩
 |.str _=>some ⟨false,.str⟩
 |.lst t _ _=>some ⟨false,.list t⟩
 |.agg cs=>match zkC cands cs with
  |some t=>some ⟨true,t⟩
  |none=>none
 |_=>none
def rN:List Nat->List Nat
 |[]=>[]
 |a::r=>bif wY r a then rN r else a::rN r
def Zn:Operand->List Nat
 |.tmp t=>[t]
 |_=>[]
def zdA:Nat:=1000000
def zpd(l:List Nat):List Nat:=l.map (·+zdA)
def zpe(i:Nat):Nat:=bif Nat.ble zdA i then i - zdA else i
def ziN(W:List Nat)(d:Nat)(l:List Nat):List Nat:=bif wY W d then l++W else bif wY W (d+zdA)then zpd l++W else W
def wOp(pf:List Nat)(W:List Nat)(o:Oper):List Nat:=
 match o.op with
 |.store _ a _=>Zn a++W
 |.lookup _ m _ _=>Zn m++W
 |.mapUpdate _ m _ _=>Zn m++W
 |.insert _ m _ _=>Zn m++W
 |.call c=>match c.callee with
  |.value (.func f)=>bif wY pf f then zpd (c.args.toList.flatMap Zn)++W else c.args.toList.flatMap Zn++W
  |.value f=>Zn f++(c.args.toList.flatMap Zn++W)
  |.builtin .copy=>c.args.toList.flatMap Zn++W
  |.builtin .append=>match o.dst with
   |some d=>c.args.toList.flatMap Zn++W
   |none=>W
  |_=>W
 |.fieldAddr _ x _=>match o.dst with
  |some d=>bif wY W d then Zn x++W else W
  |none=>W
 |.indexAddr _ x _=>match o.dst with
  |some d=>bif wY W d then Zn x++W else W
  |none=>W
 |.load _ x=>match o.dst with
  |some d=>bif wY W d then Zn x++W else W
  |none=>W
 |.move x=>match o.dst with
  |some d=>ziN W d (Zn x)
  |none=>W
 |.nilCheck x=>match o.dst with
  |some d=>bif wY W d then Zn x++W else W
  |none=>W
 |.pick _ x y=>match o.dst with
  |some d=>ziN W d (Zn x++Zn y)
  |none=>W
 |.assign x=>match o.dst with
  |some d=>ziN W d (Zn x)
  |none=>W
 |_=>W
def zpf(pf:List Nat):List Oper->List Nat->List Nat
 |[],W=>W
 |o::r,W=>wOp pf (zpf pf r W) o
def YH(pf:List Nat):Code->List Nat->List Nat
 |.region _ ops _,W=>zpf pf ops.toList W
 |.seq a b,W=>YH pf a (YH pf b W)
 |.cond _ a b,W=>YH pf a (YH pf b W)
 |.block _ c,W=>YH pf c W
 |.loop c,W=>YH pf c W
 |.scope c,W=>YH pf c W
 |.rangeFunc g _ a b,W=>Zn g++YH pf a (YH pf b W)
 |_,W=>W
mutual
def znD:SV->List Nat
 |.ptr b _=>[b]
 |.own b=>[b]
 |.mp b=>[b]
 |.slv b _=>[b]
 |.agg cs=>HA cs
 |.fn _ fs cs=>HA fs++HA cs
 |_=>[]
def HA:List SV->List Nat
 |[]=>[]
 |v::r=>znD v++HA r
end
def ziO(tm:List SV):List Nat->List Nat
 |[]=>[]
 |i::r=>(match gl tm (zpe i)with
  |some v=>znD v
  |none=>[])++ziO tm r
def reachS(H:SH):Nat->List Nat->List Nat
 |0,l=>rN l
 |n+1,l=>match rN l with
  |l=>reachS H n (l++l.flatMap fun b=>match zo H b with
   |some (.vars cs)=>HA cs
   |some (.ro cs)=>HA cs
   |_=>[])
def znE(pf:List Nat)(H:SH):List Nat->List Nat
 |[]=>[]
 |l::r=>(match zo H l with
  |some (.loop L)=>ziO L.tm (rN (YH pf L.assign (YH pf L.body [])))
  |_=>[])++znE pf H r
structure MZ where
 rid:Nat
 ntm:Nat
 tmp:Option Nat
 ty:Ty
 own:Bool:=true
def Na(rid ntm:Nat)(i:Option Nat):List MZ->Option MZ
 |[]=>none
 |h::r=>bif Nat.beq h.rid rid&&(Nat.beq h.ntm ntm&&(match h.tmp,i with
  |some a,some b=>Nat.beq a b
  |none,none=>true
  |_,_=>false))then some h else Na rid ntm i r
def ziP(rid ntm:Nat):List (Nat×Nat)->Bool
 |[]=>false
 |p::r=>bif Nat.beq p.1 rid&&Nat.beq p.2 ntm then true else ziP rid ntm r
def zkD(cands:List Dx)(ns:List MZ)(rid:Nat)(tm:List SV)(H:SH)(nx:Nat):List Nat->List DPl×List OPl×Nat
 |[]=>([],[],0)
 |i::r=>match zkD cands ns rid tm H nx r with
  |(dl,ol,g)=>match gl tm i with
   |some (.own b)=>match zo H b with
    |some (.arr nn t _)=>match Na rid tm.length (some i) ns with
     |some ⟨_,_,_,_,false⟩=>(.tmp i ⟨false,.list t⟩::dl,ol,g)
     |_=>(dl,.otmp i (nx+g) nn t::ol,g+1)
    |some (.fro _ t _)=>(.tmp i ⟨false,.list t⟩::dl,ol,g)
    |_=>(dl,ol,g)
   |some .nils=>match Na rid tm.length (some i) ns with
    |some h=>bif h.own then(dl,.otmp i (nx+g) false h.ty::ol,g+1)else(.tmp i ⟨false,.list h.ty⟩::dl,ol,g)
    |none=>(dl,ol,g)
   |some .nilp=>match Na rid tm.length (some i) ns with
    |some _=>(.npt i::dl,ol,g)
    |none=>(dl,ol,g)
   |some v=>match zqf cands v with
    |some vt=>(.tmp i vt::dl,ol,g)
    |none=>(dl,ol,g)
   |none=>(dl,ol,g)
abbrev GrT:=Nat×Nat×Nat×List Nat
def grT(rid ntm d:Nat):List GrT->List Nat
 |[]=>[]
 |h::r=>bif Nat.beq h.1 rid&&(Nat.beq h.2.1 ntm&&Nat.beq h.2.2.1 d)then h.2.2.2 else grT rid ntm d r
def zdB(b:Nat):List SV->Nat->Option Nat
 |[],_=>none
 |v::r,i=>match v with
  |.ptr c o=>bif Nat.beq c b&&Nat.beq o 0 then some i else zdB b r (i+1)
  |_=>zdB b r (i+1)
def zpg(ns:List MZ)(rid:Nat)(tm:List SV)(b:Nat):Option MZ:=match zdB b tm 0 with
 |some d=>match Na rid tm.length (some d) ns with
  |some h=>some h
  |none=>Na rid tm.length none ns
 |none=>Na rid tm.length none ns
def zkE(cands:List Dx)(ns:List MZ)(gt:List GrT)(rid:Nat)(tm:List SV)(H:SH)(nx:Nat)(own:List Nat):List Nat->List DPl×List OPl×Nat->List DPl×List OPl×Nat
 |[],x=>x
 |b::r,x=>match zkE cands ns gt rid tm H nx own r x with
  |(dl,ol,g)=>match zo H b with
   |some (.vars [.own c])=>match zo H c with
    |some (.arr nn t _)=>match zpg ns rid tm b with
     |some ⟨_,_,some _,_,false⟩=>(.blk b (.list t)::dl,ol,g)
     |_=>(dl,.sblk b [.o (nx+g) nn t]::ol,g+1)
    |some (.fro _ t _)=>(.blk b (.list t)::dl,ol,g)
    |_=>(dl,ol,g)
   |some (.vars [.nils])=>match zpg ns rid tm b with
    |some h=>bif h.own then(dl,.sblk b [.o (nx+g) false h.ty]::ol,g+1)else(.blk b (.list h.ty)::dl,ol,g)
    |none=>(dl,ol,g)
   |some (.vars cs)=>match znC cands cs with
    |some h=>match zfr H cs (match zdB b tm 0 with
      |some d=>grT rid tm.length d gt
      |none=>h.gs) h.ty 0 (nx+g)with
     |(ks,c')=>bif ks.all (fun k=>match k with
       |.d _=>true
       |.o _ _ _=>false)then(.blk b h.ty::dl,ol,g)else(.frz b ks::dl,.sblk b ks::ol,c' - nx)
    |none=>match zmP cs with
     |some t=>(.blk b t::dl,ol,g)
     |none=>(dl,ol,g)
   |some (.arr nn t _)=>bif wY own b then(dl,ol,g)else(dl,.arr b nn t::ol,g)
   |some (.mpb k ag t _)=>(dl,.mpl b k ag t::ol,g)
   |_=>(dl,ol,g)
def ziQ:List SV->List Nat
 |[]=>[]
 |.own c::r=>c::ziQ r
 |_::r=>ziQ r
def zfs(tm:List SV)(H:SH)(bs:List Nat):List Nat->List Nat
 |[]=>bs.flatMap fun b=>match zo H b with
  |some (.vars cs)=>ziQ cs
  |_=>[]
 |i::r=>match gl tm i with
  |some (.own b)=>b::zfs tm H bs r
  |_=>zfs tm H bs r
def zqg(l:List Operand):List Nat:=l.flatMap Zn
def od(D:List Nat):List Nat->List Nat
 |[]=>[]
 |a::r=>bif wY D a then od D r else a::od D r
def ziR(D:List Nat):List Nat->List Nat
 |[]=>[]
 |a::r=>bif wY D a then a::ziR D r else ziR D r
def znF:List Oper->List Nat->List Nat×List Nat
 |[],D=>([],D)
 |o::r,D=>match znF r (o.dst.toList++D)with
  |(us,D')=>(od D (zqg o.op.operands.toList)++us,D')
def lvC:Code->List Nat->List Nat×List Nat
 |.region _ ops _,D=>znF ops.toList D
 |.seq a b,D=>match lvC a D with
  |(ra,Da)=>match lvC b Da with
   |(rb,Db)=>(ra++rb,Db)
 |.cond c a b,D=>match lvC a D with
  |(ra,Da)=>match lvC b D with
   |(rb,Db)=>(od D (Zn c)++(ra++rb),ziR Da Db)
 |.block _ c,D=>lvC c D
 |.loop c,D=>lvC c D
 |.scope c,D=>lvC c D
 |.rangeFunc g _ a b,D=>match lvC a D with
  |(ra,Da)=>match lvC b Da with
   |(rb,_)=>(od D (Zn g)++(ra++rb),D)
 |_,D=>([],D)
def zft:List Oper->List Nat
 |[]=>[]
 |o::r=>match o.op with
  |.assign _=>o.dst.toList++zft r
  |_=>zft r
def Dy:Code->List Nat
 |.region _ ops _=>zft ops.toList
 |.seq a b=>Dy a++Dy b
 |.cond _ a b=>Dy a++Dy b
 |.block _ c=>Dy c
 |.loop c=>Dy c
 |.scope c=>Dy c
 |_=>[]
def aP:Code->Bool
 |.region _ ops _=>ops.toList.any fun o=>match o.op with
  |.call {callee:=.value _,..}=>true
  |_=>false
 |.seq a b=>aP a||aP b
 |.cond _ a b=>aP a||aP b
 |.block _ c=>aP c
 |.loop c=>aP c
 |.scope c=>aP c
 |.rangeFunc _ _ _ _=>true
 |_=>false
def zph(tm:List SV):List Nat->Bool
 |[]=>false
 |i::r=>(match gl tm i with
  |some (.slv _ _)=>true
  |_=>false)||zph tm r
def zG(cands:List Dx)(un:List (Nat×Nat))(ns:List MZ)(gt:List GrT:=[])(pf:List Nat:=[]):xi:=fun c tm H nx=>match Xz c with
 |some rid=>bif ziP rid tm.length un||zph tm (lvC c []).1 then none else
  match ziR (Dy c++(lvC c []).1) (rN (asg c))with
  |aq=>match reachS H 3 (ziO tm (rN (YH pf c (YH pf c [])))++(bif aP c then znE pf H (qX H)else[]))with
   |bs=>some (zkE cands ns gt rid tm H nx (zfs tm H bs aq) bs (zkD cands ns rid tm H nx aq))
 |none=>none
def XA(i:Nat):Code->Bool
 |.exit j=>Nat.beq i j
 |.seq a b=>XA i a||XA i b
 |.cond _ a b=>XA i a||XA i b
 |.block _ c=>XA i c
 |.loop c=>XA i c
 |.scope c=>XA i c
 |.rangeFunc _ _ a b=>XA i a||XA i b
 |_=>false
def rO:Code->Bool
 |.ret=>false
 |.exit _=>false
 |.goto _=>false
 |.seq a b=>rO a&&rO b
 |.cond _ a b=>rO a||rO b
 |.block i c=>rO c||XA i c
 |.loop _=>false
 |_=>true
def zpi(ops:Array Oper):Bool:=ops.toList.any fun o=>o.guard.isSome
def zdC:Code->Bool
 |.skip=>true
 |.exit _=>true
 |.ret=>true
 |.goto _=>true
 |_=>false
def znG(g:Bool):Code->Bool
 |.cond _ a b=>(rO a&&(rO b&&!(zdC a&&zdC b)))||(g&&((rO a||rO b)&&!(zdC a&&zdC b)))
 |.seq (.region _ ops _) (.cond c a b)=>znG (g||zpi ops) (.cond c a b)
 |_=>false
def zy(ex:List (Nat×Nat))(re:List (Nat×Nat):=[])(c:Code)(ntm:Nat):Bool:=match c with
 |.scope (.loop b)=>(match Xz b with
  |some rid=>ziP rid ntm re
  |none=>false)
 |_=>bif znG false c then(match Xz c with
 |some rid=>!ziP rid ntm ex
 |none=>false)else false
end Go.Fz.Sy
namespace Go.Fz.Sy
variable {P:Program} {w:World}
open Go.RowKit Go.ChangeShapes Go.WideShapes
variable {cs:List Value} {f:FuncId} {r:Reach} {n:Nat} {b0:Nat}
def alT:Ty->Nat
 |.unit=>1
 |.bool=>1
 |.int k=>k.bits / 8
 |.str=>8
 |.list _=>8
 |.pair a b=>max (alT a) (alT b)
def upT(o a:Nat):Nat:=(o+a - 1) / a*a
def zmQ:Ty->Nat->Nat
 |.unit,o=>o
 |.bool,o=>o+1
 |.int k,o=>upT o (k.bits / 8)+k.bits / 8
 |.str,o=>upT o 8+16
 |.list _,o=>upT o 8+24
 |.pair a b,o=>zmQ b (zmQ a o)
def bsT(y:Ty):Nat:=upT (zmQ y 0) (alT y)
def wfT:(t:Ty)->T t->Prop
 |.unit,_=>True
 |.bool,_=>True
 |.int k,n=>k.min<=n∧n<=k.max
 |.str,s=>s.size<=maxLen
 |.list t,l=>(List.length (α:=T t) l<=maxLen∧List.length (α:=T t) l*bsT t<=reachBytes)∧∀x:T t,List.Mem x l->wfT t x
 |.pair a b,x=>wfT a x.1∧wfT b x.2
def QV(ft:TypeId->Ty->Bool)(cz:TypeId->Nat):List Field->Nat->Ty->Bool
 |[],_,.unit=>true
 |[f],off,y=>Nat.beq f.offset off&&(ft f.type y&&Nat.beq (sz y) (cz f.type))
 |f::g::fs,off,.pair a b=>Nat.beq f.offset off&&(ft f.type a&&(Nat.beq (sz a) (cz f.type)&&QV ft cz (g::fs) (off+sz a) b))
 |_,_,_=>false
def QW(ft:Ty->Bool)(cz:Nat):Nat->Ty->Bool
 |0,.unit=>true
 |1,y=>ft y&&Nat.beq (sz y) cz
 |n+2,.pair a b=>ft a&&(Nat.beq (sz a) cz&&QW ft cz (n+1) b)
 |_,_=>false
def Nb(P:Program):Nat->TypeId->Ty->Bool
 |0,_,_=>false
 |n+1,t,y=>match P.underlying t,y with
  |some .bool,.bool=>true
  |some (.int k),.int k'=>decide (k=k')
  |some .string,.str=>true
  |some (.slice e),.list y=>Nb P n e y&&(Nat.blt 0 (sz y)&&(Nat.beq (sz y) (P.cellsOf e)&&Nat.ble (bsT y) (P.bytesOf e)))
  |some (.struct fs),y=>QV (Nb P n) P.cellsOf fs.toList 0 y&&Nat.beq (sz y) (P.cellsOf t)
  |some (.array m e),y=>QW (Nb P n e) (P.cellsOf e) m y&&Nat.beq (sz y) (P.cellsOf t)
  |_,_=>false
def xp(w:World):Ren:=fun n=>if FZ<=n then match w.heap[n - FZ]? with
 |some (.cells a _ _)=>some ⟨n - FZ,0,0,a⟩
 |_=>none else none
theorem zgx{b:Nat}{a:Array Value}{el:TypeId}{fr:Nat×Nat}(h:w.heap[b]?=some (.cells a el fr)):xp w (FZ+b)=some ⟨b,0,0,a⟩:=by
 have h1:FZ<=FZ+b:=by omega
 have h2:FZ+b - FZ=b:=by omega
 simp only[xp,h1,zqG,h2,h]
theorem ziS(w:World):zF (xp w) [] (fun c=>c < w.heap.size) w:=by
 refine⟨fun b k h=>by simp[Hp.get_nil]at h,fun b c k k' L L' h=>by simp[Hp.get_nil]at h,fun b k L h=>by simp[Hp.get_nil]at h,fun c hc=>hc,fun b L hL=>?_,fun b k L c M h=>by simp[Hp.get_nil]at h⟩;have h1:FZ<=FZ+b:=by omega
 have h2:FZ+b - FZ=b:=by omega
 simp only[xp,h1,zqG,h2]at hL;split at hL
 ·rename_i a el fr ha;cases hL;exact⟨rfl,rfl,a,el,fr,ha,fun j u h=>h⟩
 ·cases hL
theorem zgy(w:World){m:Nat}(hm:m<=FZ):wQ (xp w) n m:=⟨hm,fun b h1 h2=>by
 have:¬FZ<=b:=by omega
 simp only[xp,this,zrb]⟩
theorem ziT{args:List Value}{H':Hp}{n':Nat}(hz:n'<=FZ)(hm:wJ P f args [] 0 (.bool true) H' n'){us:List Value}(hl:zE (xp w) args us) : Calls P f us.toArray w fun e w'=>e=.returned (.bool true)∧Below w.heap.size w w':=by refine zru (hm.2 (xp w) w (fun c=>c < w.heap.size) us (ziS w) (zgy w hz) hl) ?_;rintro e w' ⟨v',φ',rfl,x1,x2,x3,x4⟩;cases x1;exact⟨rfl,zcm x4⟩
section
variable {H:Type} {enc:TypeId×Value→H} {base:Nat} {spare:Nat→Bool} {held:Bool}
theorem Nc{φ:Ren}:∀{a b x y:List Value},zE φ a x->zE φ b y->zE φ (a++b) (x++y)
 |[],_,[],_,_,h=>h
 |_::_,_,_::_,_,h,k=>⟨h.1,Nc h.2 k⟩
 |[],_,_::_,_,h,_=>h.elim
 |_::_,_,[],_,h,_=>h.elim
theorem zb1{α:Type}{Φ:Nat->α->Prop}:∀(n:Nat),(∀i,i < n->∃q,Φ i q)->∃l:List α,l.length=n∧∀i q,l[i]?=some q->Φ i q
 |0,_=>⟨[],rfl,fun i q h=>by simp at h⟩
 |n+1,h=>by obtain⟨l,hl,hq⟩:=zb1 n fun i hi=>h i (by omega);obtain⟨q,hn⟩:=h n (by omega);refine⟨l++[q],by simp[hl],fun i q' hi=>?_⟩;grind
def ei(w:World)(y:Ty)(cs:List Value):Prop:=∃a:T y,wfT y a∧zE (xp w) (qz y a) cs
theorem zfu{ft:TypeId->Ty->Bool}{cz:TypeId->Nat}:∀{fs:List Field} {off:Nat} {y:Ty},QV ft cz fs off y=true->(∀f∈fs,∀z,ft f.type z=true->ei w z ((cs.drop f.offset).take (cz f.type)))->off+sz y=cs.length->ei w y (cs.drop off)
 |[],off,.unit,h,hf,hl=>⟨(),trivial,by
   have:cs.drop off=[]:=by simp[sz]at hl ⊢;omega
   rw[this];trivial⟩
 |[f],off,y,h,hf,hl=>by grind[QV,zpL,zqV]
 |f::g::fs,off,.pair a b,h,hf,hl=>by
  simp only[QV,FT]at h;obtain⟨h1,h2,h3,h4⟩:=h;have h1:=zpL h1;have h3:=zpL h3;obtain⟨x,wx,rx⟩:=hf f (by simp) a h2;simp only[sz]at hl;obtain⟨z,wz,rz⟩:=zfu (cs:=cs) h4 (fun q hq=>hf q (by grind)) (by omega);refine⟨(x,z),⟨wx,wz⟩,?_⟩;rw[h1,<-h3]at rx;have e:cs.drop off=(cs.drop off).take (sz a)++cs.drop (off+sz a):=by grind[List.drop_drop,zse]
  rw[e];exact Nc rx rz
 |[],_,.bool,h,_,_=>by simp[QV]at h
 |[],_,.int _,h,_,_=>by simp[QV]at h
 |[],_,.str,h,_,_=>by simp[QV]at h
 |[],_,.list _,h,_,_=>by simp[QV]at h
 |[],_,.pair _ _,h,_,_=>by simp[QV]at h
 |_::_::_,_,.unit,h,_,_=>by simp[QV]at h
 |_::_::_,_,.bool,h,_,_=>by simp[QV]at h
 |_::_::_,_,.int _,h,_,_=>by simp[QV]at h
 |_::_::_,_,.str,h,_,_=>by simp[QV]at h
 |_::_::_,_,.list _,h,_,_=>by simp[QV]at h
theorem zfv{ft:Ty->Bool}{cz:Nat}{N:Nat}(hf:∀i,i < N->∀z,ft z=true->ei w z ((cs.drop (i*cz)).take cz)):∀{m:Nat} {y:Ty} {i:Nat},QW ft cz m y=true->i+m=N->i*cz+sz y=cs.length->ei w y (cs.drop (i*cz))
 |0,.unit,i,h,hN,hl=>⟨(),trivial,by
   have:cs.drop (i*cz)=[]:=by simp[sz]at hl ⊢;omega
   rw[this];trivial⟩
 |1,y,i,h,hN,hl=>by simp only[QW,FT]at h;obtain⟨h1,h2⟩:=h;have h2:=zpL h2;have:=hf i (by omega) y h1;grind[zqV]
 |m+2,.pair a b,i,h,hN,hl=>by
  simp only[QW,FT]at h;obtain⟨h1,h2,h3⟩:=h;have h2:=zpL h2;obtain⟨x,wx,rx⟩:=hf i (by omega) a h1;simp only[sz]at hl;have e1:(i+1)*cz=i*cz+cz:=by grind
  obtain⟨z,wz,rz⟩:=zfv hf (m:=m+1) (i:=i+1) h3 (by omega) (by rw[e1];omega);refine⟨(x,z),⟨wx,wz⟩,?_⟩;have e:cs.drop (i*cz)=(cs.drop (i*cz)).take cz++cs.drop ((i+1)*cz):=by grind[List.drop_drop,zse]
  rw[e];exact Nc rx rz
 |0,.bool,_,h,_,_=>by simp[QW]at h
 |0,.int _,_,h,_,_=>by simp[QW]at h
 |0,.str,_,h,_,_=>by simp[QW]at h
 |0,.list _,_,h,_,_=>by simp[QW]at h
 |0,.pair _ _,_,h,_,_=>by simp[QW]at h
 |_+2,.unit,_,h,_,_=>by simp[QW]at h
 |_+2,.bool,_,h,_,_=>by simp[QW]at h
 |_+2,.int _,_,h,_,_=>by simp[QW]at h
 |_+2,.str,_,h,_,_=>by simp[QW]at h
 |_+2,.list _,_,h,_,_=>by simp[QW]at h
theorem mW{e:TypeId}{d:DataW H}:∀{l:List (DataW H)},d∈l->∀n∈d.weights P e,n∈DataW.weightsAll P e l
 |a::l,h,n,hn=>by
  simp only[DataW.weightsAll,zqF];rcases zqz.1 h with rfl | h
  ·exact .inl hn
  ·exact .inr (mW h n hn)
theorem zmR{e:TypeId}{y:Ty}{t:TypeId}{fuel:Nat}{x:DataW H×List MemPlace}(hu:P.underlying t=some (.slice e))(h:DataW.trod enc P w base spare held fuel t cs=some x)(hw:∀n∈x.1.weights P t,n<=reachBytes)(ih:∀{fuel:Nat} {cs:List Value} {x:DataW H×List MemPlace},DataW.trod enc P w base spare held fuel e cs=some x->(∀n∈x.1.weights P e,n<=reachBytes)->ei w y cs)(hs:0 < sz y)(hz:sz y=P.cellsOf e)(hbs:bsT y<=P.bytesOf e):ei w (.list y) cs:=by
 rcases DataW.trod_slice hu h with⟨rfl,_⟩ | ⟨a,len,cap,elems,rest,m,_,rfl,rfl,hb,hl,hm,hlen,hel,_,_⟩
 ·exact⟨([]:List (T y)),⟨⟨ztH _,by grind⟩,fun x hx=>by cases hx⟩,by
   have:=zp.fz0 (φ:=xp w) (sz y) none 0;exact⟨this,trivial⟩⟩
 ·have hw1:(elems.length+rest.length)*P.bytesOf e<=reachBytes:=by have:=hw ((elems.length+rest.length)*P.bytesOf e) (by simp[DataW.weights,hu]);exact this
  have hw2:∀z∈elems,∀n∈z.1.weights P e,n<=reachBytes:=fun z hz n hn=>hw n (by
   grind[DataW.weights,zqR,List.mem_append_left,mW,List.mem_map_of_mem])
  have hall:∀i,i < len->∃q:T y,wfT y q∧∃us,zE (xp w) (qz y q) us∧us.length=sz y∧∀j,j < sz y->w.cell? ((a.add (i*sz y)).add j)=us[j]?:=fun i hi=>by have h1:=hel i hi;obtain⟨z,hz2⟩:∃z,elems[i]?=some z:=⟨elems[i],FL (by omega)⟩;rw[hz2,zqs]at h1;obtain⟨us,h2,h3⟩:=h1;obtain⟨q,q1,q2⟩:=ih h3 (hw2 z (zqx hz2));obtain⟨_,h4,h5⟩:=World.cells?_some h2;grind
  obtain⟨l,hll,hl2⟩:=zb1 len hall;refine⟨l,⟨⟨by omega,zqw (Nat.mul_le_mul (show l.length<=elems.length+rest.length by omega) hbs) hw1⟩,fun q hq=>?_⟩,?_⟩
  ·obtain⟨i,hi⟩:=zrA hq;exact(hl2 i q hi).1
  ·show zE (xp w) [fzV (sz y) false (l.map fun x=>Value.agg (qz y x).toArray)] [Value.slice (some a) len cap];refine⟨?_,trivial⟩;by_cases h0:len=0
   ·subst h0;obtain rfl:l=[]:=zri.1 hll;exact zp.fz0 _ _ _
   ·obtain⟨q0,hq0⟩:∃q,l[0]?=some q:=⟨l[0],FL (by omega)⟩;obtain⟨_,us0,r0,l0,c0⟩:=hl2 0 q0 hq0;have c00:=c0 0 hs;have:∃v,us0[0]?=some v:=⟨us0[0],FL (by omega)⟩;obtain⟨v0,hv0⟩:=this;obtain⟨b,o,sp⟩:=a;have e0:((⟨b,o,sp⟩:Addr).add (0*sz y)).add 0=⟨b,o,sp⟩:=by simp[Addr.add]
    rw[e0,hv0]at c00;unfold World.cell? at c00;cases hh:w.heap[b]? with
    |none=>grind
    |some ob=>
     rw[hh]at c00;cases ob with
     |cells arr el fr=>
      have hsp:sp=none:=by cases sp<;>grind
      subst hsp;have hcell:∀k,w.cell? (⟨b,k,none⟩:Addr)=arr[k]?:=fun k=>by grind[World.cell?]
      have hat:∀i (q:T y),l[i]?=some q->∃us,zE (xp w) (qz y q) us∧us.length=sz y∧∀j,j < sz y->arr[o+i*sz y+j]?=us[j]?:=fun i q hi=>by grind[Addr.add_none]
      have hsz:∀(j:Nat) e,(l.map fun x=>Value.agg (qz y x).toArray).toArray[j]?=some e->e.cells.size=sz y:=fun j e he=>by grind[zqX,zry,zqo,Value.cells,wN]
      have hsize:(l.map fun x=>Value.agg (qz y x).toArray).toArray.size=len:=by simp[hll]
      have key:=zp.fz (φ:=xp w) (sz y) (l.map fun x=>Value.agg (qz y x).toArray).toArray b o cap ⟨b,0,0,arr⟩ (zgx hh) (by rw[hsize];omega) (by
        rw[hsize];obtain⟨q,hq⟩:∃q,l[len - 1]?=some q:=⟨l[len - 1],FL (by omega)⟩;obtain⟨us,r,hlu,hc⟩:=hat (len - 1) q hq;have h1:=hc (sz y - 1) (by omega);have:∃v,us[sz y - 1]?=some v:=⟨us[sz y - 1],FL (by omega)⟩;obtain⟨v,hv⟩:=this;rw[hv]at h1;have h2:=(zqO.1 h1).1;have h3:len*sz y=(len - 1)*sz y+sz y:=by
         have:len=(len - 1)+1:=by omega
         rw[this,zrI,ztm];simp
        grind) (by rw[hsize];omega) hsz (fun j k e u u' he hu hu'=>by
        simp only[zqX,zry,zqo]at he;obtain⟨q,hq,rfl⟩:=he;obtain⟨us,r,hlu,hc⟩:=hat j q hq;simp only[Value.cells,zqX]at hu;have hk:k < sz y:=by have:=(zqr.1 hu).1;rw[wN]at this;exact this
        obtain⟨v',hv',hr⟩:=r.get hu;grind)
      rw[hsize]at key;exact key
     |_=>simp at c00
theorem Ro:∀(n:Nat) {t:TypeId} {y:Ty} {fuel:Nat} {cs:List Value} {x:DataW H×List MemPlace},Nb P n t y=true->DataW.trod enc P w base spare held fuel t cs=some x->(∀n∈x.1.weights P t,n<=reachBytes)->ei w y cs
 |0,_,_,_,_,_,h,_,_=>by cases h
 |n+1,t,y,0,cs,x,_,h,_=>by cases h
 |n+1,t,y,fuel+1,cs,x,h,hx,hw=>by
  simp only[Nb]at h;split at h
  ·rename_i hu;simp only[DataW.trod,hu]at hx;split at hx<;>first | (rename_i e1 e2;cases e1;done) | skip
   all_goals first | (exact⟨_,trivial,.bool _,trivial⟩) | (simp_all;done) | cases hx
  ·rename_i k k' hu;have hk:k=k':=zsV h;subst hk;obtain⟨m,h1,h2,h3⟩:=DataW.trod_int hu hx;subst h1;simp only[Lit.wf,FT,zrd]at h3;exact⟨m,h3,.int _ _,trivial⟩
  ·rename_i hu;obtain⟨s,h1,h2,h3⟩:=DataW.trod_string hu hx;subst h1;exact⟨s,h3,.str _,trivial⟩
  ·rename_i e y' hu;simp only[FT]at h;obtain⟨h1,h2,h3,h4⟩:=h;exact zmR hu hx hw (fun hy hwy=>Ro n h1 hy hwy) (by simpa using h2) (zpL h3) (zqI h4)
  ·rename_i fs hu;simp only[FT]at h;obtain⟨h1,h2⟩:=h;have h2:=zpL h2;obtain⟨xs,m,_,rfl,hl,hlen,hf⟩:=DataW.trod_struct hu hx;simp only[DataW.weights,hu]at hw;have:=zfu (w:=w) (cs:=cs) h1 (fun f hf2 z hz=>by
    obtain⟨i,hi⟩:=zrA hf2;have h4:=hf i f (by simpa using hi);have hlt:i < xs.length:=by grind
    rw[FL hlt]at h4;exact Ro n hz h4 fun k hk=>hw k (DataW.weights_mem_each (j:=i) (t:=f.type) (d:=xs[i].1) (by grind) (by grind) k hk)) (by omega)
   simpa using this
  ·rename_i m e hu;simp only[FT]at h;obtain⟨h1,h2⟩:=h;have h2:=zpL h2;obtain⟨xs,q,_,rfl,hl,hlen,hf⟩:=DataW.trod_array hu hx;simp only[DataW.weights,hu]at hw;have:=zfv (w:=w) (cs:=cs) (N:=m) (cz:=P.cellsOf e) (fun i hi z hz=>by
    have h4:=hf i hi;have hlt:i < xs.length:=by omega
    rw[FL hlt]at h4;exact Ro n hz h4 fun k hk=>hw k (mW (List.mem_map_of_mem (zqq hlt)) k hk)) (m:=m) (i:=0) h1 (by omega) (by rw[hl,h2];simp)
   simpa using this
  ·cases h
def Dz(P:Program)(t:TypeId):Bool:=match P.underlying t with
 |some (.struct _)=>true
 |some (.array _ _)=>true
 |_=>false
def GH(P:Program)(n:Nat):List TypeId->List VT->Bool
 |[],[]=>true
 |t::ts,v::vs=>Nb P n t v.ty&&((bif Dz P t then v.agg else !v.agg)&&GH P n ts vs)
 |_,_=>false
theorem zmS{φ:Ren}{x v:Value}{a:List Value}(h:zE φ a [v])(ha:a=[x]):zp φ x v:=by subst ha;exact h.1
theorem zpR{t:TypeId}{vt:VT}{v:Value}{d:DataW H}{ps:List MemPlace}(hf:Nb P n t vt.ty=true)(ha:(bif Dz P t then vt.agg else !vt.agg)=true)(hv:Value.okWide P w r b0 t v)(hd:DataW.Trod enc P w base spare held t v d ps)(hw:∀n∈d.weights P t,n<=reachBytes) : ∃x:T vt.ty,wfT vt.ty x∧∀ρ,zp (xp w) (den ρ (mkV vt x)) v:=by
 obtain⟨ag,ty⟩:=vt;obtain⟨fuel,hd⟩:=hd;obtain⟨x,wx,rx⟩:=Ro n hf hd hw;refine⟨x,wx,fun ρ=>?_⟩;cases ag with
 |true=>
  have hag:Dz P t=true:=by
   cases h:Dz P t with
   |true=>rfl
   |false=>rw[h]at ha;cases ha
  have:∃cs,v=.agg cs:=by
   unfold Dz at hag;unfold Value.okWide at hv;split at hv
   ·obtain⟨cs,h1,_⟩:=hv;exact⟨cs,h1⟩
   ·obtain⟨cs,h1,_⟩:=hv;exact⟨cs,h1⟩
   ·rename_i h1 h2;split at hag
    ·rename_i h3;exact absurd h3 (h1 _)
    ·rename_i h3;exact absurd h3 (h2 _ _)
    ·cases hag
  obtain⟨cs,rfl⟩:=this;simp only[mkV,zqL,den];refine .agg' ?_;rw[qL,wt];exact rx
 |false=>
  have hag:Dz P t=false:=by
   cases h:Dz P t with
   |true=>rw[h]at ha;cases ha
   |false=>rfl
  have hcell:v.cells.toList=[v]:=by
   unfold Dz at hag;unfold Value.okWide at hv;split at hv
   ·rename_i h1;simp only[h1]at hag;cases hag
   ·rename_i h1;simp only[h1]at hag;cases hag
   ·cases v with
    |agg cs=>
     unfold Cell.okWide at hv;split at hv<;>first | (exfalso;revert hv;unfold Cell.ok;split<;>simp_all;done) | (rename_i e1 e2;cases e2)
    |_=>rfl
  rw[hcell]at rx;have hlen:=rx.length;have h2:=wt ρ ty x;simp only[mkV,zqD]
  match he:jJ ty x with
  |[u]=>
   rw[he]at h2;exact zmS rx h2.symm
  |[]=>rw[he]at h2;rw[<-h2]at hlen;simp at hlen
  |_::_::_=>rw[he]at h2;rw[<-h2]at hlen;simp at hlen
theorem zkF:∀{ts:List TypeId} {a:List VT} {us:List Value} {ds:List (DataW H)} {ps:List MemPlace},GH P n ts a=true->(∀(j:Nat) t v,ts[j]?=some t->us[j]?=some v->Value.okWide P w r b0 t v)->DataW.TrodAll enc P w base spare held ts us ds ps->(∀n∈DataW.weightsEach P ts ds,n<=reachBytes)->∃x:T (wA a),wfT (wA a) x∧∀ρ,zE (xp w) (zv ρ (jf a x)) us
 |[],[],us,ds,ps,_,_,h,_=>by obtain⟨rfl,_,_⟩:=trodAll_nil h;exact⟨(),trivial,fun ρ=>trivial⟩
 |t::ts,v::a,us,ds,ps,hf,hv,h,hw=>by simp only[GH,FT]at hf;obtain⟨f1,f2,f3⟩:=hf;obtain⟨u,us',d,ds',p,q,rfl,rfl,rfl,h1,h2⟩:=trodAll_cons h;obtain⟨x,wx,rx⟩:=zpR f1 f2 (hv 0 t u rfl rfl) h1 (fun n hn=>hw n (by grind[DataW.weightsEach,zqF]));obtain⟨y,wy,ry⟩:=zkF (ts:=ts) (a:=a) f3 (fun j t v ht hv2=>hv (j+1) t v (by simpa using ht) (by simpa using hv2)) h2 (fun n hn=>hw n (by grind[DataW.weightsEach,zqF]));exact⟨(x,y),⟨wx,wy⟩,fun ρ=>⟨rx ρ,ry ρ⟩⟩
 |[],_::_,_,_,_,hf,_,_,_=>by simp[GH]at hf
 |_::_,[],_,_,_,hf,_,_,_=>by simp[GH]at hf
theorem IU:∀{ts:List TypeId} {us:List Value} {ds:List (DataW H)} {ps:List MemPlace},DataW.TrodAll enc P w base spare held ts us ds ps->ds.length=ts.length
 |[],_,_,_,h=>by obtain⟨_,rfl,_⟩:=trodAll_nil h;rfl
 |t::ts,us,ds,ps,h=>by obtain⟨u,us',d,ds',p,q,rfl,rfl,rfl,h1,h2⟩:=trodAll_cons h;rw[zrw,zrw,IU h2]
theorem zkG{a:List VT}{G:T (wA a)->Option (T (wA [⟨false,.bool⟩]))}(hc:Con.Ok P f ⟨a,[⟨false,.bool⟩],G⟩)(hG:∀x,wfT (wA a) x->G x=some (true,())){ts:List TypeId}{us:List Value}{ds:List (DataW H)}{ps:List MemPlace}(hf:GH P n ts a=true)(hv:∀(j:Nat) t v,ts[j]?=some t->us[j]?=some v->Value.okWide P w r b0 t v)(h:DataW.TrodAll enc P w base spare held ts us ds ps)(hw:(DataW.weightsEach P ts ds).all (·<=reachBytes)=true) : Calls P f us.toArray w fun e w'=>e=.returned (.bool true)∧Below w.heap.size w w':=by obtain⟨x,wx,rx⟩:=zkF hf hv h (fun n hn=>zsV (zqN.1 hw n hn));obtain⟨Hd,nx',hz,hcall⟩:=hc.2 x _ (hG x wx);exact ziT hz hcall (rx _)
end
def Rp:Ty->List Value
 |.unit=>[]
 |.bool=>[.bool false]
 |.int k=>[.int k 0]
 |.str=>[.string ByteArray.empty]
 |.list _=>[.slice none 0 0]
 |.pair a b=>Rp a++Rp b
def zqh(v:VT):Value:=bif v.agg then .agg (Rp v.ty).toArray else match Rp v.ty with
 |[u]=>u
 |_=>.nilFunc
def zpS(a:List VT):Array Value:=(a.map zqh).toArray
theorem zn:KJ P []:=fun x h=>by cases h
theorem ze{c:Con}{t:Tbl}(h:c.Ok P f)(ht:KJ P t):KJ P ((f,c)::t):=fun x hx=>by
 rcases zqz.1 hx with rfl | hx
 ·exact h
 ·exact ht x hx
end Go.Fz.Sy
namespace Go.Fz.Sy
variable {P:Program}
variable {cfg:FuncId→Nat} {tm:List Value} {ms:List jN} {z:List Nat} {nx:Nat} {H:Hp}
structure jN where
 f:FuncId
 args:List Value
 v:Value
def jN.Ok(P:Program)(m:jN):Prop:=(vS (jv 0 16) m.args=true∧jv 0 16 m.v=true)∧(∃fn,P.funcs[m.f]?=some fn∧fn.body.isSome=true)∧∃Hd nx',nx'<=FZ∧wJ P m.f m.args [] 0 m.v Hd nx'
def zdD:List jN->FuncId->List Value->Option Value
 |[],_,_=>none
 |m::ms,f,args=>bif Nat.beq m.f f&&XW (veq 17) m.args args then some m.v else zdD ms f args
theorem Nd:∀{ms:List jN},(∀m∈ms,m.Ok P)->∀{f:FuncId} {args:List Value} {v:Value},zdD ms f args=some v->(∃fn,P.funcs[f]?=some fn∧fn.body.isSome=true)∧∀H nx,wJ P f args H nx v H nx
 |[],_,_,_,_,h=>by cases h
 |m::ms,hm,f,args,v,h=>by
  simp only[zdD]at h;cases hb:Nat.beq m.f f&&XW (veq 17) m.args args with
  |false=>rw[hb]at h;exact Nd (fun x hx=>hm x (by simp[hx])) h
  |true=>
   rw[hb]at h;cases h;simp only[FT]at hb;have h1:=zpL hb.1;have h2:=pX (Pv 17) hb.2;obtain⟨⟨h3,h4⟩,h5,Hd,nx',hz,h6⟩:=hm m (by simp);subst h1 h2;exact⟨h5,zbO hz h6 (fun φ φ0 hF us hl=>kR (zd7 hF 16) h3 hl) fun φ φ0 hF v' hv=>zd7 hF 16 _ _ h4 hv⟩
def zdE(b s:Nat)(tm:List Value)(H:Hp):List Value×Hp:=match H.get b with
 |some (.cells cs false)=>(tm.map (frV b s cs 16),frH (fun _ k=>match k with | .cells _ _=>true | _=>false) b s cs (H.del b))
 |_=>(tm,H)
theorem zmT{φ:Ren}{K:Nat->Prop}{w:World}(g:zF φ H K w){ts:Array Value}(ht:qQ φ tm ts)(b s:Nat):∃φ',(∀n,Ext K φ φ' n n)∧zF φ' (zdE b s tm H).2 K w∧qQ φ' (zdE b s tm H).1 ts:=by
 unfold zdE;split
 ·rename_i cs hb;obtain⟨φ',h1,h2,h3⟩:=zby g hb;refine⟨φ',h1,zed (h3 s) (h1 0).1 g h2,by simp[ht.1],fun i v hv=>?_⟩;simp only[zry,zqo]at hv;obtain⟨u,hu,rfl⟩:=hv;rcases ht.2 i u hu with rfl | ⟨v',h4,h5⟩
  ·exact .inl rfl
  ·exact .inr ⟨v',h4,h3 s 16 u v' h5⟩
 grind[Ext.refl]
def zdF:List (Nat×Nat)->List Value->Hp->List Value×Hp
 |[],tm,H=>(tm,H)
 |(b,s)::r,tm,H=>match zdE b s tm H with
  |(t1,H1)=>zdF r t1 H1
theorem zfw{K:Nat->Prop}{w:World}{ts:Array Value}:∀(l:List (Nat×Nat)) {φ:Ren} {H:Hp} {tm:List Value},zF φ H K w->qQ φ tm ts->∃φ',(∀n,Ext K φ φ' n n)∧zF φ' (zdF l tm H).2 K w∧qQ φ' (zdF l tm H).1 ts
 |[],φ,H,tm,g,ht=>⟨φ,fun n=>Ext.refl _ _ _ _,g,ht⟩
 |(b,s)::r,φ,H,tm,g,ht=>by obtain⟨φ1,h1,h2,h3⟩:=zmT g ht b s;obtain⟨φ2,k1,k2,k3⟩:=zfw r h2 h3;exact⟨φ2,fun n=>(h1 n).comp (k1 n),k2,k3⟩
def ziU(R:Res):Res:=match zdF (yi R.H 0 100000 R.tm ([],[])).2 R.tm R.H with
 |(t,H)=>{R with tm:=t,H:=H}
theorem ziV{r:Option Nat}{c:Code}{ds:List Nat}{R:Res}(h:qV P r c tm ds H nx R):qV P r c tm ds H nx (ziU R):=by refine⟨h.1,fun φ w K a rc g hf ht hd hr=>zqZ (h.2 φ w K a rc g hf ht hd hr) ?_⟩;rintro e a' w' ⟨rfl,φ',k1,k2,k3,k4,k5⟩;obtain⟨φ2,m1,m2,m3⟩:=zfw (yi R.H 0 100000 R.tm ([],[])).2 k2 k3;exact⟨rfl,φ2,k1.comp ((m1 R.nx).wide h.1 (FW _)),m2,m3,k4.mono (m1 0).1,k5⟩
def HB(z:List Nat)(x:Code)(R:Res):Res:=match x with
 |.region i _ _=>bif z.any (Nat.beq i)then ziU R else R
 |_=>R
theorem zmU{r:Option Nat}{x c:Code}{ds:List Nat}{R:Res}(h:qV P r c tm ds H nx R):qV P r c tm ds H nx (HB z x R):=by
 cases x with
 |region i _ _=>
  show qV P r c tm ds H nx (bif z.any (Nat.beq i)then ziU R else R);grind[Nat.beq,ziV]
 |_=>exact h
theorem zou(z:List Nat)(x:Code)(R:Res):(HB z x R).e=R.e:=by
 cases x with
 |region i _ _=>
  show(bif z.any (Nat.beq i)then ziU R else R).e=R.e;cases z.any (Nat.beq i)<;>rfl
 |_=>rfl
def zdG(P:Program)(E:Ev)(z:List Nat):Code->List Value->List Nat->Hp->Nat->Option Res
 |.seq x y,tm,ds,H,nx=>match jE P E none x tm ds H nx with
  |some R=>match R.e with
   |.normal=>zdG P E z y (HB z x R).tm (HB z x R).ds (HB z x R).H (HB z x R).nx
   |_=>some R
  |none=>none
 |c,tm,ds,H,nx=>jE P E none c tm ds H nx
theorem zmV{E:Ev}(hE:E.Ok P)(hs:jw P)(c:Code):∀{tm:List Value} {ds:List Nat} {H:Hp} {nx:Nat} {R:Res},zdG P E z c tm ds H nx=some R->qV P none c tm ds H nx R:=by
 induction c with
 |seq x y _ ih=>
  intro tm ds H nx R h;simp only[zdG]at h;split at h;case h_2=>cases h
  rename_i R1 h1;have c1:=gq hE hs x h1;split at h
  ·rename_i he;exact pO (zmU c1) (by rw[zou];exact he) (ih h)
  grind[Yz]
 |_=>intro tm ds H nx R h;exact gq hE hs _ h
def DA(P:Program)(cfg:FuncId->Nat)(E:Ev)(z:List Nat)(f:FuncId)(args:List Value)(H:Hp)(nx:Nat):Option (Value×Hp×Nat):=
 match P.funcs[f]? with
 |some fn=>match fn.body with
  |some c=>match zdG P E z c (args++List.replicate (fn.ntmps - args.length) undef) [] H nx with
   |some R=>match (match R.e with | .normal=>true | .ret=>true | _=>false)with
    |true=>match Ku R.ds R.H with
     |some H1=>match Gm P H1 R.tm fn.results.toList with
      |some vs=>match dL (cfg f) nx (gF vs) H1 with
       |(v2,H2)=>some (v2,gc nx v2 H2,R.nx)
      |none=>none
     |none=>none
    |false=>none
   |none=>none
  |none=>none
 |none=>none
theorem DB{E:Ev}(hE:E.Ok P)(hs:jw P){f:FuncId}{args:List Value}{v:Value}{H':Hp}{nx':Nat}(h:DA P cfg E z f args H nx=some (v,H',nx')) : (∃fn,P.funcs[f]?=some fn∧fn.body.isSome=true)∧wJ P f args H nx v H' nx':=by
 unfold DA at h;split at h;case h_2=>cases h
 rename_i fn hfn;split at h;case h_2=>cases h
 rename_i c hc;split at h;case h_2=>cases h
 rename_i R hR;split at h;case h_2=>cases h
 rename_i he;split at h;case h_2=>cases h
 rename_i H1 hk;split at h;case h_2=>cases h
 rename_i vs hv;cases he2:dL (cfg f) nx (gF vs) H1 with
 |mk v2 H2=>
 rw[he2]at h;cases h;refine⟨⟨fn,hfn,by rw[hc];rfl⟩,pZ (Pz (CA hfn hc (zmV hE hs c hR) ?_ hk hv (fun _ _ h=>h)) _ he2) (zjU nx _ _)⟩;grind
def evD(P:Program)(cfg:FuncId->Nat)(z:FuncId->List Nat)(ms:List jN):Nat->Ev
 |0=>⟨fun _ _ _ _=>none,fun _ _ _ _ _ _=>none,fun _ _ _ _ _ _=>none,fun _ _ _ _ _ _=>none⟩
 |n
   + 1=>{CL P cfg (evD P cfg z ms n)with call:=fun f args H nx=>match zdD ms f args with
   |some v=>some (v,H,nx)
   |none=>DA P cfg (evD P cfg z ms n) (z f) f args H nx}
theorem zfx{z:FuncId->List Nat}(hs:jw P)(hms:∀m∈ms,m.Ok P):∀n,(evD P cfg z ms n).Ok P
 |0=>⟨(fun h=>by cases h),(fun h=>by cases h),(fun h=>by cases h),(fun h=>by cases h),(fun h=>by cases h)⟩
 |n+1=>by
  have h0:=zfx (cfg:=cfg) (z:=z) hs hms n;have hE:=zjV (cfg:=cfg) h0 hs;refine⟨fun{f args H nx v H' nx'} h=>?_,fun{f args H nx v H' nx'} h=>?_,fun h=>hE.code h,fun h=>hE.loop h,fun h=>hE.scp h⟩
  ·simp only[evD]at h;split at h
   ·rename_i r hr;cases h;exact(Nd hms hr).2 _ _
   ·exact(DB h0 hs h).2
  ·simp only[evD]at h;split at h
   ·rename_i r hr;cases h;exact(Nd hms hr).1
   ·exact(DB h0 hs h).1
def znH(P:Program)(cfg:FuncId->Nat)(z:FuncId->List Nat)(ms:List jN)(n:Nat)(m:jN):Bool:=vS (jv 0 16) m.args&&jv 0 16 m.v&&(match (evD P cfg z ms n).call m.f m.args [] 0 with
 |some (v,_,nx)=>veq 17 v m.v&&Nat.ble nx FZ
 |none=>false)
theorem jl{z:FuncId->List Nat}{n:Nat}{m:jN}(hs:jw P)(hms:∀m∈ms,m.Ok P)(h:znH P cfg z ms n m=true):m.Ok P:=by
 simp only[znH,FT]at h;obtain⟨⟨h1,h2⟩,h3⟩:=h;split at h3
 ·rename_i v H' nx he;simp only[FT]at h3;have:=Pv 17 _ _ h3.1;subst this;exact⟨⟨h1,h2⟩,(zfx hs hms n).named he,H',nx,zqI h3.2,(zfx hs hms n).call he⟩
 ·cases h3
theorem jH:∀x∈([]:List jN),x.Ok P:=fun _ h=>by cases h
theorem qd{m:jN}(h:m.Ok P)(hs:∀x∈ms,x.Ok P):∀x∈m::ms,x.Ok P:=by grind
theorem zkH{f:FuncId}(h:jN.Ok P ⟨f,[],.bool true⟩):Con.Ok P f ⟨[],[⟨false,.bool⟩],fun _=>some (true,())⟩:=by obtain⟨_,h1,Hd,nx',hz,h2⟩:=h;exact⟨h1,fun x r hr=>by cases hr;exact⟨Hd,nx',hz,h2⟩⟩
end Go.Fz.Sy
namespace Go.Fz.Sy
end Go.Fz.Sy
namespace Go.Fz.Sy
variable {α:Type} {S:Type} {X:Type} {B:S→Option (X ⊕ S)} {Q:α→Prop} {I:S→Prop} {J:X→Prop} {o:Option α} {x:Option α} {m:S→Nat} {l:List α} {R:Type} {s:S} {a:α}
theorem zR{z:Int}(h1 : -9223372036854775808<=z)(h2:z<=9223372036854775807):wrF .i64 z=z:=by
 rw[Zy];have e:IntKind.i64.wrap z=if z % 18446744073709551616>=9223372036854775808 then z % 18446744073709551616 - 18446744073709551616 else z % 18446744073709551616:=by unfold IntKind.wrap;show(if(true&&decide (z % 18446744073709551616>=9223372036854775808))=true then z % 18446744073709551616 - 18446744073709551616 else z % 18446744073709551616)=_;simp only[zrT,zrd]
 omega
theorem zq(a:α)(f:α->Option R):opt (some a) f=f a:=rfl
theorem zho(l:List α)(n:Nat):atI l (n:Int)=l[n]?:=by show gl l n=_;exact xf l n
theorem Rq{z:Int}(h0:0<=z)(h:z < l.length):∃x,atI l z=some x∧l[z.toNat]?=some x:=by
 obtain⟨n,rfl⟩:=Int.eq_ofNat_of_zero_le h0;have hn:n < l.length:=by omega
 exact⟨l[n],by rw[zho];simp[hn],by simp[hn]⟩
theorem gw{n:Nat}{x:α}(h:l[n]?=some x):atI l (n:Int)=some x:=by rw[zho];exact h
theorem zb2(h:∀s,I s->(∃x,B s=some (.inl x)∧J x)∨(∃s',B s=some (.inr s')∧I s'∧m s' < m s)) : ∀(N:Nat) (s:S),I s->m s < N->∃x,yA B N s=some x∧J x
 |0,s,_,hm=>by omega
 |N+1,s,hI,hm=>by
  rw[QT];rcases h s hI with⟨x,hx,hJ⟩ | ⟨s',hs,hI',hlt⟩
  ·grind
  ·rw[hs];exact zb2 h N s' hI' (by omega)
theorem zmW(I:S->Prop)(J:X->Prop)(m:S->Nat)(h:∀s,I s->(∃x,B s=some (.inl x)∧J x)∨(∃s',B s=some (.inr s')∧I s'∧m s' < m s))(hI:I s)(hm:m s < 1180591620717411303424) : ∃x,yA B xm s=some x∧J x:=zb2 h xm s hI (zqB hm zhn)
def zt{α:Type}(o:Option α)(Q:α->Prop):Prop:=∃r,o=some r∧Q r
theorem za(h:Q a):zt (some a) Q:=⟨a,rfl,h⟩
theorem dx(e:o=some a)(h:Q a):zt o Q:=⟨a,e,h⟩
theorem zb{f:α->Option R}{Q:R->Prop}(h:zt x fun a=>zt (f a) Q):zt (opt x f) Q:=by obtain⟨a,rfl,r,h1,h2⟩:=h;exact⟨r,h1,h2⟩
theorem zk{f:α->Option R}{J:α->Prop}{Q:R->Prop}(h:zt x J)(hf:∀a,J a->zt (f a) Q):zt (opt x f) Q:=by obtain⟨a,rfl,ha⟩:=h;exact hf a ha
theorem zd{b:Bool}{y:Option α}(h1:b=true->zt x Q)(h2:b=false->zt y Q):zt (bif b then x else y) Q:=by grind
theorem zkI{Q':α->Prop}(h:zt o Q)(hq:∀a,Q a->Q' a):zt o Q':=by obtain⟨a,e,ha⟩:=h;exact⟨a,e,hq a ha⟩
theorem qF(h:zt o fun r=>r=a):o=some a:=by obtain⟨r,e,rfl⟩:=h;exact e
def Round{X S:Type}(I:S->Prop)(J:X->Prop)(m:S->Nat)(s:S)(r:X ⊕ S):Prop:=(∀x,r=.inl x->J x)∧∀s',r=.inr s'->I s'∧m s' < m s
theorem Yi{x:X}(h:J x):Round I J m s (.inl x):=⟨fun y e=>by cases e;exact h,fun s' e=>by cases e⟩
theorem GI{s':S}(h:I s')(hm:m s' < m s):Round I J m s (.inr s'):=⟨(fun y e=>by cases e),fun s'' e=>by grind⟩
theorem aQ(I:S->Prop)(J:X->Prop)(m:S->Nat)(hI:I s)(hm:m s < 1180591620717411303424)(h:∀s,I s->zt (B s) (Round I J m s)):zt (yA B xm s) J:=by
 obtain⟨x,h1,h2⟩:=zmW (B:=B) I J m (fun s hs=>by
  obtain⟨r,e,h3,h4⟩:=h s hs;grind) hI hm
 exact⟨x,h1,h2⟩
theorem zm{n:Nat}{x:α}(h:l[n]?=some x)(hq:Q x):zt (atI l (n:Int)) Q:=⟨x,gw h,hq⟩
end Go.Fz.Sy
namespace Go.Proofs.YtlfkgkedfciccaaGreat.nd
open Go Go.Fz Go.Fz.Sy
def lnC{α:Type}(l:List α):Int:=((l.length:Nat):Int)
def w6C(x:Int):Int:=wrF .i64 x
def upC(x:Int):Int:=wrF .i64 (x+1)
def aTC{α β:Type}(l:List α)(i:Int)(f:α->Option β):Option β:=opt (atI l i) f
def nxC{X S:Type}(s:S):Option (X ⊕ S):=some (.inr s)
def exC{Y S:Type}(j:Nat)(y:Y):Option ((Nat×Y) ⊕ S):=some (.inl (j,y))
def lpC{S X β:Type}(s:S)(B:S->Option (X ⊕ S))(f:X->Option β):Option β:=opt (yA B xm s) f
def jzC{α:Type}(x:Nat×α):Bool:=Nat.beq x.1 0
abbrev I:Ty:=.int .i64
theorem qN:jw Tryz.prog:=zeh (by kernel_rfl)
abbrev qx:Ty:=(.pair I (.pair I (.pair I I)))
abbrev aR:Type:=(Int×(Int×(Int×Int)))
abbrev zP:Ty:=(.pair I (.pair (.list .bool) (.list qx)))
abbrev qi:Type:=(Int×((List Bool)×(List aR)))
abbrev yH:Ty:=(.pair (.int .u8) (.pair (.int .u8) (.pair (.list (.int .u8)) (.pair (.list (.int .u8)) (.pair (.list (.int .u8)) (.list (.int .u8)))))))
abbrev kW:Type:=(Int×(Int×((List Int)×((List Int)×((List Int)×(List Int))))))
abbrev yY:Ty:=(.pair I (.pair I (.pair I I)))
abbrev wj:Type:=(Int×(Int×(Int×Int)))
abbrev zr:Ty:=(.pair I I)
abbrev zC:Type:=(Int×Int)
abbrev zJ:Ty:=(.pair I (.pair I (.pair I (.pair I (.pair I (.pair I (.pair zr (.pair I (.list (.list I))))))))))
abbrev qf:Type:=(Int×(Int×(Int×(Int×(Int×(Int×(zC×(Int×(List (List Int))))))))))
abbrev qv:Ty:=(.pair .bool (.pair .bool (.pair (.int .u8) (.pair (.int .u8) (.pair (.int .u8) (.pair (.int .u8) (.pair (.int .u8) (.int .u16))))))))
abbrev xj:Type:=(Bool×(Bool×(Int×(Int×(Int×(Int×(Int×Int)))))))
abbrev gu:Ty:=(.pair I (.pair I (.pair I (.pair I I))))
abbrev rP:Type:=(Int×(Int×(Int×(Int×Int))))
abbrev QH:Ty:=(.pair I (.pair I (.pair I I)))
abbrev Nf:Type:=(Int×(Int×(Int×Int)))
abbrev qY:Ty:=(.pair (.list I) (.list QH))
abbrev qO:Type:=((List Int)×(List Nf))
abbrev YI:Ty:=(.pair I (.pair I I))
abbrev Kc:Type:=(Int×(Int×Int))
abbrev yP:Ty:=(.pair I (.pair I (.pair I I)))
abbrev zmX:Type:=(Int×(Int×(Int×Int)))
abbrev qB:Ty:=(.pair I (.list yP))
abbrev jK:Type:=(Int×(List zmX))
abbrev uU:Ty:=(.pair (.list qB) (.pair (.list I) I))
abbrev ja:Ty:=(.pair I (.pair I (.pair I (.pair I (.pair I I)))))
abbrev yI:Type:=(Int×(Int×(Int×(Int×(Int×Int)))))
abbrev jb:Ty:=(.pair I I)
abbrev ziW:Type:=(Int×Int)
abbrev qD:Ty:=(.pair (.list jb) I)
abbrev jz:Type:=((List ziW)×Int)
abbrev jy:Ty:=(.pair zP (.pair yY (.pair (.list qD) I)))
abbrev wI:Type:=(qi×(wj×((List jz)×Int)))
abbrev jj:Ty:=(.pair I I)
abbrev yw:Type:=(Int×Int)
abbrev Qf:Ty:=(.pair I I)
abbrev kX:Type:=(Int×Int)
abbrev Qg:Ty:=(.pair zr (.pair Qf (.pair I I)))
abbrev da:Type:=(zC×(kX×(Int×Int)))
abbrev yJ:Ty:=(.pair yH (.pair (.pair (.int .u8) (.pair (.int .u8) (.int .u8))) (.pair (.list qv) (.pair (.list (.int .i8)) (.pair .bool I)))))
abbrev wb:Type:=(kW×((Int×(Int×Int))×((List xj)×((List Int)×(Bool×Int)))))
abbrev qe:Ty:=(.pair I (.pair zr zr))
abbrev jL:Type:=(Int×(zC×zC))
abbrev vy:Ty:=(.pair jy (.pair (.list zJ) (.pair (.list I) (.pair (.list I) (.pair (.list qe) (.pair I I))))))
abbrev vl:Type:=(wI×((List qf)×((List Int)×((List Int)×((List jL)×(Int×Int))))))
abbrev yZ:Ty:=(.pair I I)
abbrev js:Type:=(Int×Int)
abbrev qh:Ty:=(.pair I (.pair I (.pair .bool (.pair I (.pair I (.int .u64))))))
abbrev qy:Type:=(Int×(Int×(Bool×(Int×(Int×Int)))))
abbrev zV:Ty:=(.pair I (.pair I I))
abbrev qI:Type:=(Int×(Int×Int))
abbrev zU:Ty:=(.pair I (.pair I (.pair I (.pair I (.pair I (.pair I I))))))
abbrev qu:Type:=(Int×(Int×(Int×(Int×(Int×(Int×Int))))))
abbrev qo:Ty:=(.pair (.list zU) (.pair (.list qe) (.pair I (.pair (.list I) (.list zV)))))
abbrev zK:Type:=((List qu)×((List jL)×(Int×((List Int)×(List qI)))))
abbrev jd:Ty:=(.pair I (.pair zr (.pair I yZ)))
abbrev jM:Type:=(Int×(zC×(Int×js)))
abbrev yx:Ty:=(.pair I (.pair I (.pair I I)))
abbrev xP:Type:=(Int×(Int×(Int×Int)))
abbrev qP:Ty:=(.pair I (.pair qo (.pair (.list jd) (.pair (.list yx) (.list qh)))))
abbrev zL:Type:=(Int×(zK×((List jM)×((List xP)×(List qy)))))
abbrev qG:Ty:=(.pair I (.pair I (.pair I (.pair I I))))
abbrev zQ:Type:=(Int×(Int×(Int×(Int×Int))))
abbrev vz:Ty:=(.pair (.int .u16) (.pair (.int .u8) (.pair (.int .u8) qG)))
abbrev wq:Type:=(Int×(Int×(Int×zQ)))
abbrev gx:Ty:=(.pair I I)
abbrev xL:Type:=(Int×Int)
abbrev qS:Ty:=(.pair qh (.pair I I))
abbrev qJ:Type:=(qy×(Int×Int))
abbrev Kd:Ty:=(.pair I (.pair I (.pair I I)))
abbrev yQ:Type:=(Int×(Int×(Int×Int)))
abbrev qw:Ty:=(.pair qP (.pair I (.pair qG (.pair I Kd))))
abbrev zM:Type:=(zL×(Int×(zQ×(Int×yQ))))
abbrev uh:Ty:=(.pair gx (.pair I (.pair zr zr)))
abbrev xa:Type:=(xL×(Int×(zC×zC)))
abbrev wk:Ty:=qo
abbrev qZ:Type:=zK
end Go.Proofs.YtlfkgkedfciccaaGreat.nd
namespace Go.Proofs.YtlfkgkedfciccaaGreat.nd
open Go Go.Fz Go.Fz.Sy
variable {α:Type}
abbrev prg:Program:=Tryz.prog
abbrev cdF(t:Ty):Dx:=⟨t,wi t,[]⟩
theorem zpj(x:α):∃y,y=x:=⟨x,rfl⟩
def opq{α:Type}(x:α):α:=Classical.choose (zpj x)
theorem zkJ(x:α):opq x=x:=Classical.choose_spec (zpj x)
theorem zA{β:Type}{F:α->β}{x:α}{r:β}(h:F x=r):opq F x=r:=by rw[zkJ];exact h
theorem okF{f:FuncId}{a b:List VT}{t:Tbl}{pl:xi}{jq:Code->Nat->Bool}{n:Nat}(ht:KJ prg t)(hf:Du prg f=true):Con.Ok prg f ⟨a,b,opq (sF prg t pl jq n f a b)⟩:=by rw[zkJ];exact Rn ht qN hf
abbrev DC:List VT:=[⟨false,(.list (.int .u8))⟩,⟨false,I⟩]
abbrev DD:List VT:=[⟨false,I⟩]
def DE(a0:(List Int))(a1:Int):Option (Int×Unit):=bif(zg a1 (lnC a0))then aTC a0 a1 fun x0=>some ((w6C x0),())else some (0,())
abbrev zfy:Type:=((List Int)×Int×Unit)->Option (Int×Unit)
def jF:zfy:=opq (sF prg [] (zG [] [] [] [] []) (zy []) 30 95 DC DD)
abbrev DF:Con:=⟨DC,DD,jF⟩
theorem Rs:Con.Ok prg 95 DF:=okF zn (by kernel_rfl)
theorem Rt(a0)(a1):jF (a0,a1,())=DE a0 a1:=zA (by kernel_rfl)
abbrev DG:List VT:=[⟨true,zP⟩,⟨false,I⟩]
abbrev DH:List VT:=[⟨false,.bool⟩]
def DI(a0:qi)(a1:Int):Option (Bool×Unit):=bif !(zg a1 0)then some ((zg a1 a0.1),())else some (false,())
abbrev zfz:Type:=(qi×Int×Unit)->Option (Bool×Unit)
def Yj:zfz:=opq (sF prg [] (zG [cdF zP,cdF qx] [] [] [] []) (zy []) 30 224 DG DH)
abbrev DJ:Con:=⟨DG,DH,Yj⟩
theorem Ru:Con.Ok prg 224 DJ:=okF zn (by kernel_rfl)
theorem Rv(a0)(a1):Yj (a0,a1,())=DI a0 a1:=zA (by kernel_rfl)
abbrev DK:List VT:=[⟨true,zP⟩,⟨true,qx⟩]
abbrev DL:List VT:=[⟨false,.bool⟩]
def DM(a0:qi)(a1:aR):Option (Bool×Unit):=opt (opt (Yj (a0,a1.1,())) fun x0=>bif !x0.1 then some (1,(false,()),())else opt (Yj (a0,a1.2.1,())) fun x1=>bif !x1.1 then some (1,(false,()),())else bif zj a1.1 a1.2.1 then some (1,(false,()),())else aTC a0.2.1 a1.1 fun x2=>bif x2 then aTC a0.2.1 a1.2.1 fun x3=>bif x3 then some (1,(false,()),())else some (0,(false,()),())else some (0,(false,()),())) fun x4=>bif jzC x4 then bif !(zg a1.2.2.1 1)then bif !(zg 1000 a1.2.2.1)then bif !(zg a1.2.2.2 0)then some ((!(zg 10000 a1.2.2.2)),())else some (false,())else some (false,())else some (false,())else some (x4.2.1.1,())
abbrev zfA:Type:=(qi×aR×Unit)->Option (Bool×Unit)
def xG:zfA:=opq (sF prg [(224,DJ)] (zG [cdF zP,cdF qx] [] [] [] [224]) (zy []) 30 159 DK DL)
abbrev ej:Con:=⟨DK,DL,xG⟩
theorem lB:Con.Ok prg 159 ej:=okF (ze Ru zn) (by kernel_rfl)
theorem Rw(a0)(a1):xG (a0,a1,())=DM a0 a1:=zA (by kernel_rfl)
abbrev sQ:List VT:=[⟨true,qx⟩,⟨false,I⟩,⟨false,I⟩]
abbrev sR:List VT:=[⟨false,.bool⟩]
def sS(a0:aR)(a1:Int)(a2:Int):Option (Bool×Unit):=bif zj a0.1 a1 then bif zj a0.2.1 a2 then some (true,())else bif zj a0.1 a2 then some ((zj a0.2.1 a1),())else some (false,())else bif zj a0.1 a2 then some ((zj a0.2.1 a1),())else some (false,())
abbrev zco:Type:=(aR×Int×Int×Unit)->Option (Bool×Unit)
def jZ:zco:=opq (sF prg [] (zG [cdF qx] [] [] [] []) (zy []) 30 160 sQ sR)
abbrev bo:Con:=⟨sQ,sR,jZ⟩
theorem eA:Con.Ok prg 160 bo:=okF zn (by kernel_rfl)
theorem Ng(a0)(a1)(a2):jZ (a0,a1,a2,())=sS a0 a1 a2:=zA (by kernel_rfl)
abbrev ZI:List VT:=[⟨true,yH⟩]
abbrev ZJ:List VT:=[⟨true,zP⟩]
def aS(a0:kW):Option (qi×Unit):=lpC (((),0,()),((w6C ((w6C (1+(w6C (Int.tmod a0.1 6))))+(w6C (2+(w6C (Int.tmod a0.2.1 5)))))),[],[],()),()) (fun s0=>bif zg s0.1.2.1 s0.2.1.1 then bif(qb s0.2.1.2.1.length (((!(zg s0.1.2.1 (w6C (1+(w6C (Int.tmod a0.1 6))))))::[]).length) 1)then nxC (((),(upC s0.1.2.1),()),(s0.2.1.1,(s0.2.1.2.1++((!(zg s0.1.2.1 (w6C (1+(w6C (Int.tmod a0.1 6))))))::[])),s0.2.1.2.2.1,()),())else none else exC 0 (((),s0.1.2.1,()),(s0.2.1.1,s0.2.1.2.1,s0.2.1.2.2.1,()),())) fun x1=>lpC ((a0,(),1,()),(x1.2.2.1.1,x1.2.2.1.2.1,x1.2.2.1.2.2.1,()),()) (fun s2=>bif(zg s2.1.2.2.1 (w6C (1+(w6C (Int.tmod a0.1 6)))))then opt (jF (s2.1.1.2.2.2.2.1,(lnC s2.2.1.2.2.1),())) fun x3=>opt (jF (s2.1.1.2.2.2.2.2,(lnC s2.2.1.2.2.1),())) fun x4=>bif(zj (lnC s2.2.1.2.2.1) 24)then nxC ((s2.1.1,(),(upC s2.1.2.2.1),()),(s2.2.1.1,s2.2.1.2.1,s2.2.1.2.2.1,()),())else opt (xG ((s2.2.1.1,s2.2.1.2.1,s2.2.1.2.2.1),((w6C (s2.1.2.2.1 - 1)),s2.1.2.2.1,(w6C (1+(Int.tmod x3.1 20))),(Int.tmod x4.1 50)),())) fun x5=>bif !x5.1 then nxC ((s2.1.1,(),(upC s2.1.2.2.1),()),(s2.2.1.1,s2.2.1.2.1,s2.2.1.2.2.1,()),())else lpC (((0,[],[]),0,()),()) (fun s6=>bif(zg s6.1.2.1 (lnC s2.2.1.2.2.1))then aTC s2.2.1.2.2.1 s6.1.2.1 fun x7=>opt (gl s2.2.1.2.2.1 (Int.toNat s6.1.2.1)) fun x8=>opt (jZ (x8,(w6C (s2.1.2.2.1 - 1)),s2.1.2.2.1,())) fun x9=>bif x9.1 then some (.inl s6)else nxC ((s6.1.1,(upC s6.1.2.1),()),())else some (.inl s6)) fun x10=>bif(zg x10.1.2.1 (lnC s2.2.1.2.2.1))then aTC s2.2.1.2.2.1 x10.1.2.1 fun x11=>opt (gl s2.2.1.2.2.1 (Int.toNat x10.1.2.1)) fun x12=>opt (jZ (x12,(w6C (s2.1.2.2.1 - 1)),s2.1.2.2.1,())) fun x13=>bif x13.1 then nxC ((s2.1.1,(),(upC s2.1.2.2.1),()),(s2.2.1.1,s2.2.1.2.1,s2.2.1.2.2.1,()),())else none else bif(qb s2.2.1.2.2.1.length ((((w6C (s2.1.2.2.1 - 1)),s2.1.2.2.1,(w6C (1+(Int.tmod x3.1 20))),(Int.tmod x4.1 50))::[]).length) 32)then nxC ((s2.1.1,(),(upC s2.1.2.2.1),()),(s2.2.1.1,s2.2.1.2.1,(s2.2.1.2.2.1++(((w6C (s2.1.2.2.1 - 1)),s2.1.2.2.1,(w6C (1+(Int.tmod x3.1 20))),(Int.tmod x4.1 50))::[])),()),())else none else exC 0 ((s2.1.1,(),s2.1.2.2.1,()),(s2.2.1.1,s2.2.1.2.1,s2.2.1.2.2.1,()),())) fun x14=>lpC ((x14.2.1.1,(),0,()),(x14.2.2.1.1,x14.2.2.1.2.1,x14.2.2.1.2.2.1,()),()) (fun s15=>bif(zg s15.1.2.2.1 (w6C (2+(w6C (Int.tmod a0.2.1 5)))))then opt (jF (s15.1.1.2.2.2.1,(w6C (2*s15.1.2.2.1)),())) fun x16=>bif(zj (w6C (1+(w6C (Int.tmod a0.1 6)))) 0)then none else opt (jF (s15.1.1.2.2.2.2.1,(lnC s15.2.1.2.2.1),())) fun x17=>opt (jF (s15.1.1.2.2.2.2.2,(lnC s15.2.1.2.2.1),())) fun x18=>bif(zj (lnC s15.2.1.2.2.1) 24)then nxC ((s15.1.1,(),(upC s15.1.2.2.1),()),(s15.2.1.1,s15.2.1.2.1,s15.2.1.2.2.1,()),())else opt (xG ((s15.2.1.1,s15.2.1.2.1,s15.2.1.2.2.1),((w6C ((w6C (1+(w6C (Int.tmod a0.1 6))))+s15.1.2.2.1)),(Int.tmod x16.1 (w6C (1+(w6C (Int.tmod a0.1 6))))),(w6C (1+(Int.tmod x17.1 20))),(Int.tmod x18.1 50)),())) fun x19=>bif !x19.1 then nxC ((s15.1.1,(),(upC s15.1.2.2.1),()),(s15.2.1.1,s15.2.1.2.1,s15.2.1.2.2.1,()),())else lpC (((0,[],[]),0,()),()) (fun s20=>bif(zg s20.1.2.1 (lnC s15.2.1.2.2.1))then aTC s15.2.1.2.2.1 s20.1.2.1 fun x21=>opt (gl s15.2.1.2.2.1 (Int.toNat s20.1.2.1)) fun x22=>opt (jZ (x22,(w6C ((w6C (1+(w6C (Int.tmod a0.1 6))))+s15.1.2.2.1)),(Int.tmod x16.1 (w6C (1+(w6C (Int.tmod a0.1 6))))),())) fun x23=>bif x23.1 then some (.inl s20)else nxC ((s20.1.1,(upC s20.1.2.1),()),())else some (.inl s20)) fun x24=>bif(zg x24.1.2.1 (lnC s15.2.1.2.2.1))then aTC s15.2.1.2.2.1 x24.1.2.1 fun x25=>opt (gl s15.2.1.2.2.1 (Int.toNat x24.1.2.1)) fun x26=>opt (jZ (x26,(w6C ((w6C (1+(w6C (Int.tmod a0.1 6))))+s15.1.2.2.1)),(Int.tmod x16.1 (w6C (1+(w6C (Int.tmod a0.1 6))))),())) fun x27=>bif x27.1 then nxC ((s15.1.1,(),(upC s15.1.2.2.1),()),(s15.2.1.1,s15.2.1.2.1,s15.2.1.2.2.1,()),())else none else bif(qb s15.2.1.2.2.1.length ((((w6C ((w6C (1+(w6C (Int.tmod a0.1 6))))+s15.1.2.2.1)),(Int.tmod x16.1 (w6C (1+(w6C (Int.tmod a0.1 6))))),(w6C (1+(Int.tmod x17.1 20))),(Int.tmod x18.1 50))::[]).length) 32)then nxC ((s15.1.1,(),(upC s15.1.2.2.1),()),(s15.2.1.1,s15.2.1.2.1,(s15.2.1.2.2.1++(((w6C ((w6C (1+(w6C (Int.tmod a0.1 6))))+s15.1.2.2.1)),(Int.tmod x16.1 (w6C (1+(w6C (Int.tmod a0.1 6))))),(w6C (1+(Int.tmod x17.1 20))),(Int.tmod x18.1 50))::[])),()),())else none else exC 0 ((s15.1.1,(),s15.1.2.2.1,()),(s15.2.1.1,s15.2.1.2.1,s15.2.1.2.2.1,()),())) fun x28=>opt (bif(zg 2 (w6C (1+(w6C (Int.tmod a0.1 6)))))then bif zj (Int.tmod x28.2.1.1.1 2) 0 then opt (jF (x28.2.1.1.2.2.2.2.1,(lnC x28.2.2.1.2.2.1),())) fun x29=>opt (jF (x28.2.1.1.2.2.2.2.2,(lnC x28.2.2.1.2.2.1),())) fun x30=>bif(zj (lnC x28.2.2.1.2.2.1) 24)then some (0,(x28.2.1.1,(),()),(x28.2.2.1.1,x28.2.2.1.2.1,x28.2.2.1.2.2.1,()),())else opt (xG ((x28.2.2.1.1,x28.2.2.1.2.1,x28.2.2.1.2.2.1),((w6C ((w6C (1+(w6C (Int.tmod a0.1 6)))) - 1)),0,(w6C (1+(Int.tmod x29.1 20))),(Int.tmod x30.1 50)),())) fun x31=>bif !x31.1 then some (0,(x28.2.1.1,(),()),(x28.2.2.1.1,x28.2.2.1.2.1,x28.2.2.1.2.2.1,()),())else lpC (((0,[],[]),0,()),()) (fun s32=>bif(zg s32.1.2.1 (lnC x28.2.2.1.2.2.1))then aTC x28.2.2.1.2.2.1 s32.1.2.1 fun x33=>opt (gl x28.2.2.1.2.2.1 (Int.toNat s32.1.2.1)) fun x34=>opt (jZ (x34,(w6C ((w6C (1+(w6C (Int.tmod a0.1 6)))) - 1)),0,())) fun x35=>bif x35.1 then some (.inl s32)else nxC ((s32.1.1,(upC s32.1.2.1),()),())else some (.inl s32)) fun x36=>bif(zg x36.1.2.1 (lnC x28.2.2.1.2.2.1))then aTC x28.2.2.1.2.2.1 x36.1.2.1 fun x37=>opt (gl x28.2.2.1.2.2.1 (Int.toNat x36.1.2.1)) fun x38=>opt (jZ (x38,(w6C ((w6C (1+(w6C (Int.tmod a0.1 6)))) - 1)),0,())) fun x39=>bif x39.1 then some (0,(x28.2.1.1,(),()),(x28.2.2.1.1,x28.2.2.1.2.1,x28.2.2.1.2.2.1,()),())else none else bif(qb x28.2.2.1.2.2.1.length ((((w6C ((w6C (1+(w6C (Int.tmod a0.1 6)))) - 1)),0,(w6C (1+(Int.tmod x29.1 20))),(Int.tmod x30.1 50))::[]).length) 32)then some (0,(x28.2.1.1,(),()),(x28.2.2.1.1,x28.2.2.1.2.1,(x28.2.2.1.2.2.1++(((w6C ((w6C (1+(w6C (Int.tmod a0.1 6)))) - 1)),0,(w6C (1+(Int.tmod x29.1 20))),(Int.tmod x30.1 50))::[])),()),())else none else some (0,(x28.2.1.1,(),()),(x28.2.2.1.1,x28.2.2.1.2.1,x28.2.2.1.2.2.1,()),())else some (0,(x28.2.1.1,(),()),(x28.2.2.1.1,x28.2.2.1.2.1,x28.2.2.1.2.2.1,()),())) fun x40=>lpC ((x40.2.1.1,(),0,()),(x40.2.2.1.1,x40.2.2.1.2.1,x40.2.2.1.2.2.1,()),()) (fun s41=>bif(zg s41.1.2.2.1 (w6C (2+(w6C (Int.tmod a0.2.1 5)))))then opt (opt (jF (s41.1.1.2.2.2.1,(upC (w6C (2*s41.1.2.2.1))),())) fun x42=>bif zg 0 (Int.tmod x42.1 3)then opt (jF (s41.1.1.2.2.2.1,(upC (w6C (2*s41.1.2.2.1))),())) fun x43=>bif(zj (w6C (1+(w6C (Int.tmod a0.1 6)))) 0)then none else opt (jF (s41.1.1.2.2.2.2.1,(lnC s41.2.1.2.2.1),())) fun x44=>opt (jF (s41.1.1.2.2.2.2.2,(lnC s41.2.1.2.2.1),())) fun x45=>bif(zj (lnC s41.2.1.2.2.1) 24)then some (0,(s41.1.1,(),()),(s41.2.1.1,s41.2.1.2.1,s41.2.1.2.2.1,()),())else opt (xG ((s41.2.1.1,s41.2.1.2.1,s41.2.1.2.2.1),((w6C ((w6C (1+(w6C (Int.tmod a0.1 6))))+s41.1.2.2.1)),(Int.tmod x43.1 (w6C (1+(w6C (Int.tmod a0.1 6))))),(w6C (1+(Int.tmod x44.1 20))),(Int.tmod x45.1 50)),())) fun x46=>bif !x46.1 then some (0,(s41.1.1,(),()),(s41.2.1.1,s41.2.1.2.1,s41.2.1.2.2.1,()),())else lpC (((0,[],[]),0,()),()) (fun s47=>bif(zg s47.1.2.1 (lnC s41.2.1.2.2.1))then aTC s41.2.1.2.2.1 s47.1.2.1 fun x48=>opt (gl s41.2.1.2.2.1 (Int.toNat s47.1.2.1)) fun x49=>opt (jZ (x49,(w6C ((w6C (1+(w6C (Int.tmod a0.1 6))))+s41.1.2.2.1)),(Int.tmod x43.1 (w6C (1+(w6C (Int.tmod a0.1 6))))),())) fun x50=>bif x50.1 then some (.inl s47)else nxC ((s47.1.1,(upC s47.1.2.1),()),())else some (.inl s47)) fun x51=>bif(zg x51.1.2.1 (lnC s41.2.1.2.2.1))then aTC s41.2.1.2.2.1 x51.1.2.1 fun x52=>opt (gl s41.2.1.2.2.1 (Int.toNat x51.1.2.1)) fun x53=>opt (jZ (x53,(w6C ((w6C (1+(w6C (Int.tmod a0.1 6))))+s41.1.2.2.1)),(Int.tmod x43.1 (w6C (1+(w6C (Int.tmod a0.1 6))))),())) fun x54=>bif x54.1 then some (0,(s41.1.1,(),()),(s41.2.1.1,s41.2.1.2.1,s41.2.1.2.2.1,()),())else none else bif(qb s41.2.1.2.2.1.length ((((w6C ((w6C (1+(w6C (Int.tmod a0.1 6))))+s41.1.2.2.1)),(Int.tmod x43.1 (w6C (1+(w6C (Int.tmod a0.1 6))))),(w6C (1+(Int.tmod x44.1 20))),(Int.tmod x45.1 50))::[]).length) 32)then some (0,(s41.1.1,(),()),(s41.2.1.1,s41.2.1.2.1,(s41.2.1.2.2.1++(((w6C ((w6C (1+(w6C (Int.tmod a0.1 6))))+s41.1.2.2.1)),(Int.tmod x43.1 (w6C (1+(w6C (Int.tmod a0.1 6))))),(w6C (1+(Int.tmod x44.1 20))),(Int.tmod x45.1 50))::[])),()),())else none else some (0,(s41.1.1,(),()),(s41.2.1.1,s41.2.1.2.1,s41.2.1.2.2.1,()),())) fun x55=>nxC ((x55.2.1.1,(),(upC s41.1.2.2.1),()),(x55.2.2.1.1,x55.2.2.1.2.1,x55.2.2.1.2.2.1,()),())else exC 0 ((s41.1.1,(),s41.1.2.2.1,()),(s41.2.1.1,s41.2.1.2.1,s41.2.1.2.2.1,()),())) fun x56=>lpC ((x56.2.1.1,(),0,()),(x56.2.2.1.1,x56.2.2.1.2.1,x56.2.2.1.2.2.1,()),()) (fun s57=>bif(zg (upC s57.1.2.2.1) (lnC s57.1.1.2.2.1))then bif zg s57.1.2.2.1 12 then aTC s57.1.1.2.2.1 s57.1.2.2.1 fun x58=>bif(zj (w6C (1+(w6C (Int.tmod a0.1 6)))) 0)then none else aTC s57.1.1.2.2.1 (upC s57.1.2.2.1) fun x59=>bif(zj (w6C (1+(w6C (Int.tmod a0.1 6)))) 0)then none else opt (jF (s57.1.1.2.2.2.2.1,(lnC s57.2.1.2.2.1),())) fun x60=>opt (jF (s57.1.1.2.2.2.2.2,(lnC s57.2.1.2.2.1),())) fun x61=>bif(zj (lnC s57.2.1.2.2.1) 24)then nxC ((s57.1.1,(),(w6C (s57.1.2.2.1+2)),()),(s57.2.1.1,s57.2.1.2.1,s57.2.1.2.2.1,()),())else opt (xG ((s57.2.1.1,s57.2.1.2.1,s57.2.1.2.2.1),((Int.tmod (w6C x58) (w6C (1+(w6C (Int.tmod a0.1 6))))),(Int.tmod (w6C x59) (w6C (1+(w6C (Int.tmod a0.1 6))))),(w6C (1+(Int.tmod x60.1 20))),(Int.tmod x61.1 50)),())) fun x62=>bif !x62.1 then nxC ((s57.1.1,(),(w6C (s57.1.2.2.1+2)),()),(s57.2.1.1,s57.2.1.2.1,s57.2.1.2.2.1,()),())else lpC (((0,[],[]),0,()),()) (fun s63=>bif(zg s63.1.2.1 (lnC s57.2.1.2.2.1))then aTC s57.2.1.2.2.1 s63.1.2.1 fun x64=>opt (gl s57.2.1.2.2.1 (Int.toNat s63.1.2.1)) fun x65=>opt (jZ (x65,(Int.tmod (w6C x58) (w6C (1+(w6C (Int.tmod a0.1 6))))),(Int.tmod (w6C x59) (w6C (1+(w6C (Int.tmod a0.1 6))))),())) fun x66=>bif x66.1 then some (.inl s63)else nxC ((s63.1.1,(upC s63.1.2.1),()),())else some (.inl s63)) fun x67=>bif(zg x67.1.2.1 (lnC s57.2.1.2.2.1))then aTC s57.2.1.2.2.1 x67.1.2.1 fun x68=>opt (gl s57.2.1.2.2.1 (Int.toNat x67.1.2.1)) fun x69=>opt (jZ (x69,(Int.tmod (w6C x58) (w6C (1+(w6C (Int.tmod a0.1 6))))),(Int.tmod (w6C x59) (w6C (1+(w6C (Int.tmod a0.1 6))))),())) fun x70=>bif x70.1 then nxC ((s57.1.1,(),(w6C (s57.1.2.2.1+2)),()),(s57.2.1.1,s57.2.1.2.1,s57.2.1.2.2.1,()),())else none else bif(qb s57.2.1.2.2.1.length ((((Int.tmod (w6C x58) (w6C (1+(w6C (Int.tmod a0.1 6))))),(Int.tmod (w6C x59) (w6C (1+(w6C (Int.tmod a0.1 6))))),(w6C (1+(Int.tmod x60.1 20))),(Int.tmod x61.1 50))::[]).length) 32)then nxC ((s57.1.1,(),(w6C (s57.1.2.2.1+2)),()),(s57.2.1.1,s57.2.1.2.1,(s57.2.1.2.2.1++(((Int.tmod (w6C x58) (w6C (1+(w6C (Int.tmod a0.1 6))))),(Int.tmod (w6C x59) (w6C (1+(w6C (Int.tmod a0.1 6))))),(w6C (1+(Int.tmod x60.1 20))),(Int.tmod x61.1 50))::[])),()),())else none else exC 0 ((s57.1.1,(),s57.1.2.2.1,()),(s57.2.1.1,s57.2.1.2.1,s57.2.1.2.2.1,()),())else exC 0 ((s57.1.1,(),s57.1.2.2.1,()),(s57.2.1.1,s57.2.1.2.1,s57.2.1.2.2.1,()),())) fun x71=>some ((x71.2.2.1.1,x71.2.2.1.2.1,x71.2.2.1.2.2.1),())
abbrev aT:Type:=(kW×Unit)->Option (qi×Unit)
def yR:aT:=opq (sF prg [(95,DF),(159,ej),(160,bo)] (zG [cdF yH,⟨zP,wi zP,[1,2]⟩,cdF qx] [] [⟨5,141,none,.bool,true⟩,⟨9,141,none,.bool,true⟩,⟨13,141,none,.bool,true⟩,⟨16,141,none,.bool,true⟩,⟨19,141,none,.bool,true⟩,⟨21,141,none,.bool,true⟩,⟨24,141,none,.bool,true⟩,⟨3,59,none,qx,true⟩,⟨6,59,none,qx,true⟩,⟨8,59,none,qx,true⟩] [(5,141,5,[1,2]),(9,141,5,[2]),(13,141,5,[2]),(16,141,5,[2]),(19,141,5,[2]),(21,141,5,[2]),(24,141,5,[2]),(5,141,5,[1])] [95,159,160]) (zy [(3,59),(8,59)] [(6,59)]) 30 47 ZI ZJ)
abbrev DN:Con:=⟨ZI,ZJ,yR⟩
theorem oe:Con.Ok prg 47 DN:=okF (ze Rs (ze lB (ze eA zn))) (by kernel_rfl)
theorem og(a0):yR (a0,())=aS a0:=zA (by kernel_rfl)
abbrev Wp:List VT:=[⟨false,(.int .u8)⟩,⟨false,(.int .u8)⟩,⟨false,(.int .u8)⟩]
abbrev Wq:List VT:=[⟨true,yY⟩]
def lC(a0:Int)(a1:Int)(a2:Int):Option (wj×Unit):=some (((w6C (100+(w6C (20*(w6C a0))))),(w6C (Int.tmod a1 40)),(w6C a2),8000),())
abbrev lD:Type:=(Int×Int×Int×Unit)->Option (wj×Unit)
def uV:lD:=opq (sF prg [] (zG [cdF yY] [] [] [] []) (zy []) 30 48 Wp Wq)
abbrev Rx:Con:=⟨Wp,Wq,uV⟩
theorem DO:Con.Ok prg 48 Rx:=okF zn (by kernel_rfl)
theorem DP(a0)(a1)(a2):uV (a0,a1,a2,())=lC a0 a1 a2:=zA (by kernel_rfl)
abbrev DQ:List VT:=[⟨true,zP⟩,⟨false,I⟩]
abbrev DR:List VT:=[⟨false,I⟩]
def DT(a0:qi)(a1:Int):Option (Int×Unit):=aTC a0.2.2 (w6C (Int.tdiv a1 2)) fun x0=>bif zj (Int.tmod a1 2) 1 then some (x0.2.1,())else some (x0.1,())
abbrev zfB:Type:=(qi×Int×Unit)->Option (Int×Unit)
def ya:zfB:=opq (sF prg [] (zG [cdF zP,cdF qx] [] [] [] []) (zy []) 30 18 DQ DR)
abbrev gM:Con:=⟨DQ,DR,ya⟩
theorem uW:Con.Ok prg 18 gM:=okF zn (by kernel_rfl)
theorem Ry(a0)(a1):ya (a0,a1,())=DT a0 a1:=zA (by kernel_rfl)
abbrev sT:List VT:=[⟨true,zP⟩,⟨false,I⟩]
abbrev sU:List VT:=[⟨false,(.list I)⟩]
def sV(a0:qi)(a1:Int):Option ((List Int)×Unit):=lpC ((0,()),[],()) (fun s0=>bif(zg s0.1.1 (w6C (2*(lnC a0.2.2))))then opt (opt (ya (a0,s0.1.1,())) fun x1=>bif zj x1.1 a1 then bif(qb s0.2.1.length ((s0.1.1::[]).length) 8)then some (0,(),(s0.2.1++(s0.1.1::[])),())else none else some (0,(),s0.2.1,())) fun x2=>nxC (((upC s0.1.1),()),x2.2.2.1,())else exC 0 ((s0.1.1,()),s0.2.1,())) fun x3=>some (x3.2.2.1,())
abbrev zcp:Type:=(qi×Int×Unit)->Option ((List Int)×Unit)
def kp:zcp:=opq (sF prg [(18,gM)] (zG [cdF zP,cdF qx] [] [⟨3,25,some 4,I,false⟩,⟨3,25,some 5,I,true⟩,⟨5,25,some 4,I,false⟩,⟨5,25,some 5,I,true⟩] [] [18]) (zy []) 30 227 sT sU)
abbrev sW:Con:=⟨sT,sU,kp⟩
theorem Nh:Con.Ok prg 227 sW:=okF (ze uW zn) (by kernel_rfl)
theorem Ni(a0)(a1):kp (a0,a1,())=sV a0 a1:=zA (by kernel_rfl)
abbrev Rz:List VT:=[⟨true,zP⟩,⟨false,I⟩]
abbrev RA:List VT:=[⟨false,I⟩]
def RB(a0:qi)(a1:Int):Option (Int×Unit):=aTC a0.2.2 (w6C (Int.tdiv a1 2)) fun x0=>bif zj (Int.tmod a1 2) 1 then some (x0.1,())else some (x0.2.1,())
abbrev ziX:Type:=(qi×Int×Unit)->Option (Int×Unit)
def jO:ziX:=opq (sF prg [] (zG [cdF zP,cdF qx] [] [] [] []) (zy []) 30 24 Rz RA)
abbrev YJ:Con:=⟨Rz,RA,jO⟩
theorem Jz:Con.Ok prg 24 YJ:=okF zn (by kernel_rfl)
theorem zcq(a0)(a1):jO (a0,a1,())=RB a0 a1:=zA (by kernel_rfl)
abbrev RC:List VT:=[⟨false,(.list I)⟩,⟨false,I⟩]
abbrev RD:List VT:=[⟨false,.bool⟩]
def RE(a0:(List Int))(a1:Int):Option (Bool×Unit):=lpC ((false,0,()),()) (fun s0=>bif(zg s0.1.2.1 (lnC a0))then aTC a0 s0.1.2.1 fun x1=>bif zj x1 a1 then exC 1 ((true,s0.1.2.1,()),())else nxC ((s0.1.1,(upC s0.1.2.1),()),())else exC 0 ((s0.1.1,s0.1.2.1,()),())) fun x2=>bif jzC x2 then some (false,())else some (x2.2.1.1,())
abbrev ziY:Type:=((List Int)×Int×Unit)->Option (Bool×Unit)
def vA:ziY:=opq (sF prg [] (zG [] [] [] [] []) (zy []) 30 225 RC RD)
abbrev KK:Con:=⟨RC,RD,vA⟩
theorem XZ:Con.Ok prg 225 KK:=okF zn (by kernel_rfl)
theorem zcr(a0)(a1):vA (a0,a1,())=RE a0 a1:=zA (by kernel_rfl)
abbrev DU:List VT:=[⟨true,zP⟩,⟨false,(.int .u8)⟩,⟨false,(.int .u8)⟩]
abbrev DV:List VT:=[⟨false,(.list I)⟩]
def DW(a0:qi)(a1:Int)(a2:Int):Option ((List Int)×Unit):=bif zj a0.1 0 then none else lpC ((a0,[],(Int.tmod (w6C a1) a0.1),()),[],((Int.tmod (w6C a1) a0.1)::[]),()) (fun s0=>bif(zg (lnC s0.2.1) 8)then bif(zj (lnC s0.2.1) 0)then opt (kp (s0.1.1,s0.1.2.2.1,())) fun x1=>lpC ((0,()),s0.2.2.1,[],()) (fun s2=>bif(zg s2.1.1 (lnC x1.1))then opt (aTC x1.1 s2.1.1 fun x3=>opt (jO (s0.1.1,x3,())) fun x4=>opt (vA (s2.2.1,x4.1,())) fun x5=>bif !x5.1 then aTC x1.1 s2.1.1 fun x6=>bif(qb s2.2.2.1.length ((x6::[]).length) 8)then some (0,(),s2.2.1,(s2.2.2.1++(x6::[])),())else none else some (0,(),s2.2.1,s2.2.2.1,())) fun x7=>nxC (((upC s2.1.1),()),x7.2.2.1,x7.2.2.2.1,())else exC 0 ((s2.1.1,()),s2.2.1,s2.2.2.1,())) fun x8=>bif(zj (lnC x8.2.2.2.1) 0)then some (.inl s0)else bif(zj (lnC x8.2.2.2.1) 0)then none else aTC x8.2.2.2.1 (Int.tmod (w6C ((w6C a2)+(w6C (3*(lnC s0.2.1))))) (lnC x8.2.2.2.1)) fun x9=>opt (gl x8.2.2.2.1 (Int.toNat (Int.tmod (w6C ((w6C a2)+(w6C (3*(lnC s0.2.1))))) (lnC x8.2.2.2.1)))) fun x10=>bif(qb s0.2.1.length ((x10::[]).length) 8)then opt (jO (s0.1.1,x10,())) fun x11=>bif(qb x8.2.2.1.length ((x11.1::[]).length) 8)then nxC ((s0.1.1,s0.1.2.1,x11.1,()),(s0.2.1++(x10::[])),(x8.2.2.1++(x11.1::[])),())else none else none else aTC s0.1.1.2.1 s0.1.2.2.1 fun x12=>bif !x12 then opt (kp (s0.1.1,s0.1.2.2.1,())) fun x13=>lpC ((0,()),s0.2.2.1,[],()) (fun s14=>bif(zg s14.1.1 (lnC x13.1))then opt (aTC x13.1 s14.1.1 fun x15=>opt (jO (s0.1.1,x15,())) fun x16=>opt (vA (s14.2.1,x16.1,())) fun x17=>bif !x17.1 then aTC x13.1 s14.1.1 fun x18=>bif(qb s14.2.2.1.length ((x18::[]).length) 8)then some (0,(),s14.2.1,(s14.2.2.1++(x18::[])),())else none else some (0,(),s14.2.1,s14.2.2.1,())) fun x19=>nxC (((upC s14.1.1),()),x19.2.2.1,x19.2.2.2.1,())else exC 0 ((s14.1.1,()),s14.2.1,s14.2.2.1,())) fun x20=>bif(zj (lnC x20.2.2.2.1) 0)then some (.inl s0)else bif(zj (lnC x20.2.2.2.1) 0)then none else aTC x20.2.2.2.1 (Int.tmod (w6C ((w6C a2)+(w6C (3*(lnC s0.2.1))))) (lnC x20.2.2.2.1)) fun x21=>opt (gl x20.2.2.2.1 (Int.toNat (Int.tmod (w6C ((w6C a2)+(w6C (3*(lnC s0.2.1))))) (lnC x20.2.2.2.1)))) fun x22=>bif(qb s0.2.1.length ((x22::[]).length) 8)then opt (jO (s0.1.1,x22,())) fun x23=>bif(qb x20.2.2.1.length ((x23.1::[]).length) 8)then nxC ((s0.1.1,s0.1.2.1,x23.1,()),(s0.2.1++(x22::[])),(x20.2.2.1++(x23.1::[])),())else none else none else some (.inl s0)else some (.inl s0)) fun x24=>bif(zg (lnC x24.2.1) 8)then bif(zj (lnC x24.2.1) 0)then opt (kp (x24.1.1,x24.1.2.2.1,())) fun x25=>lpC ((0,()),x24.2.2.1,[],()) (fun s26=>bif(zg s26.1.1 (lnC x25.1))then opt (aTC x25.1 s26.1.1 fun x27=>opt (jO (x24.1.1,x27,())) fun x28=>opt (vA (s26.2.1,x28.1,())) fun x29=>bif !x29.1 then aTC x25.1 s26.1.1 fun x30=>bif(qb s26.2.2.1.length ((x30::[]).length) 8)then some (0,(),s26.2.1,(s26.2.2.1++(x30::[])),())else none else some (0,(),s26.2.1,s26.2.2.1,())) fun x31=>nxC (((upC s26.1.1),()),x31.2.2.1,x31.2.2.2.1,())else exC 0 ((s26.1.1,()),s26.2.1,s26.2.2.1,())) fun x32=>bif(zj (lnC x32.2.2.2.1) 0)then some (x24.2.1,())else bif(zj (lnC x32.2.2.2.1) 0)then none else aTC x32.2.2.2.1 (Int.tmod (w6C ((w6C a2)+(w6C (3*(lnC x24.2.1))))) (lnC x32.2.2.2.1)) fun x33=>opt (gl x32.2.2.2.1 (Int.toNat (Int.tmod (w6C ((w6C a2)+(w6C (3*(lnC x24.2.1))))) (lnC x32.2.2.2.1)))) fun x34=>bif(qb x24.2.1.length ((x34::[]).length) 8)then opt (jO (x24.1.1,x34,())) fun x35=>bif(qb x32.2.2.1.length ((x35.1::[]).length) 8)then none else none else none else aTC x24.1.1.2.1 x24.1.2.2.1 fun x36=>bif !x36 then opt (kp (x24.1.1,x24.1.2.2.1,())) fun x37=>lpC ((0,()),x24.2.2.1,[],()) (fun s38=>bif(zg s38.1.1 (lnC x37.1))then opt (aTC x37.1 s38.1.1 fun x39=>opt (jO (x24.1.1,x39,())) fun x40=>opt (vA (s38.2.1,x40.1,())) fun x41=>bif !x41.1 then aTC x37.1 s38.1.1 fun x42=>bif(qb s38.2.2.1.length ((x42::[]).length) 8)then some (0,(),s38.2.1,(s38.2.2.1++(x42::[])),())else none else some (0,(),s38.2.1,s38.2.2.1,())) fun x43=>nxC (((upC s38.1.1),()),x43.2.2.1,x43.2.2.2.1,())else exC 0 ((s38.1.1,()),s38.2.1,s38.2.2.1,())) fun x44=>bif(zj (lnC x44.2.2.2.1) 0)then some (x24.2.1,())else bif(zj (lnC x44.2.2.2.1) 0)then none else aTC x44.2.2.2.1 (Int.tmod (w6C ((w6C a2)+(w6C (3*(lnC x24.2.1))))) (lnC x44.2.2.2.1)) fun x45=>opt (gl x44.2.2.2.1 (Int.toNat (Int.tmod (w6C ((w6C a2)+(w6C (3*(lnC x24.2.1))))) (lnC x44.2.2.2.1)))) fun x46=>bif(qb x24.2.1.length ((x46::[]).length) 8)then opt (jO (x24.1.1,x46,())) fun x47=>bif(qb x44.2.2.1.length ((x47.1::[]).length) 8)then none else none else none else some (x24.2.1,())else some (x24.2.1,())
abbrev zfC:Type:=(qi×Int×Int×Unit)->Option ((List Int)×Unit)
def gN:zfC:=opq (sF prg [(227,sW),(24,YJ),(225,KK)] (zG [cdF zP,cdF qx] [] [⟨4,90,some 6,I,false⟩,⟨4,90,some 9,I,true⟩,⟨4,90,some 10,I,true⟩,⟨8,90,some 6,I,false⟩,⟨8,90,some 9,I,true⟩,⟨8,90,some 10,I,true⟩,⟨10,90,some 6,I,false⟩,⟨10,90,some 9,I,true⟩,⟨10,90,some 10,I,true⟩,⟨12,90,some 6,I,false⟩,⟨12,90,some 9,I,true⟩,⟨12,90,some 10,I,true⟩] [] [24,225]) (zy [] [(4,90)]) 30 167 DU DV)
abbrev DX:Con:=⟨DU,DV,gN⟩
theorem RF:Con.Ok prg 167 DX:=okF (ze Nh (ze Jz (ze XZ zn))) (by kernel_rfl)
theorem RG(a0)(a1)(a2):gN (a0,a1,a2,())=DW a0 a1 a2:=zA (by kernel_rfl)
abbrev DY:List VT:=[⟨true,zP⟩,⟨false,I⟩]
abbrev DZ:List VT:=[⟨false,.bool⟩]
def Ea(a0:qi)(a1:Int):Option (Bool×Unit):=bif !(zg a1 0)then some ((zg a1 (w6C (2*(lnC a0.2.2)))),())else some (false,())
abbrev zfD:Type:=(qi×Int×Unit)->Option (Bool×Unit)
def KL:zfD:=opq (sF prg [] (zG [cdF zP,cdF qx] [] [] [] []) (zy []) 30 228 DY DZ)
abbrev Eb:Con:=⟨DY,DZ,KL⟩
theorem RH:Con.Ok prg 228 Eb:=okF zn (by kernel_rfl)
theorem RI(a0)(a1):KL (a0,a1,())=Ea a0 a1:=zA (by kernel_rfl)
abbrev sX:List VT:=[⟨true,zP⟩,⟨false,(.list I)⟩]
abbrev sY:List VT:=[⟨false,(.list I)⟩]
def sZ(a0:qi)(a1:(List Int)):Option ((List Int)×Unit):=aTC a1 0 fun x0=>opt (ya (a0,x0,())) fun x1=>lpC ((0,()),(x1.1::[]),()) (fun s2=>bif(zg s2.1.1 (lnC a1))then aTC a1 s2.1.1 fun x3=>opt (jO (a0,x3,())) fun x4=>bif(qb s2.2.1.length ((x4.1::[]).length) 8)then nxC (((upC s2.1.1),()),(s2.2.1++(x4.1::[])),())else none else exC 0 ((s2.1.1,()),s2.2.1,())) fun x5=>some (x5.2.2.1,())
abbrev zcs:Type:=(qi×(List Int)×Unit)->Option ((List Int)×Unit)
def vP:zcs:=opq (sF prg [(18,gM),(24,YJ)] (zG [cdF zP,cdF qx] [] [⟨3,29,some 4,I,false⟩] [] [18,24]) (zy []) 30 170 sX sY)
abbrev bp:Con:=⟨sX,sY,vP⟩
theorem eB:Con.Ok prg 170 bp:=okF (ze uW (ze Jz zn)) (by kernel_rfl)
theorem Nj(a0)(a1):vP (a0,a1,())=sZ a0 a1:=zA (by kernel_rfl)
abbrev tc:List VT:=[⟨true,zP⟩,⟨false,(.list I)⟩]
abbrev td:List VT:=[⟨false,.bool⟩]
def te(a0:qi)(a1:(List Int)):Option (Bool×Unit):=opt (bif(zg (lnC a1) 1)then some (1,(false,()),())else bif(zg 8 (lnC a1))then some (1,(false,()),())else some (0,(false,()),())) fun x0=>bif jzC x0 then lpC ((x0.2.1.1,0,()),()) (fun s1=>bif(zg s1.1.2.1 (lnC a1))then aTC a1 s1.1.2.1 fun x2=>opt (KL (a0,x2,())) fun x3=>bif !x3.1 then exC 1 ((false,s1.1.2.1,()),())else nxC ((s1.1.1,(upC s1.1.2.1),()),())else exC 0 ((s1.1.1,s1.1.2.1,()),())) fun x4=>bif jzC x4 then opt (vP (a0,a1,())) fun x5=>lpC ((x4.2.1.1,0,()),()) (fun s6=>bif(zg s6.1.2.1 (lnC x5.1))then opt (KB x5.1 none (some s6.1.2.1) none) fun x7=>aTC x5.1 s6.1.2.1 fun x8=>opt (vA (x7,x8,())) fun x9=>bif x9.1 then exC 1 ((false,s6.1.2.1,()),())else opt (bif zg 0 s6.1.2.1 then bif(zg s6.1.2.1 (lnC a1))then aTC x5.1 s6.1.2.1 fun x10=>aTC a0.2.1 x10 fun x11=>bif x11 then some (1,(false,()),())else aTC a1 s6.1.2.1 fun x12=>opt (ya (a0,x12,())) fun x13=>aTC x5.1 s6.1.2.1 fun x14=>bif !(zj x13.1 x14)then some (1,(false,()),())else some (0,(s6.1.1,()),())else some (0,(s6.1.1,()),())else some (0,(s6.1.1,()),())) fun x15=>bif jzC x15 then nxC ((x15.2.1.1,(upC s6.1.2.1),()),())else exC 1 ((x15.2.1.1,s6.1.2.1,()),())else exC 0 ((s6.1.1,s6.1.2.1,()),())) fun x16=>bif jzC x16 then some (true,())else some (x16.2.1.1,())else some (x4.2.1.1,())else some (x0.2.1.1,())
abbrev zct:Type:=(qi×(List Int)×Unit)->Option (Bool×Unit)
def kq:zct:=opq (sF prg [(228,Eb),(170,bp),(225,KK),(18,gM)] (zG [cdF zP,cdF qx] [] [] [] [228,225,18]) (zy []) 30 168 tc td)
abbrev bq:Con:=⟨tc,td,kq⟩
theorem eD:Con.Ok prg 168 bq:=okF (ze RH (ze eB (ze XZ (ze uW zn)))) (by kernel_rfl)
theorem Nk(a0)(a1):kq (a0,a1,())=te a0 a1:=zA (by kernel_rfl)
abbrev lE:List VT:=[⟨false,(.list I)⟩,⟨false,(.list I)⟩]
abbrev lF:List VT:=[⟨false,.bool⟩]
def lG(a0:(List Int))(a1:(List Int)):Option (Bool×Unit):=lpC ((false,1,()),()) (fun s0=>bif(zg s0.1.2.1 (w6C ((lnC a0) - 1)))then aTC a0 s0.1.2.1 fun x1=>opt (vA (a1,x1,())) fun x2=>bif x2.1 then exC 1 ((true,s0.1.2.1,()),())else nxC ((s0.1.1,(upC s0.1.2.1),()),())else exC 0 ((s0.1.1,s0.1.2.1,()),())) fun x3=>bif jzC x3 then some (false,())else some (x3.2.1.1,())
abbrev RJ:Type:=((List Int)×(List Int)×Unit)->Option (Bool×Unit)
def ZK:RJ:=opq (sF prg [(225,KK)] (zG [] [] [] [] [225]) (zy []) 30 169 lE lF)
abbrev lH:Con:=⟨lE,lF,ZK⟩
theorem Ec:Con.Ok prg 169 lH:=okF (ze XZ zn) (by kernel_rfl)
theorem Ed(a0)(a1):ZK (a0,a1,())=lG a0 a1:=zA (by kernel_rfl)
abbrev tf:List VT:=[⟨true,zP⟩,⟨false,(.list I)⟩,⟨false,(.list I)⟩]
abbrev tg:List VT:=[⟨false,.bool⟩]
def th(a0:qi)(a1:(List Int))(a2:(List Int)):Option (Bool×Unit):=lpC ((false,0,()),()) (fun s0=>bif(zg s0.1.2.1 (lnC a1))then lpC ((s0.1.1,0,()),()) (fun s1=>bif(zg s1.1.2.1 (lnC a2))then aTC a1 s0.1.2.1 fun x2=>aTC a2 s1.1.2.1 fun x3=>bif(zj (w6C (Int.tdiv x2 2)) (w6C (Int.tdiv x3 2)))then exC 1 ((false,s1.1.2.1,()),())else nxC ((s1.1.1,(upC s1.1.2.1),()),())else exC 0 ((s1.1.1,s1.1.2.1,()),())) fun x4=>bif jzC x4 then nxC ((x4.2.1.1,(upC s0.1.2.1),()),())else exC 1 ((x4.2.1.1,s0.1.2.1,()),())else exC 0 ((s0.1.1,s0.1.2.1,()),())) fun x5=>bif jzC x5 then opt (vP (a0,a1,())) fun x6=>opt (vP (a0,a2,())) fun x7=>opt (ZK (x6.1,x7.1,())) fun x8=>bif !x8.1 then opt (vP (a0,a2,())) fun x9=>opt (vP (a0,a1,())) fun x10=>opt (ZK (x9.1,x10.1,())) fun x11=>some ((!x11.1),())else some (false,())else some (x5.2.1.1,())
abbrev zcu:Type:=(qi×(List Int)×(List Int)×Unit)->Option (Bool×Unit)
def JA:zcu:=opq (sF prg [(170,bp),(169,lH)] (zG [cdF zP,cdF qx] [] [] [] [169]) (zy []) 30 106 tf tg)
abbrev br:Con:=⟨tf,tg,JA⟩
theorem eE:Con.Ok prg 106 br:=okF (ze eB (ze Ec zn)) (by kernel_rfl)
theorem Nl(a0)(a1)(a2):JA (a0,a1,a2,())=th a0 a1 a2:=zA (by kernel_rfl)
abbrev RK:List VT:=[⟨false,I⟩,⟨false,I⟩,⟨false,I⟩]
abbrev RL:List VT:=[⟨false,.bool⟩]
def RM(a0:Int)(a1:Int)(a2:Int):Option (Bool×Unit):=bif !(zg a0 a1)then some ((!(zg a2 a0)),())else some (false,())
abbrev ziZ:Type:=(Int×Int×Int×Unit)->Option (Bool×Unit)
def yB:ziZ:=opq (sF prg [] (zG [] [] [] [] []) (zy []) 30 162 RK RL)
abbrev db:Con:=⟨RK,RL,yB⟩
theorem bt:Con.Ok prg 162 db:=okF zn (by kernel_rfl)
theorem zcv(a0)(a1)(a2):yB (a0,a1,a2,())=RM a0 a1 a2:=zA (by kernel_rfl)
abbrev lI:List VT:=[⟨true,zP⟩,⟨false,I⟩]
abbrev lJ:List VT:=[⟨false,.bool⟩]
def lK(a0:qi)(a1:Int):Option (Bool×Unit):=opt (yB (a1,0,(w6C (a0.1 - 1)),())) fun x0=>bif x0.1 then aTC a0.2.1 a1 fun x1=>some (x1,())else some (false,())
abbrev RN:Type:=(qi×Int×Unit)->Option (Bool×Unit)
def ZL:RN:=opq (sF prg [(162,db)] (zG [cdF zP,cdF qx] [] [] [] [162]) (zy []) 30 171 lI lJ)
abbrev lL:Con:=⟨lI,lJ,ZL⟩
theorem Ee:Con.Ok prg 171 lL:=okF (ze bt zn) (by kernel_rfl)
theorem Ef(a0)(a1):ZL (a0,a1,())=lK a0 a1:=zA (by kernel_rfl)
end Go.Proofs.YtlfkgkedfciccaaGreat.nd
namespace Go.Proofs.YtlfkgkedfciccaaGreat.nd
open Go Go.Fz Go.Fz.Sy
abbrev ti:List VT:=[⟨true,zP⟩,⟨true,zJ⟩]
abbrev tj:List VT:=[⟨false,.bool⟩]
def tk(a0:qi)(a1:qf):Option (Bool×Unit):=opt (opt (yB (a1.1,1,4095,())) fun x0=>bif !x0.1 then some (1,(false,()),())else opt (ZL (a0,a1.2.1,())) fun x1=>bif !x1.1 then some (1,(false,()),())else opt (ZL (a0,a1.2.2.1,())) fun x2=>bif !x2.1 then some (1,(false,()),())else bif zj a1.2.1 a1.2.2.1 then some (1,(false,()),())else opt (yB (a1.2.2.2.2.1,84,1542,())) fun x3=>bif !x3.1 then some (1,(false,()),())else opt (yB (a1.2.2.2.2.2.2.2.1,1,1099511627776,())) fun x4=>bif !x4.1 then some (1,(false,()),())else some (0,(false,()),())) fun x5=>bif jzC x5 then opt (bif zj a1.2.2.2.1 7 then opt (opt (yB (a1.2.2.2.2.2.1,1,240,())) fun x6=>bif !x6.1 then some (1,(false,()),())else bif(!((zj a1.2.2.2.2.2.2.1.1 0)&&((zj a1.2.2.2.2.2.2.1.2 0)&&true)))then some (1,(false,()),())else some (0,(x5.2.1.1,()),())) fun x7=>bif jzC x7 then some (0,(x7.2.1.1,()),())else some (1,(x7.2.1.1,()),())else bif zj a1.2.2.2.1 6 then opt (bif !(zj a1.2.2.2.2.2.1 0)then some (1,(false,()),())else opt (yB (a1.2.2.2.2.2.2.1.1,a1.2.2.2.2.1,1048576,())) fun x8=>bif !x8.1 then some (1,(false,()),())else opt (yB (a1.2.2.2.2.2.2.1.2,1,2097152,())) fun x9=>bif !x9.1 then some (1,(false,()),())else some (0,(x5.2.1.1,()),())) fun x10=>bif jzC x10 then some (0,(x10.2.1.1,()),())else some (1,(x10.2.1.1,()),())else some (1,(false,()),())) fun x11=>bif jzC x11 then opt (bif(zg (lnC a1.2.2.2.2.2.2.2.2) 1)then some (1,(false,()),())else bif(zg 2 (lnC a1.2.2.2.2.2.2.2.2))then some (1,(false,()),())else some (0,(x11.2.1.1,()),())) fun x12=>bif jzC x12 then lpC ((x12.2.1.1,0,()),()) (fun s13=>bif(zg s13.1.2.1 (lnC a1.2.2.2.2.2.2.2.2))then aTC a1.2.2.2.2.2.2.2.2 s13.1.2.1 fun x14=>opt (opt (kq (a0,x14,())) fun x15=>bif !x15.1 then some (1,(false,()),())else aTC x14 0 fun x16=>opt (ya (a0,x16,())) fun x17=>bif !(zj x17.1 a1.2.1)then some (1,(false,()),())else aTC x14 (w6C ((lnC x14) - 1)) fun x18=>opt (jO (a0,x18,())) fun x19=>bif !(zj x19.1 a1.2.2.1)then some (1,(false,()),())else some (0,(s13.1.1,()),())) fun x20=>bif jzC x20 then nxC ((x20.2.1.1,(upC s13.1.2.1),()),())else exC 1 ((x20.2.1.1,s13.1.2.1,()),())else exC 0 ((s13.1.1,s13.1.2.1,()),())) fun x21=>bif jzC x21 then bif(zj (lnC a1.2.2.2.2.2.2.2.2) 1)then some (true,())else aTC a1.2.2.2.2.2.2.2.2 0 fun x22=>aTC a1.2.2.2.2.2.2.2.2 1 fun x23=>opt (JA (a0,x22,x23,())) fun x24=>some (x24.1,())else some (x21.2.1.1,())else some (x12.2.1.1,())else some (x11.2.1.1,())else some (x5.2.1.1,())
abbrev zcw:Type:=(qi×qf×Unit)->Option (Bool×Unit)
def Zo:zcw:=opq (sF prg [(162,db),(171,lL),(168,bq),(18,gM),(24,YJ),(106,br)] (zG [cdF zJ,cdF zP,cdF qx,cdF zr] [] [] [] [162,171,168,18,24,106]) (zy []) 30 107 ti tj)
abbrev Va:Con:=⟨ti,tj,Zo⟩
theorem VM:Con.Ok prg 107 Va:=okF (ze bt (ze Ee (ze eD (ze uW (ze Jz (ze eE zn)))))) (by kernel_rfl)
theorem Nm(a0)(a1):Zo (a0,a1,())=tk a0 a1:=zA (by kernel_rfl)
abbrev KM:List VT:=[⟨true,qv⟩,⟨true,zP⟩,⟨false,I⟩]
abbrev KN:List VT:=[⟨true,zJ⟩,⟨false,.bool⟩]
def KP(a0:xj)(a1:qi)(a2:Int):Option (qf×Bool×Unit):=bif zj a1.1 0 then none else lpC (((Int.tmod (w6C a0.2.2.1) a1.1),0,()),()) (fun s0=>bif zg s0.1.2.1 a1.1 then aTC a1.2.1 s0.1.1 fun x1=>bif !x1 then bif zj a1.1 0 then none else nxC (((Int.tmod (upC s0.1.1) a1.1),(upC s0.1.2.1),()),())else exC 0 ((s0.1.1,s0.1.2.1,()),())else exC 0 ((s0.1.1,s0.1.2.1,()),())) fun x2=>lpC ((a1,[],0,()),()) (fun s3=>bif zg s3.1.2.2.1 16 then opt (gN (s3.1.1,(wrF .u8 x2.2.1.1),(wrF .u8 (a0.2.2.2.1+(wrF .u8 s3.1.2.2.1))),())) fun x4=>opt (bif(zg 0 (lnC x4.1))then opt (kq (s3.1.1,x4.1,())) fun x5=>bif x5.1 then aTC x4.1 0 fun x6=>opt (ya (s3.1.1,x6,())) fun x7=>aTC s3.1.1.2.1 x7.1 fun x8=>bif x8 then aTC x4.1 (w6C ((lnC x4.1) - 1)) fun x9=>opt (jO (s3.1.1,x9,())) fun x10=>aTC s3.1.1.2.1 x10.1 fun x11=>bif x11 then some (1,(x4.1,()),())else some (0,(s3.1.2.1,()),())else some (0,(s3.1.2.1,()),())else some (0,(s3.1.2.1,()),())else some (0,(s3.1.2.1,()),())) fun x12=>bif jzC x12 then nxC ((s3.1.1,x12.2.1.1,(upC s3.1.2.2.1),()),())else exC 1 ((s3.1.1,x12.2.1.1,s3.1.2.2.1,()),())else exC 0 ((s3.1.1,s3.1.2.1,s3.1.2.2.1,()),())) fun x13=>bif jzC x13 then some ((0,0,0,0,0,0,(0,0),0,[]),false,())else bif dP x13.2.1.2.1 then aTC x13.2.1.2.1 0 fun x14=>opt (ya (a1,x14,())) fun x15=>aTC x13.2.1.2.1 (w6C ((lnC x13.2.1.2.1) - 1)) fun x16=>opt (jO (a1,x16,())) fun x17=>opt (bif a0.1 then some (0,((),()),(a2,x15.1,x17.1,6,(w6C (84+(w6C a0.2.2.2.2.1))),0,((w6C ((w6C (84+(w6C a0.2.2.2.2.1)))+(w6C (4*(w6C a0.2.2.2.2.2.2.1))))),(w6C (1+(w6C a0.2.2.2.2.2.2.2)))),1099511627776,(x13.2.1.2.1::[]),()),())else opt (atI (α:=Int) (4::(6::(8::(12::(16::(24::(48::(10::(5::(240::[])))))))))) (Int.tmod a0.2.2.2.2.2.1 10)) fun x18=>opt (gl (α:=Int) (4::(6::(8::(12::(16::(24::(48::(10::(5::(240::[])))))))))) (Int.toNat (Int.tmod a0.2.2.2.2.2.1 10))) fun x19=>some (0,((),()),(a2,x15.1,x17.1,7,(w6C (84+(w6C a0.2.2.2.2.1))),x19,(0,0),1099511627776,(x13.2.1.2.1::[]),()),())) fun x20=>lpC ((a1,(),0,()),(x20.2.2.1.1,x20.2.2.1.2.1,x20.2.2.1.2.2.1,x20.2.2.1.2.2.2.1,x20.2.2.1.2.2.2.2.1,x20.2.2.1.2.2.2.2.2.1,x20.2.2.1.2.2.2.2.2.2.1,x20.2.2.1.2.2.2.2.2.2.2.1,x20.2.2.1.2.2.2.2.2.2.2.2.1,()),()) (fun s21=>bif zg s21.1.2.2.1 24 then bif a0.2.1 then bif(zj (lnC s21.2.1.2.2.2.2.2.2.2.2.1) 1)then lpC ((s21.1.1,[],0,()),()) (fun s22=>bif zg s22.1.2.2.1 16 then opt (gN (s22.1.1,(wrF .u8 x2.2.1.1),(wrF .u8 ((wrF .u8 (a0.2.2.2.1+(wrF .u8 s21.1.2.2.1)))+(wrF .u8 s22.1.2.2.1))),())) fun x23=>opt (bif(zg 0 (lnC x23.1))then opt (kq (s22.1.1,x23.1,())) fun x24=>bif x24.1 then aTC x23.1 0 fun x25=>opt (ya (s22.1.1,x25,())) fun x26=>aTC s22.1.1.2.1 x26.1 fun x27=>bif x27 then aTC x23.1 (w6C ((lnC x23.1) - 1)) fun x28=>opt (jO (s22.1.1,x28,())) fun x29=>aTC s22.1.1.2.1 x29.1 fun x30=>bif x30 then some (1,(x23.1,()),())else some (0,(s22.1.2.1,()),())else some (0,(s22.1.2.1,()),())else some (0,(s22.1.2.1,()),())else some (0,(s22.1.2.1,()),())) fun x31=>bif jzC x31 then nxC ((s22.1.1,x31.2.1.1,(upC s22.1.2.2.1),()),())else exC 1 ((s22.1.1,x31.2.1.1,s22.1.2.2.1,()),())else exC 0 ((s22.1.1,s22.1.2.1,s22.1.2.2.1,()),())) fun x32=>bif jzC x32 then nxC ((s21.1.1,(),(upC s21.1.2.2.1),()),(s21.2.1.1,s21.2.1.2.1,s21.2.1.2.2.1,s21.2.1.2.2.2.1,s21.2.1.2.2.2.2.1,s21.2.1.2.2.2.2.2.1,s21.2.1.2.2.2.2.2.2.1,s21.2.1.2.2.2.2.2.2.2.1,s21.2.1.2.2.2.2.2.2.2.2.1,()),())else opt (bif dP x32.2.1.2.1 then aTC x32.2.1.2.1 (w6C ((lnC x32.2.1.2.1) - 1)) fun x33=>opt (jO (s21.1.1,x33,())) fun x34=>bif zj x34.1 s21.2.1.2.2.1 then opt (JA (s21.1.1,x13.2.1.2.1,x32.2.1.2.1,())) fun x35=>bif x35.1 then bif(qb s21.2.1.2.2.2.2.2.2.2.2.1.length ((x32.2.1.2.1::[]).length) 24)then some (0,((),()),(s21.2.1.1,s21.2.1.2.1,s21.2.1.2.2.1,s21.2.1.2.2.2.1,s21.2.1.2.2.2.2.1,s21.2.1.2.2.2.2.2.1,s21.2.1.2.2.2.2.2.2.1,s21.2.1.2.2.2.2.2.2.2.1,(s21.2.1.2.2.2.2.2.2.2.2.1++(x32.2.1.2.1::[])),()),())else none else some (0,((),()),(s21.2.1.1,s21.2.1.2.1,s21.2.1.2.2.1,s21.2.1.2.2.2.1,s21.2.1.2.2.2.2.1,s21.2.1.2.2.2.2.2.1,s21.2.1.2.2.2.2.2.2.1,s21.2.1.2.2.2.2.2.2.2.1,s21.2.1.2.2.2.2.2.2.2.2.1,()),())else some (0,((),()),(s21.2.1.1,s21.2.1.2.1,s21.2.1.2.2.1,s21.2.1.2.2.2.1,s21.2.1.2.2.2.2.1,s21.2.1.2.2.2.2.2.1,s21.2.1.2.2.2.2.2.2.1,s21.2.1.2.2.2.2.2.2.2.1,s21.2.1.2.2.2.2.2.2.2.2.1,()),())else none) fun x36=>nxC ((s21.1.1,(),(upC s21.1.2.2.1),()),(x36.2.2.1.1,x36.2.2.1.2.1,x36.2.2.1.2.2.1,x36.2.2.1.2.2.2.1,x36.2.2.1.2.2.2.2.1,x36.2.2.1.2.2.2.2.2.1,x36.2.2.1.2.2.2.2.2.2.1,x36.2.2.1.2.2.2.2.2.2.2.1,x36.2.2.1.2.2.2.2.2.2.2.2.1,()),())else exC 0 ((s21.1.1,(),s21.1.2.2.1,()),(s21.2.1.1,s21.2.1.2.1,s21.2.1.2.2.1,s21.2.1.2.2.2.1,s21.2.1.2.2.2.2.1,s21.2.1.2.2.2.2.2.1,s21.2.1.2.2.2.2.2.2.1,s21.2.1.2.2.2.2.2.2.2.1,s21.2.1.2.2.2.2.2.2.2.2.1,()),())else exC 0 ((s21.1.1,(),s21.1.2.2.1,()),(s21.2.1.1,s21.2.1.2.1,s21.2.1.2.2.1,s21.2.1.2.2.2.1,s21.2.1.2.2.2.2.1,s21.2.1.2.2.2.2.2.1,s21.2.1.2.2.2.2.2.2.1,s21.2.1.2.2.2.2.2.2.2.1,s21.2.1.2.2.2.2.2.2.2.2.1,()),())else exC 0 ((s21.1.1,(),s21.1.2.2.1,()),(s21.2.1.1,s21.2.1.2.1,s21.2.1.2.2.1,s21.2.1.2.2.2.1,s21.2.1.2.2.2.2.1,s21.2.1.2.2.2.2.2.1,s21.2.1.2.2.2.2.2.2.1,s21.2.1.2.2.2.2.2.2.2.1,s21.2.1.2.2.2.2.2.2.2.2.1,()),())) fun x37=>opt (Zo (x37.2.1.1,(x37.2.2.1.1,x37.2.2.1.2.1,x37.2.2.1.2.2.1,x37.2.2.1.2.2.2.1,x37.2.2.1.2.2.2.2.1,x37.2.2.1.2.2.2.2.2.1,x37.2.2.1.2.2.2.2.2.2.1,x37.2.2.1.2.2.2.2.2.2.2.1,x37.2.2.1.2.2.2.2.2.2.2.2.1),())) fun x38=>some ((x37.2.2.1.1,x37.2.2.1.2.1,x37.2.2.1.2.2.1,x37.2.2.1.2.2.2.1,x37.2.2.1.2.2.2.2.1,x37.2.2.1.2.2.2.2.2.1,x37.2.2.1.2.2.2.2.2.2.1,x37.2.2.1.2.2.2.2.2.2.2.1,x37.2.2.1.2.2.2.2.2.2.2.2.1),x38.1,())else none
abbrev rQ:Type:=(xj×qi×Int×Unit)->Option (qf×Bool×Unit)
def xk:rQ:=opq (sF prg [(167,DX),(168,bq),(18,gM),(24,YJ),(106,br),(107,Va)] (zG [⟨zJ,wi zJ,[9]⟩,cdF qv,cdF zP,cdF qx,cdF zr] [] [⟨3,147,none,(.list I),true⟩,⟨7,147,none,(.list I),true⟩,⟨10,147,none,(.list I),true⟩,⟨16,147,none,(.list I),true⟩,⟨19,147,none,(.list I),true⟩,⟨2,54,some 6,I,false⟩,⟨5,54,some 6,I,false⟩,⟨2,54,none,(.list I),true⟩,⟨5,54,none,(.list I),true⟩] [(3,147,11,[9]),(7,147,11,[9]),(10,147,11,[9]),(16,147,11,[9]),(19,147,11,[9]),(16,147,11,[9]),(19,147,11,[9])] [168,18,24,106,107]) (zy []) 30 53 KM KN)
abbrev KQ:Con:=⟨KM,KN,xk⟩
theorem iC:Con.Ok prg 53 KQ:=okF (ze RF (ze eD (ze uW (ze Jz (ze eE (ze VM zn)))))) (by kernel_rfl)
theorem iD(a0)(a1)(a2):xk (a0,a1,a2,())=KP a0 a1 a2:=zA (by kernel_rfl)
abbrev Wr:List VT:=[⟨true,zP⟩,⟨false,(.list qv)⟩]
abbrev Ws:List VT:=[⟨false,(.list zJ)⟩]
def lM(a0:qi)(a1:(List xj)):Option ((List qf)×Unit):=lpC ((a0,0,()),[],()) (fun s0=>bif(zg s0.1.2.1 (lnC a1))then bif(zg (lnC s0.2.1) 6)then aTC a1 s0.1.2.1 fun x1=>opt (xk (x1,s0.1.1,(upC (lnC s0.2.1)),())) fun x2=>opt (bif x2.2.1 then bif(qb s0.2.1.length ((x2.1::[]).length) 96)then some (0,(),(s0.2.1++(x2.1::[])),())else none else some (0,(),s0.2.1,())) fun x3=>nxC ((s0.1.1,(upC s0.1.2.1),()),x3.2.2.1,())else exC 0 ((s0.1.1,s0.1.2.1,()),s0.2.1,())else exC 0 ((s0.1.1,s0.1.2.1,()),s0.2.1,())) fun x4=>some (x4.2.2.1,())
abbrev lN:Type:=(qi×(List xj)×Unit)->Option ((List qf)×Unit)
def xw:lN:=opq (sF prg [(53,KQ)] (zG [cdF zJ,cdF qv,cdF zP,cdF qx,cdF zr] [] [⟨3,38,some 4,zJ,false⟩,⟨3,38,some 5,zJ,true⟩,⟨6,38,some 4,zJ,false⟩,⟨6,38,some 5,zJ,true⟩] [] []) (zy []) 30 15 Wr Ws)
abbrev RO:Con:=⟨Wr,Ws,xw⟩
theorem Eg:Con.Ok prg 15 RO:=okF (ze iC zn) (by kernel_rfl)
theorem Eh(a0)(a1):xw (a0,a1,())=lM a0 a1:=zA (by kernel_rfl)
abbrev tn:List VT:=[⟨true,zP⟩,⟨false,I⟩,⟨false,(.list I)⟩]
abbrev tp:List VT:=[⟨false,(.list .bool)⟩]
def tq(a0:qi)(a1:Int)(a2:(List Int)):Option ((List Bool)×Unit):=bif rr a0.1 a0.1 1 then aTC (List.replicate (Int.toNat a0.1) false) a1 fun x0=>opt (gl (List.replicate (Int.toNat a0.1) false) (Int.toNat a1)) fun x1=>lpC ((0,()),((List.replicate (Int.toNat a0.1) false) .set (Int.toNat a1) true),()) (fun s2=>bif zg s2.1.1 a0.1 then lpC ((0,()),s2.2.1,()) (fun s3=>bif(zg s3.1.1 (lnC a0.2.2))then aTC a0.2.2 s3.1.1 fun x4=>opt (opt (vA (a2,s3.1.1,())) fun x5=>bif !x5.1 then aTC s3.2.1 x4.1 fun x6=>opt (gl s3.2.1 (Int.toNat x4.1)) fun x7=>bif x7 then aTC s3.2.1 x4.1 fun x8=>opt (gl s3.2.1 (Int.toNat x4.1)) fun x9=>aTC (s3.2.1.set (Int.toNat x4.1) true) x4.2.1 fun x10=>opt (gl (s3.2.1.set (Int.toNat x4.1) true) (Int.toNat x4.2.1)) fun x11=>some (0,(),((s3.2.1.set (Int.toNat x4.1) true) .set (Int.toNat x4.2.1) true),())else aTC s3.2.1 x4.2.1 fun x12=>opt (gl s3.2.1 (Int.toNat x4.2.1)) fun x13=>bif x13 then aTC s3.2.1 x4.1 fun x14=>opt (gl s3.2.1 (Int.toNat x4.1)) fun x15=>aTC (s3.2.1.set (Int.toNat x4.1) true) x4.2.1 fun x16=>opt (gl (s3.2.1.set (Int.toNat x4.1) true) (Int.toNat x4.2.1)) fun x17=>some (0,(),((s3.2.1.set (Int.toNat x4.1) true) .set (Int.toNat x4.2.1) true),())else some (0,(),s3.2.1,())else some (0,(),s3.2.1,())) fun x18=>nxC (((upC s3.1.1),()),x18.2.2.1,())else exC 0 ((s3.1.1,()),s3.2.1,())) fun x19=>nxC (((upC s2.1.1),()),x19.2.2.1,())else exC 0 ((s2.1.1,()),s2.2.1,())) fun x20=>some (x20.2.2.1,())else none
abbrev zcx:Type:=(qi×Int×(List Int)×Unit)->Option ((List Bool)×Unit)
def Vb:zcx:=opq (sF prg [(225,KK)] (zG [cdF zP,cdF qx] [] [⟨4,62,some 6,.bool,false⟩,⟨7,62,some 6,.bool,false⟩,⟨10,62,some 6,.bool,false⟩] [] [225]) (zy []) 30 161 tn tp)
abbrev tr:Con:=⟨tn,tp,Vb⟩
theorem Nn:Con.Ok prg 161 tr:=okF (ze XZ zn) (by kernel_rfl)
theorem No(a0)(a1)(a2):Vb (a0,a1,a2,())=tq a0 a1 a2:=zA (by kernel_rfl)
abbrev tu:List VT:=[⟨true,zP⟩]
abbrev tx:List VT:=[⟨false,.bool⟩]
def tz(a0:qi):Option (Bool×Unit):=opt (bif zg a0.1 2 then some (1,(false,()),())else bif zg 12 a0.1 then some (1,(false,()),())else bif(!(zj (lnC a0.2.1) a0.1))then some (1,(false,()),())else bif(zg 24 (lnC a0.2.2))then some (1,(false,()),())else some (0,(false,()),())) fun x0=>bif jzC x0 then bif rr a0.1 a0.1 8 then lpC ((x0.2.1.1,0,()),(List.replicate (Int.toNat a0.1) 0),()) (fun s1=>bif(zg s1.1.2.1 (lnC a0.2.2))then aTC a0.2.2 s1.1.2.1 fun x2=>opt (xG (a0,x2,())) fun x3=>bif !x3.1 then exC 1 ((false,s1.1.2.1,()),s1.2.1,())else lpC ((s1.1.1,0,()),()) (fun s4=>bif zg s4.1.2.1 s1.1.2.1 then aTC a0.2.2 s4.1.2.1 fun x5=>opt (jZ (x5,x2.1,x2.2.1,())) fun x6=>bif x6.1 then exC 1 ((false,s4.1.2.1,()),())else nxC ((s4.1.1,(upC s4.1.2.1),()),())else exC 0 ((s4.1.1,s4.1.2.1,()),())) fun x7=>bif jzC x7 then aTC s1.2.1 x2.1 fun x8=>opt (gl s1.2.1 (Int.toNat x2.1)) fun x9=>aTC s1.2.1 x2.1 fun x10=>opt (gl s1.2.1 (Int.toNat x2.1)) fun x11=>aTC (s1.2.1.set (Int.toNat x2.1) (upC x9)) x2.2.1 fun x12=>opt (gl (s1.2.1.set (Int.toNat x2.1) (upC x9)) (Int.toNat x2.2.1)) fun x13=>aTC (s1.2.1.set (Int.toNat x2.1) (upC x9)) x2.2.1 fun x14=>opt (gl (s1.2.1.set (Int.toNat x2.1) (upC x9)) (Int.toNat x2.2.1)) fun x15=>nxC ((x7.2.1.1,(upC s1.1.2.1),()),((s1.2.1.set (Int.toNat x2.1) (upC x9)) .set (Int.toNat x2.2.1) (upC x13)),())else exC 1 ((x7.2.1.1,s1.1.2.1,()),s1.2.1,())else exC 0 ((s1.1.1,s1.1.2.1,()),s1.2.1,())) fun x16=>bif jzC x16 then opt (Vb (a0,0,[],())) fun x17=>lpC ((x16.2.1.1,0,()),()) (fun s18=>bif zg s18.1.2.1 a0.1 then opt (aTC x17.1 s18.1.2.1 fun x19=>bif !x19 then some (1,(false,()),())else aTC a0.2.1 s18.1.2.1 fun x20=>bif x20 then aTC x16.2.2.1 s18.1.2.1 fun x21=>opt (gl x16.2.2.1 (Int.toNat s18.1.2.1)) fun x22=>bif zg x22 1 then some (1,(false,()),())else aTC x16.2.2.1 s18.1.2.1 fun x23=>opt (gl x16.2.2.1 (Int.toNat s18.1.2.1)) fun x24=>bif zg 2 x24 then some (1,(false,()),())else some (0,(s18.1.1,()),())else some (0,(s18.1.1,()),())) fun x25=>bif jzC x25 then nxC ((x25.2.1.1,(upC s18.1.2.1),()),())else exC 1 ((x25.2.1.1,s18.1.2.1,()),())else exC 0 ((s18.1.1,s18.1.2.1,()),())) fun x26=>bif jzC x26 then some (true,())else some (x26.2.1.1,())else some (x16.2.1.1,())else none else some (x0.2.1.1,())
abbrev zcy:Type:=(qi×Unit)->Option (Bool×Unit)
def kr:zcy:=opq (sF prg [(159,ej),(160,bo),(161,tr)] (zG [cdF zP,cdF qx] [] [] [] [159,160]) (zy []) 30 96 tu tx)
abbrev JB:Con:=⟨tu,tx,kr⟩
theorem QX:Con.Ok prg 96 JB:=okF (ze lB (ze eA (ze Nn zn))) (by kernel_rfl)
theorem Np(a0):kr (a0,())=tz a0:=zA (by kernel_rfl)
abbrev tA:List VT:=[⟨true,yY⟩]
abbrev tB:List VT:=[⟨false,.bool⟩]
def tC(a0:wj):Option (Bool×Unit):=opt (yB (a0.1,1,10000,())) fun x0=>bif x0.1 then opt (yB (a0.2.1,0,1000,())) fun x1=>bif x1.1 then opt (yB (a0.2.2.1,0,10000,())) fun x2=>bif x2.1 then opt (yB (a0.2.2.2,1542,65536,())) fun x3=>some (x3.1,())else some (false,())else some (false,())else some (false,())
abbrev zcz:Type:=(wj×Unit)->Option (Bool×Unit)
def JC:zcz:=opq (sF prg [(162,db)] (zG [cdF yY] [] [] [] [162]) (zy []) 30 97 tA tB)
abbrev bu:Con:=⟨tA,tB,JC⟩
theorem eF:Con.Ok prg 97 bu:=okF (ze bt zn) (by kernel_rfl)
theorem Nq(a0):JC (a0,())=tC a0:=zA (by kernel_rfl)
abbrev eG:List VT:=[⟨true,zP⟩,⟨false,(.list zJ)⟩]
abbrev eH:List VT:=[⟨false,I⟩]
def eI(a0:qi)(a1:(List qf)):Option (Int×Unit):=opt (kr (a0,())) fun x0=>bif !x0.1 then some (260,())else bif(zg 12 (lnC a1))then some (3,())else lpC ((0,0,()),()) (fun s1=>bif(zg s1.1.2.1 (lnC a1))then aTC a1 s1.1.2.1 fun x2=>opt (Zo (a0,x2,())) fun x3=>bif !x3.1 then exC 1 ((321,s1.1.2.1,()),())else nxC ((s1.1.1,(upC s1.1.2.1),()),())else exC 0 ((s1.1.1,s1.1.2.1,()),())) fun x4=>bif jzC x4 then lpC ((x4.2.1.1,0,()),()) (fun s5=>bif(zg s5.1.2.1 (lnC a1))then lpC ((s5.1.1,0,()),()) (fun s6=>bif zg s6.1.2.1 s5.1.2.1 then aTC a1 s6.1.2.1 fun x7=>aTC a1 s5.1.2.1 fun x8=>bif zj x7.1 x8.1 then exC 1 ((322,s6.1.2.1,()),())else nxC ((s6.1.1,(upC s6.1.2.1),()),())else exC 0 ((s6.1.1,s6.1.2.1,()),())) fun x9=>bif jzC x9 then nxC ((x9.2.1.1,(upC s5.1.2.1),()),())else exC 1 ((x9.2.1.1,s5.1.2.1,()),())else exC 0 ((s5.1.1,s5.1.2.1,()),())) fun x10=>bif jzC x10 then some (0,())else some (x10.2.1.1,())else some (x4.2.1.1,())
abbrev Nr:Type:=(qi×(List qf)×Unit)->Option (Int×Unit)
def gO:Nr:=opq (sF prg [(96,JB),(107,Va)] (zG [cdF zJ,cdF zP,cdF qx,cdF zr] [] [] [] [96,107]) (zy []) 30 98 eG eH)
abbrev VO:Con:=⟨eG,eH,gO⟩
theorem UW:Con.Ok prg 98 VO:=okF (ze QX (ze VM zn)) (by kernel_rfl)
theorem BD(a0)(a1):gO (a0,a1,())=eI a0 a1:=zA (by kernel_rfl)
abbrev IV:List VT:=[⟨true,zP⟩,⟨false,I⟩]
abbrev IW:List VT:=[⟨false,I⟩]
def IX(a0:qi)(a1:Int):Option (Int×Unit):=aTC a0.2.2 (w6C (Int.tdiv a1 2)) fun x0=>some (x0.2.2.1,())
abbrev zgz:Type:=(qi×Int×Unit)->Option (Int×Unit)
def JX:zgz:=opq (sF prg [] (zG [cdF zP,cdF qx] [] [] [] []) (zy []) 30 56 IV IW)
abbrev mX:Con:=⟨IV,IW,JX⟩
theorem oh:Con.Ok prg 56 mX:=okF zn (by kernel_rfl)
theorem zah(a0)(a1):JX (a0,a1,())=IX a0 a1:=zA (by kernel_rfl)
abbrev tD:List VT:=[⟨true,zP⟩,⟨false,I⟩]
abbrev tE:List VT:=[⟨false,I⟩]
def tG(a0:qi)(a1:Int):Option (Int×Unit):=aTC a0.2.2 (w6C (Int.tdiv a1 2)) fun x0=>some (x0.2.2.2,())
abbrev zcA:Type:=(qi×Int×Unit)->Option (Int×Unit)
def ku:zcA:=opq (sF prg [] (zG [cdF zP,cdF qx] [] [] [] []) (zy []) 30 57 tD tE)
abbrev Vc:Con:=⟨tD,tE,ku⟩
theorem VP:Con.Ok prg 57 Vc:=okF zn (by kernel_rfl)
theorem Ns(a0)(a1):ku (a0,a1,())=tG a0 a1:=zA (by kernel_rfl)
abbrev IY:List VT:=[⟨true,zP⟩,⟨true,yY⟩,⟨true,zJ⟩,⟨false,(.list I)⟩]
abbrev IZ:List VT:=[⟨false,(.list gu)⟩]
def La(a0:qi)(a1:wj)(a2:qf)(a3:(List Int)):Option ((List rP)×Unit):=aTC a3 0 fun x0=>aTC a3 0 fun x1=>opt (JX (a0,x1,())) fun x2=>lpC ((1,()),((x0,0,0,0,(w6C (a2.2.2.2.2.1*x2.1)))::[]),()) (fun s3=>bif(zg s3.1.1 (lnC a3))then aTC s3.2.1 (w6C (s3.1.1 - 1)) fun x4=>opt (gl s3.2.1 (Int.toNat (w6C (s3.1.1 - 1)))) fun x5=>opt (ku (a0,x5.1,())) fun x6=>aTC a3 s3.1.1 fun x7=>aTC a3 s3.1.1 fun x8=>opt (JX (a0,x8,())) fun x9=>lpC (((x7,(w6C ((w6C ((w6C ((w6C (x5.2.2.2.1+x5.2.2.2.2))+x6.1))+a1.2.2.1)) - (w6C (2*a1.2.1)))),(w6C ((w6C ((w6C ((w6C (x5.2.2.2.1+x5.2.2.2.2))+x6.1))+a1.2.2.1))+(w6C (2*a1.2.1)))),0,(w6C (a2.2.2.2.2.1*x9.1))),()),()) (fun s10=>bif zg s10.1.1.2.2.2.1 s10.1.1.2.2.1 then nxC (((s10.1.1.1,s10.1.1.2.1,s10.1.1.2.2.1,(w6C (s10.1.1.2.2.2.1+a1.1)),s10.1.1.2.2.2.2),()),())else exC 0 ((s10.1.1,()),())) fun x11=>bif(qb s3.2.1.length ((x11.2.1.1::[]).length) 40)then nxC (((upC s3.1.1),()),(s3.2.1++(x11.2.1.1::[])),())else none else exC 0 ((s3.1.1,()),s3.2.1,())) fun x12=>some (x12.2.2.1,())
abbrev zgA:Type:=(qi×wj×qf×(List Int)×Unit)->Option ((List rP)×Unit)
def xH:zgA:=opq (sF prg [(56,mX),(57,Vc)] (zG [cdF zJ,cdF zP,cdF gu,cdF qx,cdF zr] [] [⟨3,91,some 8,gu,false⟩,⟨8,91,some 8,gu,false⟩] [] [56,57]) (zy []) 30 19 IY IZ)
abbrev XB:Con:=⟨IY,IZ,xH⟩
theorem YK:Con.Ok prg 19 XB:=okF (ze oh (ze VP zn)) (by kernel_rfl)
theorem zai(a0)(a1)(a2)(a3):xH (a0,a1,a2,a3,())=La a0 a1 a2 a3:=zA (by kernel_rfl)
abbrev Lb:List VT:=[⟨false,I⟩,⟨false,I⟩]
abbrev Ld:List VT:=[⟨false,I⟩]
def Le(a0:Int)(a1:Int):Option (Int×Unit):=bif zj a1 0 then none else opt (bif zg (Int.tmod a0 a1) 0 then some (0,((w6C ((Int.tmod a0 a1)+a1)),()),())else some (0,((Int.tmod a0 a1),()),())) fun x0=>some (x0.2.1.1,())
abbrev zgB:Type:=(Int×Int×Unit)->Option (Int×Unit)
def vo:zgB:=opq (sF prg [] (zG [] [] [] [] []) (zy []) 30 164 Lb Ld)
abbrev XC:Con:=⟨Lb,Ld,vo⟩
theorem YL:Con.Ok prg 164 XC:=okF zn (by kernel_rfl)
theorem zaj(a0)(a1):vo (a0,a1,())=Le a0 a1:=zA (by kernel_rfl)
abbrev tH:List VT:=[⟨false,I⟩,⟨false,I⟩]
abbrev tI:List VT:=[⟨false,I⟩]
def tJ(a0:Int)(a1:Int):Option (Int×Unit):=opt (vo (a0,a1,())) fun x0=>bif zj a1 0 then none else some ((w6C (Int.tdiv (w6C (a0 - x0.1)) a1)),())
abbrev zcB:Type:=(Int×Int×Unit)->Option (Int×Unit)
def JD:zcB:=opq (sF prg [(164,XC)] (zG [] [] [] [] [164]) (zy []) 30 163 tH tI)
abbrev tK:Con:=⟨tH,tI,JD⟩
theorem Nt:Con.Ok prg 163 tK:=okF (ze YL zn) (by kernel_rfl)
theorem Nu(a0)(a1):JD (a0,a1,())=tJ a0 a1:=zA (by kernel_rfl)
abbrev Lf:List VT:=[⟨true,yY⟩,⟨false,I⟩,⟨false,I⟩,⟨true,gu⟩]
abbrev Lg:List VT:=[⟨true,QH⟩]
def Lh(a0:wj)(a1:Int)(a2:Int)(a3:rP):Option (Nf×Unit):=opt (JD (a3.2.1,a0.1,())) fun x0=>opt (JD ((w6C (0 - (w6C (a3.2.2.2.1+a3.2.2.2.2)))),a0.1,())) fun x1=>opt (vo (x0.1,a2,())) fun x2=>some ((a1,a3.1,x2.1,(w6C ((w6C (0 - x1.1)) - x0.1))),())
abbrev zgC:Type:=(wj×Int×Int×rP×Unit)->Option (Nf×Unit)
def XD:zgC:=opq (sF prg [(163,tK),(164,XC)] (zG [cdF gu,cdF yY] [] [] [] [163,164]) (zy []) 30 99 Lf Lg)
abbrev Li:Con:=⟨Lf,Lg,XD⟩
theorem zak:Con.Ok prg 99 Li:=okF (ze Nt (ze YL zn)) (by kernel_rfl)
theorem zal(a0)(a1)(a2)(a3):XD (a0,a1,a2,a3,())=Lh a0 a1 a2 a3:=zA (by kernel_rfl)
abbrev Lj:List VT:=[⟨true,zP⟩,⟨true,yY⟩,⟨true,zJ⟩,⟨false,(.list I)⟩]
abbrev Lk:List VT:=[⟨false,I⟩]
def Ll(a0:qi)(a1:wj)(a2:qf)(a3:(List Int)):Option (Int×Unit):=opt (xH (a0,a1,a2,a3,())) fun x0=>aTC x0.1 (w6C ((lnC x0.1) - 1)) fun x1=>opt (ku (a0,x1.1,())) fun x2=>some ((w6C ((w6C ((w6C (x1.2.2.2.1+x1.2.2.2.2))+x2.1))+a1.2.2.1)),())
abbrev zgD:Type:=(qi×wj×qf×(List Int)×Unit)->Option (Int×Unit)
def XE:zgD:=opq (sF prg [(19,XB),(57,Vc)] (zG [cdF zJ,cdF zP,cdF gu,cdF qx,cdF zr] [] [] [] [57]) (zy []) 30 100 Lj Lk)
abbrev Lm:Con:=⟨Lj,Lk,XE⟩
theorem zam:Con.Ok prg 100 Lm:=okF (ze YK (ze VP zn)) (by kernel_rfl)
theorem zan(a0)(a1)(a2)(a3):XE (a0,a1,a2,a3,())=Ll a0 a1 a2 a3:=zA (by kernel_rfl)
abbrev an:List VT:=[⟨false,(.list I)⟩]
abbrev ar:List VT:=[⟨false,I⟩]
def Ln(a0:(List Int)):Option (Int×Unit):=lpC ((0,1,()),()) (fun s0=>bif !(zg 960 s0.1.2.1)then lpC ((true,0,()),()) (fun s1=>bif(zg s1.1.2.1 (lnC a0))then bif s1.1.1 then aTC a0 s1.1.2.1 fun x2=>bif zj x2 0 then none else nxC (((zj (Int.tmod s0.1.2.1 x2) 0),(upC s1.1.2.1),()),())else nxC ((false,(upC s1.1.2.1),()),())else exC 0 ((s1.1.1,s1.1.2.1,()),())) fun x3=>bif x3.2.1.1 then exC 1 ((s0.1.2.1,s0.1.2.1,()),())else nxC ((s0.1.1,(upC s0.1.2.1),()),())else exC 0 ((s0.1.1,s0.1.2.1,()),())) fun x4=>bif jzC x4 then some (0,())else some (x4.2.1.1,())
abbrev Lo:Type:=((List Int)×Unit)->Option (Int×Unit)
def xb:Lo:=opq (sF prg [] (zG [] [] [] [] []) (zy []) 30 52 an ar)
abbrev mY:Con:=⟨an,ar,xb⟩
theorem GJ:Con.Ok prg 52 mY:=okF zn (by kernel_rfl)
theorem zao(a0):xb (a0,())=Ln a0:=zA (by kernel_rfl)
abbrev dc:List VT:=[⟨true,zP⟩,⟨true,yY⟩,⟨false,(.list zJ)⟩]
abbrev de:List VT:=[⟨true,qY⟩,⟨false,I⟩]
def RP(a0:qi)(a1:wj)(a2:(List qf)):Option (qO×Int×Unit):=opt (kr (a0,())) fun x0=>bif !x0.1 then some (([],[]),260,())else opt (JC (a1,())) fun x1=>bif !x1.1 then some (([],[]),320,())else opt (gO (a0,a2,())) fun x2=>bif !(zj x2.1 0)then some (([],[]),x2.1,())else lpC ((a0,a1,(),false,0,()),([],[],()),()) (fun s3=>bif(zg s3.1.2.2.2.2.1 (lnC a2))then aTC a2 s3.1.2.2.2.2.1 fun x4=>bif !(zj x4.2.2.2.1 7)then nxC ((s3.1.1,s3.1.2.1,(),s3.1.2.2.2.1,(upC s3.1.2.2.2.2.1),()),(s3.2.1.1,s3.2.1.2.1,()),())else lpC ((s3.1.1,s3.1.2.1,(),s3.1.2.2.2.1,0,()),(s3.2.1.1,s3.2.1.2.1,()),()) (fun s5=>aTC a2 s3.1.2.2.2.2.1 fun x6=>bif(zg s5.1.2.2.2.2.1 (lnC x6.2.2.2.2.2.2.2.2))then aTC a2 s3.1.2.2.2.2.1 fun x7=>aTC a2 s3.1.2.2.2.2.1 fun x8=>aTC x8.2.2.2.2.2.2.2.2 s5.1.2.2.2.2.1 fun x9=>opt (xH (s5.1.1,s5.1.2.1,x7,x9,())) fun x10=>lpC (((),0,()),(s5.2.1.1,s5.2.1.2.1,()),()) (fun s11=>bif(zg s11.1.2.1 (lnC x10.1))then aTC a2 s3.1.2.2.2.2.1 fun x12=>aTC x10.1 s11.1.2.1 fun x13=>opt (XD (s5.1.2.1,(lnC s11.2.1.1),x12.2.2.2.2.2.1,x13,())) fun x14=>bif(qb s11.2.1.2.1.length ((x14.1::[]).length) 32)then nxC (((),(upC s11.1.2.1),()),(s11.2.1.1,(s11.2.1.2.1++(x14.1::[])),()),())else none else exC 0 (((),s11.1.2.1,()),(s11.2.1.1,s11.2.1.2.1,()),())) fun x15=>bif s5.1.2.2.2.1 then nxC ((s5.1.1,s5.1.2.1,(),true,(upC s5.1.2.2.2.2.1),()),(x15.2.2.1.1,x15.2.2.1.2.1,()),())else aTC a2 s3.1.2.2.2.2.1 fun x16=>aTC a2 s3.1.2.2.2.2.1 fun x17=>aTC x17.2.2.2.2.2.2.2.2 s5.1.2.2.2.2.1 fun x18=>opt (XE (s5.1.1,s5.1.2.1,x16,x18,())) fun x19=>aTC a2 s3.1.2.2.2.2.1 fun x20=>nxC ((s5.1.1,s5.1.2.1,(),(zg x20.2.2.2.2.2.2.2.1 (w6C (x19.1+(w6C (2*s5.1.2.1.2.1))))),(upC s5.1.2.2.2.2.1),()),(x15.2.2.1.1,x15.2.2.1.2.1,()),())else exC 0 ((s5.1.1,s5.1.2.1,(),s5.1.2.2.2.1,s5.1.2.2.2.2.1,()),(s5.2.1.1,s5.2.1.2.1,()),())) fun x21=>aTC a2 s3.1.2.2.2.2.1 fun x22=>bif(qb x21.2.2.1.1.length ((x22.2.2.2.2.2.1::[]).length) 8)then nxC ((x21.2.1.1,x21.2.1.2.1,(),x21.2.1.2.2.2.1,(upC s3.1.2.2.2.2.1),()),((x21.2.2.1.1++(x22.2.2.2.2.2.1::[])),x21.2.2.1.2.1,()),())else none else exC 0 ((s3.1.1,s3.1.2.1,(),s3.1.2.2.2.1,s3.1.2.2.2.2.1,()),(s3.2.1.1,s3.2.1.2.1,()),())) fun x23=>opt (xb (x23.2.2.1.1,())) fun x24=>bif zj x24.1 0 then some (([],[]),6,())else lpC ((([],[]),0,0,()),()) (fun s25=>bif(zg s25.1.2.2.1 (w6C (2*(lnC x23.2.1.1.2.2))))then lpC ((0,0,()),()) (fun s26=>bif(zg s26.1.2.1 (lnC x23.2.2.1.2.1))then opt (aTC x23.2.2.1.2.1 s26.1.2.1 fun x27=>opt (gl x23.2.2.1.2.1 (Int.toNat s26.1.2.1)) fun x28=>bif zj x28.2.1 s25.1.2.2.1 then aTC x23.2.2.1.2.1 s26.1.2.1 fun x29=>opt (gl x23.2.2.1.2.1 (Int.toNat s26.1.2.1)) fun x30=>aTC x23.2.2.1.1 x30.1 fun x31=>opt (gl x23.2.2.1.1 (Int.toNat x30.1)) fun x32=>bif zj x32 0 then none else some (0,((w6C (s26.1.1+(w6C (Int.tdiv x24.1 x32)))),()),())else some (0,(s26.1.1,()),())) fun x33=>nxC ((x33.2.1.1,(upC s26.1.2.1),()),())else exC 0 ((s26.1.1,s26.1.2.1,()),())) fun x34=>bif zg 63 x34.2.1.1 then exC 1 ((([],[]),7,s25.1.2.2.1,()),())else nxC ((s25.1.1,s25.1.2.1,(upC s25.1.2.2.1),()),())else exC 0 ((s25.1.1,s25.1.2.1,s25.1.2.2.1,()),())) fun x35=>bif jzC x35 then lpC ((false,0,()),()) (fun s36=>bif(zg s36.1.2.1 (lnC x23.2.2.1.2.1))then bif s36.1.1 then nxC ((true,(upC s36.1.2.1),()),())else aTC x23.2.2.1.2.1 s36.1.2.1 fun x37=>opt (gl x23.2.2.1.2.1 (Int.toNat s36.1.2.1)) fun x38=>aTC x23.2.2.1.2.1 s36.1.2.1 fun x39=>opt (gl x23.2.2.1.2.1 (Int.toNat s36.1.2.1)) fun x40=>aTC x23.2.2.1.1 x40.1 fun x41=>opt (gl x23.2.2.1.1 (Int.toNat x40.1)) fun x42=>nxC (((zg x42 x38.2.2.2),(upC s36.1.2.1),()),())else exC 0 ((s36.1.1,s36.1.2.1,()),())) fun x43=>bif x43.2.1.1 then some (([],[]),341,())else bif x23.2.1.2.2.2.1 then some (([],[]),342,())else some ((x23.2.2.1.1,x23.2.2.1.2.1),0,())else some (x35.2.1.1,x35.2.1.2.1,())
abbrev RQ:Type:=(qi×wj×(List qf)×Unit)->Option (qO×Int×Unit)
def vB:RQ:=opq (sF prg [(96,JB),(97,bu),(98,VO),(19,XB),(99,Li),(100,Lm),(52,mY)] (zG [cdF zJ,cdF zP,⟨qY,wi qY,[0,1]⟩,cdF gu,cdF qx,cdF zr] [] [] [(11,214,9,[0,1]),(15,214,9,[0,1]),(19,214,9,[0,1]),(11,214,9,[1,0]),(15,214,9,[1]),(19,214,9,[1])] [96,97,98,99,100,52]) (zy []) 30 49 dc de)
abbrev zi0:Con:=⟨dc,de,vB⟩
theorem zcC:Con.Ok prg 49 zi0:=okF (ze QX (ze eF (ze UW (ze YK (ze zak (ze zam (ze GJ zn))))))) (by kernel_rfl)
theorem zcD(a0)(a1)(a2):vB (a0,a1,a2,())=RP a0 a1 a2:=zA (by kernel_rfl)
abbrev Vd:List VT:=[⟨true,qY⟩]
abbrev Ve:List VT:=[⟨false,.bool⟩]
def tL(a0:qO):Option (Bool×Unit):=opt (bif(zg 12 (lnC a0.1))then some (1,(false,()),())else bif(zg 192 (lnC a0.2))then some (1,(false,()),())else some (0,(false,()),())) fun x0=>bif jzC x0 then lpC ((x0.2.1.1,0,()),()) (fun s1=>bif(zg s1.1.2.1 (lnC a0.1))then opt (aTC a0.1 s1.1.2.1 fun x2=>bif zg x2 1 then some (1,(false,()),())else aTC a0.1 s1.1.2.1 fun x3=>bif zg 240 x3 then some (1,(false,()),())else some (0,(s1.1.1,()),())) fun x4=>bif jzC x4 then nxC ((x4.2.1.1,(upC s1.1.2.1),()),())else exC 1 ((x4.2.1.1,s1.1.2.1,()),())else exC 0 ((s1.1.1,s1.1.2.1,()),())) fun x5=>bif jzC x5 then lpC ((x5.2.1.1,0,()),()) (fun s6=>bif(zg s6.1.2.1 (lnC a0.2))then aTC a0.2 s6.1.2.1 fun x7=>opt (bif zg x7.1 0 then some (1,(false,()),())else bif(!(zg x7.1 (lnC a0.1)))then some (1,(false,()),())else bif zg x7.2.1 0 then some (1,(false,()),())else bif !(zg x7.2.1 48)then some (1,(false,()),())else some (0,(s6.1.1,()),())) fun x8=>bif jzC x8 then opt (bif zg x7.2.2.1 0 then some (1,(false,()),())else aTC a0.1 x7.1 fun x9=>bif !(zg x7.2.2.1 x9)then some (1,(false,()),())else bif zg x7.2.2.2 1 then some (1,(false,()),())else aTC a0.1 x7.1 fun x10=>bif zg x10 x7.2.2.2 then some (1,(false,()),())else some (0,(x8.2.1.1,()),())) fun x11=>bif jzC x11 then nxC ((x11.2.1.1,(upC s6.1.2.1),()),())else exC 1 ((x11.2.1.1,s6.1.2.1,()),())else exC 1 ((x8.2.1.1,s6.1.2.1,()),())else exC 0 ((s6.1.1,s6.1.2.1,()),())) fun x12=>bif jzC x12 then opt (xb (a0.1,())) fun x13=>some ((zg 0 x13.1),())else some (x12.2.1.1,())else some (x5.2.1.1,())else some (x0.2.1.1,())
abbrev tM:Type:=(qO×Unit)->Option (Bool×Unit)
def kx:tM:=opq (sF prg [(52,mY)] (zG [cdF qY,cdF QH] [] [] [] [52]) (zy []) 30 101 Vd Ve)
abbrev zcE:Con:=⟨Vd,Ve,kx⟩
theorem Nv:Con.Ok prg 101 zcE:=okF (ze GJ zn) (by kernel_rfl)
theorem Nw(a0):kx (a0,())=tL a0:=zA (by kernel_rfl)
abbrev RR:List VT:=[⟨true,qY⟩,⟨false,I⟩,⟨false,I⟩]
abbrev RS:List VT:=[⟨true,YI⟩]
def RT(a0:qO)(a1:Int)(a2:Int):Option (Kc×Unit):=aTC a0.2 a1 fun x0=>aTC a0.1 x0.1 fun x1=>aTC a0.2 a1 fun x2=>bif zj x1 0 then none else aTC a0.2 a1 fun x3=>some ((x1,(Int.tmod (w6C (x2.2.2.1+a2)) x1),x3.2.2.2),())
abbrev zi1:Type:=(qO×Int×Int×Unit)->Option (Kc×Unit)
def QY:zi1:=opq (sF prg [] (zG [cdF qY,cdF QH,cdF YI] [] [] [] []) (zy []) 30 253 RR RS)
abbrev RU:Con:=⟨RR,RS,QY⟩
theorem zcF:Con.Ok prg 253 RU:=okF zn (by kernel_rfl)
theorem zcG(a0)(a1)(a2):QY (a0,a1,a2,())=RT a0 a1 a2:=zA (by kernel_rfl)
abbrev Lp:List VT:=[⟨false,I⟩,⟨false,I⟩]
abbrev Lq:List VT:=[⟨false,I⟩]
def Lr(a0:Int)(a1:Int):Option (Int×Unit):=lpC ((0,a0,()),()) (fun s0=>bif zg 1 s0.1.2.1 then opt (bif zj s0.1.2.1 0 then none else bif zj (Int.tmod a0 s0.1.2.1) 0 then bif zj s0.1.2.1 0 then none else bif zj (Int.tmod a1 s0.1.2.1) 0 then some (1,(s0.1.2.1,()),())else some (0,(s0.1.1,()),())else some (0,(s0.1.1,()),())) fun x1=>bif jzC x1 then nxC ((x1.2.1.1,(w6C (s0.1.2.1 - 1)),()),())else exC 1 ((x1.2.1.1,s0.1.2.1,()),())else exC 0 ((s0.1.1,s0.1.2.1,()),())) fun x2=>bif jzC x2 then some (1,())else some (x2.2.1.1,())
abbrev zgE:Type:=(Int×Int×Unit)->Option (Int×Unit)
def XF:zgE:=opq (sF prg [] (zG [] [] [] [] []) (zy []) 30 291 Lp Lq)
abbrev Ls:Con:=⟨Lp,Lq,XF⟩
theorem zap:Con.Ok prg 291 Ls:=okF zn (by kernel_rfl)
theorem zaq(a0)(a1):XF (a0,a1,())=Lr a0 a1:=zA (by kernel_rfl)
abbrev eJ:List VT:=[⟨true,YI⟩,⟨true,YI⟩]
abbrev eK:List VT:=[⟨false,.bool⟩]
def eM(a0:Kc)(a1:Kc):Option (Bool×Unit):=opt (XF (a0.1,a1.1,())) fun x0=>lpC ((false,(w6C (1 - a1.2.2)),()),()) (fun s1=>bif zg s1.1.2.1 a0.2.2 then opt (vo ((w6C ((w6C (a1.2.1 - a0.2.1)) - s1.1.2.1)),x0.1,())) fun x2=>bif zj x2.1 0 then exC 1 ((false,s1.1.2.1,()),())else nxC ((s1.1.1,(upC s1.1.2.1),()),())else exC 0 ((s1.1.1,s1.1.2.1,()),())) fun x3=>bif jzC x3 then some (true,())else some (x3.2.1.1,())
abbrev Nx:Type:=(Kc×Kc×Unit)->Option (Bool×Unit)
def ui:Nx:=opq (sF prg [(291,Ls),(164,XC)] (zG [cdF YI] [] [] [] [291,164]) (zy []) 30 252 eJ eK)
abbrev eO:Con:=⟨eJ,eK,ui⟩
theorem BE:Con.Ok prg 252 eO:=okF (ze zap (ze YL zn)) (by kernel_rfl)
theorem BF(a0)(a1):ui (a0,a1,())=eM a0 a1:=zA (by kernel_rfl)
abbrev tN:List VT:=[⟨true,qY⟩,⟨false,I⟩,⟨false,I⟩,⟨false,I⟩,⟨false,I⟩]
abbrev tO:List VT:=[⟨false,.bool⟩]
def tP(a0:qO)(a1:Int)(a2:Int)(a3:Int)(a4:Int):Option (Bool×Unit):=lpC ((false,0,()),()) (fun s0=>bif(zg s0.1.2.1 (lnC a0.2))then lpC ((s0.1.1,0,()),()) (fun s1=>bif(zg s1.1.2.1 (lnC a0.2))then opt (bif !(zj s0.1.2.1 s1.1.2.1)then aTC a0.2 s0.1.2.1 fun x2=>bif zj x2.1 a1 then aTC a0.2 s1.1.2.1 fun x3=>bif zj x3.1 a3 then aTC a0.2 s0.1.2.1 fun x4=>aTC a0.2 s1.1.2.1 fun x5=>bif zj x4.2.1 x5.2.1 then opt (QY (a0,s0.1.2.1,a2,())) fun x6=>opt (QY (a0,s1.1.2.1,a4,())) fun x7=>opt (ui (x6.1,x7.1,())) fun x8=>bif !x8.1 then some (1,(true,()),())else some (0,(s1.1.1,()),())else some (0,(s1.1.1,()),())else some (0,(s1.1.1,()),())else some (0,(s1.1.1,()),())else some (0,(s1.1.1,()),())) fun x9=>bif jzC x9 then nxC ((x9.2.1.1,(upC s1.1.2.1),()),())else exC 1 ((x9.2.1.1,s1.1.2.1,()),())else exC 0 ((s1.1.1,s1.1.2.1,()),())) fun x10=>bif jzC x10 then nxC ((x10.2.1.1,(upC s0.1.2.1),()),())else exC 1 ((x10.2.1.1,s0.1.2.1,()),())else exC 0 ((s0.1.1,s0.1.2.1,()),())) fun x11=>bif jzC x11 then some (false,())else some (x11.2.1.1,())
abbrev zcH:Type:=(qO×Int×Int×Int×Int×Unit)->Option (Bool×Unit)
def ky:zcH:=opq (sF prg [(253,RU),(252,eO)] (zG [cdF qY,cdF QH,cdF YI] [] [] [] [253,252]) (zy []) 30 226 tN tO)
abbrev tQ:Con:=⟨tN,tO,ky⟩
theorem Ny:Con.Ok prg 226 tQ:=okF (ze zcF (ze BE zn)) (by kernel_rfl)
theorem Nz(a0)(a1)(a2)(a3)(a4):ky (a0,a1,a2,a3,a4,())=tP a0 a1 a2 a3 a4:=zA (by kernel_rfl)
abbrev YM:List VT:=[⟨true,qY⟩,⟨false,(.list I)⟩,⟨false,I⟩]
abbrev YN:List VT:=[⟨false,I⟩]
def RV(a0:qO)(a1:(List Int))(a2:Int):Option (Int×Unit):=lpC ((0,0,()),()) (fun s0=>bif(zg s0.1.2.1 (lnC a1))then aTC a1 s0.1.2.1 fun x1=>opt (ky (a0,(lnC a1),a2,s0.1.2.1,x1,())) fun x2=>bif x2.1 then exC 1 ((s0.1.2.1,s0.1.2.1,()),())else nxC ((s0.1.1,(upC s0.1.2.1),()),())else exC 0 ((s0.1.1,s0.1.2.1,()),())) fun x3=>bif jzC x3 then opt (ky (a0,(lnC a1),a2,(lnC a1),a2,())) fun x4=>bif x4.1 then some ((lnC a1),())else some ((-1),())else some (x3.2.1.1,())
abbrev rR:Type:=(qO×(List Int)×Int×Unit)->Option (Int×Unit)
def xM:rR:=opq (sF prg [(226,tQ)] (zG [cdF qY,cdF QH] [] [] [] [226]) (zy []) 30 165 YM YN)
abbrev zi2:Con:=⟨YM,YN,xM⟩
theorem tR:Con.Ok prg 165 zi2:=okF (ze Ny zn) (by kernel_rfl)
theorem zcI(a0)(a1)(a2):xM (a0,a1,a2,())=RV a0 a1 a2:=zA (by kernel_rfl)
def GK:xi:=zG [⟨uU,wi uU,[0]⟩,cdF qY,cdF qB,cdF QH] [] [⟨3,133,some 11,yP,true⟩,⟨3,133,none,qB,true⟩,⟨9,133,some 11,yP,true⟩,⟨9,133,none,qB,true⟩,⟨11,133,some 11,yP,true⟩,⟨11,133,none,qB,true⟩,⟨14,133,some 11,yP,true⟩,⟨14,133,none,qB,true⟩,⟨15,133,some 11,yP,true⟩,⟨15,133,none,qB,true⟩,⟨19,133,some 11,yP,true⟩,⟨19,133,none,qB,true⟩,⟨25,133,some 11,yP,true⟩,⟨25,133,none,qB,true⟩] [(9,133,5,[0]),(9,133,8,[0])] [165]
def bw(vJ:rR)(yq:(qO×Unit)->List jK->((List Int)×Int)->((List Int)×Int×Unit)->Option (List jK×((List Int)×Int)))(a0:qO)(l:List jK)(y:((List Int)×Int))(a2:(List Int))(a3:Int):Option (List jK×((List Int)×Int)):=bif(zg a3 (lnC l))then some (l,y.1,2)else bif qb l.length 1 32 then lpC ((a0,(),(),0,()),((l++(((lnC a2),[])::[])),y,()),([],([],0),()),[],()) (fun s0=>aTC s0.1.1.1 (lnC a2) fun x1=>bif zg s0.1.2.2.2.1 x1 then opt (bif(zj (lnC a2) 0)then bif zj s0.1.2.2.2.1 1 then aTC s0.1.1.1 0 fun x2=>bif(qb s0.2.2.2.1.length (((1,x2,(-2),0)::[]).length) 32)then some (1,(),(s0.2.2.2.1++((1,x2,(-2),0)::[])),())else none else some (0,(),s0.2.2.2.1,())else some (0,(),s0.2.2.2.1,())) fun x3=>bif jzC x3 then opt (vJ (s0.1.1,a2,s0.1.2.2.2.1,())) fun x4=>bif(!(zj x4.1 (-1)))then opt (bif(zg 0 (lnC x3.2.2.1))then aTC x3.2.2.1 (w6C ((lnC x3.2.2.1) - 1)) fun x5=>opt (gl x3.2.2.1 (Int.toNat (w6C ((lnC x3.2.2.1) - 1)))) fun x6=>bif zj x6.2.2.1 x4.1 then aTC x3.2.2.1 (w6C ((lnC x3.2.2.1) - 1)) fun x7=>opt (gl x3.2.2.1 (Int.toNat (w6C ((lnC x3.2.2.1) - 1)))) fun x8=>some (0,(),(x3.2.2.1.set (Int.toNat (w6C ((lnC x3.2.2.1) - 1))) (x8.1,(upC s0.1.2.2.2.1),x8.2.2)),())else bif(qb x3.2.2.1.length (((s0.1.2.2.2.1,(upC s0.1.2.2.2.1),x4.1,0)::[]).length) 32)then some (0,(),(x3.2.2.1++((s0.1.2.2.2.1,(upC s0.1.2.2.2.1),x4.1,0)::[])),())else none else bif(qb x3.2.2.1.length (((s0.1.2.2.2.1,(upC s0.1.2.2.2.1),x4.1,0)::[]).length) 32)then some (0,(),(x3.2.2.1++((s0.1.2.2.2.1,(upC s0.1.2.2.2.1),x4.1,0)::[])),())else none) fun x9=>nxC ((s0.1.1,(),(),(upC s0.1.2.2.2.1),()),(s0.2.1.1,s0.2.1.2.1,()),(s0.2.2.1.1,s0.2.2.1.2.1,()),x9.2.2.1,())else bif qb 0 a2.length 8 then bif(qb a2.length ((s0.1.2.2.2.1::[]).length) 8)then bif(zj (lnC (a2++(s0.1.2.2.2.1::[]))) (lnC s0.1.1.1))then some (.inl s0)else bif(qb x3.2.2.1.length (((s0.1.2.2.2.1,(upC s0.1.2.2.2.1),(-1),(lnC s0.2.1.1))::[]).length) 32)then opt (yq (s0.1.1,()) s0.2.1.1 s0.2.1.2.1 ((a2++(s0.1.2.2.2.1::[])),a3,())) fun x10=>bif !(zj x10.2.2 0)then some (.inl s0)else nxC ((s0.1.1,(),(),(upC s0.1.2.2.2.1),()),(x10.1,x10.2,()),(s0.2.2.1.1,s0.2.2.1.2.1,()),(x3.2.2.1++((s0.1.2.2.2.1,(upC s0.1.2.2.2.1),(-1),(lnC s0.2.1.1))::[])),())else none else none else none else some (.inl s0)else some (.inl s0)) fun x11=>aTC x11.1.1.1 (lnC a2) fun x12=>bif zg x11.1.2.2.2.1 x12 then opt (bif(zj (lnC a2) 0)then bif zj x11.1.2.2.2.1 1 then aTC x11.1.1.1 0 fun x13=>bif(qb x11.2.2.2.1.length (((1,x13,(-2),0)::[]).length) 32)then some (1,(),(x11.2.2.2.1++((1,x13,(-2),0)::[])),())else none else some (0,(),x11.2.2.2.1,())else some (0,(),x11.2.2.2.1,())) fun x14=>bif jzC x14 then opt (vJ (x11.1.1,a2,x11.1.2.2.2.1,())) fun x15=>bif(!(zj x15.1 (-1)))then opt (bif(zg 0 (lnC x14.2.2.1))then aTC x14.2.2.1 (w6C ((lnC x14.2.2.1) - 1)) fun x16=>opt (gl x14.2.2.1 (Int.toNat (w6C ((lnC x14.2.2.1) - 1)))) fun x17=>bif zj x17.2.2.1 x15.1 then aTC x14.2.2.1 (w6C ((lnC x14.2.2.1) - 1)) fun x18=>opt (gl x14.2.2.1 (Int.toNat (w6C ((lnC x14.2.2.1) - 1)))) fun x19=>some (0,(),(x14.2.2.1.set (Int.toNat (w6C ((lnC x14.2.2.1) - 1))) (x19.1,(upC x11.1.2.2.2.1),x19.2.2)),())else bif(qb x14.2.2.1.length (((x11.1.2.2.2.1,(upC x11.1.2.2.2.1),x15.1,0)::[]).length) 32)then some (0,(),(x14.2.2.1++((x11.1.2.2.2.1,(upC x11.1.2.2.2.1),x15.1,0)::[])),())else none else bif(qb x14.2.2.1.length (((x11.1.2.2.2.1,(upC x11.1.2.2.2.1),x15.1,0)::[]).length) 32)then some (0,(),(x14.2.2.1++((x11.1.2.2.2.1,(upC x11.1.2.2.2.1),x15.1,0)::[])),())else none) fun x20=>none else bif qb 0 a2.length 8 then bif(qb a2.length ((x11.1.2.2.2.1::[]).length) 8)then bif(zj (lnC (a2++(x11.1.2.2.2.1::[]))) (lnC x11.1.1.1))then some (x11.2.1.1,(a2++(x11.1.2.2.2.1::[])),1)else bif(qb x14.2.2.1.length (((x11.1.2.2.2.1,(upC x11.1.2.2.2.1),(-1),(lnC x11.2.1.1))::[]).length) 32)then opt (yq (x11.1.1,()) x11.2.1.1 x11.2.1.2.1 ((a2++(x11.1.2.2.2.1::[])),a3,())) fun x21=>bif !(zj x21.2.2 0)then some x21 else none else none else none else none else aTC x11.2.1.1 (lnC l) fun x22=>opt (gl x11.2.1.1 (Int.toNat (lnC l))) fun x23=>some ((x11.2.1.1.set (Int.toNat (lnC l)) (x23.1,x14.2.2.1)),x11.2.1.2.1)else aTC x11.2.1.1 (lnC l) fun x24=>opt (gl x11.2.1.1 (Int.toNat (lnC l))) fun x25=>some ((x11.2.1.1.set (Int.toNat (lnC l)) (x25.1,x11.2.2.2.1)),x11.2.1.2.1)else none
theorem zcJ(vJ:(qO×(List Int)×Int×Unit)->Option (Int×Unit))(yq:(qO×Unit)->List jK->((List Int)×Int)->((List Int)×Int×Unit)->Option (List jK×((List Int)×Int)))(a0:qO)(l:List jK)(y:((List Int)×Int))(a2:(List Int))(a3:Int):sO prg ⟨[],[],[(102,⟨[⟨true,qY⟩],qB,(.pair (.list I) I),[⟨false,(.list I)⟩,⟨false,I⟩],yq⟩)]⟩ [(165,⟨YM,YN,vJ⟩)] GK (zy [] [(9,133)]) 40 102 [⟨true,qY⟩] qB (.pair (.list I) I) [⟨false,(.list I)⟩,⟨false,I⟩] (a0,()) l y (a2,a3,())=bw vJ yq a0 l y a2 a3:=by kernel_rfl
def xX:Nat->(qO×Unit)->List jK->((List Int)×Int)->((List Int)×Int×Unit)->Option (List jK×((List Int)×Int))
 |0=>fun _ _ _ _=>none
 |n+1=>sO prg ⟨[],[],[(102,⟨[⟨true,qY⟩],qB,(.pair (.list I) I),[⟨false,(.list I)⟩,⟨false,I⟩],(xX n)⟩)]⟩ [(165,⟨YM,YN,xM⟩)] GK (zy [] [(9,133)]) 40 102 [⟨true,qY⟩] qB (.pair (.list I) I) [⟨false,(.list I)⟩,⟨false,I⟩]
theorem bU:∀n,dT.Ok prg 102 ⟨[⟨true,qY⟩],qB,(.pair (.list I) I),[⟨false,(.list I)⟩,⟨false,I⟩],xX n⟩
 |0=>⟨(znB (lib:=⟨[],[],[]⟩) zb0 (t:=[]) zn qN (pl:=GK) (jq:=fun _ _=>false) (n:=0) (f:=102) (pre:=[]) (et:=.unit) (rest:=.unit) (post:=[]) (by kernel_rfl)).1,fun _ _ _ _ r h=>by cases h⟩
 |n+1=>znB ⟨yO,uS,(zfe (bU n) uT)⟩ (ze tR zn) qN (by kernel_rfl)
def Zp:(qO×Unit)->List jK->((List Int)×Int)->((List Int)×Int×Unit)->Option (List jK×((List Int)×Int)):=xX 30
theorem NA:dT.Ok prg 102 ⟨[⟨true,qY⟩],qB,(.pair (.list I) I),[⟨false,(.list I)⟩,⟨false,I⟩],Zp⟩:=bU 30
theorem HL(n:Nat)(a0:qO)(l:List jK)(y:((List Int)×Int))(a2:(List Int))(a3:Int):xX (n+1) (a0,()) l y (a2,a3,())=bw xM (xX n) a0 l y a2 a3:=zcJ xM (xX n) a0 l y a2 a3
abbrev JE:List VT:=[⟨true,qY⟩,⟨false,I⟩]
abbrev JF:List VT:=[⟨false,(.list I)⟩,⟨false,(.list qB)⟩,⟨false,I⟩]
def oi:xi:=zG [⟨uU,wi uU,[0]⟩,cdF qY,cdF qB,cdF QH] [] [⟨1,35,some 4,I,false⟩,⟨1,35,some 5,qB,false⟩,⟨3,35,some 4,I,false⟩,⟨3,35,some 5,qB,false⟩,⟨5,35,some 4,I,false⟩,⟨5,35,some 5,qB,false⟩,⟨9,35,some 4,I,false⟩,⟨9,35,some 5,qB,false⟩,⟨11,35,some 4,I,false⟩,⟨11,35,some 5,qB,false⟩,⟨3,133,some 11,yP,true⟩,⟨3,133,none,qB,true⟩,⟨9,133,some 11,yP,true⟩,⟨9,133,none,qB,true⟩,⟨11,133,some 11,yP,true⟩,⟨11,133,none,qB,true⟩,⟨14,133,some 11,yP,true⟩,⟨14,133,none,qB,true⟩,⟨15,133,some 11,yP,true⟩,⟨15,133,none,qB,true⟩,⟨19,133,some 11,yP,true⟩,⟨19,133,none,qB,true⟩,⟨25,133,some 11,yP,true⟩,⟨25,133,none,qB,true⟩,⟨1,35,none,qB,true⟩,⟨3,35,none,qB,true⟩,⟨5,35,none,qB,true⟩,⟨9,35,none,qB,true⟩,⟨11,35,none,qB,true⟩] [(9,133,5,[0]),(9,133,8,[0])] [101,165]
def bz(Vs:tM)(vJ:rR)(yq:(qO×Unit)->List jK->((List Int)×Int)->((List Int)×Int×Unit)->Option (List jK×((List Int)×Int)))(a0:qO)(a1:Int):Option ((List Int)×(List jK)×Int×Unit):=opt (Vs (a0,())) fun x0=>bif !x0.1 then some ([],[],340,())else opt (bif zg a1 0 then some (1,([],[],2,()),())else bif !(zg a1 2000)then some (1,([],[],2,()),())else some (0,([],[],0,()),())) fun x1=>bif jzC x1 then bif(zj (lnC a0.1) 0)then some ([],[],0,())else bif zg a1 0 then some ([],[],8,())else bif qb 0 1 32 then lpC ((a0,(),(),0,()),(((0,[])::[]),([],0),()),([],([],0),()),[],()) (fun s2=>aTC s2.1.1.1 0 fun x3=>bif zg s2.1.2.2.2.1 x3 then opt (bif zj s2.1.2.2.2.1 1 then aTC s2.1.1.1 0 fun x4=>bif(qb s2.2.2.2.1.length (((1,x4,(-2),0)::[]).length) 32)then some (1,(),(s2.2.2.2.1++((1,x4,(-2),0)::[])),())else none else some (0,(),s2.2.2.2.1,())) fun x5=>bif jzC x5 then opt (vJ (s2.1.1,[],s2.1.2.2.2.1,())) fun x6=>bif(!(zj x6.1 (-1)))then opt (bif(zg 0 (lnC x5.2.2.1))then aTC x5.2.2.1 (w6C ((lnC x5.2.2.1) - 1)) fun x7=>opt (gl x5.2.2.1 (Int.toNat (w6C ((lnC x5.2.2.1) - 1)))) fun x8=>bif zj x8.2.2.1 x6.1 then aTC x5.2.2.1 (w6C ((lnC x5.2.2.1) - 1)) fun x9=>opt (gl x5.2.2.1 (Int.toNat (w6C ((lnC x5.2.2.1) - 1)))) fun x10=>some (0,(),(x5.2.2.1.set (Int.toNat (w6C ((lnC x5.2.2.1) - 1))) (x10.1,(upC s2.1.2.2.2.1),x10.2.2)),())else bif(qb x5.2.2.1.length (((s2.1.2.2.2.1,(upC s2.1.2.2.2.1),x6.1,0)::[]).length) 32)then some (0,(),(x5.2.2.1++((s2.1.2.2.2.1,(upC s2.1.2.2.2.1),x6.1,0)::[])),())else none else bif(qb x5.2.2.1.length (((s2.1.2.2.2.1,(upC s2.1.2.2.2.1),x6.1,0)::[]).length) 32)then some (0,(),(x5.2.2.1++((s2.1.2.2.2.1,(upC s2.1.2.2.2.1),x6.1,0)::[])),())else none) fun x11=>nxC ((s2.1.1,(),(),(upC s2.1.2.2.2.1),()),(s2.2.1.1,s2.2.1.2.1,()),(s2.2.2.1.1,s2.2.2.1.2.1,()),x11.2.2.1,())else bif qb 0 0 8 then bif(qb 0 ((s2.1.2.2.2.1::[]).length) 8)then bif(zj (lnC (s2.1.2.2.2.1::[])) (lnC s2.1.1.1))then some (.inl s2)else bif(qb x5.2.2.1.length (((s2.1.2.2.2.1,(upC s2.1.2.2.2.1),(-1),(lnC s2.2.1.1))::[]).length) 32)then bif(zg 0 (lnC s2.2.1.1))then opt (yq (s2.1.1,()) s2.2.1.1 s2.2.1.2.1 ((s2.1.2.2.2.1::[]),a1,())) fun x12=>bif(zg 0 (lnC x12.1))then bif !(zj x12.2.2 0)then some (.inl s2)else nxC ((s2.1.1,(),(),(upC s2.1.2.2.2.1),()),(x12.1,x12.2,()),(s2.2.2.1.1,s2.2.2.1.2.1,()),(x5.2.2.1++((s2.1.2.2.2.1,(upC s2.1.2.2.2.1),(-1),(lnC s2.2.1.1))::[])),())else none else none else none else none else none else some (.inl s2)else some (.inl s2)) fun x13=>aTC x13.1.1.1 0 fun x14=>bif zg x13.1.2.2.2.1 x14 then opt (bif zj x13.1.2.2.2.1 1 then aTC x13.1.1.1 0 fun x15=>bif(qb x13.2.2.2.1.length (((1,x15,(-2),0)::[]).length) 32)then some (1,(),(x13.2.2.2.1++((1,x15,(-2),0)::[])),())else none else some (0,(),x13.2.2.2.1,())) fun x16=>bif jzC x16 then opt (vJ (x13.1.1,[],x13.1.2.2.2.1,())) fun x17=>bif(!(zj x17.1 (-1)))then opt (bif(zg 0 (lnC x16.2.2.1))then aTC x16.2.2.1 (w6C ((lnC x16.2.2.1) - 1)) fun x18=>opt (gl x16.2.2.1 (Int.toNat (w6C ((lnC x16.2.2.1) - 1)))) fun x19=>bif zj x19.2.2.1 x17.1 then aTC x16.2.2.1 (w6C ((lnC x16.2.2.1) - 1)) fun x20=>opt (gl x16.2.2.1 (Int.toNat (w6C ((lnC x16.2.2.1) - 1)))) fun x21=>some (0,(),(x16.2.2.1.set (Int.toNat (w6C ((lnC x16.2.2.1) - 1))) (x21.1,(upC x13.1.2.2.2.1),x21.2.2)),())else bif(qb x16.2.2.1.length (((x13.1.2.2.2.1,(upC x13.1.2.2.2.1),x17.1,0)::[]).length) 32)then some (0,(),(x16.2.2.1++((x13.1.2.2.2.1,(upC x13.1.2.2.2.1),x17.1,0)::[])),())else none else bif(qb x16.2.2.1.length (((x13.1.2.2.2.1,(upC x13.1.2.2.2.1),x17.1,0)::[]).length) 32)then some (0,(),(x16.2.2.1++((x13.1.2.2.2.1,(upC x13.1.2.2.2.1),x17.1,0)::[])),())else none) fun x22=>none else bif qb 0 0 8 then bif(qb 0 ((x13.1.2.2.2.1::[]).length) 8)then bif(zj (lnC (x13.1.2.2.2.1::[])) (lnC x13.1.1.1))then some ((x13.1.2.2.2.1::[]),[],0,())else bif(qb x16.2.2.1.length (((x13.1.2.2.2.1,(upC x13.1.2.2.2.1),(-1),(lnC x13.2.1.1))::[]).length) 32)then bif(zg 0 (lnC x13.2.1.1))then opt (yq (x13.1.1,()) x13.2.1.1 x13.2.1.2.1 ((x13.1.2.2.2.1::[]),a1,())) fun x23=>bif(zg 0 (lnC x23.1))then bif !(zj x23.2.2 0)then bif zj x23.2.2 1 then some (x23.2.1,[],0,())else bif zj x23.2.2 2 then some ([],[],8,())else some ([],x23.1,4,())else none else none else none else none else none else none else aTC x13.2.1.1 0 fun x24=>opt (gl x13.2.1.1 (Int.toNat 0)) fun x25=>bif zj x13.2.1.2.1.2 1 then some (x13.2.1.2.1.1,[],0,())else bif zj x13.2.1.2.1.2 2 then some ([],[],8,())else some ([],(x13.2.1.1.set (Int.toNat 0) (x25.1,x16.2.2.1)),4,())else aTC x13.2.1.1 0 fun x26=>opt (gl x13.2.1.1 (Int.toNat 0)) fun x27=>bif zj x13.2.1.2.1.2 1 then some (x13.2.1.2.1.1,[],0,())else bif zj x13.2.1.2.1.2 2 then some ([],[],8,())else some ([],(x13.2.1.1.set (Int.toNat 0) (x27.1,x13.2.2.2.1)),4,())else none else some (x1.2.1.1,x1.2.1.2.1,x1.2.1.2.2.1,())
theorem zcK(Vs:(qO×Unit)->Option (Bool×Unit))(vJ:(qO×(List Int)×Int×Unit)->Option (Int×Unit))(yq:(qO×Unit)->List jK->((List Int)×Int)->((List Int)×Int×Unit)->Option (List jK×((List Int)×Int)))(a0:qO)(a1:Int):sFl prg ⟨[],[],[(102,⟨[⟨true,qY⟩],qB,(.pair (.list I) I),[⟨false,(.list I)⟩,⟨false,I⟩],yq⟩)]⟩ [(101,⟨Vd,Ve,Vs⟩),(165,⟨YM,YN,vJ⟩)] oi (zy [] [(9,133)]) 40 50 JE JF (a0,a1,())=bz Vs vJ yq a0 a1:=by kernel_rfl
def xc:(qO×Int×Unit)->Option ((List Int)×(List jK)×Int×Unit):=sFl prg ⟨[],[],[(102,⟨[⟨true,qY⟩],qB,(.pair (.list I) I),[⟨false,(.list I)⟩,⟨false,I⟩],Zp⟩)]⟩ [(101,⟨Vd,Ve,kx⟩),(165,⟨YM,YN,xM⟩)] oi (zy [] [(9,133)]) 40 50 JE JF
theorem NB:Con.Ok prg 50 ⟨JE,JF,xc⟩:=Dw ⟨yO,uS,(zfe NA uT)⟩ (ze Nv (ze tR zn)) qN (by kernel_rfl)
theorem NC(a0:qO)(a1:Int):xc (a0,a1,())=bz kx xM Zp a0 a1:=zcK kx xM Zp a0 a1
abbrev lO:List VT:=[⟨true,zP⟩,⟨true,yY⟩,⟨false,(.list zJ)⟩,⟨false,(.list I)⟩]
abbrev lP:List VT:=[⟨false,(.list ja)⟩]
def lQ(a0:qi)(a1:wj)(a2:(List qf))(a3:(List Int)):Option ((List yI)×Unit):=lpC ((a0,a1,0,0,()),[],()) (fun s0=>bif(zg s0.1.2.2.2.1 (lnC a2))then aTC a2 s0.1.2.2.2.1 fun x1=>bif !(zj x1.2.2.2.1 7)then nxC ((s0.1.1,s0.1.2.1,s0.1.2.2.1,(upC s0.1.2.2.2.1),()),s0.2.1,())else lpC ((s0.1.1,s0.1.2.1,0,()),s0.2.1,()) (fun s2=>aTC a2 s0.1.2.2.2.1 fun x3=>bif(zg s2.1.2.2.1 (lnC x3.2.2.2.2.2.2.2.2))then aTC a2 s0.1.2.2.2.1 fun x4=>aTC a2 s0.1.2.2.2.1 fun x5=>aTC x5.2.2.2.2.2.2.2.2 s2.1.2.2.1 fun x6=>opt (xH (s2.1.1,s2.1.2.1,x4,x6,())) fun x7=>lpC ((0,()),s2.2.1,()) (fun s8=>bif(zg s8.1.1 (lnC x7.1))then aTC x7.1 s8.1.1 fun x9=>bif zj s2.1.2.1.1 0 then none else aTC a2 s0.1.2.2.2.1 fun x10=>aTC x7.1 s8.1.1 fun x11=>aTC x7.1 s8.1.1 fun x12=>aTC a3 s0.1.2.2.1 fun x13=>aTC a2 s0.1.2.2.2.1 fun x14=>aTC x7.1 s8.1.1 fun x15=>bif(qb s8.2.1.length (((x10.1,x11.1,(w6C (x12.2.2.2.1+(w6C (x13*s2.1.2.1.1)))),(w6C (x14.2.2.2.2.2.1*s2.1.2.1.1)),(w6C ((w6C (Int.tdiv (w6C ((w6C (x9.2.2.2.2+s2.1.2.1.1)) - 1)) s2.1.2.1.1))*s2.1.2.1.1)),x15.2.2.2.2)::[]).length) 48)then nxC (((upC s8.1.1),()),(s8.2.1++((x10.1,x11.1,(w6C (x12.2.2.2.1+(w6C (x13*s2.1.2.1.1)))),(w6C (x14.2.2.2.2.2.1*s2.1.2.1.1)),(w6C ((w6C (Int.tdiv (w6C ((w6C (x9.2.2.2.2+s2.1.2.1.1)) - 1)) s2.1.2.1.1))*s2.1.2.1.1)),x15.2.2.2.2)::[])),())else none else exC 0 ((s8.1.1,()),s8.2.1,())) fun x16=>nxC ((s2.1.1,s2.1.2.1,(upC s2.1.2.2.1),()),x16.2.2.1,())else exC 0 ((s2.1.1,s2.1.2.1,s2.1.2.2.1,()),s2.2.1,())) fun x17=>nxC ((x17.2.1.1,x17.2.1.2.1,(upC s0.1.2.2.1),(upC s0.1.2.2.2.1),()),x17.2.2.1,())else exC 0 ((s0.1.1,s0.1.2.1,s0.1.2.2.1,s0.1.2.2.2.1,()),s0.2.1,())) fun x18=>some (x18.2.2.1,())
abbrev RW:Type:=(qi×wj×(List qf)×(List Int)×Unit)->Option ((List yI)×Unit)
def ZM:RW:=opq (sF prg [(19,XB)] (zG [cdF zJ,cdF zP,cdF ja,cdF gu,cdF qx,cdF zr] [] [⟨4,118,some 8,ja,false⟩,⟨4,118,some 9,ja,true⟩,⟨6,118,some 8,ja,false⟩,⟨6,118,some 9,ja,true⟩,⟨8,118,some 8,ja,false⟩,⟨8,118,some 9,ja,true⟩,⟨12,118,some 8,ja,false⟩,⟨12,118,some 9,ja,true⟩] [] []) (zy []) 30 103 lO lP)
abbrev lR:Con:=⟨lO,lP,ZM⟩
theorem Ei:Con.Ok prg 103 lR:=okF (ze YK zn) (by kernel_rfl)
theorem Ej(a0)(a1)(a2)(a3):ZM (a0,a1,a2,a3,())=lQ a0 a1 a2 a3:=zA (by kernel_rfl)
abbrev RX:List VT:=[⟨false,(.list ja)⟩,⟨false,I⟩,⟨false,I⟩]
abbrev RY:List VT:=[⟨false,.bool⟩]
def RZ(a0:(List yI))(a1:Int)(a2:Int):Option (Bool×Unit):=lpC ((false,0,()),()) (fun s0=>bif(zg s0.1.2.1 (lnC a0))then opt (aTC a0 s0.1.2.1 fun x1=>bif zj x1.2.1 a1 then aTC a0 s0.1.2.1 fun x2=>aTC a0 s0.1.2.1 fun x3=>opt (vo ((w6C (a2 - x2.2.2.1)),x3.2.2.2.1,())) fun x4=>aTC a0 s0.1.2.1 fun x5=>bif zg x4.1 x5.2.2.2.2.1 then some (1,(true,()),())else some (0,(s0.1.1,()),())else some (0,(s0.1.1,()),())) fun x6=>bif jzC x6 then nxC ((x6.2.1.1,(upC s0.1.2.1),()),())else exC 1 ((x6.2.1.1,s0.1.2.1,()),())else exC 0 ((s0.1.1,s0.1.2.1,()),())) fun x7=>bif jzC x7 then some (false,())else some (x7.2.1.1,())
abbrev zi3:Type:=((List yI)×Int×Int×Unit)->Option (Bool×Unit)
def YO:zi3:=opq (sF prg [(164,XC)] (zG [cdF ja] [] [] [] [164]) (zy []) 30 166 RX RY)
abbrev Sa:Con:=⟨RX,RY,YO⟩
theorem zcL:Con.Ok prg 166 Sa:=okF (ze YL zn) (by kernel_rfl)
theorem zcM(a0)(a1)(a2):YO (a0,a1,a2,())=RZ a0 a1 a2:=zA (by kernel_rfl)
abbrev Ek:List VT:=[⟨false,(.list ja)⟩,⟨false,I⟩,⟨false,I⟩,⟨false,I⟩]
abbrev El:List VT:=[⟨true,qD⟩]
def Em(a0:(List yI))(a1:Int)(a2:Int)(a3:Int):Option (jz×Unit):=lpC (((),0,()),([],(w6C (a2*a3)),()),()) (fun s0=>bif zg s0.1.2.1 a2 then opt (opt (YO (a0,a1,(w6C (s0.1.2.1*a3)),())) fun x1=>bif x1.1 then some (0,(128,()),())else some (0,(127,()),())) fun x2=>opt (bif(zg 0 (lnC s0.2.1.1))then aTC s0.2.1.1 (w6C ((lnC s0.2.1.1) - 1)) fun x3=>opt (gl s0.2.1.1 (Int.toNat (w6C ((lnC s0.2.1.1) - 1)))) fun x4=>bif zj x4.1 x2.2.1.1 then aTC s0.2.1.1 (w6C ((lnC s0.2.1.1) - 1)) fun x5=>opt (gl s0.2.1.1 (Int.toNat (w6C ((lnC s0.2.1.1) - 1)))) fun x6=>aTC s0.2.1.1 (w6C ((lnC s0.2.1.1) - 1)) fun x7=>opt (gl s0.2.1.1 (Int.toNat (w6C ((lnC s0.2.1.1) - 1)))) fun x8=>some (0,((),()),((s0.2.1.1.set (Int.toNat (w6C ((lnC s0.2.1.1) - 1))) (x8.1,(w6C (x6.2+a3)))),s0.2.1.2.1,()),())else bif(qb s0.2.1.1.length (((x2.2.1.1,a3)::[]).length) 16)then some (0,((),()),((s0.2.1.1++((x2.2.1.1,a3)::[])),s0.2.1.2.1,()),())else none else bif(qb s0.2.1.1.length (((x2.2.1.1,a3)::[]).length) 16)then some (0,((),()),((s0.2.1.1++((x2.2.1.1,a3)::[])),s0.2.1.2.1,()),())else none) fun x9=>nxC (((),(upC s0.1.2.1),()),(x9.2.2.1.1,x9.2.2.1.2.1,()),())else exC 0 (((),s0.1.2.1,()),(s0.2.1.1,s0.2.1.2.1,()),())) fun x10=>some ((x10.2.2.1.1,x10.2.2.1.2.1),())
abbrev zfE:Type:=((List yI)×Int×Int×Int×Unit)->Option (jz×Unit)
def Qu:zfE:=opq (sF prg [(166,Sa)] (zG [⟨qD,wi qD,[0]⟩,cdF jb] [] [⟨3,68,none,jb,true⟩,⟨6,68,none,jb,true⟩,⟨9,68,none,jb,true⟩] [(3,68,9,[0]),(9,68,9,[0])] [166]) (zy []) 30 104 Ek El)
abbrev En:Con:=⟨Ek,El,Qu⟩
theorem Sb:Con.Ok prg 104 En:=okF (ze zcL zn) (by kernel_rfl)
theorem Sc(a0)(a1)(a2)(a3):Qu (a0,a1,a2,a3,())=Em a0 a1 a2 a3:=zA (by kernel_rfl)
abbrev au:List VT:=[⟨true,zP⟩,⟨true,yY⟩,⟨false,(.list zJ)⟩,⟨false,(.list I)⟩,⟨false,I⟩]
abbrev aw:List VT:=[⟨false,(.list qD)⟩]
def Lu(a0:qi)(a1:wj)(a2:(List qf))(a3:(List Int))(a4:Int):Option ((List jz)×Unit):=opt (ZM (a0,a1,a2,a3,())) fun x0=>lpC ((a1,0,()),[],()) (fun s1=>bif(zg s1.1.2.1 (w6C (2*(lnC a0.2.2))))then opt (Qu (x0.1,s1.1.2.1,a4,s1.1.1.1,())) fun x2=>bif(qb s1.2.1.length ((x2.1::[]).length) 32)then nxC ((s1.1.1,(upC s1.1.2.1),()),(s1.2.1++(x2.1::[])),())else none else exC 0 ((s1.1.1,s1.1.2.1,()),s1.2.1,())) fun x3=>some (x3.2.2.1,())
abbrev Lv:Type:=(qi×wj×(List qf)×(List Int)×Int×Unit)->Option ((List jz)×Unit)
def uA:Lv:=opq (sF prg [(103,lR),(104,En)] (zG [cdF zP,cdF qx,cdF qD,cdF jb] [] [⟨4,37,some 10,qD,false⟩,⟨4,37,some 12,qD,true⟩] [] []) (zy []) 30 51 au aw)
abbrev zgF:Con:=⟨au,aw,uA⟩
theorem zar:Con.Ok prg 51 zgF:=okF (ze Ei (ze Sb zn)) (by kernel_rfl)
theorem zas(a0)(a1)(a2)(a3)(a4):uA (a0,a1,a2,a3,a4,())=Lu a0 a1 a2 a3 a4:=zA (by kernel_rfl)
abbrev tS:List VT:=[⟨true,qD⟩]
abbrev tT:List VT:=[⟨false,.bool⟩]
def tU(a0:jz):Option (Bool×Unit):=opt (bif(zg (lnC a0.1) 1)then some (1,(false,()),())else bif(zg 128 (lnC a0.1))then some (1,(false,()),())else some (0,(false,()),())) fun x0=>bif jzC x0 then lpC ((x0.2.1.1,0,0,()),()) (fun s1=>bif(zg s1.1.2.2.1 (lnC a0.1))then aTC a0.1 s1.1.2.2.1 fun x2=>opt (bif zg x2.1 0 then some (1,(false,()),())else bif zg 255 x2.1 then some (1,(false,()),())else bif zg x2.2 1 then some (1,(false,()),())else bif zg 9600000 x2.2 then some (1,(false,()),())else some (0,(s1.1.1,()),())) fun x3=>bif jzC x3 then nxC ((x3.2.1.1,(w6C (s1.1.2.1+x2.2)),(upC s1.1.2.2.1),()),())else exC 1 ((x3.2.1.1,s1.1.2.1,s1.1.2.2.1,()),())else exC 0 ((s1.1.1,s1.1.2.1,s1.1.2.2.1,()),())) fun x4=>bif jzC x4 then bif zj x4.2.1.2.1 a0.2 then some ((!(zg 9600000 x4.2.1.2.1)),())else some (false,())else some (x4.2.1.1,())else some (x0.2.1.1,())
abbrev zcN:Type:=(jz×Unit)->Option (Bool×Unit)
def JG:zcN:=opq (sF prg [] (zG [cdF qD,cdF jb] [] [] [] []) (zy []) 30 172 tS tT)
abbrev bA:Con:=⟨tS,tT,JG⟩
theorem eP:Con.Ok prg 172 bA:=okF zn (by kernel_rfl)
theorem ND(a0):JG (a0,())=tU a0:=zA (by kernel_rfl)
abbrev UX:List VT:=[⟨true,jy⟩]
abbrev UY:List VT:=[⟨false,I⟩]
def UZ(a0:wI):Option (Int×Unit):=opt (kr (a0.1,())) fun x0=>bif !x0.1 then some (260,())else opt (JC (a0.2.1,())) fun x1=>bif !x1.1 then some (320,())else lpC ((0,0,()),()) (fun s2=>bif(zg s2.1.2.1 (lnC a0.2.2.1))then aTC a0.2.2.1 s2.1.2.1 fun x3=>opt (JG (x3,())) fun x4=>bif !x4.1 then exC 1 ((370,s2.1.2.1,()),())else nxC ((s2.1.1,(upC s2.1.2.1),()),())else exC 0 ((s2.1.1,s2.1.2.1,()),())) fun x5=>bif jzC x5 then opt (bif(!(zj (lnC a0.2.2.1) (w6C (2*(lnC a0.1.2.2)))))then some (1,(410,()),())else bif zg a0.2.2.2 84 then some (1,(410,()),())else bif zg 1542 a0.2.2.2 then some (1,(410,()),())else some (0,(x5.2.1.1,()),())) fun x6=>bif jzC x6 then some (0,())else some (x6.2.1.1,())else some (x5.2.1.1,())
abbrev BG:Type:=(wI×Unit)->Option (Int×Unit)
def Zd:BG:=opq (sF prg [(96,JB),(97,bu),(172,bA)] (zG [cdF jy,cdF zP,cdF qx,cdF qD,cdF jb] [] [] [] [96,97,172]) (zy []) 30 109 UX UY)
abbrev Ga:Con:=⟨UX,UY,Zd⟩
theorem mZ:Con.Ok prg 109 Ga:=okF (ze QX (ze eF (ze eP zn))) (by kernel_rfl)
theorem nc(a0):Zd (a0,())=UZ a0:=zA (by kernel_rfl)
abbrev Eo:List VT:=[⟨true,jy⟩,⟨false,(.list zJ)⟩]
abbrev Ep:List VT:=[⟨false,I⟩]
def Er(a0:wI)(a1:(List qf)):Option (Int×Unit):=opt (Zd (a0,())) fun x0=>opt (bif zj x0.1 0 then opt (gO (a0.1,a1,())) fun x1=>some (0,(x1.1,()),())else some (0,(x0.1,()),())) fun x2=>bif !(zj x2.2.1.1 0)then some (x2.2.1.1,())else lpC ((0,0,()),()) (fun s3=>bif(zg s3.1.2.1 (lnC a1))then opt (aTC a1 s3.1.2.1 fun x4=>bif !(zj x4.2.2.2.1 6)then some (1,(2,()),())else aTC a1 s3.1.2.1 fun x5=>bif zg a0.2.2.2 x5.2.2.2.2.1 then some (1,(2,()),())else some (0,(s3.1.1,()),())) fun x6=>bif jzC x6 then nxC ((x6.2.1.1,(upC s3.1.2.1),()),())else exC 1 ((x6.2.1.1,s3.1.2.1,()),())else exC 0 ((s3.1.1,s3.1.2.1,()),())) fun x7=>bif jzC x7 then some (0,())else some (x7.2.1.1,())
abbrev zfF:Type:=(wI×(List qf)×Unit)->Option (Int×Unit)
def Yk:zfF:=opq (sF prg [(109,Ga),(98,VO)] (zG [cdF jy,cdF zJ,cdF zP,cdF qx,cdF qD,cdF jb] [] [] [] [109,98]) (zy []) 30 58 Eo Ep)
abbrev eQ:Con:=⟨Eo,Ep,Yk⟩
theorem lS:Con.Ok prg 58 eQ:=okF (ze mZ (ze UW zn)) (by kernel_rfl)
theorem Sd(a0)(a1):Yk (a0,a1,())=Er a0 a1:=zA (by kernel_rfl)
abbrev oj:List VT:=[⟨true,zJ⟩,⟨false,I⟩]
abbrev om:List VT:=[⟨false,.bool⟩]
def oo(a0:qf)(a1:Int):Option (Bool×Unit):=lpC ((false,0,()),()) (fun s0=>bif(zg s0.1.2.1 (lnC a0.2.2.2.2.2.2.2.2))then lpC ((s0.1.1,0,()),()) (fun s1=>aTC a0.2.2.2.2.2.2.2.2 s0.1.2.1 fun x2=>bif(zg s1.1.2.1 (lnC x2))then aTC a0.2.2.2.2.2.2.2.2 s0.1.2.1 fun x3=>aTC x3 s1.1.2.1 fun x4=>bif zj x4 a1 then exC 1 ((true,s1.1.2.1,()),())else nxC ((s1.1.1,(upC s1.1.2.1),()),())else exC 0 ((s1.1.1,s1.1.2.1,()),())) fun x5=>bif jzC x5 then nxC ((x5.2.1.1,(upC s0.1.2.1),()),())else exC 1 ((x5.2.1.1,s0.1.2.1,()),())else exC 0 ((s0.1.1,s0.1.2.1,()),())) fun x6=>bif jzC x6 then some (false,())else some (x6.2.1.1,())
abbrev zat:Type:=(qf×Int×Unit)->Option (Bool×Unit)
def YP:zat:=opq (sF prg [] (zG [cdF zJ,cdF zr] [] [] [] []) (zy []) 30 110 oj om)
abbrev oq:Con:=⟨oj,om,YP⟩
theorem HM:Con.Ok prg 110 oq:=okF zn (by kernel_rfl)
theorem HN(a0)(a1):YP (a0,a1,())=oo a0 a1:=zA (by kernel_rfl)
abbrev Es:List VT:=[⟨true,qD⟩,⟨false,I⟩,⟨false,I⟩]
abbrev Et:List VT:=[⟨false,I⟩]
def Eu(a0:jz)(a1:Int)(a2:Int):Option (Int×Unit):=opt (JG (a0,())) fun x0=>bif !x0.1 then some (370,())else opt (bif zg a1 1 then some (1,(2,()),())else bif zg 1000 a1 then some (1,(2,()),())else bif zg a2 84 then some (1,(2,()),())else bif zg 1542 a2 then some (1,(2,()),())else some (0,(0,()),())) fun x1=>bif jzC x1 then some (0,())else some (x1.2.1.1,())
abbrev zfG:Type:=(jz×Int×Int×Unit)->Option (Int×Unit)
def KR:zfG:=opq (sF prg [(172,bA)] (zG [cdF qD,cdF jb] [] [] [] [172]) (zy []) 30 173 Es Et)
abbrev Ew:Con:=⟨Es,Et,KR⟩
theorem Se:Con.Ok prg 173 Ew:=okF (ze eP zn) (by kernel_rfl)
theorem Sf(a0)(a1)(a2):KR (a0,a1,a2,())=Eu a0 a1 a2:=zA (by kernel_rfl)
abbrev Lw:List VT:=[⟨false,I⟩,⟨false,I⟩]
abbrev Lx:List VT:=[⟨false,.bool⟩]
def Ly(a0:Int)(a1:Int):Option (Bool×Unit):=bif zg (wrF .u64 a1) 0 then none else some ((zj (Int.tmod (wF .i64 a0 (wrF .u64 a1)) 2) 1),())
abbrev zgG:Type:=(Int×Int×Unit)->Option (Bool×Unit)
def JY:zgG:=opq (sF prg [] (zG [] [] [] [] []) (zy []) 30 230 Lw Lx)
abbrev ay:Con:=⟨Lw,Lx,JY⟩
theorem GL:Con.Ok prg 230 ay:=okF zn (by kernel_rfl)
theorem zau(a0)(a1):JY (a0,a1,())=Ly a0 a1:=zA (by kernel_rfl)
abbrev ot:List VT:=[⟨true,qD⟩]
abbrev ou:List VT:=[⟨false,.bool⟩]
def ov(a0:jz):Option (Bool×Unit):=lpC ((false,0,()),()) (fun s0=>bif(zg s0.1.2.1 (lnC a0.1))then aTC a0.1 s0.1.2.1 fun x1=>opt (JY (x1.1,6,())) fun x2=>bif !x2.1 then exC 1 ((false,s0.1.2.1,()),())else nxC ((s0.1.1,(upC s0.1.2.1),()),())else exC 0 ((s0.1.1,s0.1.2.1,()),())) fun x3=>bif jzC x3 then some (true,())else some (x3.2.1.1,())
abbrev zav:Type:=(jz×Unit)->Option (Bool×Unit)
def uj:zav:=opq (sF prg [(230,ay)] (zG [cdF qD,cdF jb] [] [] [] [230]) (zy []) 30 175 ot ou)
abbrev YQ:Con:=⟨ot,ou,uj⟩
theorem Xn:Con.Ok prg 175 YQ:=okF (ze GL zn) (by kernel_rfl)
theorem HO(a0):uj (a0,())=ov a0:=zA (by kernel_rfl)
abbrev Sg:List VT:=[⟨true,qD⟩,⟨false,I⟩]
abbrev Sh:List VT:=[⟨false,I⟩,⟨false,I⟩]
def Si(a0:jz)(a1:Int):Option (Int×Int×Unit):=bif zj a0.2 0 then none else opt (bif zg (Int.tmod a1 a0.2) 0 then some (0,((w6C ((Int.tmod a1 a0.2)+a0.2)),()),())else some (0,((Int.tmod a1 a0.2),()),())) fun x0=>lpC ((x0.2.1.1,0,()),()) (fun s1=>aTC a0.1 s1.1.2.1 fun x2=>bif !(zg s1.1.1 x2.2)then aTC a0.1 s1.1.2.1 fun x3=>nxC (((w6C (s1.1.1 - x3.2)),(upC s1.1.2.1),()),())else exC 0 ((s1.1.1,s1.1.2.1,()),())) fun x4=>some (x4.2.1.2.1,x4.2.1.1,())
abbrev zi4:Type:=(jz×Int×Unit)->Option (Int×Int×Unit)
def YR:zi4:=opq (sF prg [] (zG [cdF qD,cdF jb] [] [] [] []) (zy []) 30 254 Sg Sh)
abbrev Sj:Con:=⟨Sg,Sh,YR⟩
theorem zcO:Con.Ok prg 254 Sj:=okF zn (by kernel_rfl)
theorem zcP(a0)(a1):YR (a0,a1,())=Si a0 a1:=zA (by kernel_rfl)
abbrev eR:List VT:=[⟨true,qD⟩,⟨false,I⟩,⟨false,I⟩]
abbrev eS:List VT:=[⟨false,(.list jj)⟩]
def eU(a0:jz)(a1:Int)(a2:Int):Option ((List yw)×Unit):=lpC ((false,a1,()),[],()) (fun s0=>bif zg s0.1.2.1 a2 then opt (YR (a0,s0.1.2.1,())) fun x1=>aTC a0.1 x1.1 fun x2=>aTC a0.1 x1.1 fun x3=>opt (JY (x3.1,6,())) fun x4=>opt (bif x4.1 then bif s0.1.1 then aTC s0.2.1 (w6C ((lnC s0.2.1) - 1)) fun x5=>opt (gl s0.2.1 (Int.toNat (w6C ((lnC s0.2.1) - 1)))) fun x6=>some (0,(),(s0.2.1.set (Int.toNat (w6C ((lnC s0.2.1) - 1))) (x6.1,(wK (w6C ((w6C (s0.1.2.1 - x1.2.1))+x2.2)) a2))),())else some (0,(),s0.2.1,())else some (0,(),s0.2.1,())) fun x7=>opt (bif x4.1 then bif !s0.1.1 then bif(qb x7.2.2.1.length (((s0.1.2.1,(wK (w6C ((w6C (s0.1.2.1 - x1.2.1))+x2.2)) a2))::[]).length) 16)then some (0,(),(x7.2.2.1++((s0.1.2.1,(wK (w6C ((w6C (s0.1.2.1 - x1.2.1))+x2.2)) a2))::[])),())else none else some (0,(),x7.2.2.1,())else some (0,(),x7.2.2.1,())) fun x8=>nxC ((x4.1,(wK (w6C ((w6C (s0.1.2.1 - x1.2.1))+x2.2)) a2),()),x8.2.2.1,())else exC 0 ((s0.1.1,s0.1.2.1,()),s0.2.1,())) fun x9=>some (x9.2.2.1,())
abbrev NF:Type:=(jz×Int×Int×Unit)->Option ((List yw)×Unit)
def xQ:NF:=opq (sF prg [(254,Sj),(230,ay)] (zG [cdF qD,cdF jb] [] [⟨4,68,some 6,jj,false⟩,⟨4,68,some 7,jj,true⟩,⟨8,68,some 6,jj,false⟩,⟨8,68,some 7,jj,true⟩,⟨10,68,some 6,jj,false⟩,⟨10,68,some 7,jj,true⟩] [] [254,230]) (zy []) 30 231 eR eS)
abbrev VQ:Con:=⟨eR,eS,xQ⟩
theorem Gb:Con.Ok prg 231 VQ:=okF (ze zcO (ze GL zn)) (by kernel_rfl)
theorem BH(a0)(a1)(a2):xQ (a0,a1,a2,())=eU a0 a1 a2:=zA (by kernel_rfl)
abbrev tV:List VT:=[⟨true,qD⟩]
abbrev tW:List VT:=[⟨false,(.list jj)⟩]
def tX(a0:jz):Option ((List yw)×Unit):=lpC ((0,0,()),()) (fun s0=>bif(zg s0.1.2.1 (lnC a0.1))then aTC a0.1 s0.1.2.1 fun x1=>opt (JY (x1.1,6,())) fun x2=>bif x2.1 then aTC a0.1 s0.1.2.1 fun x3=>nxC (((w6C (s0.1.1+x3.2)),(upC s0.1.2.1),()),())else exC 0 ((s0.1.1,s0.1.2.1,()),())else exC 0 ((s0.1.1,s0.1.2.1,()),())) fun x4=>opt (xQ (a0,x4.2.1.1,(w6C (x4.2.1.1+a0.2)),())) fun x5=>some (x5.1,())
abbrev zcQ:Type:=(jz×Unit)->Option ((List yw)×Unit)
def Zq:zcQ:=opq (sF prg [(230,ay),(231,VQ)] (zG [cdF qD,cdF jb] [] [⟨3,36,some 2,jj,false⟩] [] [230]) (zy []) 30 176 tV tW)
abbrev bB:Con:=⟨tV,tW,Zq⟩
theorem eV:Con.Ok prg 176 bB:=okF (ze GL (ze Gb zn)) (by kernel_rfl)
theorem NG(a0):Zq (a0,())=tX a0:=zA (by kernel_rfl)
abbrev Lz:List VT:=[⟨false,(.list jj)⟩,⟨false,I⟩]
abbrev LA:List VT:=[⟨false,I⟩]
def LB(a0:(List yw))(a1:Int):Option (Int×Unit):=lpC ((0,0,()),()) (fun s0=>bif(zg s0.1.2.1 (lnC a0))then aTC a0 s0.1.2.1 fun x1=>aTC a0 s0.1.2.1 fun x2=>nxC (((w6C (s0.1.1+(jS 0 (w6C ((w6C (x1.2 - x2.1)) - a1))))),(upC s0.1.2.1),()),())else exC 0 ((s0.1.1,s0.1.2.1,()),())) fun x3=>some (x3.2.1.1,())
abbrev zgH:Type:=((List yw)×Int×Unit)->Option (Int×Unit)
def JZ:zgH:=opq (sF prg [] (zG [cdF jj] [] [] [] []) (zy []) 30 229 Lz LA)
abbrev nf:Con:=⟨Lz,LA,JZ⟩
theorem ow:Con.Ok prg 229 nf:=okF zn (by kernel_rfl)
theorem zaw(a0)(a1):JZ (a0,a1,())=LB a0 a1:=zA (by kernel_rfl)
abbrev tY:List VT:=[⟨true,qD⟩,⟨false,I⟩,⟨false,I⟩]
abbrev tZ:List VT:=[⟨false,I⟩]
def Aa(a0:jz)(a1:Int)(a2:Int):Option (Int×Unit):=opt (uj (a0,())) fun x0=>bif x0.1 then some (a0.2,())else opt (Zq (a0,())) fun x1=>opt (JZ (x1.1,(w6C (a2*a1)),())) fun x2=>some (x2.1,())
abbrev zcR:Type:=(jz×Int×Int×Unit)->Option (Int×Unit)
def Vf:zcR:=opq (sF prg [(175,YQ),(176,bB),(229,nf)] (zG [cdF qD,cdF jb] [] [] [] [175,229]) (zy []) 30 174 tY tZ)
abbrev Ab:Con:=⟨tY,tZ,Vf⟩
theorem NH:Con.Ok prg 174 Ab:=okF (ze Xn (ze eV (ze ow zn))) (by kernel_rfl)
theorem NI(a0)(a1)(a2):Vf (a0,a1,a2,())=Aa a0 a1 a2:=zA (by kernel_rfl)
abbrev Ac:List VT:=[⟨true,qD⟩,⟨false,I⟩,⟨false,I⟩,⟨false,I⟩,⟨false,I⟩]
abbrev Ad:List VT:=[⟨false,I⟩]
def Ae(a0:jz)(a1:Int)(a2:Int)(a3:Int)(a4:Int):Option (Int×Unit):=opt (uj (a0,())) fun x0=>bif x0.1 then some ((w6C (a4 - (w6C (127*a1)))),())else opt (xQ (a0,a3,(w6C (a3+a4)),())) fun x1=>opt (JZ (x1.1,(w6C (a2*a1)),())) fun x2=>some ((w6C (x2.1 - (w6C (127*a1)))),())
abbrev zcS:Type:=(jz×Int×Int×Int×Int×Unit)->Option (Int×Unit)
def Vg:zcS:=opq (sF prg [(175,YQ),(231,VQ),(229,nf)] (zG [cdF qD,cdF jb] [] [] [] [175,229]) (zy []) 30 177 Ac Ad)
abbrev Af:Con:=⟨Ac,Ad,Vg⟩
theorem NJ:Con.Ok prg 177 Af:=okF (ze Xn (ze Gb (ze ow zn))) (by kernel_rfl)
theorem NK(a0)(a1)(a2)(a3)(a4):Vg (a0,a1,a2,a3,a4,())=Ae a0 a1 a2 a3 a4:=zA (by kernel_rfl)
abbrev Sk:List VT:=[⟨true,qD⟩,⟨false,I⟩,⟨false,I⟩]
abbrev Sl:List VT:=[⟨true,Qf⟩,⟨false,I⟩]
def Sm(a0:jz)(a1:Int)(a2:Int):Option (kX×Int×Unit):=opt (KR (a0,a1,a2,())) fun x0=>bif !(zj x0.1 0)then some ((0,0),x0.1,())else opt (Vf (a0,a1,a2,())) fun x1=>bif(zj (w6C (a0.2*a1)) 0)then none else bif(zg (w6C (Int.tdiv (w6C (x1.1*1048576)) (w6C (a0.2*a1)))) 1)then some ((0,0),4,())else opt (opt (uj (a0,())) fun x2=>bif !x2.1 then opt (Zq (a0,())) fun x3=>lpC (((w6C ((w6C (127*a1))*1048576)),0,()),()) (fun s4=>bif(zg s4.1.2.1 (lnC x3.1))then aTC x3.1 s4.1.2.1 fun x5=>aTC x3.1 s4.1.2.1 fun x6=>aTC x3.1 s4.1.2.1 fun x7=>lpC ((s4.1.1,0,()),()) (fun s8=>bif(zg s8.1.2.1 (w6C (2*(lnC x3.1))))then bif(zj (lnC x3.1) 0)then none else aTC x3.1 (Int.tmod s8.1.2.1 (lnC x3.1)) fun x9=>bif(zj (lnC x3.1) 0)then none else opt (bif(zg (w6C (x5.2 - (wK (w6C (x6.2 - x7.1)) (w6C (a2*a1))))) (w6C ((w6C (x9.1+(wK (w6C (x9.2 - x9.1)) (w6C (a2*a1)))))+(w6C ((w6C (Int.tdiv s8.1.2.1 (lnC x3.1)))*a0.2)))))then opt (Vg (a0,a1,a2,(w6C (x5.2 - (wK (w6C (x6.2 - x7.1)) (w6C (a2*a1))))),(w6C ((w6C ((w6C (x9.1+(wK (w6C (x9.2 - x9.1)) (w6C (a2*a1)))))+(w6C ((w6C (Int.tdiv s8.1.2.1 (lnC x3.1)))*a0.2)))) - (w6C (x5.2 - (wK (w6C (x6.2 - x7.1)) (w6C (a2*a1))))))),())) fun x10=>some (0,((jS s8.1.1 (w6C ((w6C ((w6C ((w6C ((w6C ((w6C (x9.1+(wK (w6C (x9.2 - x9.1)) (w6C (a2*a1)))))+(w6C ((w6C (Int.tdiv s8.1.2.1 (lnC x3.1)))*a0.2)))) - (w6C (x5.2 - (wK (w6C (x6.2 - x7.1)) (w6C (a2*a1)))))))*(w6C (Int.tdiv (w6C (x1.1*1048576)) (w6C (a0.2*a1))))))*a1)) - (w6C (x10.1*1048576))))),()),())else some (0,(s8.1.1,()),())) fun x11=>nxC ((x11.2.1.1,(upC s8.1.2.1),()),())else exC 0 ((s8.1.1,s8.1.2.1,()),())) fun x12=>nxC ((x12.2.1.1,(upC s4.1.2.1),()),())else exC 0 ((s4.1.1,s4.1.2.1,()),())) fun x13=>some (0,(a0,x13.2.1.1,()),())else some (0,(a0,(w6C ((w6C (127*a1))*1048576)),()),())) fun x14=>bif(zj (w6C ((w6C (Int.tdiv (w6C (x1.1*1048576)) (w6C (a0.2*a1))))*a1)) 0)then none else some (((w6C (Int.tdiv (w6C (x1.1*1048576)) (w6C (a0.2*a1)))),(w6C (Int.tdiv (w6C ((w6C (x14.2.1.2.1+(w6C ((w6C (Int.tdiv (w6C (x1.1*1048576)) (w6C (a0.2*a1))))*a1)))) - 1)) (w6C ((w6C (Int.tdiv (w6C (x1.1*1048576)) (w6C (a0.2*a1))))*a1))))),0,())
abbrev zi5:Type:=(jz×Int×Int×Unit)->Option (kX×Int×Unit)
def KS:zi5:=opq (sF prg [(173,Ew),(174,Ab),(175,YQ),(176,bB),(177,Af)] (zG [cdF qD,cdF jb] [] [] [] [173,174,175,177]) (zy []) 30 111 Sk Sl)
abbrev Sn:Con:=⟨Sk,Sl,KS⟩
theorem zcT:Con.Ok prg 111 Sn:=okF (ze Se (ze NH (ze Xn (ze eV (ze NJ zn))))) (by kernel_rfl)
theorem zcU(a0)(a1)(a2):KS (a0,a1,a2,())=Sm a0 a1 a2:=zA (by kernel_rfl)
abbrev Ag:List VT:=[⟨true,zr⟩]
abbrev Ah:List VT:=[⟨false,.bool⟩]
def bC(a0:zC):Option (Bool×Unit):=bif !(zg a0.1 1)then bif !(zg 1048576 a0.1)then bif !(zg a0.2 1)then some ((!(zg 2097152 a0.2)),())else some (false,())else some (false,())else some (false,())
abbrev zcV:Type:=(zC×Unit)->Option (Bool×Unit)
def wW:zcV:=opq (sF prg [] (zG [cdF zr] [] [] [] []) (zy []) 30 60 Ag Ah)
abbrev kz:Con:=⟨Ag,Ah,wW⟩
theorem uk:Con.Ok prg 60 kz:=okF zn (by kernel_rfl)
theorem eW(a0):wW (a0,())=bC a0:=zA (by kernel_rfl)
abbrev LC:List VT:=[⟨false,(.list zr)⟩]
abbrev LD:List VT:=[⟨true,zr⟩,⟨false,I⟩]
def LF(a0:(List zC)):Option (zC×Int×Unit):=bif(zj (lnC a0) 0)then some ((0,0),2,())else bif(zg 12 (lnC a0))then some ((0,0),3,())else lpC (((0,0),(0,0),0,0,()),()) (fun s0=>bif(zg s0.1.2.2.2.1 (lnC a0))then aTC a0 s0.1.2.2.2.1 fun x1=>opt (wW (x1,())) fun x2=>bif !x2.1 then exC 1 (((0,0),s0.1.2.1,130,s0.1.2.2.2.1,()),())else aTC a0 s0.1.2.2.2.1 fun x3=>aTC a0 s0.1.2.2.2.1 fun x4=>nxC ((s0.1.1,((w6C (s0.1.2.1.1+x3.1)),(w6C (s0.1.2.1.2+x4.2))),s0.1.2.2.1,(upC s0.1.2.2.2.1),()),())else exC 0 ((s0.1.1,s0.1.2.1,s0.1.2.2.1,s0.1.2.2.2.1,()),())) fun x5=>bif jzC x5 then opt (wW (x5.2.1.2.1,())) fun x6=>bif !x6.1 then some ((0,0),6,())else some (x5.2.1.2.1,0,())else some (x5.2.1.1,x5.2.1.2.2.1,())
abbrev zgI:Type:=((List zC)×Unit)->Option (zC×Int×Unit)
def az:zgI:=opq (sF prg [(60,kz)] (zG [cdF zr] [] [] [] [60]) (zy []) 30 112 LC LD)
abbrev LG:Con:=⟨LC,LD,az⟩
theorem zax:Con.Ok prg 112 LG:=okF (ze uk zn) (by kernel_rfl)
theorem zay(a0):az (a0,())=LF a0:=zA (by kernel_rfl)
abbrev Ai:List VT:=[⟨true,Qf⟩]
abbrev Aj:List VT:=[⟨false,.bool⟩]
def bD(a0:kX):Option (Bool×Unit):=bif !(zg a0.1 1)then bif !(zg 2097152 a0.1)then bif !(zg a0.2 0)then some ((!(zg 268435456 a0.2)),())else some (false,())else some (false,())else some (false,())
abbrev zcW:Type:=(kX×Unit)->Option (Bool×Unit)
def Zr:zcW:=opq (sF prg [] (zG [cdF Qf] [] [] [] []) (zy []) 30 178 Ai Aj)
abbrev Ak:Con:=⟨Ai,Aj,Zr⟩
theorem NL:Con.Ok prg 178 Ak:=okF zn (by kernel_rfl)
theorem eX(a0):Zr (a0,())=bD a0:=zA (by kernel_rfl)
abbrev Ex:List VT:=[⟨false,(.list zr)⟩,⟨false,I⟩]
abbrev Ey:List VT:=[⟨false,.bool⟩]
def Ez(a0:(List zC))(a1:Int):Option (Bool×Unit):=lpC ((false,0,()),()) (fun s0=>bif(zg s0.1.2.1 (lnC a0))then aTC a0 s0.1.2.1 fun x1=>bif !(zg a1 x1.2)then exC 1 ((true,s0.1.2.1,()),())else nxC ((s0.1.1,(upC s0.1.2.1),()),())else exC 0 ((s0.1.1,s0.1.2.1,()),())) fun x2=>bif jzC x2 then some (false,())else some (x2.2.1.1,())
abbrev zfH:Type:=((List zC)×Int×Unit)->Option (Bool×Unit)
def KT:zfH:=opq (sF prg [] (zG [cdF zr] [] [] [] []) (zy []) 30 179 Ex Ey)
abbrev EA:Con:=⟨Ex,Ey,KT⟩
theorem So:Con.Ok prg 179 EA:=okF zn (by kernel_rfl)
theorem Sp(a0)(a1):KT (a0,a1,())=Ez a0 a1:=zA (by kernel_rfl)
abbrev EB:List VT:=[⟨false,I⟩,⟨false,I⟩]
abbrev EC:List VT:=[⟨false,I⟩]
def ED(a0:Int)(a1:Int):Option (Int×Unit):=bif zj a1 0 then none else opt (bif(zg (w6C ((w6C (Int.tdiv a0 a1))*a1)) a0)then some (0,((upC (w6C (Int.tdiv a0 a1))),()),())else some (0,((w6C (Int.tdiv a0 a1)),()),())) fun x0=>some (x0.2.1.1,())
abbrev zfI:Type:=(Int×Int×Unit)->Option (Int×Unit)
def uL:zfI:=opq (sF prg [] (zG [] [] [] [] []) (zy []) 30 132 EB EC)
abbrev KU:Con:=⟨EB,EC,uL⟩
theorem KV:Con.Ok prg 132 KU:=okF zn (by kernel_rfl)
theorem Sq(a0)(a1):uL (a0,a1,())=ED a0 a1:=zA (by kernel_rfl)
abbrev eY:List VT:=[⟨false,(.list zr)⟩,⟨false,I⟩]
abbrev eZ:List VT:=[⟨false,I⟩]
def fa(a0:(List zC))(a1:Int):Option (Int×Unit):=lpC (((-1),0,()),()) (fun s0=>bif(zg s0.1.2.1 (lnC a0))then aTC a0 s0.1.2.1 fun x1=>bif zg a1 x1.2 then nxC ((s0.1.1,(upC s0.1.2.1),()),())else opt (uL ((w6C (x1.1*1048576)),a1,())) fun x2=>opt (bif zg s0.1.1 0 then some (0,(x2.1,()),())else bif zg x2.1 s0.1.1 then some (0,(x2.1,()),())else some (0,(s0.1.1,()),())) fun x3=>lpC ((x3.2.1.1,0,()),()) (fun s4=>bif(zg s4.1.2.1 (lnC a0))then aTC a0 s4.1.2.1 fun x5=>opt (bif zg a1 x5.2 then bif zg x5.1 x1.1 then opt (uL ((w6C ((w6C ((w6C ((w6C (x5.2 - a1))*x1.1))+(w6C ((w6C (a1 - x1.2))*x5.1))))*1048576)),(w6C (a1*(w6C (x5.2 - x1.2)))),())) fun x6=>some (0,((wK s4.1.1 x6.1),()),())else some (0,(s4.1.1,()),())else some (0,(s4.1.1,()),())) fun x7=>nxC ((x7.2.1.1,(upC s4.1.2.1),()),())else exC 0 ((s4.1.1,s4.1.2.1,()),())) fun x8=>nxC ((x8.2.1.1,(upC s0.1.2.1),()),())else exC 0 ((s0.1.1,s0.1.2.1,()),())) fun x9=>some (x9.2.1.1,())
abbrev NM:Type:=((List zC)×Int×Unit)->Option (Int×Unit)
def QZ:NM:=opq (sF prg [(132,KU)] (zG [cdF zr] [] [] [] [132]) (zy []) 30 180 eY eZ)
abbrev fb:Con:=⟨eY,eZ,QZ⟩
theorem BI:Con.Ok prg 180 fb:=okF (ze KV zn) (by kernel_rfl)
theorem BJ(a0)(a1):QZ (a0,a1,())=fa a0 a1:=zA (by kernel_rfl)
abbrev Al:List VT:=[⟨false,(.list zr)⟩,⟨true,Qf⟩]
abbrev Am:List VT:=[⟨false,I⟩,⟨false,I⟩]
def bE(a0:(List zC))(a1:kX):Option (Int×Int×Unit):=bif(zj (lnC a0) 0)then some (0,2,())else bif(zg 12 (lnC a0))then some (0,3,())else lpC ((0,0,0,()),()) (fun s0=>bif(zg s0.1.2.2.1 (lnC a0))then aTC a0 s0.1.2.2.1 fun x1=>opt (wW (x1,())) fun x2=>bif !x2.1 then exC 1 ((0,130,s0.1.2.2.1,()),())else nxC ((s0.1.1,s0.1.2.1,(upC s0.1.2.2.1),()),())else exC 0 ((s0.1.1,s0.1.2.1,s0.1.2.2.1,()),())) fun x3=>bif jzC x3 then opt (Zr (a1,())) fun x4=>bif !x4.1 then some (0,140,())else opt (KT (a0,a1.1,())) fun x5=>bif !x5.1 then some (0,141,())else opt (QZ (a0,a1.1,())) fun x6=>some ((w6C (a1.2+x6.1)),0,())else some (x3.2.1.1,x3.2.1.2.1,())
abbrev zcX:Type:=((List zC)×kX×Unit)->Option (Int×Int×Unit)
def Zs:zcX:=opq (sF prg [(60,kz),(178,Ak),(179,EA),(180,fb)] (zG [cdF Qf] [] [] [] [60,178,179,180]) (zy []) 30 113 Al Am)
abbrev bF:Con:=⟨Al,Am,Zs⟩
theorem fc:Con.Ok prg 113 bF:=okF (ze uk (ze NL (ze So (ze BI zn)))) (by kernel_rfl)
theorem fe(a0)(a1):Zs (a0,a1,())=bE a0 a1:=zA (by kernel_rfl)
abbrev lT:List VT:=[⟨true,zr⟩,⟨true,Qf⟩]
abbrev lU:List VT:=[⟨false,I⟩,⟨false,I⟩]
def lV(a0:zC)(a1:kX):Option (Int×Int×Unit):=opt (Zs ((a0::[]),a1,())) fun x0=>bif !(zj x0.2.1 0)then some (0,x0.2.1,())else opt (uL ((w6C (a0.2*a1.2)),1048576,())) fun x1=>some ((w6C (a0.1+x1.1)),0,())
abbrev Sr:Type:=(zC×kX×Unit)->Option (Int×Int×Unit)
def Wt:Sr:=opq (sF prg [(113,bF),(132,KU)] (zG [cdF zr] [] [] [] [113,132]) (zy []) 30 114 lT lU)
abbrev lW:Con:=⟨lT,lU,Wt⟩
theorem EE:Con.Ok prg 114 lW:=okF (ze fc (ze KV zn)) (by kernel_rfl)
theorem EF(a0)(a1):Wt (a0,a1,())=lV a0 a1:=zA (by kernel_rfl)
abbrev LH:List VT:=[⟨true,jy⟩,⟨false,(.list zJ)⟩,⟨false,I⟩]
abbrev LJ:List VT:=[⟨true,Qg⟩,⟨false,I⟩]
def LK(a0:wI)(a1:(List qf))(a2:Int):Option (da×Int×Unit):=lpC ((0,()),[],()) (fun s0=>bif(zg s0.1.1 (lnC a1))then opt (aTC a1 s0.1.1 fun x1=>opt (YP (x1,a2,())) fun x2=>bif x2.1 then aTC a1 s0.1.1 fun x3=>bif(qb s0.2.1.length ((x3.2.2.2.2.2.2.1::[]).length) 16)then some (0,(),(s0.2.1++(x3.2.2.2.2.2.2.1::[])),())else none else some (0,(),s0.2.1,())) fun x4=>nxC (((upC s0.1.1),()),x4.2.2.1,())else exC 0 ((s0.1.1,()),s0.2.1,())) fun x5=>bif(zj (lnC x5.2.2.1) 0)then some (((0,0),(0,0),0,0),4,())else aTC a0.2.2.1 a2 fun x6=>opt (JX (a0.1,a2,())) fun x7=>opt (KS (x6,x7.1,a0.2.2.2,())) fun x8=>bif !(zj x8.2.1 0)then some (((0,0),(0,0),0,0),411,())else opt (az (x5.2.2.1,())) fun x9=>bif !(zj x9.2.1 0)then some (((0,0),(0,0),0,0),6,())else opt (Zs ((x9.1::[]),x8.1,())) fun x10=>bif !(zj x10.2.1 0)then some (((0,0),(0,0),0,0),141,())else opt (Wt (x9.1,x8.1,())) fun x11=>some ((x9.1,x8.1,x10.1,x11.1),0,())
abbrev zgJ:Type:=(wI×(List qf)×Int×Unit)->Option (da×Int×Unit)
def uB:zgJ:=opq (sF prg [(110,oq),(56,mX),(111,Sn),(112,LG),(113,bF),(114,lW)] (zG [cdF jy,cdF zJ,cdF Qg,cdF zP,cdF qx,cdF qD,cdF jb] [] [⟨3,87,some 8,zr,true⟩,⟨5,87,some 8,zr,true⟩,⟨7,87,some 8,zr,true⟩,⟨10,87,some 8,zr,true⟩,⟨13,87,some 8,zr,true⟩,⟨16,87,some 8,zr,true⟩] [] [110,56,111,112,113,114]) (zy []) 30 59 LH LJ)
abbrev aA:Con:=⟨LH,LJ,uB⟩
theorem GM:Con.Ok prg 59 aA:=okF (ze HM (ze oh (ze zcT (ze zax (ze fc (ze EE zn)))))) (by kernel_rfl)
theorem zaz(a0)(a1)(a2):uB (a0,a1,a2,())=LK a0 a1 a2:=zA (by kernel_rfl)
abbrev EG:List VT:=[⟨true,jy⟩,⟨false,(.list zJ)⟩,⟨false,(.list I)⟩]
abbrev EH:List VT:=[⟨false,I⟩,⟨false,I⟩]
def EI(a0:wI)(a1:(List qf))(a2:(List Int)):Option (Int×Int×Unit):=lpC ((0,0,0,0,()),()) (fun s0=>bif(zg s0.1.2.2.2.1 (lnC a2))then aTC a2 s0.1.2.2.2.1 fun x1=>opt (uB (a0,a1,x1,())) fun x2=>bif !(zj x2.2.1 0)then exC 1 ((0,x2.2.1,s0.1.2.2.1,s0.1.2.2.2.1,()),())else aTC a2 s0.1.2.2.2.1 fun x3=>opt (ku (a0.1,x3,())) fun x4=>nxC ((s0.1.1,s0.1.2.1,(w6C ((w6C ((w6C (s0.1.2.2.1+x2.1.2.2.1))+x4.1))+a0.2.1.2.2.1)),(upC s0.1.2.2.2.1),()),())else exC 0 ((s0.1.1,s0.1.2.1,s0.1.2.2.1,s0.1.2.2.2.1,()),())) fun x5=>bif jzC x5 then some (x5.2.1.2.2.1,0,())else some (x5.2.1.1,x5.2.1.2.1,())
abbrev zfJ:Type:=(wI×(List qf)×(List Int)×Unit)->Option (Int×Int×Unit)
def Qv:zfJ:=opq (sF prg [(59,aA),(57,Vc)] (zG [cdF jy,cdF Qg,cdF zP,cdF qx,cdF qD,cdF jb] [] [] [] [59,57]) (zy []) 30 108 EG EH)
abbrev EJ:Con:=⟨EG,EH,Qv⟩
theorem Ss:Con.Ok prg 108 EJ:=okF (ze GM (ze VP zn)) (by kernel_rfl)
theorem Su(a0)(a1)(a2):Qv (a0,a1,a2,())=EI a0 a1 a2:=zA (by kernel_rfl)
abbrev An:List VT:=[⟨true,jy⟩,⟨false,(.list zJ)⟩]
abbrev Ao:List VT:=[⟨false,I⟩]
def Ap(a0:wI)(a1:(List qf)):Option (Int×Unit):=opt (Yk (a0,a1,())) fun x0=>bif !(zj x0.1 0)then some (x0.1,())else lpC ((0,0,()),()) (fun s1=>bif(zg s1.1.2.1 (lnC a0.2.2.1))then opt (uB (a0,a1,s1.1.2.1,())) fun x2=>bif zj x2.2.1 4 then nxC ((s1.1.1,(upC s1.1.2.1),()),())else bif !(zj x2.2.1 0)then exC 1 ((x2.2.1,s1.1.2.1,()),())else bif zg a0.2.1.2.2.2 x2.1.2.2.2 then exC 1 ((7,s1.1.2.1,()),())else nxC ((s1.1.1,(upC s1.1.2.1),()),())else exC 0 ((s1.1.1,s1.1.2.1,()),())) fun x3=>bif jzC x3 then lpC ((x3.2.1.1,0,()),()) (fun s4=>bif(zg s4.1.2.1 (lnC a1))then lpC ((s4.1.1,0,()),()) (fun s5=>aTC a1 s4.1.2.1 fun x6=>bif(zg s5.1.2.1 (lnC x6.2.2.2.2.2.2.2.2))then aTC a1 s4.1.2.1 fun x7=>aTC x7.2.2.2.2.2.2.2.2 s5.1.2.1 fun x8=>opt (Qv (a0,a1,x8,())) fun x9=>bif !(zj x9.2.1 0)then exC 1 ((x9.2.1,s5.1.2.1,()),())else aTC a1 s4.1.2.1 fun x10=>bif zg x10.2.2.2.2.2.2.2.1 x9.1 then exC 1 ((412,s5.1.2.1,()),())else nxC ((s5.1.1,(upC s5.1.2.1),()),())else exC 0 ((s5.1.1,s5.1.2.1,()),())) fun x11=>bif jzC x11 then nxC ((x11.2.1.1,(upC s4.1.2.1),()),())else exC 1 ((x11.2.1.1,s4.1.2.1,()),())else exC 0 ((s4.1.1,s4.1.2.1,()),())) fun x12=>bif jzC x12 then some (0,())else some (x12.2.1.1,())else some (x3.2.1.1,())
abbrev zcY:Type:=(wI×(List qf)×Unit)->Option (Int×Unit)
def kA:zcY:=opq (sF prg [(58,eQ),(59,aA),(108,EJ)] (zG [cdF jy,cdF zJ,cdF Qg,cdF zP,cdF qx,cdF qD,cdF jb] [] [] [] [58,59,108]) (zy []) 30 54 An Ao)
abbrev Aq:Con:=⟨An,Ao,kA⟩
theorem NN:Con.Ok prg 54 Aq:=okF (ze lS (ze GM (ze Ss zn))) (by kernel_rfl)
theorem NO(a0)(a1):kA (a0,a1,())=Ap a0 a1:=zA (by kernel_rfl)
abbrev Ar:List VT:=[⟨true,zP⟩,⟨true,zJ⟩]
abbrev As:List VT:=[⟨false,I⟩]
def At(a0:qi)(a1:qf):Option (Int×Unit):=opt (kr (a0,())) fun x0=>bif !x0.1 then some (260,())else opt (Zo (a0,a1,())) fun x1=>bif !x1.1 then some (321,())else some (0,())
abbrev zcZ:Type:=(qi×qf×Unit)->Option (Int×Unit)
def Vh:zcZ:=opq (sF prg [(96,JB),(107,Va)] (zG [cdF zJ,cdF zP,cdF qx,cdF zr] [] [] [] [96,107]) (zy []) 30 55 Ar As)
abbrev Au:Con:=⟨Ar,As,Vh⟩
theorem NP:Con.Ok prg 55 Au:=okF (ze QX (ze VM zn)) (by kernel_rfl)
theorem NQ(a0)(a1):Vh (a0,a1,())=At a0 a1:=zA (by kernel_rfl)
abbrev Vi:List VT:=[⟨true,jy⟩,⟨false,(.list zJ)⟩,⟨true,zJ⟩]
abbrev Vj:List VT:=[⟨false,(.list zJ)⟩,⟨false,I⟩]
def Av(a0:wI)(a1:(List qf))(a2:qf):Option ((List qf)×Int×Unit):=opt (kA (a0,a1,())) fun x0=>opt (bif zj x0.1 0 then opt (Vh (a0.1,a2,())) fun x1=>some (0,(x1.1,()),())else some (0,(x0.1,()),())) fun x2=>bif !(zj x2.2.1.1 0)then some ([],x2.2.1.1,())else bif qb 0 a1.length 96 then bif(qb a1.length ((a2::[]).length) 96)then opt (kA (a0,(a1++(a2::[])),())) fun x3=>bif !(zj x3.1 0)then some ([],x3.1,())else some ((a1++(a2::[])),0,())else none else none
abbrev Aw:Type:=(wI×(List qf)×qf×Unit)->Option ((List qf)×Int×Unit)
def xd:Aw:=opq (sF prg [(54,Aq),(55,Au)] (zG [cdF jy,cdF zJ,cdF zP,cdF qx,cdF qD,cdF jb] [] [⟨2,35,some 6,zJ,false⟩,⟨4,35,some 6,zJ,false⟩,⟨8,35,some 6,zJ,false⟩] [] [54,55]) (zy []) 30 16 Vi Vj)
abbrev zc0:Con:=⟨Vi,Vj,xd⟩
theorem NR:Con.Ok prg 16 zc0:=okF (ze NN (ze NP zn)) (by kernel_rfl)
theorem NS(a0)(a1)(a2):xd (a0,a1,a2,())=Av a0 a1 a2:=zA (by kernel_rfl)
abbrev vC:List VT:=[⟨true,yJ⟩]
abbrev vD:List VT:=[⟨true,vy⟩]
def Ke:xi:=zG [⟨vy,wi vy,[9,11]⟩,cdF yJ,cdF jy,cdF zJ,cdF qv,cdF yH,cdF zP,cdF qY,cdF qe,cdF qx,⟨(.pair (.int .u8) (.pair (.int .u8) (.int .u8))),wi (.pair (.int .u8) (.pair (.int .u8) (.int .u8))),[]⟩,cdF qD,cdF jb] [] [⟨4,122,some 4,qv,true⟩,⟨4,122,some 7,zJ,false⟩,⟨6,122,some 4,qv,true⟩,⟨6,122,some 7,zJ,false⟩,⟨11,122,some 4,qv,true⟩,⟨11,122,some 7,zJ,false⟩,⟨16,122,some 4,qv,true⟩,⟨16,122,some 7,zJ,false⟩,⟨20,122,some 4,qv,true⟩,⟨20,122,some 7,zJ,false⟩,⟨23,122,some 4,qv,true⟩,⟨23,122,some 7,zJ,false⟩,⟨26,122,some 4,qv,true⟩,⟨26,122,some 7,zJ,false⟩,⟨3,125,some 6,qv,true⟩,⟨7,125,some 6,qv,true⟩,⟨9,125,some 6,qv,true⟩,⟨13,125,some 6,qv,true⟩,⟨16,125,some 6,qv,true⟩,⟨18,125,some 6,qv,true⟩] [(3,125,5,[11]),(13,125,5,[11]),(13,125,4,[11]),(11,122,3,[11]),(20,122,3,[11])] [48,52]
def Ja(ZZ:aT)(WK:lD)(kh:lN)(UP:RQ)(JU:(qO×Int×Unit)->Option ((List Int)×(List jK)×Int×Unit))(XU:Lo)(XV:Lv)(JV:Aw)(a0:wb):Option (vl×Unit):=opt (ZZ (a0.1,())) fun x0=>opt (WK (a0.2.1.1,a0.2.1.2.1,a0.2.1.2.2,())) fun x1=>opt (bif zg 0 a0.2.2.2.2.2 then bif !(zg 1000 a0.2.2.2.2.2)then some (0,((),()),((x0.1,(x1.1.1,a0.2.2.2.2.2,x1.1.2.2),[],339),[],[],[],([],16,1099511627776),()),())else some (0,((),()),((x0.1,x1.1,[],339),[],[],[],([],16,1099511627776),()),())else some (0,((),()),((x0.1,x1.1,[],339),[],[],[],([],16,1099511627776),()),())) fun x2=>lpC ((0,()),[],()) (fun s3=>bif(zg s3.1.1 (lnC a0.2.2.1))then opt (aTC a0.2.2.1 s3.1.1 fun x4=>bif !x4.1 then aTC a0.2.2.1 s3.1.1 fun x5=>bif(qb s3.2.1.length ((x5::[]).length) 10)then some (0,(),(s3.2.1++(x5::[])),())else none else some (0,(),s3.2.1,())) fun x6=>nxC (((upC s3.1.1),()),x6.2.2.1,())else exC 0 ((s3.1.1,()),s3.2.1,())) fun x7=>opt (kh (x2.2.2.1.1.1,x7.2.2.1,())) fun x8=>lpC (((),(),(wK 3 (lnC x8.1)),()),(x2.2.2.1.1,x2.2.2.1.2.1,x2.2.2.1.2.2.1,x2.2.2.1.2.2.2.1,x2.2.2.1.2.2.2.2.1,()),(((0,[],[]),(0,0,0,0),[],0),[],[],[],([],0,0),()),()) (fun s9=>bif !(zg s9.1.2.2.1 0)then opt (KB x8.1 none (some s9.1.2.2.1) none) fun x10=>opt (UP (s9.2.1.1.1,s9.2.1.1.2.1,x10,())) fun x11=>bif !(zj x11.2.1 0)then nxC (((),(),(w6C (s9.1.2.2.1 - 1)),()),(s9.2.1.1,s9.2.1.2.1,s9.2.1.2.2.1,s9.2.1.2.2.2.1,s9.2.1.2.2.2.2.1,()),(s9.2.2.1.1,s9.2.2.1.2.1,s9.2.2.1.2.2.1,s9.2.2.1.2.2.2.1,s9.2.2.1.2.2.2.2.1,()),())else opt (JU (x11.1,60,())) fun x12=>bif zj x12.2.2.1 0 then opt (KB x8.1 none (some s9.1.2.2.1) none) fun x13=>opt (XU (x11.1.1,())) fun x14=>opt (XV (s9.2.1.1.1,s9.2.1.1.2.1,x13,x12.1,x14.1,())) fun x15=>some (.inl s9)else nxC (((),(),(w6C (s9.1.2.2.1 - 1)),()),(s9.2.1.1,s9.2.1.2.1,s9.2.1.2.2.1,s9.2.1.2.2.2.1,s9.2.1.2.2.2.2.1,()),(s9.2.2.1.1,s9.2.2.1.2.1,s9.2.2.1.2.2.1,s9.2.2.1.2.2.2.1,s9.2.2.1.2.2.2.2.1,()),())else some (.inl s9)) fun x16=>bif !(zg x16.1.2.2.1 0)then opt (KB x8.1 none (some x16.1.2.2.1) none) fun x17=>opt (UP (x16.2.1.1.1,x16.2.1.1.2.1,x17,())) fun x18=>bif !(zj x18.2.1 0)then none else opt (JU (x18.1,60,())) fun x19=>bif zj x19.2.2.1 0 then opt (KB x8.1 none (some x16.1.2.2.1) none) fun x20=>opt (XU (x18.1.1,())) fun x21=>opt (XV (x16.2.1.1.1,x16.2.1.1.2.1,x20,x19.1,x21.1,())) fun x22=>lpC ((0,()),[],()) (fun s23=>bif(zg s23.1.1 (lnC a0.2.2.1))then opt (aTC a0.2.2.1 s23.1.1 fun x24=>bif x24.1 then aTC a0.2.2.1 s23.1.1 fun x25=>bif(qb s23.2.1.length ((x25::[]).length) 10)then some (0,(),(s23.2.1++(x25::[])),())else none else some (0,(),s23.2.1,())) fun x26=>nxC (((upC s23.1.1),()),x26.2.2.1,())else exC 0 ((s23.1.1,()),s23.2.1,())) fun x27=>opt (kh (x16.2.1.1.1,x27.2.2.1,())) fun x28=>lpC (((),[],0,()),((x16.2.1.1.1,x16.2.1.1.2.1,x22.1,x16.2.1.1.2.2.2),x20,x19.1,x16.2.1.2.2.2.1,x16.2.1.2.2.2.2.1,()),()) (fun s29=>bif(zg s29.1.2.2.1 (lnC x28.1))then bif(zg (lnC s29.1.2.1) 3)then aTC x28.1 s29.1.2.2.1 fun x30=>opt (JV (s29.2.1.1,s29.1.2.1,((w6C (100+s29.1.2.2.1)),x30.2),())) fun x31=>opt (bif zj x31.2.1 0 then some (0,(x31.1,()),())else some (0,(s29.1.2.1,()),())) fun x32=>nxC (((),x32.2.1.1,(upC s29.1.2.2.1),()),(s29.2.1.1,s29.2.1.2.1,s29.2.1.2.2.1,s29.2.1.2.2.2.1,s29.2.1.2.2.2.2.1,()),())else exC 0 (((),s29.1.2.1,s29.1.2.2.1,()),(s29.2.1.1,s29.2.1.2.1,s29.2.1.2.2.1,s29.2.1.2.2.2.1,s29.2.1.2.2.2.2.1,()),())else exC 0 (((),s29.1.2.1,s29.1.2.2.1,()),(s29.2.1.1,s29.2.1.2.1,s29.2.1.2.2.1,s29.2.1.2.2.2.1,s29.2.1.2.2.2.2.1,()),())) fun x33=>bif qb 0 x33.2.2.1.2.1.length 96 then bif qb x33.2.2.1.2.1.length x33.2.1.2.1.length 96 then lpC (((),0,()),(x33.2.2.1.1,(x33.2.2.1.2.1++x33.2.1.2.1),x33.2.2.1.2.2.1,x33.2.2.1.2.2.2.1,x33.2.2.1.2.2.2.2.1,()),()) (fun s34=>bif zg s34.1.2.1 s34.2.1.1.1.1 then opt (bif(zg s34.1.2.1 (lnC a0.2.2.2.1))then aTC a0.2.2.2.1 s34.1.2.1 fun x35=>some (0,((jS (w6C (0 - s34.2.1.1.2.1.2.1)) (wK (w6C x35) s34.2.1.1.2.1.2.1)),()),())else some (0,(0,()),())) fun x36=>bif(qb s34.2.1.2.2.2.1.length ((x36.2.1.1::[]).length) 8)then nxC (((),(upC s34.1.2.1),()),(s34.2.1.1,s34.2.1.2.1,s34.2.1.2.2.1,(s34.2.1.2.2.2.1++(x36.2.1.1::[])),s34.2.1.2.2.2.2.1,()),())else none else exC 0 (((),s34.1.2.1,()),(s34.2.1.1,s34.2.1.2.1,s34.2.1.2.2.1,s34.2.1.2.2.2.1,s34.2.1.2.2.2.2.1,()),())) fun x37=>opt (bif a0.2.2.2.2.1 then some (0,((x37.2.2.1.1,x37.2.2.1.2.1,x37.2.2.1.2.2.1,x37.2.2.1.2.2.2.1,((0,(400,1000),800,2000)::[]),x37.2.2.1.2.2.2.2.1.2),()),())else some (0,((x37.2.2.1.1,x37.2.2.1.2.1,x37.2.2.1.2.2.1,x37.2.2.1.2.2.2.1,x37.2.2.1.2.2.2.2.1),()),())) fun x38=>some (x38.2.1.1,())else none else none else none else lpC ((0,()),[],()) (fun s39=>bif(zg s39.1.1 (lnC a0.2.2.1))then opt (aTC a0.2.2.1 s39.1.1 fun x40=>bif x40.1 then aTC a0.2.2.1 s39.1.1 fun x41=>bif(qb s39.2.1.length ((x41::[]).length) 10)then some (0,(),(s39.2.1++(x41::[])),())else none else some (0,(),s39.2.1,())) fun x42=>nxC (((upC s39.1.1),()),x42.2.2.1,())else exC 0 ((s39.1.1,()),s39.2.1,())) fun x43=>opt (kh (x16.2.1.1.1,x43.2.2.1,())) fun x44=>lpC (((),[],0,()),(x16.2.1.1,x16.2.1.2.1,x16.2.1.2.2.1,x16.2.1.2.2.2.1,x16.2.1.2.2.2.2.1,()),()) (fun s45=>bif(zg s45.1.2.2.1 (lnC x44.1))then bif(zg (lnC s45.1.2.1) 3)then aTC x44.1 s45.1.2.2.1 fun x46=>opt (JV (s45.2.1.1,s45.1.2.1,((w6C (100+s45.1.2.2.1)),x46.2),())) fun x47=>opt (bif zj x47.2.1 0 then some (0,(x47.1,()),())else some (0,(s45.1.2.1,()),())) fun x48=>nxC (((),x48.2.1.1,(upC s45.1.2.2.1),()),(s45.2.1.1,s45.2.1.2.1,s45.2.1.2.2.1,s45.2.1.2.2.2.1,s45.2.1.2.2.2.2.1,()),())else exC 0 (((),s45.1.2.1,s45.1.2.2.1,()),(s45.2.1.1,s45.2.1.2.1,s45.2.1.2.2.1,s45.2.1.2.2.2.1,s45.2.1.2.2.2.2.1,()),())else exC 0 (((),s45.1.2.1,s45.1.2.2.1,()),(s45.2.1.1,s45.2.1.2.1,s45.2.1.2.2.1,s45.2.1.2.2.2.1,s45.2.1.2.2.2.2.1,()),())) fun x49=>bif qb 0 x49.2.2.1.2.1.length 96 then bif qb x49.2.2.1.2.1.length x49.2.1.2.1.length 96 then lpC (((),0,()),(x49.2.2.1.1,(x49.2.2.1.2.1++x49.2.1.2.1),x49.2.2.1.2.2.1,x49.2.2.1.2.2.2.1,x49.2.2.1.2.2.2.2.1,()),()) (fun s50=>bif zg s50.1.2.1 s50.2.1.1.1.1 then opt (bif(zg s50.1.2.1 (lnC a0.2.2.2.1))then aTC a0.2.2.2.1 s50.1.2.1 fun x51=>some (0,((jS (w6C (0 - s50.2.1.1.2.1.2.1)) (wK (w6C x51) s50.2.1.1.2.1.2.1)),()),())else some (0,(0,()),())) fun x52=>bif(qb s50.2.1.2.2.2.1.length ((x52.2.1.1::[]).length) 8)then nxC (((),(upC s50.1.2.1),()),(s50.2.1.1,s50.2.1.2.1,s50.2.1.2.2.1,(s50.2.1.2.2.2.1++(x52.2.1.1::[])),s50.2.1.2.2.2.2.1,()),())else none else exC 0 (((),s50.1.2.1,()),(s50.2.1.1,s50.2.1.2.1,s50.2.1.2.2.1,s50.2.1.2.2.2.1,s50.2.1.2.2.2.2.1,()),())) fun x53=>opt (bif a0.2.2.2.2.1 then some (0,((x53.2.2.1.1,x53.2.2.1.2.1,x53.2.2.1.2.2.1,x53.2.2.1.2.2.2.1,((0,(400,1000),800,2000)::[]),x53.2.2.1.2.2.2.2.1.2),()),())else some (0,((x53.2.2.1.1,x53.2.2.1.2.1,x53.2.2.1.2.2.1,x53.2.2.1.2.2.2.1,x53.2.2.1.2.2.2.2.1),()),())) fun x54=>some (x54.2.1.1,())else none else none
theorem rS(ZZ:(kW×Unit)->Option (qi×Unit))(WK:(Int×Int×Int×Unit)->Option (wj×Unit))(kh:(qi×(List xj)×Unit)->Option ((List qf)×Unit))(UP:(qi×wj×(List qf)×Unit)->Option (qO×Int×Unit))(JU:(qO×Int×Unit)->Option ((List Int)×(List jK)×Int×Unit))(XU:((List Int)×Unit)->Option (Int×Unit))(XV:(qi×wj×(List qf)×(List Int)×Int×Unit)->Option ((List jz)×Unit))(JV:(wI×(List qf)×qf×Unit)->Option ((List qf)×Int×Unit))(a0:wb):sF prg [(47,⟨ZI,ZJ,ZZ⟩),(48,⟨Wp,Wq,WK⟩),(15,⟨Wr,Ws,kh⟩),(49,⟨dc,de,UP⟩),(50,⟨JE,JF,JU⟩),(52,⟨an,ar,XU⟩),(51,⟨au,aw,XV⟩),(16,⟨Vi,Vj,JV⟩)] Ke (zy [] [(13,125)]) 40 5 vC vD (a0,())=Ja ZZ WK kh UP JU XU XV JV a0:=by kernel_rfl
def yj:(wb×Unit)->Option (vl×Unit):=sF prg [(47,⟨ZI,ZJ,yR⟩),(48,⟨Wp,Wq,uV⟩),(15,⟨Wr,Ws,xw⟩),(49,⟨dc,de,vB⟩),(50,⟨JE,JF,xc⟩),(52,⟨an,ar,xb⟩),(51,⟨au,aw,uA⟩),(16,⟨Vi,Vj,xd⟩)] Ke (zy [] [(13,125)]) 40 5 vC vD
theorem iE:Con.Ok prg 5 ⟨vC,vD,yj⟩:=Rn (ze oe (ze DO (ze Eg (ze zcC (ze NB (ze GJ (ze zar (ze NR zn)))))))) qN (by kernel_rfl)
theorem iF(a0:wb):yj (a0,())=Ja yR uV xw vB xc xb uA xd a0:=rS yR uV xw vB xc xb uA xd a0
abbrev ox:List VT:=[⟨true,vy⟩,⟨false,I⟩]
abbrev oy:List VT:=[⟨false,I⟩]
def oz(a0:vl)(a1:Int):Option (Int×Unit):=lpC ((0,0,()),()) (fun s0=>bif zg s0.1.2.1 a1 then opt (aTC a0.2.1 s0.1.2.1 fun x1=>bif zj x1.2.2.2.1 7 then some (0,((upC s0.1.1),()),())else some (0,(s0.1.1,()),())) fun x2=>nxC ((x2.2.1.1,(upC s0.1.2.1),()),())else exC 0 ((s0.1.1,s0.1.2.1,()),())) fun x3=>aTC a0.2.1 a1 fun x4=>bif !(zj x4.2.2.2.1 7)then some (0,())else aTC a0.2.2.1 x3.2.1.1 fun x5=>some (x5,())
abbrev zaA:Type:=(vl×Int×Unit)->Option (Int×Unit)
def gy:zaA:=opq (sF prg [] (zG [cdF vy,cdF jy,cdF zJ,cdF zP,cdF qe,cdF qx,cdF qD,cdF jb] [] [] [] []) (zy []) 30 17 ox oy)
abbrev oA:Con:=⟨ox,oy,gy⟩
theorem HP:Con.Ok prg 17 oA:=okF zn (by kernel_rfl)
theorem HQ(a0)(a1):gy (a0,a1,())=oz a0 a1:=zA (by kernel_rfl)
abbrev ff:List VT:=[⟨false,(.list zJ)⟩]
abbrev fg:List VT:=[⟨false,(.list zJ)⟩]
def fh(a0:(List qf)):Option ((List qf)×Unit):=lpC ((0,()),[],()) (fun s0=>bif(zg s0.1.1 (lnC a0))then opt (aTC a0 s0.1.1 fun x1=>bif zj x1.2.2.2.1 6 then aTC a0 s0.1.1 fun x2=>bif(qb s0.2.1.length ((x2::[]).length) 96)then some (0,(),(s0.2.1++(x2::[])),())else none else some (0,(),s0.2.1,())) fun x3=>nxC (((upC s0.1.1),()),x3.2.2.1,())else exC 0 ((s0.1.1,()),s0.2.1,())) fun x4=>some (x4.2.2.1,())
abbrev NT:Type:=((List qf)×Unit)->Option ((List qf)×Unit)
def um:NT:=opq (sF prg [] (zG [cdF zJ,cdF zr] [] [⟨3,25,some 2,zJ,false⟩,⟨3,25,some 3,zJ,true⟩,⟨5,25,some 2,zJ,false⟩,⟨5,25,some 3,zJ,true⟩] [] []) (zy []) 30 21 ff fg)
abbrev fi:Con:=⟨ff,fg,um⟩
theorem BK:Con.Ok prg 21 fi:=okF zn (by kernel_rfl)
theorem BL(a0):um (a0,())=fh a0:=zA (by kernel_rfl)
abbrev LL:List VT:=[⟨true,jy⟩,⟨false,(.list zJ)⟩,⟨false,I⟩]
abbrev LN:List VT:=[⟨true,Qg⟩,⟨false,I⟩]
def LO(a0:wI)(a1:(List qf))(a2:Int):Option (da×Int×Unit):=opt (Yk (a0,a1,())) fun x0=>bif !(zj x0.1 0)then some (((0,0),(0,0),0,0),x0.1,())else opt (bif zg a2 0 then some (1,(((0,0),(0,0),0,0),2,()),())else bif(!(zg a2 (lnC a0.2.2.1)))then some (1,(((0,0),(0,0),0,0),2,()),())else some (0,(((0,0),(0,0),0,0),0,()),())) fun x1=>bif jzC x1 then opt (uB (a0,a1,a2,())) fun x2=>some (x2.1,x2.2.1,())else some (x1.2.1.1,x1.2.1.2.1,())
abbrev zgK:Type:=(wI×(List qf)×Int×Unit)->Option (da×Int×Unit)
def Wa:zgK:=opq (sF prg [(58,eQ),(59,aA)] (zG [cdF jy,cdF Qg,cdF zP,cdF qx,cdF qD,cdF jb] [] [] [] [58,59]) (zy []) 30 20 LL LN)
abbrev LP:Con:=⟨LL,LN,Wa⟩
theorem zaB:Con.Ok prg 20 LP:=okF (ze lS (ze GM zn)) (by kernel_rfl)
theorem zaC(a0)(a1)(a2):Wa (a0,a1,a2,())=LO a0 a1 a2:=zA (by kernel_rfl)
abbrev LQ:List VT:=[⟨true,zr⟩]
abbrev LR:List VT:=[⟨true,yZ⟩,⟨false,I⟩]
def LS(a0:zC):Option (js×Int×Unit):=opt (wW (a0,())) fun x0=>bif !x0.1 then some ((0,0),130,())else some ((0,(w6C (a0.1*1048576))),0,())
abbrev zgL:Type:=(zC×Unit)->Option (js×Int×Unit)
def XG:zgL:=opq (sF prg [(60,kz)] (zG [cdF zr] [] [] [] [60]) (zy []) 30 22 LQ LR)
abbrev LU:Con:=⟨LQ,LR,XG⟩
theorem zaD:Con.Ok prg 22 LU:=okF (ze uk zn) (by kernel_rfl)
theorem zaE(a0):XG (a0,())=LS a0:=zA (by kernel_rfl)
abbrev oB:List VT:=[⟨false,I⟩]
abbrev oC:List VT:=[⟨false,.bool⟩]
def oD(a0:Int):Option (Bool×Unit):=bif !(zg a0 0)then some ((!(zg 65535 a0)),())else some (false,())
abbrev zaF:Type:=(Int×Unit)->Option (Bool×Unit)
def YS:zaF:=opq (sF prg [] (zG [] [] [] [] []) (zy []) 30 115 oB oC)
abbrev oE:Con:=⟨oB,oC,YS⟩
theorem HU:Con.Ok prg 115 oE:=okF zn (by kernel_rfl)
theorem HV(a0):YS (a0,())=oD a0:=zA (by kernel_rfl)
abbrev LV:List VT:=[⟨false,(.int .u64)⟩,⟨false,I⟩]
abbrev LW:List VT:=[⟨false,.bool⟩]
def LX(a0:Int)(a1:Int):Option (Bool×Unit):=lpC ((a0,0,()),()) (fun s0=>bif zg s0.1.2.1 a1 then nxC (((wrF .u64 (Int.tdiv s0.1.1 2)),(upC s0.1.2.1),()),())else exC 0 ((s0.1.1,s0.1.2.1,()),())) fun x1=>some ((zj (Int.tmod x1.2.1.1 2) 1),())
abbrev zgM:Type:=(Int×Int×Unit)->Option (Bool×Unit)
def xe:zgM:=opq (sF prg [] (zG [] [] [] [] []) (zy []) 30 116 LV LW)
abbrev ng:Con:=⟨LV,LW,xe⟩
theorem oF:Con.Ok prg 116 ng:=okF zn (by kernel_rfl)
theorem zaG(a0)(a1):xe (a0,a1,())=LX a0 a1:=zA (by kernel_rfl)
abbrev Ax:List VT:=[⟨true,qh⟩]
abbrev Ay:List VT:=[⟨false,.bool⟩]
def Az(a0:qy):Option (Bool×Unit):=opt (bif zg a0.1 1 then some (1,(false,()),())else bif zg 64 a0.1 then some (1,(false,()),())else bif zg a0.2.1 1 then some (1,(false,()),())else bif zg 1099511627776 a0.2.1 then some (1,(false,()),())else some (0,(false,()),())) fun x0=>bif jzC x0 then bif a0.2.2.1 then bif zj a0.2.2.2.1 0 then bif zj a0.2.2.2.2.1 0 then some ((zj a0.2.2.2.2.2 0),())else some (false,())else some (false,())else opt (opt (YS (a0.2.2.2.1,())) fun x1=>bif !x1.1 then some (1,(false,()),())else bif zg a0.2.2.2.2.1 0 then some (1,(false,()),())else bif zg 1099511627776 a0.2.2.2.2.1 then some (1,(false,()),())else opt (xe (a0.2.2.2.2.2,0,())) fun x2=>bif !x2.1 then some (1,(false,()),())else some (0,(x0.2.1.1,()),())) fun x3=>bif jzC x3 then lpC ((x3.2.1.1,a0.1,()),()) (fun s4=>bif zg s4.1.2.1 64 then opt (xe (a0.2.2.2.2.2,s4.1.2.1,())) fun x5=>bif x5.1 then exC 1 ((false,s4.1.2.1,()),())else nxC ((s4.1.1,(upC s4.1.2.1),()),())else exC 0 ((s4.1.1,s4.1.2.1,()),())) fun x6=>bif jzC x6 then some (true,())else some (x6.2.1.1,())else some (x3.2.1.1,())else some (x0.2.1.1,())
abbrev zc1:Type:=(qy×Unit)->Option (Bool×Unit)
def kB:zc1:=opq (sF prg [(115,oE),(116,ng)] (zG [cdF qh] [] [] [] [115,116]) (zy []) 30 61 Ax Ay)
abbrev bG:Con:=⟨Ax,Ay,kB⟩
theorem fj:Con.Ok prg 61 bG:=okF (ze HU (ze oF zn)) (by kernel_rfl)
theorem NU(a0):kB (a0,())=Az a0:=zA (by kernel_rfl)
abbrev LY:List VT:=[⟨false,I⟩,⟨false,I⟩]
abbrev LZ:List VT:=[⟨true,qh⟩]
def Ma(a0:Int)(a1:Int):Option (qy×Unit):=opt (kB ((a0,a1,true,0,0,0),())) fun x0=>bif !x0.1 then some ((0,0,false,0,0,0),())else some ((a0,a1,true,0,0,0),())
abbrev zgN:Type:=(Int×Int×Unit)->Option (qy×Unit)
def XH:zgN:=opq (sF prg [(61,bG)] (zG [cdF qh] [] [] [] [61]) (zy []) 30 23 LY LZ)
abbrev Mb:Con:=⟨LY,LZ,XH⟩
theorem zaH:Con.Ok prg 23 Mb:=okF (ze fj zn) (by kernel_rfl)
theorem zaI(a0)(a1):XH (a0,a1,())=Ma a0 a1:=zA (by kernel_rfl)
abbrev Mc:List VT:=[⟨true,zr⟩,⟨true,zr⟩]
abbrev Md:List VT:=[⟨true,zV⟩,⟨false,I⟩]
def Me(a0:zC)(a1:zC):Option (qI×Int×Unit):=opt (opt (wW (a0,())) fun x0=>bif !x0.1 then some (1,((0,0,0),130,()),())else opt (wW (a1,())) fun x1=>bif !x1.1 then some (1,((0,0,0),130,()),())else some (0,((0,0,0),0,()),())) fun x2=>bif jzC x2 then bif zg a1.2 a0.2 then some ((0,0,0),2,())else some ((0,(w6C (a0.1*1048576)),(w6C (a1.1*1048576))),0,())else some (x2.2.1.1,x2.2.1.2.1,())
abbrev zgO:Type:=(zC×zC×Unit)->Option (qI×Int×Unit)
def Wb:zgO:=opq (sF prg [(60,kz)] (zG [cdF zV,cdF zr] [] [] [] [60]) (zy []) 30 62 Mc Md)
abbrev nh:Con:=⟨Mc,Md,Wb⟩
theorem oG:Con.Ok prg 62 nh:=okF (ze uk zn) (by kernel_rfl)
theorem zaJ(a0)(a1):Wb (a0,a1,())=Me a0 a1:=zA (by kernel_rfl)
abbrev Sv:List VT:=[⟨false,I⟩,⟨false,I⟩,⟨false,I⟩]
abbrev Sw:List VT:=[⟨false,.bool⟩]
def Sx(a0:Int)(a1:Int)(a2:Int):Option (Bool×Unit):=bif !(zg a0 a1)then some ((!(zg a2 a0)),())else some (false,())
abbrev zi6:Type:=(Int×Int×Int×Unit)->Option (Bool×Unit)
def vE:zi6:=opq (sF prg [] (zG [] [] [] [] []) (zy []) 30 117 Sv Sw)
abbrev rT:Con:=⟨Sv,Sw,vE⟩
theorem AA:Con.Ok prg 117 rT:=okF zn (by kernel_rfl)
theorem zc2(a0)(a1)(a2):vE (a0,a1,a2,())=Sx a0 a1 a2:=zA (by kernel_rfl)
abbrev oH:List VT:=[⟨true,zU⟩]
abbrev oI:List VT:=[⟨false,.bool⟩]
def oJ(a0:qu):Option (Bool×Unit):=opt (opt (vE (a0.1,0,47,())) fun x0=>bif !x0.1 then some (1,(false,()),())else opt (vE (a0.2.1,1,4095,())) fun x1=>bif !x1.1 then some (1,(false,()),())else opt (vE (a0.2.2.2.1,84,1542,())) fun x2=>bif !x2.1 then some (1,(false,()),())else some (0,(false,()),())) fun x3=>bif jzC x3 then bif zj a0.2.2.1 6 then bif zj a0.2.2.2.2.1 0 then bif zj a0.2.2.2.2.2.1 0 then some ((zj a0.2.2.2.2.2.2 0),())else some (false,())else some (false,())else opt (bif !(zj a0.2.2.1 7)then some (1,(false,()),())else opt (vE (a0.2.2.2.2.1,1,2400000,())) fun x4=>bif !x4.1 then some (1,(false,()),())else opt (vE (a0.2.2.2.2.2.1,(-1099511627776),1099511627776,())) fun x5=>bif !x5.1 then some (1,(false,()),())else opt (vE (a0.2.2.2.2.2.2,(-1099511627776),1099511627776,())) fun x6=>bif !x6.1 then some (1,(false,()),())else some (0,(x3.2.1.1,()),())) fun x7=>bif jzC x7 then bif !(zg a0.2.2.2.2.2.2 a0.2.2.2.2.2.1)then some ((zg (w6C (a0.2.2.2.2.2.2 - a0.2.2.2.2.2.1)) a0.2.2.2.2.1),())else some (false,())else some (x7.2.1.1,())else some (x3.2.1.1,())
abbrev zaK:Type:=(qu×Unit)->Option (Bool×Unit)
def YT:zaK:=opq (sF prg [(117,rT)] (zG [cdF zU] [] [] [] [117]) (zy []) 30 118 oH oI)
abbrev oK:Con:=⟨oH,oI,YT⟩
theorem HW:Con.Ok prg 118 oK:=okF (ze AA zn) (by kernel_rfl)
theorem HY(a0):YT (a0,())=oJ a0:=zA (by kernel_rfl)
abbrev Sz:List VT:=[⟨false,I⟩,⟨false,I⟩,⟨false,I⟩]
abbrev SA:List VT:=[⟨false,.bool⟩]
def SC(a0:Int)(a1:Int)(a2:Int):Option (Bool×Unit):=bif !(zg a0 a1)then some ((!(zg a2 a0)),())else some (false,())
abbrev zi7:Type:=(Int×Int×Int×Unit)->Option (Bool×Unit)
def ZN:zi7:=opq (sF prg [] (zG [] [] [] [] []) (zy []) 30 181 Sz SA)
abbrev rU:Con:=⟨Sz,SA,ZN⟩
theorem AB:Con.Ok prg 181 rU:=okF zn (by kernel_rfl)
theorem zc3(a0)(a1)(a2):ZN (a0,a1,a2,())=SC a0 a1 a2:=zA (by kernel_rfl)
abbrev AD:List VT:=[⟨true,zr⟩,⟨true,zr⟩,⟨true,zV⟩]
abbrev AE:List VT:=[⟨false,I⟩]
def AF(a0:zC)(a1:zC)(a2:qI):Option (Int×Unit):=opt (Wb (a0,a1,())) fun x0=>bif !(zj x0.2.1 0)then some (x0.2.1,())else opt (opt (ZN (a2.1,0,1099511627776,())) fun x1=>bif !x1.1 then some (1,(420,()),())else opt (ZN (a2.2.1,0,x0.1.2.1,())) fun x2=>bif !x2.1 then some (1,(420,()),())else opt (ZN (a2.2.2,0,x0.1.2.2,())) fun x3=>bif !x3.1 then some (1,(420,()),())else some (0,(0,()),())) fun x4=>bif jzC x4 then some (0,())else some (x4.2.1.1,())
abbrev zc4:Type:=(zC×zC×qI×Unit)->Option (Int×Unit)
def JH:zc4:=opq (sF prg [(62,nh),(181,rU)] (zG [cdF zV,cdF zr] [] [] [] [62,181]) (zy []) 30 119 AD AE)
abbrev bH:Con:=⟨AD,AE,JH⟩
theorem fk:Con.Ok prg 119 bH:=okF (ze oG (ze AB zn)) (by kernel_rfl)
theorem NV(a0)(a1)(a2):JH (a0,a1,a2,())=AF a0 a1 a2:=zA (by kernel_rfl)
abbrev AG:List VT:=[⟨true,qo⟩]
abbrev AH:List VT:=[⟨false,.bool⟩]
def AI(a0:zK):Option (Bool×Unit):=opt (bif(zg 64 (lnC a0.1))then some (1,(false,()),())else bif(zg 64 (lnC a0.2.1))then some (1,(false,()),())else bif(!(zj (lnC a0.2.2.2.1) (lnC a0.1)))then some (1,(false,()),())else bif(!(zj (lnC a0.2.2.2.2) (lnC a0.2.1)))then some (1,(false,()),())else opt (vE (a0.2.2.1,(-1000),549755813888,())) fun x0=>bif !x0.1 then some (1,(false,()),())else some (0,(false,()),())) fun x1=>bif jzC x1 then lpC ((x1.2.1.1,0,()),()) (fun s2=>bif(zg s2.1.2.1 (lnC a0.1))then aTC a0.1 s2.1.2.1 fun x3=>opt (opt (YT (x3,())) fun x4=>bif !x4.1 then some (1,(false,()),())else aTC a0.2.2.2.1 s2.1.2.1 fun x5=>bif zg x5 (-1)then some (1,(false,()),())else bif zj x3.2.2.1 6 then aTC a0.2.2.2.1 s2.1.2.1 fun x6=>bif(!(zj x6 (-1)))then some (1,(false,()),())else some (0,(s2.1.1,()),())else some (0,(s2.1.1,()),())) fun x7=>bif jzC x7 then lpC ((x7.2.1.1,0,()),()) (fun s8=>bif zg s8.1.2.1 s2.1.2.1 then opt (aTC a0.1 s8.1.2.1 fun x9=>bif zj x9.1 x3.1 then aTC a0.1 s8.1.2.1 fun x10=>bif zj x10.2.1 x3.2.1 then some (1,(false,()),())else some (0,(s8.1.1,()),())else some (0,(s8.1.1,()),())) fun x11=>bif jzC x11 then nxC ((x11.2.1.1,(upC s8.1.2.1),()),())else exC 1 ((x11.2.1.1,s8.1.2.1,()),())else exC 0 ((s8.1.1,s8.1.2.1,()),())) fun x12=>bif jzC x12 then nxC ((x12.2.1.1,(upC s2.1.2.1),()),())else exC 1 ((x12.2.1.1,s2.1.2.1,()),())else exC 1 ((x7.2.1.1,s2.1.2.1,()),())else exC 0 ((s2.1.1,s2.1.2.1,()),())) fun x13=>bif jzC x13 then lpC ((x13.2.1.1,0,()),()) (fun s14=>bif(zg s14.1.2.1 (lnC a0.2.1))then aTC a0.2.1 s14.1.2.1 fun x15=>opt (opt (vE (x15.1,0,47,())) fun x16=>bif !x16.1 then some (1,(false,()),())else aTC a0.2.2.2.2 s14.1.2.1 fun x17=>opt (JH (x15.2.1,x15.2.2,x17,())) fun x18=>bif !(zj x18.1 0)then some (1,(false,()),())else aTC a0.2.2.2.2 s14.1.2.1 fun x19=>bif(zg (w6C (a0.2.2.1+1000)) x19.1)then some (1,(false,()),())else some (0,(s14.1.1,()),())) fun x20=>bif jzC x20 then lpC ((x20.2.1.1,0,()),()) (fun s21=>bif zg s21.1.2.1 s14.1.2.1 then aTC a0.2.1 s21.1.2.1 fun x22=>bif zj x22.1 x15.1 then exC 1 ((false,s21.1.2.1,()),())else nxC ((s21.1.1,(upC s21.1.2.1),()),())else exC 0 ((s21.1.1,s21.1.2.1,()),())) fun x23=>bif jzC x23 then nxC ((x23.2.1.1,(upC s14.1.2.1),()),())else exC 1 ((x23.2.1.1,s14.1.2.1,()),())else exC 1 ((x20.2.1.1,s14.1.2.1,()),())else exC 0 ((s14.1.1,s14.1.2.1,()),())) fun x24=>bif jzC x24 then some (true,())else some (x24.2.1.1,())else some (x13.2.1.1,())else some (x1.2.1.1,())
abbrev zc5:Type:=(zK×Unit)->Option (Bool×Unit)
def JI:zc5:=opq (sF prg [(117,rT),(118,oK),(119,bH)] (zG [cdF qo,cdF zU,cdF qe,cdF zV,cdF zr] [] [] [] [117,118,119]) (zy []) 30 63 AG AH)
abbrev bI:Con:=⟨AG,AH,JI⟩
theorem fm:Con.Ok prg 63 bI:=okF (ze AA (ze HW (ze fk zn))) (by kernel_rfl)
theorem NW(a0):JI (a0,())=AI a0:=zA (by kernel_rfl)
end Go.Proofs.YtlfkgkedfciccaaGreat.nd
end
