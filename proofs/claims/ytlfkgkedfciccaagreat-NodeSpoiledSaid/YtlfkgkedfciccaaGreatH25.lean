/- Parts of a proof, joined. -/
import Derived.ChangeArms
import Derived.ChangeSlices
import Derived.DataReads
import Derived.KernelRfl
import Derived.OpenShut
import Derived.SizedLaws
import Derived.Test.YtlfkgkedfciccaaGreatProg
import Derived.Test.YtlfkgkedfciccaaGreatH24
set_option linter.unusedSectionVars false
set_option linter.unusedVariables false
set_option linter.unusedSimpArgs false
set_option maxHeartbeats 0
set_option maxRecDepth 100000
noncomputable section
namespace Go.Fz.Sy
def zmP:List SV->Option Ty
 |[]=>some .unit
 |v
   ::r=>match (match v with
   |.bool _=>some .bool
   |.int k _=>some (.int k)
   |.str _=>some .str
   |.lst t _ _=>some (.list t)
   |_=>none),zmP r with
  |some a,some b=>some (match r with
   |[]=>a
   |_=>.pair a b)
  |_,_=>none
def wB:Ty->List Ty
 |.unit=>[]
 |.pair a b=>wB a++wB b
 |t=>[t]
def zpO:SV->Ty->Bool
 |.bool _,.bool=>true
 |.int k _,.int k'=>gH k k'
 |.str _,.str=>true
 |.lst _ _ _,.list _=>true
 |.nils,.list _=>true
 |.own _,.list _=>true
 |_,_=>false
def lstTy:SV->Option Ty
 |.lst t _ _=>some t
 |_=>none
def tyQ:Ty->Ty->Bool
 |.unit,.unit=>true
 |.bool,.bool=>true
 |.int k,.int k'=>gH k k'
 |.str,.str=>true
 |.list a,.list b=>tyQ a b
 |.pair a b,.pair c d=>tyQ a c&&tyQ b d
 |_,_=>false
def zfp:List SV->List Ty->Bool
 |[],[]=>true
 |v::r,t::s=>(zpO v t&&(match v,t with
  |.lst a _ _,.list b=>tyQ a b
  |_,_=>true))&&zfp r s
 |_,_=>false
structure Dy where
 ty:Ty
 fl:List Ty
 gs:List Nat:=[]
def znD(cands:List Dy)(cs:List SV):Option Dy:=match cands with
 |[]=>none
 |h::r=>bif zfp cs h.fl then some h else znD r cs
def zpP(gs:List Nat)(lo hi:Nat):Bool:=gs.any fun g=>Nat.ble lo g&&Nat.blt g hi
def zfq(H:SH)(cs:List SV)(gs:List Nat):Ty->Nat->Nat->List CK×Nat
 |.pair a b,i,c=>bif zpP gs i (i+sz (.pair a b))then match zfq H cs gs a i c with
   |(k1,c1)=>match zfq H cs gs b (i+sz a) c1 with
    |(k2,c2)=>(k1++k2,c2)
  else([.d (.pair a b)],c)
 |.list e,i,c=>bif yd gs i then(match gl cs i with
   |some (.own b)=>match zo H b with
    |some (.arr nn _ _)=>([.o c nn e],c+1)
    |_=>([.d (.list e)],c)
   |some .nils=>([.o c false e],c+1)
   |_=>([.d (.list e)],c))
  else([.d (.list e)],c)
 |t,_,c=>([.d t],c)
def zkB(cands:List Dy)(cs:List SV):Option Ty:=match cands with
 |[]=>zmP cs
 |h::r=>bif zfp cs h.fl then some h.ty else zkB r cs
def zqf(cands:List Dy):SV->Option VT
 |.bool _=>some ⟨false,.bool⟩
 |.int k _=>some ⟨false,.int k⟩
 |.str _=>some ⟨false,.str⟩
 |.lst t _ _=>some ⟨false,.list t⟩
 |.agg cs=>match zkB cands cs with
  |some t=>some ⟨true,t⟩
  |none=>none
 |_=>none
def rN:List Nat->List Nat
 |[]=>[]
 |a::r=>bif yd r a then rN r else a::rN r
def Zq:Operand->List Nat
 |.tmp t=>[t]
 |_=>[]
def zdz:Nat:=1000000
def zpc(l:List Nat):List Nat:=l.map (·+zdz)
def zpd(i:Nat):Nat:=bif Nat.ble zdz i then i - zdz else i
def ziN(W:List Nat)(d:Nat)(l:List Nat):List Nat:=bif yd W d then l++W else bif yd W (d+zdz)then zpc l++W else W
def wOp(pf:List Nat)(W:List Nat)(o:Oper):List Nat:=
 match o.op with
 |.store _ a _=>Zq a++W
 |.lookup _ m _ _=>Zq m++W
 |.mapUpdate _ m _ _=>Zq m++W
 |.insert _ m _ _=>Zq m++W
 |.call c=>match c.callee with
  |.value (.func f)=>bif yd pf f then zpc (c.args.toList.flatMap Zq)++W else c.args.toList.flatMap Zq++W
  |.value f=>Zq f++(c.args.toList.flatMap Zq++W)
  |.builtin .copy=>c.args.toList.flatMap Zq++W
  |.builtin .append=>match o.dst with
   |some d=>c.args.toList.flatMap Zq++W
   |none=>W
  |_=>W
 |.fieldAddr _ x _=>match o.dst with
  |some d=>bif yd W d then Zq x++W else W
  |none=>W
 |.indexAddr _ x _=>match o.dst with
  |some d=>bif yd W d then Zq x++W else W
  |none=>W
 |.load _ x=>match o.dst with
  |some d=>bif yd W d then Zq x++W else W
  |none=>W
 |.move x=>match o.dst with
  |some d=>ziN W d (Zq x)
  |none=>W
 |.nilCheck x=>match o.dst with
  |some d=>bif yd W d then Zq x++W else W
  |none=>W
 |.pick _ x y=>match o.dst with
  |some d=>ziN W d (Zq x++Zq y)
  |none=>W
 |.assign x=>match o.dst with
  |some d=>ziN W d (Zq x)
  |none=>W
 |_=>W
def zpe(pf:List Nat):List Oper->List Nat->List Nat
 |[],W=>W
 |o::r,W=>wOp pf (zpe pf r W) o
def YJ(pf:List Nat):Code->List Nat->List Nat
 |.region _ ops _,W=>zpe pf ops.toList W
 |.seq a b,W=>YJ pf a (YJ pf b W)
 |.cond _ a b,W=>YJ pf a (YJ pf b W)
 |.block _ c,W=>YJ pf c W
 |.loop c,W=>YJ pf c W
 |.scope c,W=>YJ pf c W
 |.rangeFunc g _ a b,W=>Zq g++YJ pf a (YJ pf b W)
 |_,W=>W
mutual
def znE:SV->List Nat
 |.ptr b _=>[b]
 |.own b=>[b]
 |.mp b=>[b]
 |.slv b _=>[b]
 |.agg cs=>Hy cs
 |.fn _ fs cs=>Hy fs++Hy cs
 |_=>[]
def Hy:List SV->List Nat
 |[]=>[]
 |v::r=>znE v++Hy r
end
def ziO(tm:List SV):List Nat->List Nat
 |[]=>[]
 |i::r=>(match gl tm (zpd i)with
  |some v=>znE v
  |none=>[])++ziO tm r
def reachS(H:SH):Nat->List Nat->List Nat
 |0,l=>rN l
 |n+1,l=>match rN l with
  |l=>reachS H n (l++l.flatMap fun b=>match zo H b with
   |some (.vars cs)=>Hy cs
   |some (.ro cs)=>Hy cs
   |_=>[])
def znF(pf:List Nat)(H:SH):List Nat->List Nat
 |[]=>[]
 |l::r=>(match zo H l with
  |some (.loop L)=>ziO L.tm (rN (YJ pf L.assign (YJ pf L.body [])))
  |_=>[])++znF pf H r
structure MZ where
 rid:Nat
 ntm:Nat
 tmp:Option Nat
 ty:Ty
 own:Bool:=true
def Na(rid ntm:Nat)(i:Option Nat):List MZ->Option MZ
 |[]=>none
 |h::r=>bif Nat.beq h.rid rid&&(Nat.beq h.ntm ntm&&(match h.tmp,i with
  |some a,some b=>Nat.beq a b
  |none,none=>true
  |_,_=>false))then some h else Na rid ntm i r
def ziP(rid ntm:Nat):List (Nat×Nat)->Bool
 |[]=>false
 |p::r=>bif Nat.beq p.1 rid&&Nat.beq p.2 ntm then true else ziP rid ntm r
def zkC(cands:List Dy)(ns:List MZ)(rid:Nat)(tm:List SV)(H:SH)(nx:Nat):List Nat->List DPl×List OPl×Nat
 |[]=>([],[],0)
 |i::r=>match zkC cands ns rid tm H nx r with
  |(dl,ol,g)=>match gl tm i with
   |some (.own b)=>match zo H b with
    |some (.arr nn t _)=>match Na rid tm.length (some i) ns with
     |some ⟨_,_,_,_,false⟩=>(.tmp i ⟨false,.list t⟩::dl,ol,g)
     |_=>(dl,.otmp i (nx+g) nn t::ol,g+1)
    |some (.fro _ t _)=>(.tmp i ⟨false,.list t⟩::dl,ol,g)
    |_=>(dl,ol,g)
   |some .nils=>match Na rid tm.length (some i) ns with
    |some h=>bif h.own then(dl,.otmp i (nx+g) false h.ty::ol,g+1)else(.tmp i ⟨false,.list h.ty⟩::dl,ol,g)
    |none=>(dl,ol,g)
   |some .nilp=>match Na rid tm.length (some i) ns with
    |some _=>(.npt i::dl,ol,g)
    |none=>(dl,ol,g)
   |some v=>match zqf cands v with
    |some vt=>(.tmp i vt::dl,ol,g)
    |none=>(dl,ol,g)
   |none=>(dl,ol,g)
abbrev GrT:=Nat×Nat×Nat×List Nat
def grT(rid ntm d:Nat):List GrT->List Nat
 |[]=>[]
 |h::r=>bif Nat.beq h.1 rid&&(Nat.beq h.2.1 ntm&&Nat.beq h.2.2.1 d)then h.2.2.2 else grT rid ntm d r
def zdA(b:Nat):List SV->Nat->Option Nat
 |[],_=>none
 |v::r,i=>match v with
  |.ptr c o=>bif Nat.beq c b&&Nat.beq o 0 then some i else zdA b r (i+1)
  |_=>zdA b r (i+1)
def zpf(ns:List MZ)(rid:Nat)(tm:List SV)(b:Nat):Option MZ:=match zdA b tm 0 with
 |some d=>match Na rid tm.length (some d) ns with
  |some h=>some h
  |none=>Na rid tm.length none ns
 |none=>Na rid tm.length none ns
def zkD(cands:List Dy)(ns:List MZ)(gt:List GrT)(rid:Nat)(tm:List SV)(H:SH)(nx:Nat)(own:List Nat):List Nat->List DPl×List OPl×Nat->List DPl×List OPl×Nat
 |[],x=>x
 |b::r,x=>match zkD cands ns gt rid tm H nx own r x with
  |(dl,ol,g)=>match zo H b with
   |some (.vars [.own c])=>match zo H c with
    |some (.arr nn t _)=>match zpf ns rid tm b with
     |some ⟨_,_,some _,_,false⟩=>(.blk b (.list t)::dl,ol,g)
     |_=>(dl,.sblk b [.o (nx+g) nn t]::ol,g+1)
    |some (.fro _ t _)=>(.blk b (.list t)::dl,ol,g)
    |_=>(dl,ol,g)
   |some (.vars [.nils])=>match zpf ns rid tm b with
    |some h=>bif h.own then(dl,.sblk b [.o (nx+g) false h.ty]::ol,g+1)else(.blk b (.list h.ty)::dl,ol,g)
    |none=>(dl,ol,g)
   |some (.vars cs)=>match znD cands cs with
    |some h=>match zfq H cs (match zdA b tm 0 with
      |some d=>grT rid tm.length d gt
      |none=>h.gs) h.ty 0 (nx+g)with
     |(ks,c')=>bif ks.all (fun k=>match k with
       |.d _=>true
       |.o _ _ _=>false)then(.blk b h.ty::dl,ol,g)else(.frz b ks::dl,.sblk b ks::ol,c' - nx)
    |none=>match zmP cs with
     |some t=>(.blk b t::dl,ol,g)
     |none=>(dl,ol,g)
   |some (.arr nn t _)=>bif yd own b then(dl,ol,g)else(dl,.arr b nn t::ol,g)
   |some (.mpb k ag t _)=>(dl,.mpl b k ag t::ol,g)
   |_=>(dl,ol,g)
def ziQ:List SV->List Nat
 |[]=>[]
 |.own c::r=>c::ziQ r
 |_::r=>ziQ r
def zfr(tm:List SV)(H:SH)(bs:List Nat):List Nat->List Nat
 |[]=>bs.flatMap fun b=>match zo H b with
  |some (.vars cs)=>ziQ cs
  |_=>[]
 |i::r=>match gl tm i with
  |some (.own b)=>b::zfr tm H bs r
  |_=>zfr tm H bs r
def zqg(l:List Operand):List Nat:=l.flatMap Zq
def og(D:List Nat):List Nat->List Nat
 |[]=>[]
 |a::r=>bif yd D a then og D r else a::og D r
def ziR(D:List Nat):List Nat->List Nat
 |[]=>[]
 |a::r=>bif yd D a then a::ziR D r else ziR D r
def znG:List Oper->List Nat->List Nat×List Nat
 |[],D=>([],D)
 |o::r,D=>match znG r (o.dst.toList++D)with
  |(us,D')=>(og D (zqg o.op.operands.toList)++us,D')
def lvC:Code->List Nat->List Nat×List Nat
 |.region _ ops _,D=>znG ops.toList D
 |.seq a b,D=>match lvC a D with
  |(ra,Da)=>match lvC b Da with
   |(rb,Db)=>(ra++rb,Db)
 |.cond c a b,D=>match lvC a D with
  |(ra,Da)=>match lvC b D with
   |(rb,Db)=>(og D (Zq c)++(ra++rb),ziR Da Db)
 |.block _ c,D=>lvC c D
 |.loop c,D=>lvC c D
 |.scope c,D=>lvC c D
 |.rangeFunc g _ a b,D=>match lvC a D with
  |(ra,Da)=>match lvC b Da with
   |(rb,_)=>(og D (Zq g)++(ra++rb),D)
 |_,D=>([],D)
def zfs:List Oper->List Nat
 |[]=>[]
 |o::r=>match o.op with
  |.assign _=>o.dst.toList++zfs r
  |_=>zfs r
def Dz:Code->List Nat
 |.region _ ops _=>zfs ops.toList
 |.seq a b=>Dz a++Dz b
 |.cond _ a b=>Dz a++Dz b
 |.block _ c=>Dz c
 |.loop c=>Dz c
 |.scope c=>Dz c
 |_=>[]
def aR:Code->Bool
 |.region _ ops _=>ops.toList.any fun o=>match o.op with
  |.call {callee:=.value _,..}=>true
  |_=>false
 |.seq a b=>aR a||aR b
 |.cond _ a b=>aR a||aR b
 |.block _ c=>aR c
 |.loop c=>aR c
 |.scope c=>aR c
 |.rangeFunc _ _ _ _=>true
 |_=>false
def zpg(tm:List SV):List Nat->Bool
 |[]=>false
 |i::r=>(match gl tm i with
  |some (.slv _ _)=>true
  |_=>false)||zpg tm r
def zG(cands:List Dy)(un:List (Nat×Nat))(ns:List MZ)(gt:List GrT:=[])(pf:List Nat:=[]):yp:=fun c tm H nx=>match XC c with
 |some rid=>bif ziP rid tm.length un||zpg tm (lvC c []).1 then none else
  match ziR (Dz c++(lvC c []).1) (rN (asg c))with
  |aq=>match reachS H 3 (ziO tm (rN (YJ pf c (YJ pf c [])))++(bif aR c then znF pf H (ja H)else[]))with
   |bs=>some (zkD cands ns gt rid tm H nx (zfr tm H bs aq) bs (zkC cands ns rid tm H nx aq))
 |none=>none
def XD(i:Nat):Code->Bool
 |.exit j=>Nat.beq i j
 |.seq a b=>XD i a||XD i b
 |.cond _ a b=>XD i a||XD i b
 |.block _ c=>XD i c
 |.loop c=>XD i c
 |.scope c=>XD i c
 |.rangeFunc _ _ a b=>XD i a||XD i b
 |_=>false
def rO:Code->Bool
 |.ret=>false
 |.exit _=>false
 |.goto _=>false
 |.seq a b=>rO a&&rO b
 |.cond _ a b=>rO a||rO b
 |.block i c=>rO c||XD i c
 |.loop _=>false
 |_=>true
def zph(ops:Array Oper):Bool:=ops.toList.any fun o=>o.guard.isSome
def zdB:Code->Bool
 |.skip=>true
 |.exit _=>true
 |.ret=>true
 |.goto _=>true
 |_=>false
def znH(g:Bool):Code->Bool
 |.cond _ a b=>(rO a&&(rO b&&!(zdB a&&zdB b)))||(g&&((rO a||rO b)&&!(zdB a&&zdB b)))
 |.seq (.region _ ops _) (.cond c a b)=>znH (g||zph ops) (.cond c a b)
 |_=>false
def zy(ex:List (Nat×Nat))(re:List (Nat×Nat):=[])(c:Code)(ntm:Nat):Bool:=match c with
 |.scope (.loop b)=>(match XC b with
  |some rid=>ziP rid ntm re
  |none=>false)
 |_=>bif znH false c then(match XC c with
 |some rid=>!ziP rid ntm ex
 |none=>false)else false
end Go.Fz.Sy
namespace Go.Fz.Sy
variable {P:Program} {w:World}
open Go.RowKit Go.ChangeShapes Go.WideShapes
def alT:Ty->Nat
 |.unit=>1
 |.bool=>1
 |.int k=>k.bits / 8
 |.str=>8
 |.list _=>8
 |.pair a b=>max (alT a) (alT b)
def upT(o a:Nat):Nat:=(o+a - 1) / a*a
def zmQ:Ty->Nat->Nat
 |.unit,o=>o
 |.bool,o=>o+1
 |.int k,o=>upT o (k.bits / 8)+k.bits / 8
 |.str,o=>upT o 8+16
 |.list _,o=>upT o 8+24
 |.pair a b,o=>zmQ b (zmQ a o)
def bsT(y:Ty):Nat:=upT (zmQ y 0) (alT y)
def wfT:(t:Ty)->T t->Prop
 |.unit,_=>True
 |.bool,_=>True
 |.int k,n=>k.min<=n∧n<=k.max
 |.str,s=>s.size<=maxLen
 |.list t,l=>(List.length (α:=T t) l<=maxLen∧List.length (α:=T t) l*bsT t<=reachBytes)∧∀x:T t,List.Mem x l->wfT t x
 |.pair a b,x=>wfT a x.1∧wfT b x.2
def QZ(ft:TypeId->Ty->Bool)(cz:TypeId->Nat):List Field->Nat->Ty->Bool
 |[],_,.unit=>true
 |[f],off,y=>Nat.beq f.offset off&&(ft f.type y&&Nat.beq (sz y) (cz f.type))
 |f::g::fs,off,.pair a b=>Nat.beq f.offset off&&(ft f.type a&&(Nat.beq (sz a) (cz f.type)&&QZ ft cz (g::fs) (off+sz a) b))
 |_,_,_=>false
def Ja(ft:Ty->Bool)(cz:Nat):Nat->Ty->Bool
 |0,.unit=>true
 |1,y=>ft y&&Nat.beq (sz y) cz
 |n+2,.pair a b=>ft a&&(Nat.beq (sz a) cz&&Ja ft cz (n+1) b)
 |_,_=>false
def Nb(P:Program):Nat->TypeId->Ty->Bool
 |0,_,_=>false
 |n+1,t,y=>match P.underlying t,y with
  |some .bool,.bool=>true
  |some (.int k),.int k'=>decide (k=k')
  |some .string,.str=>true
  |some (.slice e),.list y=>Nb P n e y&&(Nat.blt 0 (sz y)&&(Nat.beq (sz y) (P.cellsOf e)&&Nat.ble (bsT y) (P.bytesOf e)))
  |some (.struct fs),y=>QZ (Nb P n) P.cellsOf fs.toList 0 y&&Nat.beq (sz y) (P.cellsOf t)
  |some (.array m e),y=>Ja (Nb P n e) (P.cellsOf e) m y&&Nat.beq (sz y) (P.cellsOf t)
  |_,_=>false
def xu(w:World):Ren:=fun n=>if FZ<=n then match w.heap[n - FZ]? with
 |some (.cells a _ _)=>some ⟨n - FZ,0,0,a⟩
 |_=>none else none
theorem zgv{b:Nat}{a:Array Value}{el:TypeId}{fr:Nat×Nat}(h:w.heap[b]?=some (.cells a el fr)):xu w (FZ+b)=some ⟨b,0,0,a⟩:=by
 have h1:FZ<=FZ+b:=by omega
 have h2:FZ+b - FZ=b:=by omega
 simp only[xu,h1,zqF,h2,h]
theorem ziS(w:World):zF (xu w) [] (fun c=>c < w.heap.size) w:=by
 refine⟨fun b k h=>by simp[Hp.get_nil]at h,fun b c k k' L L' h=>by simp[Hp.get_nil]at h,fun b k L h=>by simp[Hp.get_nil]at h,fun c hc=>hc,fun b L hL=>?_,fun b k L c M h=>by simp[Hp.get_nil]at h⟩;have h1:FZ<=FZ+b:=by omega
 have h2:FZ+b - FZ=b:=by omega
 simp only[xu,h1,zqF,h2]at hL;split at hL
 ·rename_i a el fr ha;cases hL;exact⟨rfl,rfl,a,el,fr,ha,fun j u h=>h⟩
 ·cases hL
theorem zgw(w:World){n m:Nat}(hm:m<=FZ):wV (xu w) n m:=⟨hm,fun b h1 h2=>by
 have:¬FZ<=b:=by omega
 simp only[xu,this,zqZ]⟩
theorem ziT{f:FuncId}{args:List Value}{H':Hp}{n':Nat}(hz:n'<=FZ)(hm:wM P f args [] 0 (.bool true) H' n'){us:List Value}(hl:zD (xu w) args us) : Calls P f us.toArray w fun e w'=>e=.returned (.bool true)∧Below w.heap.size w w':=by refine zrs (hm.2 (xu w) w (fun c=>c < w.heap.size) us (ziS w) (zgw w hz) hl) ?_;rintro e w' ⟨v',φ',rfl,x1,x2,x3,x4⟩;cases x1;exact⟨rfl,zcl x4⟩
section
variable {H:Type} {enc:TypeId×Value→H} {base:Nat} {spare:Nat→Bool} {held:Bool}
theorem Nc{φ:Ren}:∀{a b x y:List Value},zD φ a x->zD φ b y->zD φ (a++b) (x++y)
 |[],_,[],_,_,h=>h
 |_::_,_,_::_,_,h,k=>⟨h.1,Nc h.2 k⟩
 |[],_,_::_,_,h,_=>h.elim
 |_::_,_,[],_,h,_=>h.elim
theorem zbZ{α:Type}{Φ:Nat->α->Prop}:∀(n:Nat),(∀i,i < n->∃q,Φ i q)->∃l:List α,l.length=n∧∀i q,l[i]?=some q->Φ i q
 |0,_=>⟨[],rfl,fun i q h=>by simp at h⟩
 |n+1,h=>by obtain⟨l,hl,hq⟩:=zbZ n fun i hi=>h i (by omega);obtain⟨q,hn⟩:=h n (by omega);refine⟨l++[q],by simp[hl],fun i q' hi=>?_⟩;grind
def ei(w:World)(y:Ty)(cs:List Value):Prop:=∃a:T y,wfT y a∧zD (xu w) (qA y a) cs
theorem zft{ft:TypeId->Ty->Bool}{cz:TypeId->Nat}{cs:List Value}:∀{fs:List Field} {off:Nat} {y:Ty},QZ ft cz fs off y=true->(∀f∈fs,∀z,ft f.type z=true->ei w z ((cs.drop f.offset).take (cz f.type)))->off+sz y=cs.length->ei w y (cs.drop off)
 |[],off,.unit,h,hf,hl=>⟨(),trivial,by
   have:cs.drop off=[]:=by simp[sz]at hl ⊢;omega
   rw[this];trivial⟩
 |[f],off,y,h,hf,hl=>by grind[QZ,Nat.eq_of_beq_eq_true,List.take_of_length_le]
 |f::g::fs,off,.pair a b,h,hf,hl=>by
  simp only[QZ,FT]at h;obtain⟨h1,h2,h3,h4⟩:=h;have h1:=zpK h1;have h3:=zpK h3;obtain⟨x,wx,rx⟩:=hf f (by simp) a h2;simp only[sz]at hl;obtain⟨z,wz,rz⟩:=zft (cs:=cs) h4 (fun q hq=>hf q (by grind)) (by omega);refine⟨(x,z),⟨wx,wz⟩,?_⟩;rw[h1,<-h3]at rx;have e:cs.drop off=(cs.drop off).take (sz a)++cs.drop (off+sz a):=by grind[List.drop_drop,List.take_append_drop]
  rw[e];exact Nc rx rz
 |[],_,.bool,h,_,_=>by simp[QZ]at h
 |[],_,.int _,h,_,_=>by simp[QZ]at h
 |[],_,.str,h,_,_=>by simp[QZ]at h
 |[],_,.list _,h,_,_=>by simp[QZ]at h
 |[],_,.pair _ _,h,_,_=>by simp[QZ]at h
 |_::_::_,_,.unit,h,_,_=>by simp[QZ]at h
 |_::_::_,_,.bool,h,_,_=>by simp[QZ]at h
 |_::_::_,_,.int _,h,_,_=>by simp[QZ]at h
 |_::_::_,_,.str,h,_,_=>by simp[QZ]at h
 |_::_::_,_,.list _,h,_,_=>by simp[QZ]at h
theorem zfu{ft:Ty->Bool}{cz:Nat}{cs:List Value}{N:Nat}(hf:∀i,i < N->∀z,ft z=true->ei w z ((cs.drop (i*cz)).take cz)):∀{m:Nat} {y:Ty} {i:Nat},Ja ft cz m y=true->i+m=N->i*cz+sz y=cs.length->ei w y (cs.drop (i*cz))
 |0,.unit,i,h,hN,hl=>⟨(),trivial,by
   have:cs.drop (i*cz)=[]:=by simp[sz]at hl ⊢;omega
   rw[this];trivial⟩
 |1,y,i,h,hN,hl=>by simp only[Ja,FT]at h;obtain⟨h1,h2⟩:=h;have h2:=zpK h2;have:=hf i (by omega) y h1;grind[List.take_of_length_le]
 |m+2,.pair a b,i,h,hN,hl=>by
  simp only[Ja,FT]at h;obtain⟨h1,h2,h3⟩:=h;have h2:=zpK h2;obtain⟨x,wx,rx⟩:=hf i (by omega) a h1;simp only[sz]at hl;have e1:(i+1)*cz=i*cz+cz:=by grind
  obtain⟨z,wz,rz⟩:=zfu hf (m:=m+1) (i:=i+1) h3 (by omega) (by rw[e1];omega);refine⟨(x,z),⟨wx,wz⟩,?_⟩;have e:cs.drop (i*cz)=(cs.drop (i*cz)).take cz++cs.drop ((i+1)*cz):=by grind[List.drop_drop,List.take_append_drop]
  rw[e];exact Nc rx rz
 |0,.bool,_,h,_,_=>by simp[Ja]at h
 |0,.int _,_,h,_,_=>by simp[Ja]at h
 |0,.str,_,h,_,_=>by simp[Ja]at h
 |0,.list _,_,h,_,_=>by simp[Ja]at h
 |0,.pair _ _,_,h,_,_=>by simp[Ja]at h
 |_+2,.unit,_,h,_,_=>by simp[Ja]at h
 |_+2,.bool,_,h,_,_=>by simp[Ja]at h
 |_+2,.int _,_,h,_,_=>by simp[Ja]at h
 |_+2,.str,_,h,_,_=>by simp[Ja]at h
 |_+2,.list _,_,h,_,_=>by simp[Ja]at h
theorem mY{e:TypeId}{d:DataW H}:∀{l:List (DataW H)},d∈l->∀n∈d.weights P e,n∈DataW.weightsAll P e l
 |a::l,h,n,hn=>by
  simp only[DataW.weightsAll,zqS];rcases zqA.1 h with rfl | h
  ·exact .inl hn
  ·exact .inr (mY h n hn)
theorem zmR{e:TypeId}{y:Ty}{cs:List Value}{t:TypeId}{fuel:Nat}{x:DataW H×List MemPlace}(hu:P.underlying t=some (.slice e))(h:DataW.trod enc P w base spare held fuel t cs=some x)(hw:∀n∈x.1.weights P t,n<=reachBytes)(ih:∀{fuel:Nat} {cs:List Value} {x:DataW H×List MemPlace},DataW.trod enc P w base spare held fuel e cs=some x->(∀n∈x.1.weights P e,n<=reachBytes)->ei w y cs)(hs:0 < sz y)(hz:sz y=P.cellsOf e)(hbs:bsT y<=P.bytesOf e):ei w (.list y) cs:=by
 rcases DataW.trod_slice hu h with⟨rfl,_⟩ | ⟨a,len,cap,elems,rest,m,_,rfl,rfl,hb,hl,hm,hlen,hel,_,_⟩
 ·exact⟨([]:List (T y)),⟨⟨ztC _,by grind⟩,fun x hx=>by cases hx⟩,by
   have:=zp.fz0 (φ:=xu w) (sz y) none 0;exact⟨this,trivial⟩⟩
 ·have hw1:(elems.length+rest.length)*P.bytesOf e<=reachBytes:=by have:=hw ((elems.length+rest.length)*P.bytesOf e) (by simp[DataW.weights,hu]);exact this
  have hw2:∀z∈elems,∀n∈z.1.weights P e,n<=reachBytes:=fun z hz n hn=>hw n (by
   grind[DataW.weights,List.mem_cons_of_mem,List.mem_append_left,mY,List.mem_map_of_mem])
  have hall:∀i,i < len->∃q:T y,wfT y q∧∃us,zD (xu w) (qA y q) us∧us.length=sz y∧∀j,j < sz y->w.cell? ((a.add (i*sz y)).add j)=us[j]?:=fun i hi=>by have h1:=hel i hi;obtain⟨z,hz2⟩:∃z,elems[i]?=some z:=⟨elems[i],FL (by omega)⟩;rw[hz2,zqs]at h1;obtain⟨us,h2,h3⟩:=h1;obtain⟨q,q1,q2⟩:=ih h3 (hw2 z (zqy hz2));obtain⟨_,h4,h5⟩:=World.cells?_some h2;grind
  obtain⟨l,hll,hl2⟩:=zbZ len hall;refine⟨l,⟨⟨by omega,zqw (Nat.mul_le_mul (show l.length<=elems.length+rest.length by omega) hbs) hw1⟩,fun q hq=>?_⟩,?_⟩
  ·obtain⟨i,hi⟩:=zrw hq;exact(hl2 i q hi).1
  ·show zD (xu w) [fzV (sz y) false (l.map fun x=>Value.agg (qA y x).toArray)] [Value.slice (some a) len cap];refine⟨?_,trivial⟩;by_cases h0:len=0
   ·subst h0;obtain rfl:l=[]:=zrh.1 hll;exact zp.fz0 _ _ _
   ·obtain⟨q0,hq0⟩:∃q,l[0]?=some q:=⟨l[0],FL (by omega)⟩;obtain⟨_,us0,r0,l0,c0⟩:=hl2 0 q0 hq0;have c00:=c0 0 hs;have:∃v,us0[0]?=some v:=⟨us0[0],FL (by omega)⟩;obtain⟨v0,hv0⟩:=this;obtain⟨b,o,sp⟩:=a;have e0:((⟨b,o,sp⟩:Addr).add (0*sz y)).add 0=⟨b,o,sp⟩:=by simp[Addr.add]
    rw[e0,hv0]at c00;unfold World.cell? at c00;cases hh:w.heap[b]? with
    |none=>grind
    |some ob=>
     rw[hh]at c00;cases ob with
     |cells arr el fr=>
      have hsp:sp=none:=by cases sp<;>grind
      subst hsp;have hcell:∀k,w.cell? (⟨b,k,none⟩:Addr)=arr[k]?:=fun k=>by grind[World.cell?]
      have hat:∀i (q:T y),l[i]?=some q->∃us,zD (xu w) (qA y q) us∧us.length=sz y∧∀j,j < sz y->arr[o+i*sz y+j]?=us[j]?:=fun i q hi=>by grind[Addr.add_none]
      have hsz:∀(j:Nat) e,(l.map fun x=>Value.agg (qA y x).toArray).toArray[j]?=some e->e.cells.size=sz y:=fun j e he=>by grind[Option.map_eq_some_iff,Value.cells,wQ]
      have hsize:(l.map fun x=>Value.agg (qA y x).toArray).toArray.size=len:=by simp[hll]
      have key:=zp.fz (φ:=xu w) (sz y) (l.map fun x=>Value.agg (qA y x).toArray).toArray b o cap ⟨b,0,0,arr⟩ (zgv hh) (by rw[hsize];omega) (by
        rw[hsize];obtain⟨q,hq⟩:∃q,l[len - 1]?=some q:=⟨l[len - 1],FL (by omega)⟩;obtain⟨us,r,hlu,hc⟩:=hat (len - 1) q hq;have h1:=hc (sz y - 1) (by omega);have:∃v,us[sz y - 1]?=some v:=⟨us[sz y - 1],FL (by omega)⟩;obtain⟨v,hv⟩:=this;rw[hv]at h1;have h2:=(zqM.1 h1).1;have h3:len*sz y=(len - 1)*sz y+sz y:=by
         have:len=(len - 1)+1:=by omega
         rw[this,zrE,ztf];simp
        grind) (by rw[hsize];omega) hsz (fun j k e u u' he hu hu'=>by
        simp only[zrB,zrF,zqp]at he;obtain⟨q,hq,rfl⟩:=he;obtain⟨us,r,hlu,hc⟩:=hat j q hq;simp only[Value.cells,zrB]at hu;have hk:k < sz y:=by have:=(zqr.1 hu).1;rw[wQ]at this;exact this
        obtain⟨v',hv',hr⟩:=r.get hu;grind)
      rw[hsize]at key;exact key
     |_=>simp at c00
theorem Rn:∀(n:Nat) {t:TypeId} {y:Ty} {fuel:Nat} {cs:List Value} {x:DataW H×List MemPlace},Nb P n t y=true->DataW.trod enc P w base spare held fuel t cs=some x->(∀n∈x.1.weights P t,n<=reachBytes)->ei w y cs
 |0,_,_,_,_,_,h,_,_=>by cases h
 |n+1,t,y,0,cs,x,_,h,_=>by cases h
 |n+1,t,y,fuel+1,cs,x,h,hx,hw=>by
  simp only[Nb]at h;split at h
  ·rename_i hu;simp only[DataW.trod,hu]at hx;split at hx<;>first | (rename_i e1 e2;cases e1;done) | skip
   all_goals first | (exact⟨_,trivial,.bool _,trivial⟩) | (simp_all;done) | cases hx
  ·rename_i k k' hu;have hk:k=k':=zsP h;subst hk;obtain⟨m,h1,h2,h3⟩:=DataW.trod_int hu hx;subst h1;simp only[Lit.wf,FT,zra]at h3;exact⟨m,h3,.int _ _,trivial⟩
  ·rename_i hu;obtain⟨s,h1,h2,h3⟩:=DataW.trod_string hu hx;subst h1;exact⟨s,h3,.str _,trivial⟩
  ·rename_i e y' hu;simp only[FT]at h;obtain⟨h1,h2,h3,h4⟩:=h;exact zmR hu hx hw (fun hy hwy=>Rn n h1 hy hwy) (by simpa using h2) (zpK h3) (zqH h4)
  ·rename_i fs hu;simp only[FT]at h;obtain⟨h1,h2⟩:=h;have h2:=zpK h2;obtain⟨xs,m,_,rfl,hl,hlen,hf⟩:=DataW.trod_struct hu hx;simp only[DataW.weights,hu]at hw;have:=zft (w:=w) (cs:=cs) h1 (fun f hf2 z hz=>by
    obtain⟨i,hi⟩:=zrw hf2;have h4:=hf i f (by simpa using hi);have hlt:i < xs.length:=by grind
    rw[FL hlt]at h4;exact Rn n hz h4 fun k hk=>hw k (DataW.weights_mem_each (j:=i) (t:=f.type) (d:=xs[i].1) (by grind) (by grind) k hk)) (by omega)
   simpa using this
  ·rename_i m e hu;simp only[FT]at h;obtain⟨h1,h2⟩:=h;have h2:=zpK h2;obtain⟨xs,q,_,rfl,hl,hlen,hf⟩:=DataW.trod_array hu hx;simp only[DataW.weights,hu]at hw;have:=zfu (w:=w) (cs:=cs) (N:=m) (cz:=P.cellsOf e) (fun i hi z hz=>by
    have h4:=hf i hi;have hlt:i < xs.length:=by omega
    rw[FL hlt]at h4;exact Rn n hz h4 fun k hk=>hw k (mY (List.mem_map_of_mem (zqq hlt)) k hk)) (m:=m) (i:=0) h1 (by omega) (by rw[hl,h2];simp)
   simpa using this
  ·cases h
def DA(P:Program)(t:TypeId):Bool:=match P.underlying t with
 |some (.struct _)=>true
 |some (.array _ _)=>true
 |_=>false
def GJ(P:Program)(n:Nat):List TypeId->List VT->Bool
 |[],[]=>true
 |t::ts,v::vs=>Nb P n t v.ty&&((bif DA P t then v.agg else !v.agg)&&GJ P n ts vs)
 |_,_=>false
theorem zmS{φ:Ren}{x v:Value}{a:List Value}(h:zD φ a [v])(ha:a=[x]):zp φ x v:=by subst ha;exact h.1
theorem zpQ{n:Nat}{t:TypeId}{vt:VT}{r:Reach}{b0:Nat}{v:Value}{d:DataW H}{ps:List MemPlace}(hf:Nb P n t vt.ty=true)(ha:(bif DA P t then vt.agg else !vt.agg)=true)(hv:Value.okWide P w r b0 t v)(hd:DataW.Trod enc P w base spare held t v d ps)(hw:∀n∈d.weights P t,n<=reachBytes) : ∃x:T vt.ty,wfT vt.ty x∧∀ρ,zp (xu w) (den ρ (mkV vt x)) v:=by
 obtain⟨ag,ty⟩:=vt;obtain⟨fuel,hd⟩:=hd;obtain⟨x,wx,rx⟩:=Rn n hf hd hw;refine⟨x,wx,fun ρ=>?_⟩;cases ag with
 |true=>
  have hag:DA P t=true:=by
   cases h:DA P t with
   |true=>rfl
   |false=>rw[h]at ha;cases ha
  have:∃cs,v=.agg cs:=by
   unfold DA at hag;unfold Value.okWide at hv;split at hv
   ·obtain⟨cs,h1,_⟩:=hv;exact⟨cs,h1⟩
   ·obtain⟨cs,h1,_⟩:=hv;exact⟨cs,h1⟩
   ·rename_i h1 h2;split at hag
    ·rename_i h3;exact absurd h3 (h1 _)
    ·rename_i h3;exact absurd h3 (h2 _ _)
    ·cases hag
  obtain⟨cs,rfl⟩:=this;simp only[mkV,zqJ,den];refine .agg' ?_;rw[qO,wt];exact rx
 |false=>
  have hag:DA P t=false:=by
   cases h:DA P t with
   |true=>rw[h]at ha;cases ha
   |false=>rfl
  have hcell:v.cells.toList=[v]:=by
   unfold DA at hag;unfold Value.okWide at hv;split at hv
   ·rename_i h1;simp only[h1]at hag;cases hag
   ·rename_i h1;simp only[h1]at hag;cases hag
   ·cases v with
    |agg cs=>
     unfold Cell.okWide at hv;split at hv<;>first | (exfalso;revert hv;unfold Cell.ok;split<;>simp_all;done) | (rename_i e1 e2;cases e2)
    |_=>rfl
  rw[hcell]at rx;have hlen:=rx.length;have h2:=wt ρ ty x;simp only[mkV,zqD]
  match he:jN ty x with
  |[u]=>
   rw[he]at h2;exact zmS rx h2.symm
  |[]=>rw[he]at h2;rw[<-h2]at hlen;simp at hlen
  |_::_::_=>rw[he]at h2;rw[<-h2]at hlen;simp at hlen
theorem zkE{n:Nat}{r:Reach}{b0:Nat}:∀{ts:List TypeId} {a:List VT} {us:List Value} {ds:List (DataW H)} {ps:List MemPlace},GJ P n ts a=true->(∀(j:Nat) t v,ts[j]?=some t->us[j]?=some v->Value.okWide P w r b0 t v)->DataW.TrodAll enc P w base spare held ts us ds ps->(∀n∈DataW.weightsEach P ts ds,n<=reachBytes)->∃x:T (wA a),wfT (wA a) x∧∀ρ,zD (xu w) (zu ρ (jg a x)) us
 |[],[],us,ds,ps,_,_,h,_=>by obtain⟨rfl,_,_⟩:=trodAll_nil h;exact⟨(),trivial,fun ρ=>trivial⟩
 |t::ts,v::a,us,ds,ps,hf,hv,h,hw=>by simp only[GJ,FT]at hf;obtain⟨f1,f2,f3⟩:=hf;obtain⟨u,us',d,ds',p,q,rfl,rfl,rfl,h1,h2⟩:=trodAll_cons h;obtain⟨x,wx,rx⟩:=zpQ f1 f2 (hv 0 t u rfl rfl) h1 (fun n hn=>hw n (by grind[DataW.weightsEach]));obtain⟨y,wy,ry⟩:=zkE (ts:=ts) (a:=a) f3 (fun j t v ht hv2=>hv (j+1) t v (by simpa using ht) (by simpa using hv2)) h2 (fun n hn=>hw n (by grind[DataW.weightsEach]));exact⟨(x,y),⟨wx,wy⟩,fun ρ=>⟨rx ρ,ry ρ⟩⟩
 |[],_::_,_,_,_,hf,_,_,_=>by simp[GJ]at hf
 |_::_,[],_,_,_,hf,_,_,_=>by simp[GJ]at hf
theorem IU:∀{ts:List TypeId} {us:List Value} {ds:List (DataW H)} {ps:List MemPlace},DataW.TrodAll enc P w base spare held ts us ds ps->ds.length=ts.length
 |[],_,_,_,h=>by obtain⟨_,rfl,_⟩:=trodAll_nil h;rfl
 |t::ts,us,ds,ps,h=>by obtain⟨u,us',d,ds',p,q,rfl,rfl,rfl,h1,h2⟩:=trodAll_cons h;rw[zru,zru,IU h2]
theorem zkF{f:FuncId}{a:List VT}{G:T (wA a)->Option (T (wA [⟨false,.bool⟩]))}(hc:Con.Ok P f ⟨a,[⟨false,.bool⟩],G⟩)(hG:∀x,wfT (wA a) x->G x=some (true,())){n:Nat}{r:Reach}{b0:Nat}{ts:List TypeId}{us:List Value}{ds:List (DataW H)}{ps:List MemPlace}(hf:GJ P n ts a=true)(hv:∀(j:Nat) t v,ts[j]?=some t->us[j]?=some v->Value.okWide P w r b0 t v)(h:DataW.TrodAll enc P w base spare held ts us ds ps)(hw:(DataW.weightsEach P ts ds).all (·<=reachBytes)=true) : Calls P f us.toArray w fun e w'=>e=.returned (.bool true)∧Below w.heap.size w w':=by obtain⟨x,wx,rx⟩:=zkE hf hv h (fun n hn=>zsP (zqK.1 hw n hn));obtain⟨Hd,nx',hz,hcall⟩:=hc.2 x _ (hG x wx);exact ziT hz hcall (rx _)
end
def Ro:Ty->List Value
 |.unit=>[]
 |.bool=>[.bool false]
 |.int k=>[.int k 0]
 |.str=>[.string ByteArray.empty]
 |.list _=>[.slice none 0 0]
 |.pair a b=>Ro a++Ro b
def zqh(v:VT):Value:=bif v.agg then .agg (Ro v.ty).toArray else match Ro v.ty with
 |[u]=>u
 |_=>.nilFunc
def zpR(a:List VT):Array Value:=(a.map zqh).toArray
theorem zn:KI P []:=fun x h=>by cases h
theorem ze{f:FuncId}{c:Con}{t:Tbl}(h:c.Ok P f)(ht:KI P t):KI P ((f,c)::t):=fun x hx=>by
 rcases zqA.1 hx with rfl | hx
 ·exact h
 ·exact ht x hx
end Go.Fz.Sy
namespace Go.Fz.Sy
variable {P:Program}
structure jI where
 f:FuncId
 args:List Value
 v:Value
def jI.Ok(P:Program)(m:jI):Prop:=(vT (jz 0 16) m.args=true∧jz 0 16 m.v=true)∧(∃fn,P.funcs[m.f]?=some fn∧fn.body.isSome=true)∧∃Hd nx',nx'<=FZ∧wM P m.f m.args [] 0 m.v Hd nx'
def zdC:List jI->FuncId->List Value->Option Value
 |[],_,_=>none
 |m::ms,f,args=>bif Nat.beq m.f f&&XZ (veq 17) m.args args then some m.v else zdC ms f args
theorem Nd:∀{ms:List jI},(∀m∈ms,m.Ok P)->∀{f:FuncId} {args:List Value} {v:Value},zdC ms f args=some v->(∃fn,P.funcs[f]?=some fn∧fn.body.isSome=true)∧∀H nx,wM P f args H nx v H nx
 |[],_,_,_,_,h=>by cases h
 |m::ms,hm,f,args,v,h=>by
  simp only[zdC]at h;cases hb:Nat.beq m.f f&&XZ (veq 17) m.args args with
  |false=>rw[hb]at h;exact Nd (fun x hx=>hm x (by simp[hx])) h
  |true=>
   rw[hb]at h;cases h;simp only[FT]at hb;have h1:=zpK hb.1;have h2:=pX (Pu 17) hb.2;obtain⟨⟨h3,h4⟩,h5,Hd,nx',hz,h6⟩:=hm m (by simp);subst h1 h2;exact⟨h5,zbM hz h6 (fun φ φ0 hF us hl=>kV (zd6 hF 16) h3 hl) fun φ φ0 hF v' hv=>zd6 hF 16 _ _ h4 hv⟩
def zdD(b s:Nat)(tm:List Value)(H:Hp):List Value×Hp:=match H.get b with
 |some (.cells cs false)=>(tm.map (frV b s cs 16),frH (fun _ k=>match k with | .cells _ _=>true | _=>false) b s cs (H.del b))
 |_=>(tm,H)
theorem zmT{φ:Ren}{H:Hp}{K:Nat->Prop}{w:World}(g:zF φ H K w){tm:List Value}{ts:Array Value}(ht:qS φ tm ts)(b s:Nat):∃φ',(∀n,Ext K φ φ' n n)∧zF φ' (zdD b s tm H).2 K w∧qS φ' (zdD b s tm H).1 ts:=by
 unfold zdD;split
 ·rename_i cs hb;obtain⟨φ',h1,h2,h3⟩:=zbw g hb;refine⟨φ',h1,zec (h3 s) (h1 0).1 g h2,by simp[ht.1],fun i v hv=>?_⟩;simp only[zrF,zqp]at hv;obtain⟨u,hu,rfl⟩:=hv;rcases ht.2 i u hu with rfl | ⟨v',h4,h5⟩
  ·exact .inl rfl
  ·exact .inr ⟨v',h4,h3 s 16 u v' h5⟩
 grind[Ext.refl]
def zdE:List (Nat×Nat)->List Value->Hp->List Value×Hp
 |[],tm,H=>(tm,H)
 |(b,s)::r,tm,H=>match zdD b s tm H with
  |(t1,H1)=>zdE r t1 H1
theorem zfv{K:Nat->Prop}{w:World}{ts:Array Value}:∀(l:List (Nat×Nat)) {φ:Ren} {H:Hp} {tm:List Value},zF φ H K w->qS φ tm ts->∃φ',(∀n,Ext K φ φ' n n)∧zF φ' (zdE l tm H).2 K w∧qS φ' (zdE l tm H).1 ts
 |[],φ,H,tm,g,ht=>⟨φ,fun n=>Ext.refl _ _ _ _,g,ht⟩
 |(b,s)::r,φ,H,tm,g,ht=>by obtain⟨φ1,h1,h2,h3⟩:=zmT g ht b s;obtain⟨φ2,k1,k2,k3⟩:=zfv r h2 h3;exact⟨φ2,fun n=>(h1 n).comp (k1 n),k2,k3⟩
def ziU(R:Res):Res:=match zdE (yn R.H 0 100000 R.tm ([],[])).2 R.tm R.H with
 |(t,H)=>{R with tm:=t,H:=H}
theorem ziV{r:Option Nat}{c:Code}{tm:List Value}{ds:List Nat}{H:Hp}{nx:Nat}{R:Res}(h:qY P r c tm ds H nx R):qY P r c tm ds H nx (ziU R):=by refine⟨h.1,fun φ w K a rc g hf ht hd hr=>zqX (h.2 φ w K a rc g hf ht hd hr) ?_⟩;rintro e a' w' ⟨rfl,φ',k1,k2,k3,k4,k5⟩;obtain⟨φ2,m1,m2,m3⟩:=zfv (yn R.H 0 100000 R.tm ([],[])).2 k2 k3;exact⟨rfl,φ2,k1.comp ((m1 R.nx).wide h.1 (FW _)),m2,m3,k4.mono (m1 0).1,k5⟩
def Hz(z:List Nat)(x:Code)(R:Res):Res:=match x with
 |.region i _ _=>bif z.any (Nat.beq i)then ziU R else R
 |_=>R
theorem zmU{r:Option Nat}{x c:Code}{z:List Nat}{tm:List Value}{ds:List Nat}{H:Hp}{nx:Nat}{R:Res}(h:qY P r c tm ds H nx R):qY P r c tm ds H nx (Hz z x R):=by
 cases x with
 |region i _ _=>
  show qY P r c tm ds H nx (bif z.any (Nat.beq i)then ziU R else R);grind[Nat.beq,ziV]
 |_=>exact h
theorem zov(z:List Nat)(x:Code)(R:Res):(Hz z x R).e=R.e:=by
 cases x with
 |region i _ _=>
  show(bif z.any (Nat.beq i)then ziU R else R).e=R.e;cases z.any (Nat.beq i)<;>rfl
 |_=>rfl
def zdF(P:Program)(E:Ev)(z:List Nat):Code->List Value->List Nat->Hp->Nat->Option Res
 |.seq x y,tm,ds,H,nx=>match jH P E none x tm ds H nx with
  |some R=>match R.e with
   |.normal=>zdF P E z y (Hz z x R).tm (Hz z x R).ds (Hz z x R).H (Hz z x R).nx
   |_=>some R
  |none=>none
 |c,tm,ds,H,nx=>jH P E none c tm ds H nx
theorem zmV{E:Ev}(hE:E.Ok P)(hs:jA P){z:List Nat}(c:Code):∀{tm:List Value} {ds:List Nat} {H:Hp} {nx:Nat} {R:Res},zdF P E z c tm ds H nx=some R->qY P none c tm ds H nx R:=by
 induction c with
 |seq x y _ ih=>
  intro tm ds H nx R h;simp only[zdF]at h;split at h;case h_2=>cases h
  rename_i R1 h1;have c1:=gv hE hs x h1;split at h
  ·rename_i he;exact pO (zmU c1) (by rw[zov];exact he) (ih h)
  grind[YB]
 |_=>intro tm ds H nx R h;exact gv hE hs _ h
def DB(P:Program)(cfg:FuncId->Nat)(E:Ev)(z:List Nat)(f:FuncId)(args:List Value)(H:Hp)(nx:Nat):Option (Value×Hp×Nat):=
 match P.funcs[f]? with
 |some fn=>match fn.body with
  |some c=>match zdF P E z c (args++List.replicate (fn.ntmps - args.length) undef) [] H nx with
   |some R=>match (match R.e with | .normal=>true | .ret=>true | _=>false)with
    |true=>match Ku R.ds R.H with
     |some H1=>match Gn P H1 R.tm fn.results.toList with
      |some vs=>match dM (cfg f) nx (gI vs) H1 with
       |(v2,H2)=>some (v2,gc nx v2 H2,R.nx)
      |none=>none
     |none=>none
    |false=>none
   |none=>none
  |none=>none
 |none=>none
theorem DC{cfg:FuncId->Nat}{E:Ev}(hE:E.Ok P)(hs:jA P){z:List Nat}{f:FuncId}{args:List Value}{H:Hp}{nx:Nat}{v:Value}{H':Hp}{nx':Nat}(h:DB P cfg E z f args H nx=some (v,H',nx')) : (∃fn,P.funcs[f]?=some fn∧fn.body.isSome=true)∧wM P f args H nx v H' nx':=by
 unfold DB at h;split at h;case h_2=>cases h
 rename_i fn hfn;split at h;case h_2=>cases h
 rename_i c hc;split at h;case h_2=>cases h
 rename_i R hR;split at h;case h_2=>cases h
 rename_i he;split at h;case h_2=>cases h
 rename_i H1 hk;split at h;case h_2=>cases h
 rename_i vs hv;cases he2:dM (cfg f) nx (gI vs) H1 with
 |mk v2 H2=>
 rw[he2]at h;cases h;refine⟨⟨fn,hfn,by rw[hc];rfl⟩,pZ (Py (CB hfn hc (zmV hE hs c hR) ?_ hk hv (fun _ _ h=>h)) _ he2) (zjT nx _ _)⟩;grind
def evD(P:Program)(cfg:FuncId->Nat)(z:FuncId->List Nat)(ms:List jI):Nat->Ev
 |0=>⟨fun _ _ _ _=>none,fun _ _ _ _ _ _=>none,fun _ _ _ _ _ _=>none,fun _ _ _ _ _ _=>none⟩
 |n
   + 1=>{CM P cfg (evD P cfg z ms n)with call:=fun f args H nx=>match zdC ms f args with
   |some v=>some (v,H,nx)
   |none=>DB P cfg (evD P cfg z ms n) (z f) f args H nx}
theorem zfw{cfg:FuncId->Nat}{z:FuncId->List Nat}(hs:jA P){ms:List jI}(hms:∀m∈ms,m.Ok P):∀n,(evD P cfg z ms n).Ok P
 |0=>⟨(fun h=>by cases h),(fun h=>by cases h),(fun h=>by cases h),(fun h=>by cases h),(fun h=>by cases h)⟩
 |n+1=>by
  have h0:=zfw (cfg:=cfg) (z:=z) hs hms n;have hE:=zjU (cfg:=cfg) h0 hs;refine⟨fun{f args H nx v H' nx'} h=>?_,fun{f args H nx v H' nx'} h=>?_,fun h=>hE.code h,fun h=>hE.loop h,fun h=>hE.scp h⟩
  ·simp only[evD]at h;split at h
   ·rename_i r hr;cases h;exact(Nd hms hr).2 _ _
   ·exact(DC h0 hs h).2
  ·simp only[evD]at h;split at h
   ·rename_i r hr;cases h;exact(Nd hms hr).1
   ·exact(DC h0 hs h).1
def znI(P:Program)(cfg:FuncId->Nat)(z:FuncId->List Nat)(ms:List jI)(n:Nat)(m:jI):Bool:=vT (jz 0 16) m.args&&jz 0 16 m.v&&(match (evD P cfg z ms n).call m.f m.args [] 0 with
 |some (v,_,nx)=>veq 17 v m.v&&Nat.ble nx FZ
 |none=>false)
theorem js{cfg:FuncId->Nat}{z:FuncId->List Nat}{n:Nat}{ms:List jI}{m:jI}(hs:jA P)(hms:∀m∈ms,m.Ok P)(h:znI P cfg z ms n m=true):m.Ok P:=by
 simp only[znI,FT]at h;obtain⟨⟨h1,h2⟩,h3⟩:=h;split at h3
 ·rename_i v H' nx he;simp only[FT]at h3;have:=Pu 17 _ _ h3.1;subst this;exact⟨⟨h1,h2⟩,(zfw hs hms n).named he,H',nx,zqH h3.2,(zfw hs hms n).call he⟩
 ·cases h3
theorem jL:∀x∈([]:List jI),x.Ok P:=fun _ h=>by cases h
theorem qf{m:jI}{ms:List jI}(h:m.Ok P)(hs:∀x∈ms,x.Ok P):∀x∈m::ms,x.Ok P:=by grind
theorem zkG{f:FuncId}(h:jI.Ok P ⟨f,[],.bool true⟩):Con.Ok P f ⟨[],[⟨false,.bool⟩],fun _=>some (true,())⟩:=by obtain⟨_,h1,Hd,nx',hz,h2⟩:=h;exact⟨h1,fun x r hr=>by cases hr;exact⟨Hd,nx',hz,h2⟩⟩
end Go.Fz.Sy
namespace Go.Fz.Sy
theorem zU{z:Int}(h1 : -9223372036854775808<=z)(h2:z<=9223372036854775807):wrF .i64 z=z:=by
 rw[ZB];have e:IntKind.i64.wrap z=if z % 18446744073709551616>=9223372036854775808 then z % 18446744073709551616 - 18446744073709551616 else z % 18446744073709551616:=by unfold IntKind.wrap;show(if(true&&decide (z % 18446744073709551616>=9223372036854775808))=true then z % 18446744073709551616 - 18446744073709551616 else z % 18446744073709551616)=_;simp only[zrS,zra]
 omega
theorem zq{α R:Type}(a:α)(f:α->Option R):opt (some a) f=f a:=rfl
theorem zhm{α:Type}(l:List α)(n:Nat):atI l (n:Int)=l[n]?:=by show gl l n=_;exact xk l n
theorem Rp{α:Type}{l:List α}{z:Int}(h0:0<=z)(h:z < l.length):∃x,atI l z=some x∧l[z.toNat]?=some x:=by
 obtain⟨n,rfl⟩:=Int.eq_ofNat_of_zero_le h0;have hn:n < l.length:=by omega
 exact⟨l[n],by rw[zhm];simp[hn],by simp[hn]⟩
theorem gz{α:Type}{l:List α}{n:Nat}{x:α}(h:l[n]?=some x):atI l (n:Int)=some x:=by rw[zhm];exact h
theorem zb0{X S:Type}{B:S->Option (X ⊕ S)}{I:S->Prop}{J:X->Prop}{m:S->Nat}(h:∀s,I s->(∃x,B s=some (.inl x)∧J x)∨(∃s',B s=some (.inr s')∧I s'∧m s' < m s)) : ∀(N:Nat) (s:S),I s->m s < N->∃x,zJ B N s=some x∧J x
 |0,s,_,hm=>by omega
 |N+1,s,hI,hm=>by
  rw[QX];rcases h s hI with⟨x,hx,hJ⟩ | ⟨s',hs,hI',hlt⟩
  ·grind
  ·rw[hs];exact zb0 h N s' hI' (by omega)
theorem zmW{X S:Type}{B:S->Option (X ⊕ S)}(I:S->Prop)(J:X->Prop)(m:S->Nat)(h:∀s,I s->(∃x,B s=some (.inl x)∧J x)∨(∃s',B s=some (.inr s')∧I s'∧m s' < m s)){s:S}(hI:I s)(hm:m s < 1180591620717411303424) : ∃x,zJ B zR s=some x∧J x:=zb0 h zR s hI (zqC hm zhl)
def zt{α:Type}(o:Option α)(Q:α->Prop):Prop:=∃r,o=some r∧Q r
theorem za{α:Type}{a:α}{Q:α->Prop}(h:Q a):zt (some a) Q:=⟨a,rfl,h⟩
theorem dy{α:Type}{o:Option α}{a:α}{Q:α->Prop}(e:o=some a)(h:Q a):zt o Q:=⟨a,e,h⟩
theorem zb{α R:Type}{x:Option α}{f:α->Option R}{Q:R->Prop}(h:zt x fun a=>zt (f a) Q):zt (opt x f) Q:=by obtain⟨a,rfl,r,h1,h2⟩:=h;exact⟨r,h1,h2⟩
theorem zk{α R:Type}{x:Option α}{f:α->Option R}{J:α->Prop}{Q:R->Prop}(h:zt x J)(hf:∀a,J a->zt (f a) Q):zt (opt x f) Q:=by obtain⟨a,rfl,ha⟩:=h;exact hf a ha
theorem zd{α:Type}{b:Bool}{x y:Option α}{Q:α->Prop}(h1:b=true->zt x Q)(h2:b=false->zt y Q):zt (bif b then x else y) Q:=by grind
theorem zkH{α:Type}{o:Option α}{Q Q':α->Prop}(h:zt o Q)(hq:∀a,Q a->Q' a):zt o Q':=by obtain⟨a,e,ha⟩:=h;exact⟨a,e,hq a ha⟩
theorem qI{α:Type}{o:Option α}{a:α}(h:zt o fun r=>r=a):o=some a:=by obtain⟨r,e,rfl⟩:=h;exact e
def Round{X S:Type}(I:S->Prop)(J:X->Prop)(m:S->Nat)(s:S)(r:X ⊕ S):Prop:=(∀x,r=.inl x->J x)∧∀s',r=.inr s'->I s'∧m s' < m s
theorem Yk{X S:Type}{I:S->Prop}{J:X->Prop}{m:S->Nat}{s:S}{x:X}(h:J x):Round I J m s (.inl x):=⟨fun y e=>by cases e;exact h,fun s' e=>by cases e⟩
theorem GK{X S:Type}{I:S->Prop}{J:X->Prop}{m:S->Nat}{s s':S}(h:I s')(hm:m s' < m s):Round I J m s (.inr s'):=⟨(fun y e=>by cases e),fun s'' e=>by grind⟩
theorem aS{X S:Type}{B:S->Option (X ⊕ S)}{s:S}(I:S->Prop)(J:X->Prop)(m:S->Nat)(hI:I s)(hm:m s < 1180591620717411303424)(h:∀s,I s->zt (B s) (Round I J m s)):zt (zJ B zR s) J:=by
 obtain⟨x,h1,h2⟩:=zmW (B:=B) I J m (fun s hs=>by
  obtain⟨r,e,h3,h4⟩:=h s hs;grind) hI hm
 exact⟨x,h1,h2⟩
theorem zm{α:Type}{l:List α}{n:Nat}{x:α}{Q:α->Prop}(h:l[n]?=some x)(hq:Q x):zt (atI l (n:Int)) Q:=⟨x,gz h,hq⟩
end Go.Fz.Sy
namespace Go.Proofs.YtlfkgkedfciccaaGreat.nd
open Go Go.Fz Go.Fz.Sy
abbrev I:Ty:=.int .i64
theorem qP:jA Tryz.prog:=zeg (by kernel_rfl)
abbrev qD:Ty:=(.pair I (.pair I (.pair I I)))
abbrev aT:Type:=(Int×(Int×(Int×Int)))
abbrev zS:Ty:=(.pair I (.pair (.list .bool) (.list qD)))
abbrev qk:Type:=(Int×((List Bool)×(List aT)))
abbrev yM:Ty:=(.pair (.int .u8) (.pair (.int .u8) (.pair (.list (.int .u8)) (.pair (.list (.int .u8)) (.pair (.list (.int .u8)) (.list (.int .u8)))))))
abbrev kY:Type:=(Int×(Int×((List Int)×((List Int)×((List Int)×(List Int))))))
abbrev xd:Ty:=(.pair I (.pair I (.pair I I)))
abbrev wm:Type:=(Int×(Int×(Int×Int)))
abbrev zr:Ty:=(.pair I I)
abbrev zC:Type:=(Int×Int)
abbrev zN:Ty:=(.pair I (.pair I (.pair I (.pair I (.pair I (.pair I (.pair zr (.pair I (.list (.list I))))))))))
abbrev qi:Type:=(Int×(Int×(Int×(Int×(Int×(Int×(zC×(Int×(List (List Int))))))))))
abbrev qy:Ty:=(.pair .bool (.pair .bool (.pair (.int .u8) (.pair (.int .u8) (.pair (.int .u8) (.pair (.int .u8) (.pair (.int .u8) (.int .u16))))))))
abbrev xn:Type:=(Bool×(Bool×(Int×(Int×(Int×(Int×(Int×Int)))))))
abbrev gx:Ty:=(.pair I (.pair I (.pair I (.pair I I))))
abbrev rP:Type:=(Int×(Int×(Int×(Int×Int))))
abbrev QK:Ty:=(.pair I (.pair I (.pair I I)))
abbrev Nf:Type:=(Int×(Int×(Int×Int)))
abbrev jb:Ty:=(.pair (.list I) (.list QK))
abbrev qQ:Type:=((List Int)×(List Nf))
abbrev YK:Ty:=(.pair I (.pair I I))
abbrev Kc:Type:=(Int×(Int×Int))
abbrev yU:Ty:=(.pair I (.pair I (.pair I I)))
abbrev zmX:Type:=(Int×(Int×(Int×Int)))
abbrev qC:Ty:=(.pair I (.list yU))
abbrev jO:Type:=(Int×(List zmX))
abbrev uX:Ty:=(.pair (.list qC) (.pair (.list I) I))
abbrev je:Ty:=(.pair I (.pair I (.pair I (.pair I (.pair I I)))))
abbrev yN:Type:=(Int×(Int×(Int×(Int×(Int×Int)))))
abbrev jk:Ty:=(.pair I I)
abbrev ziW:Type:=(Int×Int)
abbrev qG:Ty:=(.pair (.list jk) I)
abbrev jD:Type:=((List ziW)×Int)
abbrev jC:Ty:=(.pair zS (.pair xd (.pair (.list qG) I)))
abbrev wL:Type:=(qk×(wm×((List jD)×Int)))
abbrev jo:Ty:=(.pair I I)
abbrev yE:Type:=(Int×Int)
abbrev Qf:Ty:=(.pair I I)
abbrev kZ:Type:=(Int×Int)
abbrev Qg:Ty:=(.pair zr (.pair Qf (.pair I I)))
abbrev dc:Type:=(zC×(kZ×(Int×Int)))
abbrev yO:Ty:=(.pair yM (.pair (.pair (.int .u8) (.pair (.int .u8) (.int .u8))) (.pair (.list qy) (.pair (.list (.int .i8)) (.pair .bool I)))))
abbrev we:Type:=(kY×((Int×(Int×Int))×((List xn)×((List Int)×(Bool×Int)))))
abbrev qh:Ty:=(.pair I (.pair zr zr))
abbrev jP:Type:=(Int×(zC×zC))
abbrev vA:Ty:=(.pair jC (.pair (.list zN) (.pair (.list I) (.pair (.list I) (.pair (.list qh) (.pair I I))))))
abbrev vp:Type:=(wL×((List qi)×((List Int)×((List Int)×((List jP)×(Int×Int))))))
abbrev xe:Ty:=(.pair I I)
abbrev jw:Type:=(Int×Int)
abbrev qj:Ty:=(.pair I (.pair I (.pair .bool (.pair I (.pair I (.int .u64))))))
abbrev qg:Type:=(Int×(Int×(Bool×(Int×(Int×Int)))))
abbrev zY:Ty:=(.pair I (.pair I I))
abbrev qK:Type:=(Int×(Int×Int))
abbrev zV:Ty:=(.pair I (.pair I (.pair I (.pair I (.pair I (.pair I I))))))
abbrev qu:Type:=(Int×(Int×(Int×(Int×(Int×(Int×Int))))))
abbrev qv:Ty:=(.pair (.list zV) (.pair (.list qh) (.pair I (.pair (.list I) (.list zY)))))
abbrev zH:Type:=((List qu)×((List jP)×(Int×((List Int)×(List qK)))))
abbrev jc:Ty:=(.pair I (.pair zr (.pair I xe)))
abbrev jl:Type:=(Int×(zC×(Int×jw)))
abbrev wP:Ty:=(.pair I (.pair I (.pair I I)))
abbrev yf:Type:=(Int×(Int×(Int×Int)))
abbrev qR:Ty:=(.pair I (.pair qv (.pair (.list jc) (.pair (.list wP) (.list qj)))))
abbrev zI:Type:=(Int×(zH×((List jl)×((List yf)×(List qg)))))
abbrev qL:Ty:=(.pair I (.pair I (.pair I (.pair I I))))
abbrev zM:Type:=(Int×(Int×(Int×(Int×Int))))
abbrev gC:Ty:=(.pair I I)
abbrev xP:Type:=(Int×Int)
abbrev qV:Ty:=(.pair qj (.pair I I))
abbrev qM:Type:=(qg×(Int×Int))
abbrev Kd:Ty:=(.pair I (.pair I (.pair I I)))
abbrev yV:Type:=(Int×(Int×(Int×Int)))
abbrev qz:Ty:=(.pair qR (.pair I (.pair qL (.pair I Kd))))
abbrev zO:Type:=(zI×(Int×(zM×(Int×yV))))
abbrev ui:Ty:=(.pair gC (.pair I (.pair zr zr)))
abbrev xf:Type:=(xP×(Int×(zC×zC)))
abbrev wo:Ty:=qv
abbrev jd:Type:=zH
abbrev prg:Program:=Tryz.prog
abbrev cdF(t:Ty):Dy:=⟨t,wB t,[]⟩
theorem zpi{α:Type}(x:α):∃y,y=x:=⟨x,rfl⟩
def opq{α:Type}(x:α):α:=Classical.choose (zpi x)
theorem zkI{α:Type}(x:α):opq x=x:=Classical.choose_spec (zpi x)
theorem zA{α β:Type}{F:α->β}{x:α}{r:β}(h:F x=r):opq F x=r:=by rw[zkI];exact h
theorem okF{f:FuncId}{a b:List VT}{t:Tbl}{pl:yp}{jq:Code->Nat->Bool}{n:Nat}(ht:KI prg t)(hf:Dv prg f=true):Con.Ok prg f ⟨a,b,opq (sF prg t pl jq n f a b)⟩:=by rw[zkI];exact Rm ht qP hf
abbrev DD:List VT:=[⟨false,(.list (.int .u8))⟩,⟨false,I⟩]
abbrev DE:List VT:=[⟨false,I⟩]
def DF(a0:(List Int))(a1:Int):Option (Int×Unit):=bif(zg a1 ((a0.length:Nat):Int))then opt (atI a0 a1) fun x0=>some ((wrF .i64 x0),())else some (0,())
abbrev zfx:Type:=((List Int)×Int×Unit)->Option (Int×Unit)
def jJ:zfx:=opq (sF prg [] (zG [] [] [] [] []) (zy []) 30 95 DD DE)
abbrev DG:Con:=⟨DD,DE,jJ⟩
theorem Rq:Con.Ok prg 95 DG:=okF zn (by kernel_rfl)
theorem Rs(a0)(a1):jJ (a0,a1,())=DF a0 a1:=zA (by kernel_rfl)
abbrev DH:List VT:=[⟨true,zS⟩,⟨false,I⟩]
abbrev DI:List VT:=[⟨false,.bool⟩]
def DJ(a0:qk)(a1:Int):Option (Bool×Unit):=bif !(zg a1 0)then some ((zg a1 a0.1),())else some (false,())
abbrev zfy:Type:=(qk×Int×Unit)->Option (Bool×Unit)
def Yl:zfy:=opq (sF prg [] (zG [cdF zS,cdF qD] [] [] [] []) (zy []) 30 224 DH DI)
abbrev DK:Con:=⟨DH,DI,Yl⟩
theorem Rt:Con.Ok prg 224 DK:=okF zn (by kernel_rfl)
theorem Ru(a0)(a1):Yl (a0,a1,())=DJ a0 a1:=zA (by kernel_rfl)
abbrev DL:List VT:=[⟨true,zS⟩,⟨true,qD⟩]
abbrev DM:List VT:=[⟨false,.bool⟩]
def DN(a0:qk)(a1:aT):Option (Bool×Unit):=opt (opt (Yl (a0,(a1.1,()))) fun x0=>bif !x0.1 then some (1,((false,()),()))else opt (Yl (a0,(a1.2.1,()))) fun x1=>bif !x1.1 then some (1,((false,()),()))else bif zj a1.1 a1.2.1 then some (1,((false,()),()))else opt (atI a0.2.1 a1.1) fun x2=>bif x2 then opt (atI a0.2.1 a1.2.1) fun x3=>bif x3 then some (1,((false,()),()))else some (0,((false,()),()))else some (0,((false,()),()))) fun x4=>bif Nat.beq x4.1 0 then bif !(zg a1.2.2.1 1)then bif !(zg 1000 a1.2.2.1)then bif !(zg a1.2.2.2 0)then some ((!(zg 10000 a1.2.2.2)),())else some (false,())else some (false,())else some (false,())else some (x4.2.1.1,())
abbrev zfz:Type:=(qk×aT×Unit)->Option (Bool×Unit)
def xK:zfz:=opq (sF prg [(224,DK)] (zG [cdF zS,cdF qD] [] [] [] [224]) (zy []) 30 159 DL DM)
abbrev ej:Con:=⟨DL,DM,xK⟩
theorem lD:Con.Ok prg 159 ej:=okF (ze Rt zn) (by kernel_rfl)
theorem Rv(a0)(a1):xK (a0,a1,())=DN a0 a1:=zA (by kernel_rfl)
abbrev sT:List VT:=[⟨true,qD⟩,⟨false,I⟩,⟨false,I⟩]
abbrev sU:List VT:=[⟨false,.bool⟩]
def sV(a0:aT)(a1:Int)(a2:Int):Option (Bool×Unit):=bif zj a0.1 a1 then bif zj a0.2.1 a2 then some (true,())else bif zj a0.1 a2 then some ((zj a0.2.1 a1),())else some (false,())else bif zj a0.1 a2 then some ((zj a0.2.1 a1),())else some (false,())
abbrev zcn:Type:=(aT×Int×Int×Unit)->Option (Bool×Unit)
def wb:zcn:=opq (sF prg [] (zG [cdF qD] [] [] [] []) (zy []) 30 160 sT sU)
abbrev bo:Con:=⟨sT,sU,wb⟩
theorem eA:Con.Ok prg 160 bo:=okF zn (by kernel_rfl)
theorem Ng(a0)(a1)(a2):wb (a0,a1,a2,())=sV a0 a1 a2:=zA (by kernel_rfl)
abbrev ZL:List VT:=[⟨true,yM⟩]
abbrev ZM:List VT:=[⟨true,zS⟩]
def aU(a0:kY):Option (qk×Unit):=opt (zJ (fun s0:((Unit×(Int×Unit))×((Int×((List Bool)×((List (Int×(Int×(Int×Int))))×Unit)))×Unit))=>bif zg s0.1.2.1 s0.2.1.1 then bif(zX s0.2.1.2.1.length (((!(zg s0.1.2.1 (wrF .i64 (1+(wrF .i64 (Int.tmod a0.1 6))))))::[]).length) 1)then some (.inr (((),((wrF .i64 (s0.1.2.1+1)),())),((s0.2.1.1,((s0.2.1.2.1++((!(zg s0.1.2.1 (wrF .i64 (1+(wrF .i64 (Int.tmod a0.1 6))))))::[])),(s0.2.1.2.2.1,()))),())))else none else some (.inl (0,(((),(s0.1.2.1,())),((s0.2.1.1,(s0.2.1.2.1,(s0.2.1.2.2.1,()))),()))))) zR (((),(0,())),(((wrF .i64 ((wrF .i64 (1+(wrF .i64 (Int.tmod a0.1 6))))+(wrF .i64 (2+(wrF .i64 (Int.tmod a0.2.1 5)))))),([],([],()))),()))) fun x1=>opt (zJ (fun s2:(((Int×(Int×((List Int)×((List Int)×((List Int)×(List Int))))))×(Unit×(Int×Unit)))×((Int×((List Bool)×((List (Int×(Int×(Int×Int))))×Unit)))×Unit))=>bif(zg s2.1.2.2.1 (wrF .i64 (1+(wrF .i64 (Int.tmod a0.1 6)))))then opt (jJ (s2.1.1.2.2.2.2.1,(((s2.2.1.2.2.1.length:Nat):Int),()))) fun x3=>opt (jJ (s2.1.1.2.2.2.2.2,(((s2.2.1.2.2.1.length:Nat):Int),()))) fun x4=>bif(zj ((s2.2.1.2.2.1.length:Nat):Int) 24)then some (.inr ((s2.1.1,((),((wrF .i64 (s2.1.2.2.1+1)),()))),((s2.2.1.1,(s2.2.1.2.1,(s2.2.1.2.2.1,()))),())))else opt (xK ((s2.2.1.1,(s2.2.1.2.1,s2.2.1.2.2.1)),(((wrF .i64 (s2.1.2.2.1 - 1)),(s2.1.2.2.1,((wrF .i64 (1+(Int.tmod x3.1 20))),(Int.tmod x4.1 50)))),()))) fun x5=>bif !x5.1 then some (.inr ((s2.1.1,((),((wrF .i64 (s2.1.2.2.1+1)),()))),((s2.2.1.1,(s2.2.1.2.1,(s2.2.1.2.2.1,()))),())))else opt (zJ (fun s6:(((Int×((List Bool)×(List (Int×(Int×(Int×Int))))))×(Int×Unit))×Unit)=>bif(zg s6.1.2.1 ((s2.2.1.2.2.1.length:Nat):Int))then opt (atI s2.2.1.2.2.1 s6.1.2.1) fun x7=>opt (gl s2.2.1.2.2.1 (Int.toNat s6.1.2.1)) fun x8=>opt (wb (x8,((wrF .i64 (s2.1.2.2.1 - 1)),(s2.1.2.2.1,())))) fun x9=>bif x9.1 then some (.inl s6)else some (.inr ((s6.1.1,((wrF .i64 (s6.1.2.1+1)),())),()))else some (.inl s6)) zR (((0,([],[])),(0,())),())) fun x10=>bif(zg x10.1.2.1 ((s2.2.1.2.2.1.length:Nat):Int))then opt (atI s2.2.1.2.2.1 x10.1.2.1) fun x11=>opt (gl s2.2.1.2.2.1 (Int.toNat x10.1.2.1)) fun x12=>opt (wb (x12,((wrF .i64 (s2.1.2.2.1 - 1)),(s2.1.2.2.1,())))) fun x13=>bif x13.1 then some (.inr ((s2.1.1,((),((wrF .i64 (s2.1.2.2.1+1)),()))),((s2.2.1.1,(s2.2.1.2.1,(s2.2.1.2.2.1,()))),())))else none else bif(zX s2.2.1.2.2.1.length ((((wrF .i64 (s2.1.2.2.1 - 1)),(s2.1.2.2.1,((wrF .i64 (1+(Int.tmod x3.1 20))),(Int.tmod x4.1 50))))::[]).length) 32)then some (.inr ((s2.1.1,((),((wrF .i64 (s2.1.2.2.1+1)),()))),((s2.2.1.1,(s2.2.1.2.1,((s2.2.1.2.2.1++(((wrF .i64 (s2.1.2.2.1 - 1)),(s2.1.2.2.1,((wrF .i64 (1+(Int.tmod x3.1 20))),(Int.tmod x4.1 50))))::[])),()))),())))else none else some (.inl (0,((s2.1.1,((),(s2.1.2.2.1,()))),((s2.2.1.1,(s2.2.1.2.1,(s2.2.1.2.2.1,()))),()))))) zR ((a0,((),(1,()))),((x1.2.2.1.1,(x1.2.2.1.2.1,(x1.2.2.1.2.2.1,()))),()))) fun x14=>opt (zJ (fun s15:(((Int×(Int×((List Int)×((List Int)×((List Int)×(List Int))))))×(Unit×(Int×Unit)))×((Int×((List Bool)×((List (Int×(Int×(Int×Int))))×Unit)))×Unit))=>bif(zg s15.1.2.2.1 (wrF .i64 (2+(wrF .i64 (Int.tmod a0.2.1 5)))))then opt (jJ (s15.1.1.2.2.2.1,((wrF .i64 (2*s15.1.2.2.1)),()))) fun x16=>bif(zj (wrF .i64 (1+(wrF .i64 (Int.tmod a0.1 6)))) 0)then none else opt (jJ (s15.1.1.2.2.2.2.1,(((s15.2.1.2.2.1.length:Nat):Int),()))) fun x17=>opt (jJ (s15.1.1.2.2.2.2.2,(((s15.2.1.2.2.1.length:Nat):Int),()))) fun x18=>bif(zj ((s15.2.1.2.2.1.length:Nat):Int) 24)then some (.inr ((s15.1.1,((),((wrF .i64 (s15.1.2.2.1+1)),()))),((s15.2.1.1,(s15.2.1.2.1,(s15.2.1.2.2.1,()))),())))else opt (xK ((s15.2.1.1,(s15.2.1.2.1,s15.2.1.2.2.1)),(((wrF .i64 ((wrF .i64 (1+(wrF .i64 (Int.tmod a0.1 6))))+s15.1.2.2.1)),((Int.tmod x16.1 (wrF .i64 (1+(wrF .i64 (Int.tmod a0.1 6))))),((wrF .i64 (1+(Int.tmod x17.1 20))),(Int.tmod x18.1 50)))),()))) fun x19=>bif !x19.1 then some (.inr ((s15.1.1,((),((wrF .i64 (s15.1.2.2.1+1)),()))),((s15.2.1.1,(s15.2.1.2.1,(s15.2.1.2.2.1,()))),())))else opt (zJ (fun s20:(((Int×((List Bool)×(List (Int×(Int×(Int×Int))))))×(Int×Unit))×Unit)=>bif(zg s20.1.2.1 ((s15.2.1.2.2.1.length:Nat):Int))then opt (atI s15.2.1.2.2.1 s20.1.2.1) fun x21=>opt (gl s15.2.1.2.2.1 (Int.toNat s20.1.2.1)) fun x22=>opt (wb (x22,((wrF .i64 ((wrF .i64 (1+(wrF .i64 (Int.tmod a0.1 6))))+s15.1.2.2.1)),((Int.tmod x16.1 (wrF .i64 (1+(wrF .i64 (Int.tmod a0.1 6))))),())))) fun x23=>bif x23.1 then some (.inl s20)else some (.inr ((s20.1.1,((wrF .i64 (s20.1.2.1+1)),())),()))else some (.inl s20)) zR (((0,([],[])),(0,())),())) fun x24=>bif(zg x24.1.2.1 ((s15.2.1.2.2.1.length:Nat):Int))then opt (atI s15.2.1.2.2.1 x24.1.2.1) fun x25=>opt (gl s15.2.1.2.2.1 (Int.toNat x24.1.2.1)) fun x26=>opt (wb (x26,((wrF .i64 ((wrF .i64 (1+(wrF .i64 (Int.tmod a0.1 6))))+s15.1.2.2.1)),((Int.tmod x16.1 (wrF .i64 (1+(wrF .i64 (Int.tmod a0.1 6))))),())))) fun x27=>bif x27.1 then some (.inr ((s15.1.1,((),((wrF .i64 (s15.1.2.2.1+1)),()))),((s15.2.1.1,(s15.2.1.2.1,(s15.2.1.2.2.1,()))),())))else none else bif(zX s15.2.1.2.2.1.length ((((wrF .i64 ((wrF .i64 (1+(wrF .i64 (Int.tmod a0.1 6))))+s15.1.2.2.1)),((Int.tmod x16.1 (wrF .i64 (1+(wrF .i64 (Int.tmod a0.1 6))))),((wrF .i64 (1+(Int.tmod x17.1 20))),(Int.tmod x18.1 50))))::[]).length) 32)then some (.inr ((s15.1.1,((),((wrF .i64 (s15.1.2.2.1+1)),()))),((s15.2.1.1,(s15.2.1.2.1,((s15.2.1.2.2.1++(((wrF .i64 ((wrF .i64 (1+(wrF .i64 (Int.tmod a0.1 6))))+s15.1.2.2.1)),((Int.tmod x16.1 (wrF .i64 (1+(wrF .i64 (Int.tmod a0.1 6))))),((wrF .i64 (1+(Int.tmod x17.1 20))),(Int.tmod x18.1 50))))::[])),()))),())))else none else some (.inl (0,((s15.1.1,((),(s15.1.2.2.1,()))),((s15.2.1.1,(s15.2.1.2.1,(s15.2.1.2.2.1,()))),()))))) zR ((x14.2.1.1,((),(0,()))),((x14.2.2.1.1,(x14.2.2.1.2.1,(x14.2.2.1.2.2.1,()))),()))) fun x28=>opt (bif(zg 2 (wrF .i64 (1+(wrF .i64 (Int.tmod a0.1 6)))))then bif zj (Int.tmod x28.2.1.1.1 2) 0 then opt (jJ (x28.2.1.1.2.2.2.2.1,(((x28.2.2.1.2.2.1.length:Nat):Int),()))) fun x29=>opt (jJ (x28.2.1.1.2.2.2.2.2,(((x28.2.2.1.2.2.1.length:Nat):Int),()))) fun x30=>bif(zj ((x28.2.2.1.2.2.1.length:Nat):Int) 24)then some (0,((x28.2.1.1,((),())),((x28.2.2.1.1,(x28.2.2.1.2.1,(x28.2.2.1.2.2.1,()))),())))else opt (xK ((x28.2.2.1.1,(x28.2.2.1.2.1,x28.2.2.1.2.2.1)),(((wrF .i64 ((wrF .i64 (1+(wrF .i64 (Int.tmod a0.1 6)))) - 1)),(0,((wrF .i64 (1+(Int.tmod x29.1 20))),(Int.tmod x30.1 50)))),()))) fun x31=>bif !x31.1 then some (0,((x28.2.1.1,((),())),((x28.2.2.1.1,(x28.2.2.1.2.1,(x28.2.2.1.2.2.1,()))),())))else opt (zJ (fun s32:(((Int×((List Bool)×(List (Int×(Int×(Int×Int))))))×(Int×Unit))×Unit)=>bif(zg s32.1.2.1 ((x28.2.2.1.2.2.1.length:Nat):Int))then opt (atI x28.2.2.1.2.2.1 s32.1.2.1) fun x33=>opt (gl x28.2.2.1.2.2.1 (Int.toNat s32.1.2.1)) fun x34=>opt (wb (x34,((wrF .i64 ((wrF .i64 (1+(wrF .i64 (Int.tmod a0.1 6)))) - 1)),(0,())))) fun x35=>bif x35.1 then some (.inl s32)else some (.inr ((s32.1.1,((wrF .i64 (s32.1.2.1+1)),())),()))else some (.inl s32)) zR (((0,([],[])),(0,())),())) fun x36=>bif(zg x36.1.2.1 ((x28.2.2.1.2.2.1.length:Nat):Int))then opt (atI x28.2.2.1.2.2.1 x36.1.2.1) fun x37=>opt (gl x28.2.2.1.2.2.1 (Int.toNat x36.1.2.1)) fun x38=>opt (wb (x38,((wrF .i64 ((wrF .i64 (1+(wrF .i64 (Int.tmod a0.1 6)))) - 1)),(0,())))) fun x39=>bif x39.1 then some (0,((x28.2.1.1,((),())),((x28.2.2.1.1,(x28.2.2.1.2.1,(x28.2.2.1.2.2.1,()))),())))else none else bif(zX x28.2.2.1.2.2.1.length ((((wrF .i64 ((wrF .i64 (1+(wrF .i64 (Int.tmod a0.1 6)))) - 1)),(0,((wrF .i64 (1+(Int.tmod x29.1 20))),(Int.tmod x30.1 50))))::[]).length) 32)then some (0,((x28.2.1.1,((),())),((x28.2.2.1.1,(x28.2.2.1.2.1,((x28.2.2.1.2.2.1++(((wrF .i64 ((wrF .i64 (1+(wrF .i64 (Int.tmod a0.1 6)))) - 1)),(0,((wrF .i64 (1+(Int.tmod x29.1 20))),(Int.tmod x30.1 50))))::[])),()))),())))else none else some (0,((x28.2.1.1,((),())),((x28.2.2.1.1,(x28.2.2.1.2.1,(x28.2.2.1.2.2.1,()))),())))else some (0,((x28.2.1.1,((),())),((x28.2.2.1.1,(x28.2.2.1.2.1,(x28.2.2.1.2.2.1,()))),())))) fun x40=>opt (zJ (fun s41:(((Int×(Int×((List Int)×((List Int)×((List Int)×(List Int))))))×(Unit×(Int×Unit)))×((Int×((List Bool)×((List (Int×(Int×(Int×Int))))×Unit)))×Unit))=>bif(zg s41.1.2.2.1 (wrF .i64 (2+(wrF .i64 (Int.tmod a0.2.1 5)))))then opt (opt (jJ (s41.1.1.2.2.2.1,((wrF .i64 ((wrF .i64 (2*s41.1.2.2.1))+1)),()))) fun x42=>bif zg 0 (Int.tmod x42.1 3)then opt (jJ (s41.1.1.2.2.2.1,((wrF .i64 ((wrF .i64 (2*s41.1.2.2.1))+1)),()))) fun x43=>bif(zj (wrF .i64 (1+(wrF .i64 (Int.tmod a0.1 6)))) 0)then none else opt (jJ (s41.1.1.2.2.2.2.1,(((s41.2.1.2.2.1.length:Nat):Int),()))) fun x44=>opt (jJ (s41.1.1.2.2.2.2.2,(((s41.2.1.2.2.1.length:Nat):Int),()))) fun x45=>bif(zj ((s41.2.1.2.2.1.length:Nat):Int) 24)then some (0,((s41.1.1,((),())),((s41.2.1.1,(s41.2.1.2.1,(s41.2.1.2.2.1,()))),())))else opt (xK ((s41.2.1.1,(s41.2.1.2.1,s41.2.1.2.2.1)),(((wrF .i64 ((wrF .i64 (1+(wrF .i64 (Int.tmod a0.1 6))))+s41.1.2.2.1)),((Int.tmod x43.1 (wrF .i64 (1+(wrF .i64 (Int.tmod a0.1 6))))),((wrF .i64 (1+(Int.tmod x44.1 20))),(Int.tmod x45.1 50)))),()))) fun x46=>bif !x46.1 then some (0,((s41.1.1,((),())),((s41.2.1.1,(s41.2.1.2.1,(s41.2.1.2.2.1,()))),())))else opt (zJ (fun s47:(((Int×((List Bool)×(List (Int×(Int×(Int×Int))))))×(Int×Unit))×Unit)=>bif(zg s47.1.2.1 ((s41.2.1.2.2.1.length:Nat):Int))then opt (atI s41.2.1.2.2.1 s47.1.2.1) fun x48=>opt (gl s41.2.1.2.2.1 (Int.toNat s47.1.2.1)) fun x49=>opt (wb (x49,((wrF .i64 ((wrF .i64 (1+(wrF .i64 (Int.tmod a0.1 6))))+s41.1.2.2.1)),((Int.tmod x43.1 (wrF .i64 (1+(wrF .i64 (Int.tmod a0.1 6))))),())))) fun x50=>bif x50.1 then some (.inl s47)else some (.inr ((s47.1.1,((wrF .i64 (s47.1.2.1+1)),())),()))else some (.inl s47)) zR (((0,([],[])),(0,())),())) fun x51=>bif(zg x51.1.2.1 ((s41.2.1.2.2.1.length:Nat):Int))then opt (atI s41.2.1.2.2.1 x51.1.2.1) fun x52=>opt (gl s41.2.1.2.2.1 (Int.toNat x51.1.2.1)) fun x53=>opt (wb (x53,((wrF .i64 ((wrF .i64 (1+(wrF .i64 (Int.tmod a0.1 6))))+s41.1.2.2.1)),((Int.tmod x43.1 (wrF .i64 (1+(wrF .i64 (Int.tmod a0.1 6))))),())))) fun x54=>bif x54.1 then some (0,((s41.1.1,((),())),((s41.2.1.1,(s41.2.1.2.1,(s41.2.1.2.2.1,()))),())))else none else bif(zX s41.2.1.2.2.1.length ((((wrF .i64 ((wrF .i64 (1+(wrF .i64 (Int.tmod a0.1 6))))+s41.1.2.2.1)),((Int.tmod x43.1 (wrF .i64 (1+(wrF .i64 (Int.tmod a0.1 6))))),((wrF .i64 (1+(Int.tmod x44.1 20))),(Int.tmod x45.1 50))))::[]).length) 32)then some (0,((s41.1.1,((),())),((s41.2.1.1,(s41.2.1.2.1,((s41.2.1.2.2.1++(((wrF .i64 ((wrF .i64 (1+(wrF .i64 (Int.tmod a0.1 6))))+s41.1.2.2.1)),((Int.tmod x43.1 (wrF .i64 (1+(wrF .i64 (Int.tmod a0.1 6))))),((wrF .i64 (1+(Int.tmod x44.1 20))),(Int.tmod x45.1 50))))::[])),()))),())))else none else some (0,((s41.1.1,((),())),((s41.2.1.1,(s41.2.1.2.1,(s41.2.1.2.2.1,()))),())))) fun x55=>some (.inr ((x55.2.1.1,((),((wrF .i64 (s41.1.2.2.1+1)),()))),((x55.2.2.1.1,(x55.2.2.1.2.1,(x55.2.2.1.2.2.1,()))),())))else some (.inl (0,((s41.1.1,((),(s41.1.2.2.1,()))),((s41.2.1.1,(s41.2.1.2.1,(s41.2.1.2.2.1,()))),()))))) zR ((x40.2.1.1,((),(0,()))),((x40.2.2.1.1,(x40.2.2.1.2.1,(x40.2.2.1.2.2.1,()))),()))) fun x56=>opt (zJ (fun s57:(((Int×(Int×((List Int)×((List Int)×((List Int)×(List Int))))))×(Unit×(Int×Unit)))×((Int×((List Bool)×((List (Int×(Int×(Int×Int))))×Unit)))×Unit))=>bif(zg (wrF .i64 (s57.1.2.2.1+1)) ((s57.1.1.2.2.1.length:Nat):Int))then bif zg s57.1.2.2.1 12 then opt (atI s57.1.1.2.2.1 s57.1.2.2.1) fun x58=>bif(zj (wrF .i64 (1+(wrF .i64 (Int.tmod a0.1 6)))) 0)then none else opt (atI s57.1.1.2.2.1 (wrF .i64 (s57.1.2.2.1+1))) fun x59=>bif(zj (wrF .i64 (1+(wrF .i64 (Int.tmod a0.1 6)))) 0)then none else opt (jJ (s57.1.1.2.2.2.2.1,(((s57.2.1.2.2.1.length:Nat):Int),()))) fun x60=>opt (jJ (s57.1.1.2.2.2.2.2,(((s57.2.1.2.2.1.length:Nat):Int),()))) fun x61=>bif(zj ((s57.2.1.2.2.1.length:Nat):Int) 24)then some (.inr ((s57.1.1,((),((wrF .i64 (s57.1.2.2.1+2)),()))),((s57.2.1.1,(s57.2.1.2.1,(s57.2.1.2.2.1,()))),())))else opt (xK ((s57.2.1.1,(s57.2.1.2.1,s57.2.1.2.2.1)),(((Int.tmod (wrF .i64 x58) (wrF .i64 (1+(wrF .i64 (Int.tmod a0.1 6))))),((Int.tmod (wrF .i64 x59) (wrF .i64 (1+(wrF .i64 (Int.tmod a0.1 6))))),((wrF .i64 (1+(Int.tmod x60.1 20))),(Int.tmod x61.1 50)))),()))) fun x62=>bif !x62.1 then some (.inr ((s57.1.1,((),((wrF .i64 (s57.1.2.2.1+2)),()))),((s57.2.1.1,(s57.2.1.2.1,(s57.2.1.2.2.1,()))),())))else opt (zJ (fun s63:(((Int×((List Bool)×(List (Int×(Int×(Int×Int))))))×(Int×Unit))×Unit)=>bif(zg s63.1.2.1 ((s57.2.1.2.2.1.length:Nat):Int))then opt (atI s57.2.1.2.2.1 s63.1.2.1) fun x64=>opt (gl s57.2.1.2.2.1 (Int.toNat s63.1.2.1)) fun x65=>opt (wb (x65,((Int.tmod (wrF .i64 x58) (wrF .i64 (1+(wrF .i64 (Int.tmod a0.1 6))))),((Int.tmod (wrF .i64 x59) (wrF .i64 (1+(wrF .i64 (Int.tmod a0.1 6))))),())))) fun x66=>bif x66.1 then some (.inl s63)else some (.inr ((s63.1.1,((wrF .i64 (s63.1.2.1+1)),())),()))else some (.inl s63)) zR (((0,([],[])),(0,())),())) fun x67=>bif(zg x67.1.2.1 ((s57.2.1.2.2.1.length:Nat):Int))then opt (atI s57.2.1.2.2.1 x67.1.2.1) fun x68=>opt (gl s57.2.1.2.2.1 (Int.toNat x67.1.2.1)) fun x69=>opt (wb (x69,((Int.tmod (wrF .i64 x58) (wrF .i64 (1+(wrF .i64 (Int.tmod a0.1 6))))),((Int.tmod (wrF .i64 x59) (wrF .i64 (1+(wrF .i64 (Int.tmod a0.1 6))))),())))) fun x70=>bif x70.1 then some (.inr ((s57.1.1,((),((wrF .i64 (s57.1.2.2.1+2)),()))),((s57.2.1.1,(s57.2.1.2.1,(s57.2.1.2.2.1,()))),())))else none else bif(zX s57.2.1.2.2.1.length ((((Int.tmod (wrF .i64 x58) (wrF .i64 (1+(wrF .i64 (Int.tmod a0.1 6))))),((Int.tmod (wrF .i64 x59) (wrF .i64 (1+(wrF .i64 (Int.tmod a0.1 6))))),((wrF .i64 (1+(Int.tmod x60.1 20))),(Int.tmod x61.1 50))))::[]).length) 32)then some (.inr ((s57.1.1,((),((wrF .i64 (s57.1.2.2.1+2)),()))),((s57.2.1.1,(s57.2.1.2.1,((s57.2.1.2.2.1++(((Int.tmod (wrF .i64 x58) (wrF .i64 (1+(wrF .i64 (Int.tmod a0.1 6))))),((Int.tmod (wrF .i64 x59) (wrF .i64 (1+(wrF .i64 (Int.tmod a0.1 6))))),((wrF .i64 (1+(Int.tmod x60.1 20))),(Int.tmod x61.1 50))))::[])),()))),())))else none else some (.inl (0,((s57.1.1,((),(s57.1.2.2.1,()))),((s57.2.1.1,(s57.2.1.2.1,(s57.2.1.2.2.1,()))),()))))else some (.inl (0,((s57.1.1,((),(s57.1.2.2.1,()))),((s57.2.1.1,(s57.2.1.2.1,(s57.2.1.2.2.1,()))),()))))) zR ((x56.2.1.1,((),(0,()))),((x56.2.2.1.1,(x56.2.2.1.2.1,(x56.2.2.1.2.2.1,()))),()))) fun x71=>some ((x71.2.2.1.1,(x71.2.2.1.2.1,x71.2.2.1.2.2.1)),())
abbrev aV:Type:=(kY×Unit)->Option (qk×Unit)
def yW:aV:=opq (sF prg [(95,DG),(159,ej),(160,bo)] (zG [cdF yM,⟨zS,wB zS,[1,2]⟩,cdF qD] [] [⟨5,141,none,.bool,true⟩,⟨9,141,none,.bool,true⟩,⟨13,141,none,.bool,true⟩,⟨16,141,none,.bool,true⟩,⟨19,141,none,.bool,true⟩,⟨21,141,none,.bool,true⟩,⟨24,141,none,.bool,true⟩,⟨3,59,none,qD,true⟩,⟨6,59,none,qD,true⟩,⟨8,59,none,qD,true⟩] [(5,141,5,[1,2]),(9,141,5,[2]),(13,141,5,[2]),(16,141,5,[2]),(19,141,5,[2]),(21,141,5,[2]),(24,141,5,[2]),(5,141,5,[1])] [95,159,160]) (zy [(3,59),(8,59)] [(6,59)]) 30 47 ZL ZM)
abbrev DO:Con:=⟨ZL,ZM,yW⟩
theorem oh:Con.Ok prg 47 DO:=okF (ze Rq (ze lD (ze eA zn))) (by kernel_rfl)
theorem oi(a0):yW (a0,())=aU a0:=zA (by kernel_rfl)
abbrev Wr:List VT:=[⟨false,(.int .u8)⟩,⟨false,(.int .u8)⟩,⟨false,(.int .u8)⟩]
abbrev Ws:List VT:=[⟨true,xd⟩]
def lE(a0:Int)(a1:Int)(a2:Int):Option (wm×Unit):=some (((wrF .i64 (100+(wrF .i64 (20*(wrF .i64 a0))))),((wrF .i64 (Int.tmod a1 40)),((wrF .i64 a2),8000))),())
abbrev lF:Type:=(Int×Int×Int×Unit)->Option (wm×Unit)
def uY:lF:=opq (sF prg [] (zG [cdF xd] [] [] [] []) (zy []) 30 48 Wr Ws)
abbrev Rw:Con:=⟨Wr,Ws,uY⟩
theorem DP:Con.Ok prg 48 Rw:=okF zn (by kernel_rfl)
theorem DQ(a0)(a1)(a2):uY (a0,a1,a2,())=lE a0 a1 a2:=zA (by kernel_rfl)
abbrev DR:List VT:=[⟨true,zS⟩,⟨false,I⟩]
abbrev DT:List VT:=[⟨false,I⟩]
def DU(a0:qk)(a1:Int):Option (Int×Unit):=opt (atI a0.2.2 (wrF .i64 (Int.tdiv a1 2))) fun x0=>bif zj (Int.tmod a1 2) 1 then some (x0.2.1,())else some (x0.1,())
abbrev zfA:Type:=(qk×Int×Unit)->Option (Int×Unit)
def yg:zfA:=opq (sF prg [] (zG [cdF zS,cdF qD] [] [] [] []) (zy []) 30 18 DR DT)
abbrev gP:Con:=⟨DR,DT,yg⟩
theorem uZ:Con.Ok prg 18 gP:=okF zn (by kernel_rfl)
theorem Rx(a0)(a1):yg (a0,a1,())=DU a0 a1:=zA (by kernel_rfl)
abbrev sW:List VT:=[⟨true,zS⟩,⟨false,I⟩]
abbrev sX:List VT:=[⟨false,(.list I)⟩]
def sY(a0:qk)(a1:Int):Option ((List Int)×Unit):=opt (zJ (fun s0:((Int×Unit)×((List Int)×Unit))=>bif(zg s0.1.1 (wrF .i64 (2*((a0.2.2.length:Nat):Int))))then opt (opt (yg (a0,(s0.1.1,()))) fun x1=>bif zj x1.1 a1 then bif(zX s0.2.1.length ((s0.1.1::[]).length) 8)then some (0,((),((s0.2.1++(s0.1.1::[])),())))else none else some (0,((),(s0.2.1,())))) fun x2=>some (.inr (((wrF .i64 (s0.1.1+1)),()),(x2.2.2.1,())))else some (.inl (0,((s0.1.1,()),(s0.2.1,()))))) zR ((0,()),([],()))) fun x3=>some (x3.2.2.1,())
abbrev zco:Type:=(qk×Int×Unit)->Option ((List Int)×Unit)
def kr:zco:=opq (sF prg [(18,gP)] (zG [cdF zS,cdF qD] [] [⟨3,25,some 4,I,false⟩,⟨3,25,some 5,I,true⟩,⟨5,25,some 4,I,false⟩,⟨5,25,some 5,I,true⟩] [] [18]) (zy []) 30 227 sW sX)
abbrev sZ:Con:=⟨sW,sX,kr⟩
theorem Nh:Con.Ok prg 227 sZ:=okF (ze uZ zn) (by kernel_rfl)
theorem Ni(a0)(a1):kr (a0,a1,())=sY a0 a1:=zA (by kernel_rfl)
abbrev Ry:List VT:=[⟨true,zS⟩,⟨false,I⟩]
abbrev Rz:List VT:=[⟨false,I⟩]
def RA(a0:qk)(a1:Int):Option (Int×Unit):=opt (atI a0.2.2 (wrF .i64 (Int.tdiv a1 2))) fun x0=>bif zj (Int.tmod a1 2) 1 then some (x0.1,())else some (x0.2.1,())
abbrev ziX:Type:=(qk×Int×Unit)->Option (Int×Unit)
def jQ:ziX:=opq (sF prg [] (zG [cdF zS,cdF qD] [] [] [] []) (zy []) 30 24 Ry Rz)
abbrev YL:Con:=⟨Ry,Rz,jQ⟩
theorem JA:Con.Ok prg 24 YL:=okF zn (by kernel_rfl)
theorem zcp(a0)(a1):jQ (a0,a1,())=RA a0 a1:=zA (by kernel_rfl)
abbrev RB:List VT:=[⟨false,(.list I)⟩,⟨false,I⟩]
abbrev RC:List VT:=[⟨false,.bool⟩]
def RD(a0:(List Int))(a1:Int):Option (Bool×Unit):=opt (zJ (fun s0:((Bool×(Int×Unit))×Unit)=>bif(zg s0.1.2.1 ((a0.length:Nat):Int))then opt (atI a0 s0.1.2.1) fun x1=>bif zj x1 a1 then some (.inl (1,((true,(s0.1.2.1,())),())))else some (.inr ((s0.1.1,((wrF .i64 (s0.1.2.1+1)),())),()))else some (.inl (0,((s0.1.1,(s0.1.2.1,())),())))) zR ((false,(0,())),())) fun x2=>bif Nat.beq x2.1 0 then some (false,())else some (x2.2.1.1,())
abbrev ziY:Type:=((List Int)×Int×Unit)->Option (Bool×Unit)
def vB:ziY:=opq (sF prg [] (zG [] [] [] [] []) (zy []) 30 225 RB RC)
abbrev KJ:Con:=⟨RB,RC,vB⟩
theorem Vc:Con.Ok prg 225 KJ:=okF zn (by kernel_rfl)
theorem zcq(a0)(a1):vB (a0,a1,())=RD a0 a1:=zA (by kernel_rfl)
abbrev DV:List VT:=[⟨true,zS⟩,⟨false,(.int .u8)⟩,⟨false,(.int .u8)⟩]
abbrev DW:List VT:=[⟨false,(.list I)⟩]
def DX(a0:qk)(a1:Int)(a2:Int):Option ((List Int)×Unit):=bif zj a0.1 0 then none else opt (zJ (fun s0:(((Int×((List Bool)×(List (Int×(Int×(Int×Int))))))×((List Int)×(Int×Unit)))×((List Int)×((List Int)×Unit)))=>bif(zg ((s0.2.1.length:Nat):Int) 8)then bif(zj ((s0.2.1.length:Nat):Int) 0)then opt (kr (s0.1.1,(s0.1.2.2.1,()))) fun x1=>opt (zJ (fun s2:((Int×Unit)×((List Int)×((List Int)×Unit)))=>bif(zg s2.1.1 ((x1.1.length:Nat):Int))then opt (opt (atI x1.1 s2.1.1) fun x3=>opt (jQ (s0.1.1,(x3,()))) fun x4=>opt (vB (s2.2.1,(x4.1,()))) fun x5=>bif !x5.1 then opt (atI x1.1 s2.1.1) fun x6=>bif(zX s2.2.2.1.length ((x6::[]).length) 8)then some (0,((),(s2.2.1,((s2.2.2.1++(x6::[])),()))))else none else some (0,((),(s2.2.1,(s2.2.2.1,()))))) fun x7=>some (.inr (((wrF .i64 (s2.1.1+1)),()),(x7.2.2.1,(x7.2.2.2.1,()))))else some (.inl (0,((s2.1.1,()),(s2.2.1,(s2.2.2.1,())))))) zR ((0,()),(s0.2.2.1,([],())))) fun x8=>bif(zj ((x8.2.2.2.1.length:Nat):Int) 0)then some (.inl s0)else bif(zj ((x8.2.2.2.1.length:Nat):Int) 0)then none else opt (atI x8.2.2.2.1 (Int.tmod (wrF .i64 ((wrF .i64 a2)+(wrF .i64 (3*((s0.2.1.length:Nat):Int))))) ((x8.2.2.2.1.length:Nat):Int))) fun x9=>opt (gl x8.2.2.2.1 (Int.toNat (Int.tmod (wrF .i64 ((wrF .i64 a2)+(wrF .i64 (3*((s0.2.1.length:Nat):Int))))) ((x8.2.2.2.1.length:Nat):Int)))) fun x10=>bif(zX s0.2.1.length ((x10::[]).length) 8)then opt (jQ (s0.1.1,(x10,()))) fun x11=>bif(zX x8.2.2.1.length ((x11.1::[]).length) 8)then some (.inr ((s0.1.1,(s0.1.2.1,(x11.1,()))),((s0.2.1++(x10::[])),((x8.2.2.1++(x11.1::[])),()))))else none else none else opt (atI s0.1.1.2.1 s0.1.2.2.1) fun x12=>bif !x12 then opt (kr (s0.1.1,(s0.1.2.2.1,()))) fun x13=>opt (zJ (fun s14:((Int×Unit)×((List Int)×((List Int)×Unit)))=>bif(zg s14.1.1 ((x13.1.length:Nat):Int))then opt (opt (atI x13.1 s14.1.1) fun x15=>opt (jQ (s0.1.1,(x15,()))) fun x16=>opt (vB (s14.2.1,(x16.1,()))) fun x17=>bif !x17.1 then opt (atI x13.1 s14.1.1) fun x18=>bif(zX s14.2.2.1.length ((x18::[]).length) 8)then some (0,((),(s14.2.1,((s14.2.2.1++(x18::[])),()))))else none else some (0,((),(s14.2.1,(s14.2.2.1,()))))) fun x19=>some (.inr (((wrF .i64 (s14.1.1+1)),()),(x19.2.2.1,(x19.2.2.2.1,()))))else some (.inl (0,((s14.1.1,()),(s14.2.1,(s14.2.2.1,())))))) zR ((0,()),(s0.2.2.1,([],())))) fun x20=>bif(zj ((x20.2.2.2.1.length:Nat):Int) 0)then some (.inl s0)else bif(zj ((x20.2.2.2.1.length:Nat):Int) 0)then none else opt (atI x20.2.2.2.1 (Int.tmod (wrF .i64 ((wrF .i64 a2)+(wrF .i64 (3*((s0.2.1.length:Nat):Int))))) ((x20.2.2.2.1.length:Nat):Int))) fun x21=>opt (gl x20.2.2.2.1 (Int.toNat (Int.tmod (wrF .i64 ((wrF .i64 a2)+(wrF .i64 (3*((s0.2.1.length:Nat):Int))))) ((x20.2.2.2.1.length:Nat):Int)))) fun x22=>bif(zX s0.2.1.length ((x22::[]).length) 8)then opt (jQ (s0.1.1,(x22,()))) fun x23=>bif(zX x20.2.2.1.length ((x23.1::[]).length) 8)then some (.inr ((s0.1.1,(s0.1.2.1,(x23.1,()))),((s0.2.1++(x22::[])),((x20.2.2.1++(x23.1::[])),()))))else none else none else some (.inl s0)else some (.inl s0)) zR ((a0,([],((Int.tmod (wrF .i64 a1) a0.1),()))),([],(((Int.tmod (wrF .i64 a1) a0.1)::[]),())))) fun x24=>bif(zg ((x24.2.1.length:Nat):Int) 8)then bif(zj ((x24.2.1.length:Nat):Int) 0)then opt (kr (x24.1.1,(x24.1.2.2.1,()))) fun x25=>opt (zJ (fun s26:((Int×Unit)×((List Int)×((List Int)×Unit)))=>bif(zg s26.1.1 ((x25.1.length:Nat):Int))then opt (opt (atI x25.1 s26.1.1) fun x27=>opt (jQ (x24.1.1,(x27,()))) fun x28=>opt (vB (s26.2.1,(x28.1,()))) fun x29=>bif !x29.1 then opt (atI x25.1 s26.1.1) fun x30=>bif(zX s26.2.2.1.length ((x30::[]).length) 8)then some (0,((),(s26.2.1,((s26.2.2.1++(x30::[])),()))))else none else some (0,((),(s26.2.1,(s26.2.2.1,()))))) fun x31=>some (.inr (((wrF .i64 (s26.1.1+1)),()),(x31.2.2.1,(x31.2.2.2.1,()))))else some (.inl (0,((s26.1.1,()),(s26.2.1,(s26.2.2.1,())))))) zR ((0,()),(x24.2.2.1,([],())))) fun x32=>bif(zj ((x32.2.2.2.1.length:Nat):Int) 0)then some (x24.2.1,())else bif(zj ((x32.2.2.2.1.length:Nat):Int) 0)then none else opt (atI x32.2.2.2.1 (Int.tmod (wrF .i64 ((wrF .i64 a2)+(wrF .i64 (3*((x24.2.1.length:Nat):Int))))) ((x32.2.2.2.1.length:Nat):Int))) fun x33=>opt (gl x32.2.2.2.1 (Int.toNat (Int.tmod (wrF .i64 ((wrF .i64 a2)+(wrF .i64 (3*((x24.2.1.length:Nat):Int))))) ((x32.2.2.2.1.length:Nat):Int)))) fun x34=>bif(zX x24.2.1.length ((x34::[]).length) 8)then opt (jQ (x24.1.1,(x34,()))) fun x35=>bif(zX x32.2.2.1.length ((x35.1::[]).length) 8)then none else none else none else opt (atI x24.1.1.2.1 x24.1.2.2.1) fun x36=>bif !x36 then opt (kr (x24.1.1,(x24.1.2.2.1,()))) fun x37=>opt (zJ (fun s38:((Int×Unit)×((List Int)×((List Int)×Unit)))=>bif(zg s38.1.1 ((x37.1.length:Nat):Int))then opt (opt (atI x37.1 s38.1.1) fun x39=>opt (jQ (x24.1.1,(x39,()))) fun x40=>opt (vB (s38.2.1,(x40.1,()))) fun x41=>bif !x41.1 then opt (atI x37.1 s38.1.1) fun x42=>bif(zX s38.2.2.1.length ((x42::[]).length) 8)then some (0,((),(s38.2.1,((s38.2.2.1++(x42::[])),()))))else none else some (0,((),(s38.2.1,(s38.2.2.1,()))))) fun x43=>some (.inr (((wrF .i64 (s38.1.1+1)),()),(x43.2.2.1,(x43.2.2.2.1,()))))else some (.inl (0,((s38.1.1,()),(s38.2.1,(s38.2.2.1,())))))) zR ((0,()),(x24.2.2.1,([],())))) fun x44=>bif(zj ((x44.2.2.2.1.length:Nat):Int) 0)then some (x24.2.1,())else bif(zj ((x44.2.2.2.1.length:Nat):Int) 0)then none else opt (atI x44.2.2.2.1 (Int.tmod (wrF .i64 ((wrF .i64 a2)+(wrF .i64 (3*((x24.2.1.length:Nat):Int))))) ((x44.2.2.2.1.length:Nat):Int))) fun x45=>opt (gl x44.2.2.2.1 (Int.toNat (Int.tmod (wrF .i64 ((wrF .i64 a2)+(wrF .i64 (3*((x24.2.1.length:Nat):Int))))) ((x44.2.2.2.1.length:Nat):Int)))) fun x46=>bif(zX x24.2.1.length ((x46::[]).length) 8)then opt (jQ (x24.1.1,(x46,()))) fun x47=>bif(zX x44.2.2.1.length ((x47.1::[]).length) 8)then none else none else none else some (x24.2.1,())else some (x24.2.1,())
abbrev zfB:Type:=(qk×Int×Int×Unit)->Option ((List Int)×Unit)
def gQ:zfB:=opq (sF prg [(227,sZ),(24,YL),(225,KJ)] (zG [cdF zS,cdF qD] [] [⟨4,90,some 6,I,false⟩,⟨4,90,some 9,I,true⟩,⟨4,90,some 10,I,true⟩,⟨8,90,some 6,I,false⟩,⟨8,90,some 9,I,true⟩,⟨8,90,some 10,I,true⟩,⟨10,90,some 6,I,false⟩,⟨10,90,some 9,I,true⟩,⟨10,90,some 10,I,true⟩,⟨12,90,some 6,I,false⟩,⟨12,90,some 9,I,true⟩,⟨12,90,some 10,I,true⟩] [] [24,225]) (zy [] [(4,90)]) 30 167 DV DW)
abbrev DY:Con:=⟨DV,DW,gQ⟩
theorem RE:Con.Ok prg 167 DY:=okF (ze Nh (ze JA (ze Vc zn))) (by kernel_rfl)
theorem RF(a0)(a1)(a2):gQ (a0,a1,a2,())=DX a0 a1 a2:=zA (by kernel_rfl)
abbrev DZ:List VT:=[⟨true,zS⟩,⟨false,I⟩]
abbrev Ea:List VT:=[⟨false,.bool⟩]
def Eb(a0:qk)(a1:Int):Option (Bool×Unit):=bif !(zg a1 0)then some ((zg a1 (wrF .i64 (2*((a0.2.2.length:Nat):Int)))),())else some (false,())
abbrev zfC:Type:=(qk×Int×Unit)->Option (Bool×Unit)
def KK:zfC:=opq (sF prg [] (zG [cdF zS,cdF qD] [] [] [] []) (zy []) 30 228 DZ Ea)
abbrev Ec:Con:=⟨DZ,Ea,KK⟩
theorem RG:Con.Ok prg 228 Ec:=okF zn (by kernel_rfl)
theorem RH(a0)(a1):KK (a0,a1,())=Eb a0 a1:=zA (by kernel_rfl)
abbrev tc:List VT:=[⟨true,zS⟩,⟨false,(.list I)⟩]
abbrev td:List VT:=[⟨false,(.list I)⟩]
def te(a0:qk)(a1:(List Int)):Option ((List Int)×Unit):=opt (atI a1 0) fun x0=>opt (yg (a0,(x0,()))) fun x1=>opt (zJ (fun s2:((Int×Unit)×((List Int)×Unit))=>bif(zg s2.1.1 ((a1.length:Nat):Int))then opt (atI a1 s2.1.1) fun x3=>opt (jQ (a0,(x3,()))) fun x4=>bif(zX s2.2.1.length ((x4.1::[]).length) 8)then some (.inr (((wrF .i64 (s2.1.1+1)),()),((s2.2.1++(x4.1::[])),())))else none else some (.inl (0,((s2.1.1,()),(s2.2.1,()))))) zR ((0,()),((x1.1::[]),()))) fun x5=>some (x5.2.2.1,())
abbrev zcr:Type:=(qk×(List Int)×Unit)->Option ((List Int)×Unit)
def vQ:zcr:=opq (sF prg [(18,gP),(24,YL)] (zG [cdF zS,cdF qD] [] [⟨3,29,some 4,I,false⟩] [] [18,24]) (zy []) 30 170 tc td)
abbrev bp:Con:=⟨tc,td,vQ⟩
theorem eB:Con.Ok prg 170 bp:=okF (ze uZ (ze JA zn)) (by kernel_rfl)
theorem Nj(a0)(a1):vQ (a0,a1,())=te a0 a1:=zA (by kernel_rfl)
abbrev tf:List VT:=[⟨true,zS⟩,⟨false,(.list I)⟩]
abbrev tg:List VT:=[⟨false,.bool⟩]
def th(a0:qk)(a1:(List Int)):Option (Bool×Unit):=opt (bif(zg ((a1.length:Nat):Int) 1)then some (1,((false,()),()))else bif(zg 8 ((a1.length:Nat):Int))then some (1,((false,()),()))else some (0,((false,()),()))) fun x0=>bif Nat.beq x0.1 0 then opt (zJ (fun s1:((Bool×(Int×Unit))×Unit)=>bif(zg s1.1.2.1 ((a1.length:Nat):Int))then opt (atI a1 s1.1.2.1) fun x2=>opt (KK (a0,(x2,()))) fun x3=>bif !x3.1 then some (.inl (1,((false,(s1.1.2.1,())),())))else some (.inr ((s1.1.1,((wrF .i64 (s1.1.2.1+1)),())),()))else some (.inl (0,((s1.1.1,(s1.1.2.1,())),())))) zR ((x0.2.1.1,(0,())),())) fun x4=>bif Nat.beq x4.1 0 then opt (vQ (a0,(a1,()))) fun x5=>opt (zJ (fun s6:((Bool×(Int×Unit))×Unit)=>bif(zg s6.1.2.1 ((x5.1.length:Nat):Int))then opt (Yc x5.1 none (some s6.1.2.1) none) fun x7=>opt (atI x5.1 s6.1.2.1) fun x8=>opt (vB (x7,(x8,()))) fun x9=>bif x9.1 then some (.inl (1,((false,(s6.1.2.1,())),())))else opt (bif zg 0 s6.1.2.1 then bif(zg s6.1.2.1 ((a1.length:Nat):Int))then opt (atI x5.1 s6.1.2.1) fun x10=>opt (atI a0.2.1 x10) fun x11=>bif x11 then some (1,((false,()),()))else opt (atI a1 s6.1.2.1) fun x12=>opt (yg (a0,(x12,()))) fun x13=>opt (atI x5.1 s6.1.2.1) fun x14=>bif !(zj x13.1 x14)then some (1,((false,()),()))else some (0,((s6.1.1,()),()))else some (0,((s6.1.1,()),()))else some (0,((s6.1.1,()),()))) fun x15=>bif Nat.beq x15.1 0 then some (.inr ((x15.2.1.1,((wrF .i64 (s6.1.2.1+1)),())),()))else some (.inl (1,((x15.2.1.1,(s6.1.2.1,())),())))else some (.inl (0,((s6.1.1,(s6.1.2.1,())),())))) zR ((x4.2.1.1,(0,())),())) fun x16=>bif Nat.beq x16.1 0 then some (true,())else some (x16.2.1.1,())else some (x4.2.1.1,())else some (x0.2.1.1,())
abbrev zcs:Type:=(qk×(List Int)×Unit)->Option (Bool×Unit)
def ku:zcs:=opq (sF prg [(228,Ec),(170,bp),(225,KJ),(18,gP)] (zG [cdF zS,cdF qD] [] [] [] [228,225,18]) (zy []) 30 168 tf tg)
abbrev bq:Con:=⟨tf,tg,ku⟩
theorem eD:Con.Ok prg 168 bq:=okF (ze RG (ze eB (ze Vc (ze uZ zn)))) (by kernel_rfl)
theorem Nk(a0)(a1):ku (a0,a1,())=th a0 a1:=zA (by kernel_rfl)
abbrev lG:List VT:=[⟨false,(.list I)⟩,⟨false,(.list I)⟩]
abbrev lH:List VT:=[⟨false,.bool⟩]
def lI(a0:(List Int))(a1:(List Int)):Option (Bool×Unit):=opt (zJ (fun s0:((Bool×(Int×Unit))×Unit)=>bif(zg s0.1.2.1 (wrF .i64 (((a0.length:Nat):Int) - 1)))then opt (atI a0 s0.1.2.1) fun x1=>opt (vB (a1,(x1,()))) fun x2=>bif x2.1 then some (.inl (1,((true,(s0.1.2.1,())),())))else some (.inr ((s0.1.1,((wrF .i64 (s0.1.2.1+1)),())),()))else some (.inl (0,((s0.1.1,(s0.1.2.1,())),())))) zR ((false,(1,())),())) fun x3=>bif Nat.beq x3.1 0 then some (false,())else some (x3.2.1.1,())
abbrev RI:Type:=((List Int)×(List Int)×Unit)->Option (Bool×Unit)
def ZN:RI:=opq (sF prg [(225,KJ)] (zG [] [] [] [] [225]) (zy []) 30 169 lG lH)
abbrev lJ:Con:=⟨lG,lH,ZN⟩
theorem Ed:Con.Ok prg 169 lJ:=okF (ze Vc zn) (by kernel_rfl)
theorem Ee(a0)(a1):ZN (a0,a1,())=lI a0 a1:=zA (by kernel_rfl)
abbrev ti:List VT:=[⟨true,zS⟩,⟨false,(.list I)⟩,⟨false,(.list I)⟩]
abbrev tj:List VT:=[⟨false,.bool⟩]
def tk(a0:qk)(a1:(List Int))(a2:(List Int)):Option (Bool×Unit):=opt (zJ (fun s0:((Bool×(Int×Unit))×Unit)=>bif(zg s0.1.2.1 ((a1.length:Nat):Int))then opt (zJ (fun s1:((Bool×(Int×Unit))×Unit)=>bif(zg s1.1.2.1 ((a2.length:Nat):Int))then opt (atI a1 s0.1.2.1) fun x2=>opt (atI a2 s1.1.2.1) fun x3=>bif(zj (wrF .i64 (Int.tdiv x2 2)) (wrF .i64 (Int.tdiv x3 2)))then some (.inl (1,((false,(s1.1.2.1,())),())))else some (.inr ((s1.1.1,((wrF .i64 (s1.1.2.1+1)),())),()))else some (.inl (0,((s1.1.1,(s1.1.2.1,())),())))) zR ((s0.1.1,(0,())),())) fun x4=>bif Nat.beq x4.1 0 then some (.inr ((x4.2.1.1,((wrF .i64 (s0.1.2.1+1)),())),()))else some (.inl (1,((x4.2.1.1,(s0.1.2.1,())),())))else some (.inl (0,((s0.1.1,(s0.1.2.1,())),())))) zR ((false,(0,())),())) fun x5=>bif Nat.beq x5.1 0 then opt (vQ (a0,(a1,()))) fun x6=>opt (vQ (a0,(a2,()))) fun x7=>opt (ZN (x6.1,(x7.1,()))) fun x8=>bif !x8.1 then opt (vQ (a0,(a2,()))) fun x9=>opt (vQ (a0,(a1,()))) fun x10=>opt (ZN (x9.1,(x10.1,()))) fun x11=>some ((!x11.1),())else some (false,())else some (x5.2.1.1,())
abbrev zct:Type:=(qk×(List Int)×(List Int)×Unit)->Option (Bool×Unit)
def JB:zct:=opq (sF prg [(170,bp),(169,lJ)] (zG [cdF zS,cdF qD] [] [] [] [169]) (zy []) 30 106 ti tj)
abbrev br:Con:=⟨ti,tj,JB⟩
theorem eE:Con.Ok prg 106 br:=okF (ze eB (ze Ed zn)) (by kernel_rfl)
theorem Nl(a0)(a1)(a2):JB (a0,a1,a2,())=tk a0 a1 a2:=zA (by kernel_rfl)
abbrev RJ:List VT:=[⟨false,I⟩,⟨false,I⟩,⟨false,I⟩]
abbrev RK:List VT:=[⟨false,.bool⟩]
def RL(a0:Int)(a1:Int)(a2:Int):Option (Bool×Unit):=bif !(zg a0 a1)then some ((!(zg a2 a0)),())else some (false,())
abbrev ziZ:Type:=(Int×Int×Int×Unit)->Option (Bool×Unit)
def yG:ziZ:=opq (sF prg [] (zG [] [] [] [] []) (zy []) 30 162 RJ RK)
abbrev de:Con:=⟨RJ,RK,yG⟩
theorem bt:Con.Ok prg 162 de:=okF zn (by kernel_rfl)
theorem zcu(a0)(a1)(a2):yG (a0,a1,a2,())=RL a0 a1 a2:=zA (by kernel_rfl)
abbrev lK:List VT:=[⟨true,zS⟩,⟨false,I⟩]
abbrev lL:List VT:=[⟨false,.bool⟩]
def lM(a0:qk)(a1:Int):Option (Bool×Unit):=opt (yG (a1,(0,((wrF .i64 (a0.1 - 1)),())))) fun x0=>bif x0.1 then opt (atI a0.2.1 a1) fun x1=>some (x1,())else some (false,())
abbrev RM:Type:=(qk×Int×Unit)->Option (Bool×Unit)
def ZO:RM:=opq (sF prg [(162,de)] (zG [cdF zS,cdF qD] [] [] [] [162]) (zy []) 30 171 lK lL)
abbrev lN:Con:=⟨lK,lL,ZO⟩
theorem Ef:Con.Ok prg 171 lN:=okF (ze bt zn) (by kernel_rfl)
theorem Eg(a0)(a1):ZO (a0,a1,())=lM a0 a1:=zA (by kernel_rfl)
abbrev tn:List VT:=[⟨true,zS⟩,⟨true,zN⟩]
abbrev tp:List VT:=[⟨false,.bool⟩]
def tq(a0:qk)(a1:qi):Option (Bool×Unit):=opt (opt (yG (a1.1,(1,(4095,())))) fun x0=>bif !x0.1 then some (1,((false,()),()))else opt (ZO (a0,(a1.2.1,()))) fun x1=>bif !x1.1 then some (1,((false,()),()))else opt (ZO (a0,(a1.2.2.1,()))) fun x2=>bif !x2.1 then some (1,((false,()),()))else bif zj a1.2.1 a1.2.2.1 then some (1,((false,()),()))else opt (yG (a1.2.2.2.2.1,(84,(1542,())))) fun x3=>bif !x3.1 then some (1,((false,()),()))else opt (yG (a1.2.2.2.2.2.2.2.1,(1,(1099511627776,())))) fun x4=>bif !x4.1 then some (1,((false,()),()))else some (0,((false,()),()))) fun x5=>bif Nat.beq x5.1 0 then opt (bif zj a1.2.2.2.1 7 then opt (opt (yG (a1.2.2.2.2.2.1,(1,(240,())))) fun x6=>bif !x6.1 then some (1,((false,()),()))else bif(!((zj a1.2.2.2.2.2.2.1.1 0)&&((zj a1.2.2.2.2.2.2.1.2 0)&&true)))then some (1,((false,()),()))else some (0,((x5.2.1.1,()),()))) fun x7=>bif Nat.beq x7.1 0 then some (0,((x7.2.1.1,()),()))else some (1,((x7.2.1.1,()),()))else bif zj a1.2.2.2.1 6 then opt (bif !(zj a1.2.2.2.2.2.1 0)then some (1,((false,()),()))else opt (yG (a1.2.2.2.2.2.2.1.1,(a1.2.2.2.2.1,(1048576,())))) fun x8=>bif !x8.1 then some (1,((false,()),()))else opt (yG (a1.2.2.2.2.2.2.1.2,(1,(2097152,())))) fun x9=>bif !x9.1 then some (1,((false,()),()))else some (0,((x5.2.1.1,()),()))) fun x10=>bif Nat.beq x10.1 0 then some (0,((x10.2.1.1,()),()))else some (1,((x10.2.1.1,()),()))else some (1,((false,()),()))) fun x11=>bif Nat.beq x11.1 0 then opt (bif(zg ((a1.2.2.2.2.2.2.2.2.length:Nat):Int) 1)then some (1,((false,()),()))else bif(zg 2 ((a1.2.2.2.2.2.2.2.2.length:Nat):Int))then some (1,((false,()),()))else some (0,((x11.2.1.1,()),()))) fun x12=>bif Nat.beq x12.1 0 then opt (zJ (fun s13:((Bool×(Int×Unit))×Unit)=>bif(zg s13.1.2.1 ((a1.2.2.2.2.2.2.2.2.length:Nat):Int))then opt (atI a1.2.2.2.2.2.2.2.2 s13.1.2.1) fun x14=>opt (opt (ku (a0,(x14,()))) fun x15=>bif !x15.1 then some (1,((false,()),()))else opt (atI x14 0) fun x16=>opt (yg (a0,(x16,()))) fun x17=>bif !(zj x17.1 a1.2.1)then some (1,((false,()),()))else opt (atI x14 (wrF .i64 (((x14.length:Nat):Int) - 1))) fun x18=>opt (jQ (a0,(x18,()))) fun x19=>bif !(zj x19.1 a1.2.2.1)then some (1,((false,()),()))else some (0,((s13.1.1,()),()))) fun x20=>bif Nat.beq x20.1 0 then some (.inr ((x20.2.1.1,((wrF .i64 (s13.1.2.1+1)),())),()))else some (.inl (1,((x20.2.1.1,(s13.1.2.1,())),())))else some (.inl (0,((s13.1.1,(s13.1.2.1,())),())))) zR ((x12.2.1.1,(0,())),())) fun x21=>bif Nat.beq x21.1 0 then bif(zj ((a1.2.2.2.2.2.2.2.2.length:Nat):Int) 1)then some (true,())else opt (atI a1.2.2.2.2.2.2.2.2 0) fun x22=>opt (atI a1.2.2.2.2.2.2.2.2 1) fun x23=>opt (JB (a0,(x22,(x23,())))) fun x24=>some (x24.1,())else some (x21.2.1.1,())else some (x12.2.1.1,())else some (x11.2.1.1,())else some (x5.2.1.1,())
abbrev zcv:Type:=(qk×qi×Unit)->Option (Bool×Unit)
def Zr:zcv:=opq (sF prg [(162,de),(171,lN),(168,bq),(18,gP),(24,YL),(106,br)] (zG [cdF zN,cdF zS,cdF qD,cdF zr] [] [] [] [162,171,168,18,24,106]) (zy []) 30 107 tn tp)
abbrev Vd:Con:=⟨tn,tp,Zr⟩
theorem VM:Con.Ok prg 107 Vd:=okF (ze bt (ze Ef (ze eD (ze uZ (ze JA (ze eE zn)))))) (by kernel_rfl)
theorem Nm(a0)(a1):Zr (a0,a1,())=tq a0 a1:=zA (by kernel_rfl)
abbrev KL:List VT:=[⟨true,qy⟩,⟨true,zS⟩,⟨false,I⟩]
abbrev KM:List VT:=[⟨true,zN⟩,⟨false,.bool⟩]
def KN(a0:xn)(a1:qk)(a2:Int):Option (qi×Bool×Unit):=bif zj a1.1 0 then none else opt (zJ (fun s0:((Int×(Int×Unit))×Unit)=>bif zg s0.1.2.1 a1.1 then opt (atI a1.2.1 s0.1.1) fun x1=>bif !x1 then bif zj a1.1 0 then none else some (.inr (((Int.tmod (wrF .i64 (s0.1.1+1)) a1.1),((wrF .i64 (s0.1.2.1+1)),())),()))else some (.inl (0,((s0.1.1,(s0.1.2.1,())),())))else some (.inl (0,((s0.1.1,(s0.1.2.1,())),())))) zR (((Int.tmod (wrF .i64 a0.2.2.1) a1.1),(0,())),())) fun x2=>opt (zJ (fun s3:(((Int×((List Bool)×(List (Int×(Int×(Int×Int))))))×((List Int)×(Int×Unit)))×Unit)=>bif zg s3.1.2.2.1 16 then opt (gQ (s3.1.1,((wrF .u8 x2.2.1.1),((wrF .u8 (a0.2.2.2.1+(wrF .u8 s3.1.2.2.1))),())))) fun x4=>opt (bif(zg 0 ((x4.1.length:Nat):Int))then opt (ku (s3.1.1,(x4.1,()))) fun x5=>bif x5.1 then opt (atI x4.1 0) fun x6=>opt (yg (s3.1.1,(x6,()))) fun x7=>opt (atI s3.1.1.2.1 x7.1) fun x8=>bif x8 then opt (atI x4.1 (wrF .i64 (((x4.1.length:Nat):Int) - 1))) fun x9=>opt (jQ (s3.1.1,(x9,()))) fun x10=>opt (atI s3.1.1.2.1 x10.1) fun x11=>bif x11 then some (1,((x4.1,()),()))else some (0,((s3.1.2.1,()),()))else some (0,((s3.1.2.1,()),()))else some (0,((s3.1.2.1,()),()))else some (0,((s3.1.2.1,()),()))) fun x12=>bif Nat.beq x12.1 0 then some (.inr ((s3.1.1,(x12.2.1.1,((wrF .i64 (s3.1.2.2.1+1)),()))),()))else some (.inl (1,((s3.1.1,(x12.2.1.1,(s3.1.2.2.1,()))),())))else some (.inl (0,((s3.1.1,(s3.1.2.1,(s3.1.2.2.1,()))),())))) zR ((a1,([],(0,()))),())) fun x13=>bif Nat.beq x13.1 0 then some ((0,(0,(0,(0,(0,(0,((0,0),(0,[])))))))),(false,()))else bif dQ x13.2.1.2.1 then opt (atI x13.2.1.2.1 0) fun x14=>opt (yg (a1,(x14,()))) fun x15=>opt (atI x13.2.1.2.1 (wrF .i64 (((x13.2.1.2.1.length:Nat):Int) - 1))) fun x16=>opt (jQ (a1,(x16,()))) fun x17=>opt (bif a0.1 then some (0,(((),()),((a2,(x15.1,(x17.1,(6,((wrF .i64 (84+(wrF .i64 a0.2.2.2.2.1))),(0,(((wrF .i64 ((wrF .i64 (84+(wrF .i64 a0.2.2.2.2.1)))+(wrF .i64 (4*(wrF .i64 a0.2.2.2.2.2.2.1))))),(wrF .i64 (1+(wrF .i64 a0.2.2.2.2.2.2.2)))),(1099511627776,((x13.2.1.2.1::[]),()))))))))),())))else opt (atI (α:=Int) (4::(6::(8::(12::(16::(24::(48::(10::(5::(240::[])))))))))) (Int.tmod a0.2.2.2.2.2.1 10)) fun x18=>opt (gl (α:=Int) (4::(6::(8::(12::(16::(24::(48::(10::(5::(240::[])))))))))) (Int.toNat (Int.tmod a0.2.2.2.2.2.1 10))) fun x19=>some (0,(((),()),((a2,(x15.1,(x17.1,(7,((wrF .i64 (84+(wrF .i64 a0.2.2.2.2.1))),(x19,((0,0),(1099511627776,((x13.2.1.2.1::[]),()))))))))),())))) fun x20=>opt (zJ (fun s21:(((Int×((List Bool)×(List (Int×(Int×(Int×Int))))))×(Unit×(Int×Unit)))×((Int×(Int×(Int×(Int×(Int×(Int×((Int×Int)×(Int×((List (List Int))×Unit)))))))))×Unit))=>bif zg s21.1.2.2.1 24 then bif a0.2.1 then bif(zj ((s21.2.1.2.2.2.2.2.2.2.2.1.length:Nat):Int) 1)then opt (zJ (fun s22:(((Int×((List Bool)×(List (Int×(Int×(Int×Int))))))×((List Int)×(Int×Unit)))×Unit)=>bif zg s22.1.2.2.1 16 then opt (gQ (s22.1.1,((wrF .u8 x2.2.1.1),((wrF .u8 ((wrF .u8 (a0.2.2.2.1+(wrF .u8 s21.1.2.2.1)))+(wrF .u8 s22.1.2.2.1))),())))) fun x23=>opt (bif(zg 0 ((x23.1.length:Nat):Int))then opt (ku (s22.1.1,(x23.1,()))) fun x24=>bif x24.1 then opt (atI x23.1 0) fun x25=>opt (yg (s22.1.1,(x25,()))) fun x26=>opt (atI s22.1.1.2.1 x26.1) fun x27=>bif x27 then opt (atI x23.1 (wrF .i64 (((x23.1.length:Nat):Int) - 1))) fun x28=>opt (jQ (s22.1.1,(x28,()))) fun x29=>opt (atI s22.1.1.2.1 x29.1) fun x30=>bif x30 then some (1,((x23.1,()),()))else some (0,((s22.1.2.1,()),()))else some (0,((s22.1.2.1,()),()))else some (0,((s22.1.2.1,()),()))else some (0,((s22.1.2.1,()),()))) fun x31=>bif Nat.beq x31.1 0 then some (.inr ((s22.1.1,(x31.2.1.1,((wrF .i64 (s22.1.2.2.1+1)),()))),()))else some (.inl (1,((s22.1.1,(x31.2.1.1,(s22.1.2.2.1,()))),())))else some (.inl (0,((s22.1.1,(s22.1.2.1,(s22.1.2.2.1,()))),())))) zR ((s21.1.1,([],(0,()))),())) fun x32=>bif Nat.beq x32.1 0 then some (.inr ((s21.1.1,((),((wrF .i64 (s21.1.2.2.1+1)),()))),((s21.2.1.1,(s21.2.1.2.1,(s21.2.1.2.2.1,(s21.2.1.2.2.2.1,(s21.2.1.2.2.2.2.1,(s21.2.1.2.2.2.2.2.1,(s21.2.1.2.2.2.2.2.2.1,(s21.2.1.2.2.2.2.2.2.2.1,(s21.2.1.2.2.2.2.2.2.2.2.1,()))))))))),())))else opt (bif dQ x32.2.1.2.1 then opt (atI x32.2.1.2.1 (wrF .i64 (((x32.2.1.2.1.length:Nat):Int) - 1))) fun x33=>opt (jQ (s21.1.1,(x33,()))) fun x34=>bif zj x34.1 s21.2.1.2.2.1 then opt (JB (s21.1.1,(x13.2.1.2.1,(x32.2.1.2.1,())))) fun x35=>bif x35.1 then bif(zX s21.2.1.2.2.2.2.2.2.2.2.1.length ((x32.2.1.2.1::[]).length) 24)then some (0,(((),()),((s21.2.1.1,(s21.2.1.2.1,(s21.2.1.2.2.1,(s21.2.1.2.2.2.1,(s21.2.1.2.2.2.2.1,(s21.2.1.2.2.2.2.2.1,(s21.2.1.2.2.2.2.2.2.1,(s21.2.1.2.2.2.2.2.2.2.1,((s21.2.1.2.2.2.2.2.2.2.2.1++(x32.2.1.2.1::[])),()))))))))),())))else none else some (0,(((),()),((s21.2.1.1,(s21.2.1.2.1,(s21.2.1.2.2.1,(s21.2.1.2.2.2.1,(s21.2.1.2.2.2.2.1,(s21.2.1.2.2.2.2.2.1,(s21.2.1.2.2.2.2.2.2.1,(s21.2.1.2.2.2.2.2.2.2.1,(s21.2.1.2.2.2.2.2.2.2.2.1,()))))))))),())))else some (0,(((),()),((s21.2.1.1,(s21.2.1.2.1,(s21.2.1.2.2.1,(s21.2.1.2.2.2.1,(s21.2.1.2.2.2.2.1,(s21.2.1.2.2.2.2.2.1,(s21.2.1.2.2.2.2.2.2.1,(s21.2.1.2.2.2.2.2.2.2.1,(s21.2.1.2.2.2.2.2.2.2.2.1,()))))))))),())))else none) fun x36=>some (.inr ((s21.1.1,((),((wrF .i64 (s21.1.2.2.1+1)),()))),((x36.2.2.1.1,(x36.2.2.1.2.1,(x36.2.2.1.2.2.1,(x36.2.2.1.2.2.2.1,(x36.2.2.1.2.2.2.2.1,(x36.2.2.1.2.2.2.2.2.1,(x36.2.2.1.2.2.2.2.2.2.1,(x36.2.2.1.2.2.2.2.2.2.2.1,(x36.2.2.1.2.2.2.2.2.2.2.2.1,()))))))))),())))else some (.inl (0,((s21.1.1,((),(s21.1.2.2.1,()))),((s21.2.1.1,(s21.2.1.2.1,(s21.2.1.2.2.1,(s21.2.1.2.2.2.1,(s21.2.1.2.2.2.2.1,(s21.2.1.2.2.2.2.2.1,(s21.2.1.2.2.2.2.2.2.1,(s21.2.1.2.2.2.2.2.2.2.1,(s21.2.1.2.2.2.2.2.2.2.2.1,()))))))))),()))))else some (.inl (0,((s21.1.1,((),(s21.1.2.2.1,()))),((s21.2.1.1,(s21.2.1.2.1,(s21.2.1.2.2.1,(s21.2.1.2.2.2.1,(s21.2.1.2.2.2.2.1,(s21.2.1.2.2.2.2.2.1,(s21.2.1.2.2.2.2.2.2.1,(s21.2.1.2.2.2.2.2.2.2.1,(s21.2.1.2.2.2.2.2.2.2.2.1,()))))))))),()))))else some (.inl (0,((s21.1.1,((),(s21.1.2.2.1,()))),((s21.2.1.1,(s21.2.1.2.1,(s21.2.1.2.2.1,(s21.2.1.2.2.2.1,(s21.2.1.2.2.2.2.1,(s21.2.1.2.2.2.2.2.1,(s21.2.1.2.2.2.2.2.2.1,(s21.2.1.2.2.2.2.2.2.2.1,(s21.2.1.2.2.2.2.2.2.2.2.1,()))))))))),()))))) zR ((a1,((),(0,()))),((x20.2.2.1.1,(x20.2.2.1.2.1,(x20.2.2.1.2.2.1,(x20.2.2.1.2.2.2.1,(x20.2.2.1.2.2.2.2.1,(x20.2.2.1.2.2.2.2.2.1,(x20.2.2.1.2.2.2.2.2.2.1,(x20.2.2.1.2.2.2.2.2.2.2.1,(x20.2.2.1.2.2.2.2.2.2.2.2.1,()))))))))),()))) fun x37=>opt (Zr (x37.2.1.1,((x37.2.2.1.1,(x37.2.2.1.2.1,(x37.2.2.1.2.2.1,(x37.2.2.1.2.2.2.1,(x37.2.2.1.2.2.2.2.1,(x37.2.2.1.2.2.2.2.2.1,(x37.2.2.1.2.2.2.2.2.2.1,(x37.2.2.1.2.2.2.2.2.2.2.1,x37.2.2.1.2.2.2.2.2.2.2.2.1)))))))),()))) fun x38=>some ((x37.2.2.1.1,(x37.2.2.1.2.1,(x37.2.2.1.2.2.1,(x37.2.2.1.2.2.2.1,(x37.2.2.1.2.2.2.2.1,(x37.2.2.1.2.2.2.2.2.1,(x37.2.2.1.2.2.2.2.2.2.1,(x37.2.2.1.2.2.2.2.2.2.2.1,x37.2.2.1.2.2.2.2.2.2.2.2.1)))))))),(x38.1,()))else none
abbrev rQ:Type:=(xn×qk×Int×Unit)->Option (qi×Bool×Unit)
def xp:rQ:=opq (sF prg [(167,DY),(168,bq),(18,gP),(24,YL),(106,br),(107,Vd)] (zG [⟨zN,wB zN,[9]⟩,cdF qy,cdF zS,cdF qD,cdF zr] [] [⟨3,147,none,(.list I),true⟩,⟨7,147,none,(.list I),true⟩,⟨10,147,none,(.list I),true⟩,⟨16,147,none,(.list I),true⟩,⟨19,147,none,(.list I),true⟩,⟨2,54,some 6,I,false⟩,⟨5,54,some 6,I,false⟩,⟨2,54,none,(.list I),true⟩,⟨5,54,none,(.list I),true⟩] [(3,147,11,[9]),(7,147,11,[9]),(10,147,11,[9]),(16,147,11,[9]),(19,147,11,[9]),(16,147,11,[9]),(19,147,11,[9])] [168,18,24,106,107]) (zy []) 30 53 KL KM)
abbrev KP:Con:=⟨KL,KM,xp⟩
theorem iD:Con.Ok prg 53 KP:=okF (ze RE (ze eD (ze uZ (ze JA (ze eE (ze VM zn)))))) (by kernel_rfl)
theorem iE(a0)(a1)(a2):xp (a0,a1,a2,())=KN a0 a1 a2:=zA (by kernel_rfl)
abbrev Wt:List VT:=[⟨true,zS⟩,⟨false,(.list qy)⟩]
abbrev Wu:List VT:=[⟨false,(.list zN)⟩]
def lO(a0:qk)(a1:(List xn)):Option ((List qi)×Unit):=opt (zJ (fun s0:(((Int×((List Bool)×(List (Int×(Int×(Int×Int))))))×(Int×Unit))×((List (Int×(Int×(Int×(Int×(Int×(Int×((Int×Int)×(Int×(List (List Int)))))))))))×Unit))=>bif(zg s0.1.2.1 ((a1.length:Nat):Int))then bif(zg ((s0.2.1.length:Nat):Int) 6)then opt (atI a1 s0.1.2.1) fun x1=>opt (xp (x1,(s0.1.1,((wrF .i64 (((s0.2.1.length:Nat):Int)+1)),())))) fun x2=>opt (bif x2.2.1 then bif(zX s0.2.1.length ((x2.1::[]).length) 96)then some (0,((),((s0.2.1++(x2.1::[])),())))else none else some (0,((),(s0.2.1,())))) fun x3=>some (.inr ((s0.1.1,((wrF .i64 (s0.1.2.1+1)),())),(x3.2.2.1,())))else some (.inl (0,((s0.1.1,(s0.1.2.1,())),(s0.2.1,()))))else some (.inl (0,((s0.1.1,(s0.1.2.1,())),(s0.2.1,()))))) zR ((a0,(0,())),([],()))) fun x4=>some (x4.2.2.1,())
abbrev lP:Type:=(qk×(List xn)×Unit)->Option ((List qi)×Unit)
def xA:lP:=opq (sF prg [(53,KP)] (zG [cdF zN,cdF qy,cdF zS,cdF qD,cdF zr] [] [⟨3,38,some 4,zN,false⟩,⟨3,38,some 5,zN,true⟩,⟨6,38,some 4,zN,false⟩,⟨6,38,some 5,zN,true⟩] [] []) (zy []) 30 15 Wt Wu)
abbrev RN:Con:=⟨Wt,Wu,xA⟩
theorem Eh:Con.Ok prg 15 RN:=okF (ze iD zn) (by kernel_rfl)
theorem Ei(a0)(a1):xA (a0,a1,())=lO a0 a1:=zA (by kernel_rfl)
abbrev tr:List VT:=[⟨true,zS⟩,⟨false,I⟩,⟨false,(.list I)⟩]
abbrev tu:List VT:=[⟨false,(.list .bool)⟩]
def tx(a0:qk)(a1:Int)(a2:(List Int)):Option ((List Bool)×Unit):=bif rr a0.1 a0.1 1 then opt (atI (List.replicate (Int.toNat a0.1) false) a1) fun x0=>opt (gl (List.replicate (Int.toNat a0.1) false) (Int.toNat a1)) fun x1=>opt (zJ (fun s2:((Int×Unit)×((List Bool)×Unit))=>bif zg s2.1.1 a0.1 then opt (zJ (fun s3:((Int×Unit)×((List Bool)×Unit))=>bif(zg s3.1.1 ((a0.2.2.length:Nat):Int))then opt (atI a0.2.2 s3.1.1) fun x4=>opt (opt (vB (a2,(s3.1.1,()))) fun x5=>bif !x5.1 then opt (atI s3.2.1 x4.1) fun x6=>opt (gl s3.2.1 (Int.toNat x4.1)) fun x7=>bif x7 then opt (atI s3.2.1 x4.1) fun x8=>opt (gl s3.2.1 (Int.toNat x4.1)) fun x9=>opt (atI (s3.2.1.set (Int.toNat x4.1) true) x4.2.1) fun x10=>opt (gl (s3.2.1.set (Int.toNat x4.1) true) (Int.toNat x4.2.1)) fun x11=>some (0,((),(((s3.2.1.set (Int.toNat x4.1) true).set (Int.toNat x4.2.1) true),())))else opt (atI s3.2.1 x4.2.1) fun x12=>opt (gl s3.2.1 (Int.toNat x4.2.1)) fun x13=>bif x13 then opt (atI s3.2.1 x4.1) fun x14=>opt (gl s3.2.1 (Int.toNat x4.1)) fun x15=>opt (atI (s3.2.1.set (Int.toNat x4.1) true) x4.2.1) fun x16=>opt (gl (s3.2.1.set (Int.toNat x4.1) true) (Int.toNat x4.2.1)) fun x17=>some (0,((),(((s3.2.1.set (Int.toNat x4.1) true).set (Int.toNat x4.2.1) true),())))else some (0,((),(s3.2.1,())))else some (0,((),(s3.2.1,())))) fun x18=>some (.inr (((wrF .i64 (s3.1.1+1)),()),(x18.2.2.1,())))else some (.inl (0,((s3.1.1,()),(s3.2.1,()))))) zR ((0,()),(s2.2.1,()))) fun x19=>some (.inr (((wrF .i64 (s2.1.1+1)),()),(x19.2.2.1,())))else some (.inl (0,((s2.1.1,()),(s2.2.1,()))))) zR ((0,()),(((List.replicate (Int.toNat a0.1) false).set (Int.toNat a1) true),()))) fun x20=>some (x20.2.2.1,())else none
abbrev zcw:Type:=(qk×Int×(List Int)×Unit)->Option ((List Bool)×Unit)
def Ve:zcw:=opq (sF prg [(225,KJ)] (zG [cdF zS,cdF qD] [] [⟨4,62,some 6,.bool,false⟩,⟨7,62,some 6,.bool,false⟩,⟨10,62,some 6,.bool,false⟩] [] [225]) (zy []) 30 161 tr tu)
abbrev tz:Con:=⟨tr,tu,Ve⟩
theorem Nn:Con.Ok prg 161 tz:=okF (ze Vc zn) (by kernel_rfl)
theorem No(a0)(a1)(a2):Ve (a0,a1,a2,())=tx a0 a1 a2:=zA (by kernel_rfl)
abbrev tA:List VT:=[⟨true,zS⟩]
abbrev tB:List VT:=[⟨false,.bool⟩]
def tC(a0:qk):Option (Bool×Unit):=opt (bif zg a0.1 2 then some (1,((false,()),()))else bif zg 12 a0.1 then some (1,((false,()),()))else bif(!(zj ((a0.2.1.length:Nat):Int) a0.1))then some (1,((false,()),()))else bif(zg 24 ((a0.2.2.length:Nat):Int))then some (1,((false,()),()))else some (0,((false,()),()))) fun x0=>bif Nat.beq x0.1 0 then bif rr a0.1 a0.1 8 then opt (zJ (fun s1:((Bool×(Int×Unit))×((List Int)×Unit))=>bif(zg s1.1.2.1 ((a0.2.2.length:Nat):Int))then opt (atI a0.2.2 s1.1.2.1) fun x2=>opt (xK (a0,(x2,()))) fun x3=>bif !x3.1 then some (.inl (1,((false,(s1.1.2.1,())),(s1.2.1,()))))else opt (zJ (fun s4:((Bool×(Int×Unit))×Unit)=>bif zg s4.1.2.1 s1.1.2.1 then opt (atI a0.2.2 s4.1.2.1) fun x5=>opt (wb (x5,(x2.1,(x2.2.1,())))) fun x6=>bif x6.1 then some (.inl (1,((false,(s4.1.2.1,())),())))else some (.inr ((s4.1.1,((wrF .i64 (s4.1.2.1+1)),())),()))else some (.inl (0,((s4.1.1,(s4.1.2.1,())),())))) zR ((s1.1.1,(0,())),())) fun x7=>bif Nat.beq x7.1 0 then opt (atI s1.2.1 x2.1) fun x8=>opt (gl s1.2.1 (Int.toNat x2.1)) fun x9=>opt (atI s1.2.1 x2.1) fun x10=>opt (gl s1.2.1 (Int.toNat x2.1)) fun x11=>opt (atI (s1.2.1.set (Int.toNat x2.1) (wrF .i64 (x9+1))) x2.2.1) fun x12=>opt (gl (s1.2.1.set (Int.toNat x2.1) (wrF .i64 (x9+1))) (Int.toNat x2.2.1)) fun x13=>opt (atI (s1.2.1.set (Int.toNat x2.1) (wrF .i64 (x9+1))) x2.2.1) fun x14=>opt (gl (s1.2.1.set (Int.toNat x2.1) (wrF .i64 (x9+1))) (Int.toNat x2.2.1)) fun x15=>some (.inr ((x7.2.1.1,((wrF .i64 (s1.1.2.1+1)),())),(((s1.2.1.set (Int.toNat x2.1) (wrF .i64 (x9+1))).set (Int.toNat x2.2.1) (wrF .i64 (x13+1))),())))else some (.inl (1,((x7.2.1.1,(s1.1.2.1,())),(s1.2.1,()))))else some (.inl (0,((s1.1.1,(s1.1.2.1,())),(s1.2.1,()))))) zR ((x0.2.1.1,(0,())),((List.replicate (Int.toNat a0.1) 0),()))) fun x16=>bif Nat.beq x16.1 0 then opt (Ve (a0,(0,([],())))) fun x17=>opt (zJ (fun s18:((Bool×(Int×Unit))×Unit)=>bif zg s18.1.2.1 a0.1 then opt (opt (atI x17.1 s18.1.2.1) fun x19=>bif !x19 then some (1,((false,()),()))else opt (atI a0.2.1 s18.1.2.1) fun x20=>bif x20 then opt (atI x16.2.2.1 s18.1.2.1) fun x21=>opt (gl x16.2.2.1 (Int.toNat s18.1.2.1)) fun x22=>bif zg x22 1 then some (1,((false,()),()))else opt (atI x16.2.2.1 s18.1.2.1) fun x23=>opt (gl x16.2.2.1 (Int.toNat s18.1.2.1)) fun x24=>bif zg 2 x24 then some (1,((false,()),()))else some (0,((s18.1.1,()),()))else some (0,((s18.1.1,()),()))) fun x25=>bif Nat.beq x25.1 0 then some (.inr ((x25.2.1.1,((wrF .i64 (s18.1.2.1+1)),())),()))else some (.inl (1,((x25.2.1.1,(s18.1.2.1,())),())))else some (.inl (0,((s18.1.1,(s18.1.2.1,())),())))) zR ((x16.2.1.1,(0,())),())) fun x26=>bif Nat.beq x26.1 0 then some (true,())else some (x26.2.1.1,())else some (x16.2.1.1,())else none else some (x0.2.1.1,())
abbrev zcx:Type:=(qk×Unit)->Option (Bool×Unit)
def kx:zcx:=opq (sF prg [(159,ej),(160,bo),(161,tz)] (zG [cdF zS,cdF qD] [] [] [] [159,160]) (zy []) 30 96 tA tB)
abbrev JC:Con:=⟨tA,tB,kx⟩
theorem Jb:Con.Ok prg 96 JC:=okF (ze lD (ze eA (ze Nn zn))) (by kernel_rfl)
theorem Np(a0):kx (a0,())=tC a0:=zA (by kernel_rfl)
abbrev tD:List VT:=[⟨true,xd⟩]
abbrev tE:List VT:=[⟨false,.bool⟩]
def tG(a0:wm):Option (Bool×Unit):=opt (yG (a0.1,(1,(10000,())))) fun x0=>bif x0.1 then opt (yG (a0.2.1,(0,(1000,())))) fun x1=>bif x1.1 then opt (yG (a0.2.2.1,(0,(10000,())))) fun x2=>bif x2.1 then opt (yG (a0.2.2.2,(1542,(65536,())))) fun x3=>some (x3.1,())else some (false,())else some (false,())else some (false,())
abbrev zcy:Type:=(wm×Unit)->Option (Bool×Unit)
def JD:zcy:=opq (sF prg [(162,de)] (zG [cdF xd] [] [] [] [162]) (zy []) 30 97 tD tE)
abbrev bu:Con:=⟨tD,tE,JD⟩
theorem eF:Con.Ok prg 97 bu:=okF (ze bt zn) (by kernel_rfl)
theorem Nq(a0):JD (a0,())=tG a0:=zA (by kernel_rfl)
abbrev eG:List VT:=[⟨true,zS⟩,⟨false,(.list zN)⟩]
abbrev eH:List VT:=[⟨false,I⟩]
def eI(a0:qk)(a1:(List qi)):Option (Int×Unit):=opt (kx (a0,())) fun x0=>bif !x0.1 then some (260,())else bif(zg 12 ((a1.length:Nat):Int))then some (3,())else opt (zJ (fun s1:((Int×(Int×Unit))×Unit)=>bif(zg s1.1.2.1 ((a1.length:Nat):Int))then opt (atI a1 s1.1.2.1) fun x2=>opt (Zr (a0,(x2,()))) fun x3=>bif !x3.1 then some (.inl (1,((321,(s1.1.2.1,())),())))else some (.inr ((s1.1.1,((wrF .i64 (s1.1.2.1+1)),())),()))else some (.inl (0,((s1.1.1,(s1.1.2.1,())),())))) zR ((0,(0,())),())) fun x4=>bif Nat.beq x4.1 0 then opt (zJ (fun s5:((Int×(Int×Unit))×Unit)=>bif(zg s5.1.2.1 ((a1.length:Nat):Int))then opt (zJ (fun s6:((Int×(Int×Unit))×Unit)=>bif zg s6.1.2.1 s5.1.2.1 then opt (atI a1 s6.1.2.1) fun x7=>opt (atI a1 s5.1.2.1) fun x8=>bif zj x7.1 x8.1 then some (.inl (1,((322,(s6.1.2.1,())),())))else some (.inr ((s6.1.1,((wrF .i64 (s6.1.2.1+1)),())),()))else some (.inl (0,((s6.1.1,(s6.1.2.1,())),())))) zR ((s5.1.1,(0,())),())) fun x9=>bif Nat.beq x9.1 0 then some (.inr ((x9.2.1.1,((wrF .i64 (s5.1.2.1+1)),())),()))else some (.inl (1,((x9.2.1.1,(s5.1.2.1,())),())))else some (.inl (0,((s5.1.1,(s5.1.2.1,())),())))) zR ((x4.2.1.1,(0,())),())) fun x10=>bif Nat.beq x10.1 0 then some (0,())else some (x10.2.1.1,())else some (x4.2.1.1,())
abbrev Nr:Type:=(qk×(List qi)×Unit)->Option (Int×Unit)
def gR:Nr:=opq (sF prg [(96,JC),(107,Vd)] (zG [cdF zN,cdF zS,cdF qD,cdF zr] [] [] [] [96,107]) (zy []) 30 98 eG eH)
abbrev VO:Con:=⟨eG,eH,gR⟩
theorem UW:Con.Ok prg 98 VO:=okF (ze Jb (ze VM zn)) (by kernel_rfl)
theorem BF(a0)(a1):gR (a0,a1,())=eI a0 a1:=zA (by kernel_rfl)
abbrev IV:List VT:=[⟨true,zS⟩,⟨false,I⟩]
abbrev IW:List VT:=[⟨false,I⟩]
def IX(a0:qk)(a1:Int):Option (Int×Unit):=opt (atI a0.2.2 (wrF .i64 (Int.tdiv a1 2))) fun x0=>some (x0.2.2.1,())
abbrev zgx:Type:=(qk×Int×Unit)->Option (Int×Unit)
def JZ:zgx:=opq (sF prg [] (zG [cdF zS,cdF qD] [] [] [] []) (zy []) 30 56 IV IW)
abbrev mZ:Con:=⟨IV,IW,JZ⟩
theorem oj:Con.Ok prg 56 mZ:=okF zn (by kernel_rfl)
theorem zag(a0)(a1):JZ (a0,a1,())=IX a0 a1:=zA (by kernel_rfl)
abbrev tH:List VT:=[⟨true,zS⟩,⟨false,I⟩]
abbrev tI:List VT:=[⟨false,I⟩]
def tJ(a0:qk)(a1:Int):Option (Int×Unit):=opt (atI a0.2.2 (wrF .i64 (Int.tdiv a1 2))) fun x0=>some (x0.2.2.2,())
abbrev zcz:Type:=(qk×Int×Unit)->Option (Int×Unit)
def ky:zcz:=opq (sF prg [] (zG [cdF zS,cdF qD] [] [] [] []) (zy []) 30 57 tH tI)
abbrev Vf:Con:=⟨tH,tI,ky⟩
theorem VP:Con.Ok prg 57 Vf:=okF zn (by kernel_rfl)
theorem Ns(a0)(a1):ky (a0,a1,())=tJ a0 a1:=zA (by kernel_rfl)
abbrev IY:List VT:=[⟨true,zS⟩,⟨true,xd⟩,⟨true,zN⟩,⟨false,(.list I)⟩]
abbrev IZ:List VT:=[⟨false,(.list gx)⟩]
def La(a0:qk)(a1:wm)(a2:qi)(a3:(List Int)):Option ((List rP)×Unit):=opt (atI a3 0) fun x0=>opt (atI a3 0) fun x1=>opt (JZ (a0,(x1,()))) fun x2=>opt (zJ (fun s3:((Int×Unit)×((List (Int×(Int×(Int×(Int×Int)))))×Unit))=>bif(zg s3.1.1 ((a3.length:Nat):Int))then opt (atI s3.2.1 (wrF .i64 (s3.1.1 - 1))) fun x4=>opt (gl s3.2.1 (Int.toNat (wrF .i64 (s3.1.1 - 1)))) fun x5=>opt (ky (a0,(x5.1,()))) fun x6=>opt (atI a3 s3.1.1) fun x7=>opt (atI a3 s3.1.1) fun x8=>opt (JZ (a0,(x8,()))) fun x9=>opt (zJ (fun s10:(((Int×(Int×(Int×(Int×Int))))×Unit)×Unit)=>bif zg s10.1.1.2.2.2.1 s10.1.1.2.2.1 then some (.inr (((s10.1.1.1,(s10.1.1.2.1,(s10.1.1.2.2.1,((wrF .i64 (s10.1.1.2.2.2.1+a1.1)),s10.1.1.2.2.2.2)))),()),()))else some (.inl (0,((s10.1.1,()),())))) zR (((x7,((wrF .i64 ((wrF .i64 ((wrF .i64 ((wrF .i64 (x5.2.2.2.1+x5.2.2.2.2))+x6.1))+a1.2.2.1)) - (wrF .i64 (2*a1.2.1)))),((wrF .i64 ((wrF .i64 ((wrF .i64 ((wrF .i64 (x5.2.2.2.1+x5.2.2.2.2))+x6.1))+a1.2.2.1))+(wrF .i64 (2*a1.2.1)))),(0,(wrF .i64 (a2.2.2.2.2.1*x9.1)))))),()),())) fun x11=>bif(zX s3.2.1.length ((x11.2.1.1::[]).length) 40)then some (.inr (((wrF .i64 (s3.1.1+1)),()),((s3.2.1++(x11.2.1.1::[])),())))else none else some (.inl (0,((s3.1.1,()),(s3.2.1,()))))) zR ((1,()),(((x0,(0,(0,(0,(wrF .i64 (a2.2.2.2.2.1*x2.1))))))::[]),()))) fun x12=>some (x12.2.2.1,())
abbrev zgy:Type:=(qk×wm×qi×(List Int)×Unit)->Option ((List rP)×Unit)
def xL:zgy:=opq (sF prg [(56,mZ),(57,Vf)] (zG [cdF zN,cdF zS,cdF gx,cdF qD,cdF zr] [] [⟨3,91,some 8,gx,false⟩,⟨8,91,some 8,gx,false⟩] [] [56,57]) (zy []) 30 19 IY IZ)
abbrev XE:Con:=⟨IY,IZ,xL⟩
theorem YM:Con.Ok prg 19 XE:=okF (ze oj (ze VP zn)) (by kernel_rfl)
theorem zah(a0)(a1)(a2)(a3):xL (a0,a1,a2,a3,())=La a0 a1 a2 a3:=zA (by kernel_rfl)
abbrev Lb:List VT:=[⟨false,I⟩,⟨false,I⟩]
abbrev Ld:List VT:=[⟨false,I⟩]
def Le(a0:Int)(a1:Int):Option (Int×Unit):=bif zj a1 0 then none else opt (bif zg (Int.tmod a0 a1) 0 then some (0,(((wrF .i64 ((Int.tmod a0 a1)+a1)),()),()))else some (0,(((Int.tmod a0 a1),()),()))) fun x0=>some (x0.2.1.1,())
abbrev zgz:Type:=(Int×Int×Unit)->Option (Int×Unit)
def vq:zgz:=opq (sF prg [] (zG [] [] [] [] []) (zy []) 30 164 Lb Ld)
abbrev XF:Con:=⟨Lb,Ld,vq⟩
theorem YN:Con.Ok prg 164 XF:=okF zn (by kernel_rfl)
theorem zai(a0)(a1):vq (a0,a1,())=Le a0 a1:=zA (by kernel_rfl)
abbrev tK:List VT:=[⟨false,I⟩,⟨false,I⟩]
abbrev tL:List VT:=[⟨false,I⟩]
def tM(a0:Int)(a1:Int):Option (Int×Unit):=opt (vq (a0,(a1,()))) fun x0=>bif zj a1 0 then none else some ((wrF .i64 (Int.tdiv (wrF .i64 (a0 - x0.1)) a1)),())
abbrev zcA:Type:=(Int×Int×Unit)->Option (Int×Unit)
def JE:zcA:=opq (sF prg [(164,XF)] (zG [] [] [] [] [164]) (zy []) 30 163 tK tL)
abbrev tN:Con:=⟨tK,tL,JE⟩
theorem Nt:Con.Ok prg 163 tN:=okF (ze YN zn) (by kernel_rfl)
theorem Nu(a0)(a1):JE (a0,a1,())=tM a0 a1:=zA (by kernel_rfl)
abbrev Lf:List VT:=[⟨true,xd⟩,⟨false,I⟩,⟨false,I⟩,⟨true,gx⟩]
abbrev Lg:List VT:=[⟨true,QK⟩]
def Lh(a0:wm)(a1:Int)(a2:Int)(a3:rP):Option (Nf×Unit):=opt (JE (a3.2.1,(a0.1,()))) fun x0=>opt (JE ((wrF .i64 (0 - (wrF .i64 (a3.2.2.2.1+a3.2.2.2.2)))),(a0.1,()))) fun x1=>opt (vq (x0.1,(a2,()))) fun x2=>some ((a1,(a3.1,(x2.1,(wrF .i64 ((wrF .i64 (0 - x1.1)) - x0.1))))),())
abbrev zgA:Type:=(wm×Int×Int×rP×Unit)->Option (Nf×Unit)
def XG:zgA:=opq (sF prg [(163,tN),(164,XF)] (zG [cdF gx,cdF xd] [] [] [] [163,164]) (zy []) 30 99 Lf Lg)
abbrev Li:Con:=⟨Lf,Lg,XG⟩
theorem zaj:Con.Ok prg 99 Li:=okF (ze Nt (ze YN zn)) (by kernel_rfl)
theorem zak(a0)(a1)(a2)(a3):XG (a0,a1,a2,a3,())=Lh a0 a1 a2 a3:=zA (by kernel_rfl)
abbrev Lj:List VT:=[⟨true,zS⟩,⟨true,xd⟩,⟨true,zN⟩,⟨false,(.list I)⟩]
abbrev Lk:List VT:=[⟨false,I⟩]
def Ll(a0:qk)(a1:wm)(a2:qi)(a3:(List Int)):Option (Int×Unit):=opt (xL (a0,(a1,(a2,(a3,()))))) fun x0=>opt (atI x0.1 (wrF .i64 (((x0.1.length:Nat):Int) - 1))) fun x1=>opt (ky (a0,(x1.1,()))) fun x2=>some ((wrF .i64 ((wrF .i64 ((wrF .i64 (x1.2.2.2.1+x1.2.2.2.2))+x2.1))+a1.2.2.1)),())
abbrev zgB:Type:=(qk×wm×qi×(List Int)×Unit)->Option (Int×Unit)
def XH:zgB:=opq (sF prg [(19,XE),(57,Vf)] (zG [cdF zN,cdF zS,cdF gx,cdF qD,cdF zr] [] [] [] [57]) (zy []) 30 100 Lj Lk)
abbrev Lm:Con:=⟨Lj,Lk,XH⟩
theorem zal:Con.Ok prg 100 Lm:=okF (ze YM (ze VP zn)) (by kernel_rfl)
theorem zam(a0)(a1)(a2)(a3):XH (a0,a1,a2,a3,())=Ll a0 a1 a2 a3:=zA (by kernel_rfl)
abbrev au:List VT:=[⟨false,(.list I)⟩]
abbrev aw:List VT:=[⟨false,I⟩]
def Ln(a0:(List Int)):Option (Int×Unit):=opt (zJ (fun s0:((Int×(Int×Unit))×Unit)=>bif !(zg 960 s0.1.2.1)then opt (zJ (fun s1:((Bool×(Int×Unit))×Unit)=>bif(zg s1.1.2.1 ((a0.length:Nat):Int))then bif s1.1.1 then opt (atI a0 s1.1.2.1) fun x2=>bif zj x2 0 then none else some (.inr (((zj (Int.tmod s0.1.2.1 x2) 0),((wrF .i64 (s1.1.2.1+1)),())),()))else some (.inr ((false,((wrF .i64 (s1.1.2.1+1)),())),()))else some (.inl (0,((s1.1.1,(s1.1.2.1,())),())))) zR ((true,(0,())),())) fun x3=>bif x3.2.1.1 then some (.inl (1,((s0.1.2.1,(s0.1.2.1,())),())))else some (.inr ((s0.1.1,((wrF .i64 (s0.1.2.1+1)),())),()))else some (.inl (0,((s0.1.1,(s0.1.2.1,())),())))) zR ((0,(1,())),())) fun x4=>bif Nat.beq x4.1 0 then some (0,())else some (x4.2.1.1,())
abbrev Lo:Type:=((List Int)×Unit)->Option (Int×Unit)
def xg:Lo:=opq (sF prg [] (zG [] [] [] [] []) (zy []) 30 52 au aw)
abbrev nc:Con:=⟨au,aw,xg⟩
theorem GL:Con.Ok prg 52 nc:=okF zn (by kernel_rfl)
theorem zan(a0):xg (a0,())=Ln a0:=zA (by kernel_rfl)
abbrev df:List VT:=[⟨true,zS⟩,⟨true,xd⟩,⟨false,(.list zN)⟩]
abbrev dg:List VT:=[⟨true,jb⟩,⟨false,I⟩]
def RO(a0:qk)(a1:wm)(a2:(List qi)):Option (qQ×Int×Unit):=opt (kx (a0,())) fun x0=>bif !x0.1 then some (([],[]),(260,()))else opt (JD (a1,())) fun x1=>bif !x1.1 then some (([],[]),(320,()))else opt (gR (a0,(a2,()))) fun x2=>bif !(zj x2.1 0)then some (([],[]),(x2.1,()))else opt (zJ (fun s3:(((Int×((List Bool)×(List (Int×(Int×(Int×Int))))))×((Int×(Int×(Int×Int)))×(Unit×(Bool×(Int×Unit)))))×(((List Int)×((List (Int×(Int×(Int×Int))))×Unit))×Unit))=>bif(zg s3.1.2.2.2.2.1 ((a2.length:Nat):Int))then opt (atI a2 s3.1.2.2.2.2.1) fun x4=>bif !(zj x4.2.2.2.1 7)then some (.inr ((s3.1.1,(s3.1.2.1,((),(s3.1.2.2.2.1,((wrF .i64 (s3.1.2.2.2.2.1+1)),()))))),((s3.2.1.1,(s3.2.1.2.1,())),())))else opt (zJ (fun s5:(((Int×((List Bool)×(List (Int×(Int×(Int×Int))))))×((Int×(Int×(Int×Int)))×(Unit×(Bool×(Int×Unit)))))×(((List Int)×((List (Int×(Int×(Int×Int))))×Unit))×Unit))=>opt (atI a2 s3.1.2.2.2.2.1) fun x6=>bif(zg s5.1.2.2.2.2.1 ((x6.2.2.2.2.2.2.2.2.length:Nat):Int))then opt (atI a2 s3.1.2.2.2.2.1) fun x7=>opt (atI a2 s3.1.2.2.2.2.1) fun x8=>opt (atI x8.2.2.2.2.2.2.2.2 s5.1.2.2.2.2.1) fun x9=>opt (xL (s5.1.1,(s5.1.2.1,(x7,(x9,()))))) fun x10=>opt (zJ (fun s11:((Unit×(Int×Unit))×(((List Int)×((List (Int×(Int×(Int×Int))))×Unit))×Unit))=>bif(zg s11.1.2.1 ((x10.1.length:Nat):Int))then opt (atI a2 s3.1.2.2.2.2.1) fun x12=>opt (atI x10.1 s11.1.2.1) fun x13=>opt (XG (s5.1.2.1,(((s11.2.1.1.length:Nat):Int),(x12.2.2.2.2.2.1,(x13,()))))) fun x14=>bif(zX s11.2.1.2.1.length ((x14.1::[]).length) 32)then some (.inr (((),((wrF .i64 (s11.1.2.1+1)),())),((s11.2.1.1,((s11.2.1.2.1++(x14.1::[])),())),())))else none else some (.inl (0,(((),(s11.1.2.1,())),((s11.2.1.1,(s11.2.1.2.1,())),()))))) zR (((),(0,())),((s5.2.1.1,(s5.2.1.2.1,())),()))) fun x15=>bif s5.1.2.2.2.1 then some (.inr ((s5.1.1,(s5.1.2.1,((),(true,((wrF .i64 (s5.1.2.2.2.2.1+1)),()))))),((x15.2.2.1.1,(x15.2.2.1.2.1,())),())))else opt (atI a2 s3.1.2.2.2.2.1) fun x16=>opt (atI a2 s3.1.2.2.2.2.1) fun x17=>opt (atI x17.2.2.2.2.2.2.2.2 s5.1.2.2.2.2.1) fun x18=>opt (XH (s5.1.1,(s5.1.2.1,(x16,(x18,()))))) fun x19=>opt (atI a2 s3.1.2.2.2.2.1) fun x20=>some (.inr ((s5.1.1,(s5.1.2.1,((),((zg x20.2.2.2.2.2.2.2.1 (wrF .i64 (x19.1+(wrF .i64 (2*s5.1.2.1.2.1))))),((wrF .i64 (s5.1.2.2.2.2.1+1)),()))))),((x15.2.2.1.1,(x15.2.2.1.2.1,())),())))else some (.inl (0,((s5.1.1,(s5.1.2.1,((),(s5.1.2.2.2.1,(s5.1.2.2.2.2.1,()))))),((s5.2.1.1,(s5.2.1.2.1,())),()))))) zR ((s3.1.1,(s3.1.2.1,((),(s3.1.2.2.2.1,(0,()))))),((s3.2.1.1,(s3.2.1.2.1,())),()))) fun x21=>opt (atI a2 s3.1.2.2.2.2.1) fun x22=>bif(zX x21.2.2.1.1.length ((x22.2.2.2.2.2.1::[]).length) 8)then some (.inr ((x21.2.1.1,(x21.2.1.2.1,((),(x21.2.1.2.2.2.1,((wrF .i64 (s3.1.2.2.2.2.1+1)),()))))),(((x21.2.2.1.1++(x22.2.2.2.2.2.1::[])),(x21.2.2.1.2.1,())),())))else none else some (.inl (0,((s3.1.1,(s3.1.2.1,((),(s3.1.2.2.2.1,(s3.1.2.2.2.2.1,()))))),((s3.2.1.1,(s3.2.1.2.1,())),()))))) zR ((a0,(a1,((),(false,(0,()))))),(([],([],())),()))) fun x23=>opt (xg (x23.2.2.1.1,())) fun x24=>bif zj x24.1 0 then some (([],[]),(6,()))else opt (zJ (fun s25:((((List Int)×(List (Int×(Int×(Int×Int)))))×(Int×(Int×Unit)))×Unit)=>bif(zg s25.1.2.2.1 (wrF .i64 (2*((x23.2.1.1.2.2.length:Nat):Int))))then opt (zJ (fun s26:((Int×(Int×Unit))×Unit)=>bif(zg s26.1.2.1 ((x23.2.2.1.2.1.length:Nat):Int))then opt (opt (atI x23.2.2.1.2.1 s26.1.2.1) fun x27=>opt (gl x23.2.2.1.2.1 (Int.toNat s26.1.2.1)) fun x28=>bif zj x28.2.1 s25.1.2.2.1 then opt (atI x23.2.2.1.2.1 s26.1.2.1) fun x29=>opt (gl x23.2.2.1.2.1 (Int.toNat s26.1.2.1)) fun x30=>opt (atI x23.2.2.1.1 x30.1) fun x31=>opt (gl x23.2.2.1.1 (Int.toNat x30.1)) fun x32=>bif zj x32 0 then none else some (0,(((wrF .i64 (s26.1.1+(wrF .i64 (Int.tdiv x24.1 x32)))),()),()))else some (0,((s26.1.1,()),()))) fun x33=>some (.inr ((x33.2.1.1,((wrF .i64 (s26.1.2.1+1)),())),()))else some (.inl (0,((s26.1.1,(s26.1.2.1,())),())))) zR ((0,(0,())),())) fun x34=>bif zg 63 x34.2.1.1 then some (.inl (1,((([],[]),(7,(s25.1.2.2.1,()))),())))else some (.inr ((s25.1.1,(s25.1.2.1,((wrF .i64 (s25.1.2.2.1+1)),()))),()))else some (.inl (0,((s25.1.1,(s25.1.2.1,(s25.1.2.2.1,()))),())))) zR ((([],[]),(0,(0,()))),())) fun x35=>bif Nat.beq x35.1 0 then opt (zJ (fun s36:((Bool×(Int×Unit))×Unit)=>bif(zg s36.1.2.1 ((x23.2.2.1.2.1.length:Nat):Int))then bif s36.1.1 then some (.inr ((true,((wrF .i64 (s36.1.2.1+1)),())),()))else opt (atI x23.2.2.1.2.1 s36.1.2.1) fun x37=>opt (gl x23.2.2.1.2.1 (Int.toNat s36.1.2.1)) fun x38=>opt (atI x23.2.2.1.2.1 s36.1.2.1) fun x39=>opt (gl x23.2.2.1.2.1 (Int.toNat s36.1.2.1)) fun x40=>opt (atI x23.2.2.1.1 x40.1) fun x41=>opt (gl x23.2.2.1.1 (Int.toNat x40.1)) fun x42=>some (.inr (((zg x42 x38.2.2.2),((wrF .i64 (s36.1.2.1+1)),())),()))else some (.inl (0,((s36.1.1,(s36.1.2.1,())),())))) zR ((false,(0,())),())) fun x43=>bif x43.2.1.1 then some (([],[]),(341,()))else bif x23.2.1.2.2.2.1 then some (([],[]),(342,()))else some ((x23.2.2.1.1,x23.2.2.1.2.1),(0,()))else some (x35.2.1.1,(x35.2.1.2.1,()))
abbrev RP:Type:=(qk×wm×(List qi)×Unit)->Option (qQ×Int×Unit)
def vC:RP:=opq (sF prg [(96,JC),(97,bu),(98,VO),(19,XE),(99,Li),(100,Lm),(52,nc)] (zG [cdF zN,cdF zS,⟨jb,wB jb,[0,1]⟩,cdF gx,cdF qD,cdF zr] [] [] [(11,214,9,[0,1]),(15,214,9,[0,1]),(19,214,9,[0,1]),(11,214,9,[1,0]),(15,214,9,[1]),(19,214,9,[1])] [96,97,98,99,100,52]) (zy []) 30 49 df dg)
abbrev zi0:Con:=⟨df,dg,vC⟩
theorem zcB:Con.Ok prg 49 zi0:=okF (ze Jb (ze eF (ze UW (ze YM (ze zaj (ze zal (ze GL zn))))))) (by kernel_rfl)
theorem zcC(a0)(a1)(a2):vC (a0,a1,a2,())=RO a0 a1 a2:=zA (by kernel_rfl)
abbrev Vg:List VT:=[⟨true,jb⟩]
abbrev Vh:List VT:=[⟨false,.bool⟩]
def tO(a0:qQ):Option (Bool×Unit):=opt (bif(zg 12 ((a0.1.length:Nat):Int))then some (1,((false,()),()))else bif(zg 192 ((a0.2.length:Nat):Int))then some (1,((false,()),()))else some (0,((false,()),()))) fun x0=>bif Nat.beq x0.1 0 then opt (zJ (fun s1:((Bool×(Int×Unit))×Unit)=>bif(zg s1.1.2.1 ((a0.1.length:Nat):Int))then opt (opt (atI a0.1 s1.1.2.1) fun x2=>bif zg x2 1 then some (1,((false,()),()))else opt (atI a0.1 s1.1.2.1) fun x3=>bif zg 240 x3 then some (1,((false,()),()))else some (0,((s1.1.1,()),()))) fun x4=>bif Nat.beq x4.1 0 then some (.inr ((x4.2.1.1,((wrF .i64 (s1.1.2.1+1)),())),()))else some (.inl (1,((x4.2.1.1,(s1.1.2.1,())),())))else some (.inl (0,((s1.1.1,(s1.1.2.1,())),())))) zR ((x0.2.1.1,(0,())),())) fun x5=>bif Nat.beq x5.1 0 then opt (zJ (fun s6:((Bool×(Int×Unit))×Unit)=>bif(zg s6.1.2.1 ((a0.2.length:Nat):Int))then opt (atI a0.2 s6.1.2.1) fun x7=>opt (bif zg x7.1 0 then some (1,((false,()),()))else bif(!(zg x7.1 ((a0.1.length:Nat):Int)))then some (1,((false,()),()))else bif zg x7.2.1 0 then some (1,((false,()),()))else bif !(zg x7.2.1 48)then some (1,((false,()),()))else some (0,((s6.1.1,()),()))) fun x8=>bif Nat.beq x8.1 0 then opt (bif zg x7.2.2.1 0 then some (1,((false,()),()))else opt (atI a0.1 x7.1) fun x9=>bif !(zg x7.2.2.1 x9)then some (1,((false,()),()))else bif zg x7.2.2.2 1 then some (1,((false,()),()))else opt (atI a0.1 x7.1) fun x10=>bif zg x10 x7.2.2.2 then some (1,((false,()),()))else some (0,((x8.2.1.1,()),()))) fun x11=>bif Nat.beq x11.1 0 then some (.inr ((x11.2.1.1,((wrF .i64 (s6.1.2.1+1)),())),()))else some (.inl (1,((x11.2.1.1,(s6.1.2.1,())),())))else some (.inl (1,((x8.2.1.1,(s6.1.2.1,())),())))else some (.inl (0,((s6.1.1,(s6.1.2.1,())),())))) zR ((x5.2.1.1,(0,())),())) fun x12=>bif Nat.beq x12.1 0 then opt (xg (a0.1,())) fun x13=>some ((zg 0 x13.1),())else some (x12.2.1.1,())else some (x5.2.1.1,())else some (x0.2.1.1,())
abbrev tP:Type:=(qQ×Unit)->Option (Bool×Unit)
def kz:tP:=opq (sF prg [(52,nc)] (zG [cdF jb,cdF QK] [] [] [] [52]) (zy []) 30 101 Vg Vh)
abbrev zcD:Con:=⟨Vg,Vh,kz⟩
theorem Nv:Con.Ok prg 101 zcD:=okF (ze GL zn) (by kernel_rfl)
theorem Nw(a0):kz (a0,())=tO a0:=zA (by kernel_rfl)
abbrev RQ:List VT:=[⟨true,jb⟩,⟨false,I⟩,⟨false,I⟩]
abbrev RR:List VT:=[⟨true,YK⟩]
def RS(a0:qQ)(a1:Int)(a2:Int):Option (Kc×Unit):=opt (atI a0.2 a1) fun x0=>opt (atI a0.1 x0.1) fun x1=>opt (atI a0.2 a1) fun x2=>bif zj x1 0 then none else opt (atI a0.2 a1) fun x3=>some ((x1,((Int.tmod (wrF .i64 (x2.2.2.1+a2)) x1),x3.2.2.2)),())
abbrev zi1:Type:=(qQ×Int×Int×Unit)->Option (Kc×Unit)
def Jc:zi1:=opq (sF prg [] (zG [cdF jb,cdF QK,cdF YK] [] [] [] []) (zy []) 30 253 RQ RR)
abbrev RT:Con:=⟨RQ,RR,Jc⟩
theorem zcE:Con.Ok prg 253 RT:=okF zn (by kernel_rfl)
theorem zcF(a0)(a1)(a2):Jc (a0,a1,a2,())=RS a0 a1 a2:=zA (by kernel_rfl)
abbrev Lp:List VT:=[⟨false,I⟩,⟨false,I⟩]
abbrev Lq:List VT:=[⟨false,I⟩]
def Lr(a0:Int)(a1:Int):Option (Int×Unit):=opt (zJ (fun s0:((Int×(Int×Unit))×Unit)=>bif zg 1 s0.1.2.1 then opt (bif zj s0.1.2.1 0 then none else bif zj (Int.tmod a0 s0.1.2.1) 0 then bif zj s0.1.2.1 0 then none else bif zj (Int.tmod a1 s0.1.2.1) 0 then some (1,((s0.1.2.1,()),()))else some (0,((s0.1.1,()),()))else some (0,((s0.1.1,()),()))) fun x1=>bif Nat.beq x1.1 0 then some (.inr ((x1.2.1.1,((wrF .i64 (s0.1.2.1 - 1)),())),()))else some (.inl (1,((x1.2.1.1,(s0.1.2.1,())),())))else some (.inl (0,((s0.1.1,(s0.1.2.1,())),())))) zR ((0,(a0,())),())) fun x2=>bif Nat.beq x2.1 0 then some (1,())else some (x2.2.1.1,())
abbrev zgC:Type:=(Int×Int×Unit)->Option (Int×Unit)
def XI:zgC:=opq (sF prg [] (zG [] [] [] [] []) (zy []) 30 291 Lp Lq)
abbrev Ls:Con:=⟨Lp,Lq,XI⟩
theorem zao:Con.Ok prg 291 Ls:=okF zn (by kernel_rfl)
theorem zap(a0)(a1):XI (a0,a1,())=Lr a0 a1:=zA (by kernel_rfl)
abbrev eJ:List VT:=[⟨true,YK⟩,⟨true,YK⟩]
abbrev eK:List VT:=[⟨false,.bool⟩]
def eM(a0:Kc)(a1:Kc):Option (Bool×Unit):=opt (XI (a0.1,(a1.1,()))) fun x0=>opt (zJ (fun s1:((Bool×(Int×Unit))×Unit)=>bif zg s1.1.2.1 a0.2.2 then opt (vq ((wrF .i64 ((wrF .i64 (a1.2.1 - a0.2.1)) - s1.1.2.1)),(x0.1,()))) fun x2=>bif zj x2.1 0 then some (.inl (1,((false,(s1.1.2.1,())),())))else some (.inr ((s1.1.1,((wrF .i64 (s1.1.2.1+1)),())),()))else some (.inl (0,((s1.1.1,(s1.1.2.1,())),())))) zR ((false,((wrF .i64 (1 - a1.2.2)),())),())) fun x3=>bif Nat.beq x3.1 0 then some (true,())else some (x3.2.1.1,())
abbrev Nx:Type:=(Kc×Kc×Unit)->Option (Bool×Unit)
def uj:Nx:=opq (sF prg [(291,Ls),(164,XF)] (zG [cdF YK] [] [] [] [291,164]) (zy []) 30 252 eJ eK)
abbrev eO:Con:=⟨eJ,eK,uj⟩
theorem BG:Con.Ok prg 252 eO:=okF (ze zao (ze YN zn)) (by kernel_rfl)
theorem BH(a0)(a1):uj (a0,a1,())=eM a0 a1:=zA (by kernel_rfl)
abbrev tQ:List VT:=[⟨true,jb⟩,⟨false,I⟩,⟨false,I⟩,⟨false,I⟩,⟨false,I⟩]
abbrev tR:List VT:=[⟨false,.bool⟩]
def tS(a0:qQ)(a1:Int)(a2:Int)(a3:Int)(a4:Int):Option (Bool×Unit):=opt (zJ (fun s0:((Bool×(Int×Unit))×Unit)=>bif(zg s0.1.2.1 ((a0.2.length:Nat):Int))then opt (zJ (fun s1:((Bool×(Int×Unit))×Unit)=>bif(zg s1.1.2.1 ((a0.2.length:Nat):Int))then opt (bif !(zj s0.1.2.1 s1.1.2.1)then opt (atI a0.2 s0.1.2.1) fun x2=>bif zj x2.1 a1 then opt (atI a0.2 s1.1.2.1) fun x3=>bif zj x3.1 a3 then opt (atI a0.2 s0.1.2.1) fun x4=>opt (atI a0.2 s1.1.2.1) fun x5=>bif zj x4.2.1 x5.2.1 then opt (Jc (a0,(s0.1.2.1,(a2,())))) fun x6=>opt (Jc (a0,(s1.1.2.1,(a4,())))) fun x7=>opt (uj (x6.1,(x7.1,()))) fun x8=>bif !x8.1 then some (1,((true,()),()))else some (0,((s1.1.1,()),()))else some (0,((s1.1.1,()),()))else some (0,((s1.1.1,()),()))else some (0,((s1.1.1,()),()))else some (0,((s1.1.1,()),()))) fun x9=>bif Nat.beq x9.1 0 then some (.inr ((x9.2.1.1,((wrF .i64 (s1.1.2.1+1)),())),()))else some (.inl (1,((x9.2.1.1,(s1.1.2.1,())),())))else some (.inl (0,((s1.1.1,(s1.1.2.1,())),())))) zR ((s0.1.1,(0,())),())) fun x10=>bif Nat.beq x10.1 0 then some (.inr ((x10.2.1.1,((wrF .i64 (s0.1.2.1+1)),())),()))else some (.inl (1,((x10.2.1.1,(s0.1.2.1,())),())))else some (.inl (0,((s0.1.1,(s0.1.2.1,())),())))) zR ((false,(0,())),())) fun x11=>bif Nat.beq x11.1 0 then some (false,())else some (x11.2.1.1,())
abbrev zcG:Type:=(qQ×Int×Int×Int×Int×Unit)->Option (Bool×Unit)
def kA:zcG:=opq (sF prg [(253,RT),(252,eO)] (zG [cdF jb,cdF QK,cdF YK] [] [] [] [253,252]) (zy []) 30 226 tQ tR)
abbrev tT:Con:=⟨tQ,tR,kA⟩
theorem Ny:Con.Ok prg 226 tT:=okF (ze zcE (ze BG zn)) (by kernel_rfl)
theorem Nz(a0)(a1)(a2)(a3)(a4):kA (a0,a1,a2,a3,a4,())=tS a0 a1 a2 a3 a4:=zA (by kernel_rfl)
abbrev YO:List VT:=[⟨true,jb⟩,⟨false,(.list I)⟩,⟨false,I⟩]
abbrev YP:List VT:=[⟨false,I⟩]
def RU(a0:qQ)(a1:(List Int))(a2:Int):Option (Int×Unit):=opt (zJ (fun s0:((Int×(Int×Unit))×Unit)=>bif(zg s0.1.2.1 ((a1.length:Nat):Int))then opt (atI a1 s0.1.2.1) fun x1=>opt (kA (a0,(((a1.length:Nat):Int),(a2,(s0.1.2.1,(x1,())))))) fun x2=>bif x2.1 then some (.inl (1,((s0.1.2.1,(s0.1.2.1,())),())))else some (.inr ((s0.1.1,((wrF .i64 (s0.1.2.1+1)),())),()))else some (.inl (0,((s0.1.1,(s0.1.2.1,())),())))) zR ((0,(0,())),())) fun x3=>bif Nat.beq x3.1 0 then opt (kA (a0,(((a1.length:Nat):Int),(a2,(((a1.length:Nat):Int),(a2,())))))) fun x4=>bif x4.1 then some (((a1.length:Nat):Int),())else some ((-1),())else some (x3.2.1.1,())
abbrev rR:Type:=(qQ×(List Int)×Int×Unit)->Option (Int×Unit)
def xQ:rR:=opq (sF prg [(226,tT)] (zG [cdF jb,cdF QK] [] [] [] [226]) (zy []) 30 165 YO YP)
abbrev zi2:Con:=⟨YO,YP,xQ⟩
theorem tU:Con.Ok prg 165 zi2:=okF (ze Ny zn) (by kernel_rfl)
theorem zcH(a0)(a1)(a2):xQ (a0,a1,a2,())=RU a0 a1 a2:=zA (by kernel_rfl)
def GM:yp:=zG [⟨uX,wB uX,[0]⟩,cdF jb,cdF qC,cdF QK] [] [⟨3,133,some 11,yU,true⟩,⟨3,133,none,qC,true⟩,⟨9,133,some 11,yU,true⟩,⟨9,133,none,qC,true⟩,⟨11,133,some 11,yU,true⟩,⟨11,133,none,qC,true⟩,⟨14,133,some 11,yU,true⟩,⟨14,133,none,qC,true⟩,⟨15,133,some 11,yU,true⟩,⟨15,133,none,qC,true⟩,⟨19,133,some 11,yU,true⟩,⟨19,133,none,qC,true⟩,⟨25,133,some 11,yU,true⟩,⟨25,133,none,qC,true⟩] [(9,133,5,[0]),(9,133,8,[0])] [165]
def bw(vK:rR)(yA:(qQ×Unit)->List jO->((List Int)×Int)->((List Int)×Int×Unit)->Option (List jO×((List Int)×Int)))(a0:qQ)(l:List jO)(y:((List Int)×Int))(a2:(List Int))(a3:Int):Option (List jO×((List Int)×Int)):=bif(zg a3 ((l.length:Nat):Int))then some (l,(y.1,2))else bif zX l.length 1 32 then opt (zJ (fun s0:((((List Int)×(List (Int×(Int×(Int×Int)))))×(Unit×(Unit×(Int×Unit))))×(((List (Int×(List (Int×(Int×(Int×Int))))))×(((List Int)×Int)×Unit))×(((List (Int×(List (Int×(Int×(Int×Int))))))×(((List Int)×Int)×Unit))×((List (Int×(Int×(Int×Int))))×Unit))))=>opt (atI s0.1.1.1 ((a2.length:Nat):Int)) fun x1=>bif zg s0.1.2.2.2.1 x1 then opt (bif(zj ((a2.length:Nat):Int) 0)then bif zj s0.1.2.2.2.1 1 then opt (atI s0.1.1.1 0) fun x2=>bif(zX s0.2.2.2.1.length (((1,(x2,((-2),0)))::[]).length) 32)then some (1,((),((s0.2.2.2.1++((1,(x2,((-2),0)))::[])),())))else none else some (0,((),(s0.2.2.2.1,())))else some (0,((),(s0.2.2.2.1,())))) fun x3=>bif Nat.beq x3.1 0 then opt (vK (s0.1.1,(a2,(s0.1.2.2.2.1,())))) fun x4=>bif(!(zj x4.1 (-1)))then opt (bif(zg 0 ((x3.2.2.1.length:Nat):Int))then opt (atI x3.2.2.1 (wrF .i64 (((x3.2.2.1.length:Nat):Int) - 1))) fun x5=>opt (gl x3.2.2.1 (Int.toNat (wrF .i64 (((x3.2.2.1.length:Nat):Int) - 1)))) fun x6=>bif zj x6.2.2.1 x4.1 then opt (atI x3.2.2.1 (wrF .i64 (((x3.2.2.1.length:Nat):Int) - 1))) fun x7=>opt (gl x3.2.2.1 (Int.toNat (wrF .i64 (((x3.2.2.1.length:Nat):Int) - 1)))) fun x8=>some (0,((),((x3.2.2.1.set (Int.toNat (wrF .i64 (((x3.2.2.1.length:Nat):Int) - 1))) (x8.1,((wrF .i64 (s0.1.2.2.2.1+1)),x8.2.2))),())))else bif(zX x3.2.2.1.length (((s0.1.2.2.2.1,((wrF .i64 (s0.1.2.2.2.1+1)),(x4.1,0)))::[]).length) 32)then some (0,((),((x3.2.2.1++((s0.1.2.2.2.1,((wrF .i64 (s0.1.2.2.2.1+1)),(x4.1,0)))::[])),())))else none else bif(zX x3.2.2.1.length (((s0.1.2.2.2.1,((wrF .i64 (s0.1.2.2.2.1+1)),(x4.1,0)))::[]).length) 32)then some (0,((),((x3.2.2.1++((s0.1.2.2.2.1,((wrF .i64 (s0.1.2.2.2.1+1)),(x4.1,0)))::[])),())))else none) fun x9=>some (.inr ((s0.1.1,((),((),((wrF .i64 (s0.1.2.2.2.1+1)),())))),((s0.2.1.1,(s0.2.1.2.1,())),((s0.2.2.1.1,(s0.2.2.1.2.1,())),(x9.2.2.1,())))))else bif zX 0 a2.length 8 then bif(zX a2.length ((s0.1.2.2.2.1::[]).length) 8)then bif(zj (((a2++(s0.1.2.2.2.1::[])).length:Nat):Int) ((s0.1.1.1.length:Nat):Int))then some (.inl s0)else bif(zX x3.2.2.1.length (((s0.1.2.2.2.1,((wrF .i64 (s0.1.2.2.2.1+1)),((-1),((s0.2.1.1.length:Nat):Int))))::[]).length) 32)then opt (yA (s0.1.1,()) s0.2.1.1 s0.2.1.2.1 ((a2++(s0.1.2.2.2.1::[])),(a3,()))) fun x10=>bif !(zj x10.2.2 0)then some (.inl s0)else some (.inr ((s0.1.1,((),((),((wrF .i64 (s0.1.2.2.2.1+1)),())))),((x10.1,(x10.2,())),((s0.2.2.1.1,(s0.2.2.1.2.1,())),((x3.2.2.1++((s0.1.2.2.2.1,((wrF .i64 (s0.1.2.2.2.1+1)),((-1),((s0.2.1.1.length:Nat):Int))))::[])),())))))else none else none else none else some (.inl s0)else some (.inl s0)) zR ((a0,((),((),(0,())))),(((l++((((a2.length:Nat):Int),[])::[])),(y,())),(([],(([],0),())),([],()))))) fun x11=>opt (atI x11.1.1.1 ((a2.length:Nat):Int)) fun x12=>bif zg x11.1.2.2.2.1 x12 then opt (bif(zj ((a2.length:Nat):Int) 0)then bif zj x11.1.2.2.2.1 1 then opt (atI x11.1.1.1 0) fun x13=>bif(zX x11.2.2.2.1.length (((1,(x13,((-2),0)))::[]).length) 32)then some (1,((),((x11.2.2.2.1++((1,(x13,((-2),0)))::[])),())))else none else some (0,((),(x11.2.2.2.1,())))else some (0,((),(x11.2.2.2.1,())))) fun x14=>bif Nat.beq x14.1 0 then opt (vK (x11.1.1,(a2,(x11.1.2.2.2.1,())))) fun x15=>bif(!(zj x15.1 (-1)))then opt (bif(zg 0 ((x14.2.2.1.length:Nat):Int))then opt (atI x14.2.2.1 (wrF .i64 (((x14.2.2.1.length:Nat):Int) - 1))) fun x16=>opt (gl x14.2.2.1 (Int.toNat (wrF .i64 (((x14.2.2.1.length:Nat):Int) - 1)))) fun x17=>bif zj x17.2.2.1 x15.1 then opt (atI x14.2.2.1 (wrF .i64 (((x14.2.2.1.length:Nat):Int) - 1))) fun x18=>opt (gl x14.2.2.1 (Int.toNat (wrF .i64 (((x14.2.2.1.length:Nat):Int) - 1)))) fun x19=>some (0,((),((x14.2.2.1.set (Int.toNat (wrF .i64 (((x14.2.2.1.length:Nat):Int) - 1))) (x19.1,((wrF .i64 (x11.1.2.2.2.1+1)),x19.2.2))),())))else bif(zX x14.2.2.1.length (((x11.1.2.2.2.1,((wrF .i64 (x11.1.2.2.2.1+1)),(x15.1,0)))::[]).length) 32)then some (0,((),((x14.2.2.1++((x11.1.2.2.2.1,((wrF .i64 (x11.1.2.2.2.1+1)),(x15.1,0)))::[])),())))else none else bif(zX x14.2.2.1.length (((x11.1.2.2.2.1,((wrF .i64 (x11.1.2.2.2.1+1)),(x15.1,0)))::[]).length) 32)then some (0,((),((x14.2.2.1++((x11.1.2.2.2.1,((wrF .i64 (x11.1.2.2.2.1+1)),(x15.1,0)))::[])),())))else none) fun x20=>none else bif zX 0 a2.length 8 then bif(zX a2.length ((x11.1.2.2.2.1::[]).length) 8)then bif(zj (((a2++(x11.1.2.2.2.1::[])).length:Nat):Int) ((x11.1.1.1.length:Nat):Int))then some (x11.2.1.1,((a2++(x11.1.2.2.2.1::[])),1))else bif(zX x14.2.2.1.length (((x11.1.2.2.2.1,((wrF .i64 (x11.1.2.2.2.1+1)),((-1),((x11.2.1.1.length:Nat):Int))))::[]).length) 32)then opt (yA (x11.1.1,()) x11.2.1.1 x11.2.1.2.1 ((a2++(x11.1.2.2.2.1::[])),(a3,()))) fun x21=>bif !(zj x21.2.2 0)then some x21 else none else none else none else none else opt (atI x11.2.1.1 ((l.length:Nat):Int)) fun x22=>opt (gl x11.2.1.1 (Int.toNat ((l.length:Nat):Int))) fun x23=>some ((x11.2.1.1.set (Int.toNat ((l.length:Nat):Int)) (x23.1,x14.2.2.1)),x11.2.1.2.1)else opt (atI x11.2.1.1 ((l.length:Nat):Int)) fun x24=>opt (gl x11.2.1.1 (Int.toNat ((l.length:Nat):Int))) fun x25=>some ((x11.2.1.1.set (Int.toNat ((l.length:Nat):Int)) (x25.1,x11.2.2.2.1)),x11.2.1.2.1)else none
theorem zcI(vK:(qQ×(List Int)×Int×Unit)->Option (Int×Unit))(yA:(qQ×Unit)->List jO->((List Int)×Int)->((List Int)×Int×Unit)->Option (List jO×((List Int)×Int)))(a0:qQ)(l:List jO)(y:((List Int)×Int))(a2:(List Int))(a3:Int):sO prg ⟨[],[],[(102,⟨[⟨true,jb⟩],qC,(.pair (.list I) I),[⟨false,(.list I)⟩,⟨false,I⟩],yA⟩)]⟩ [(165,⟨YO,YP,vK⟩)] GM (zy [] [(9,133)]) 40 102 [⟨true,jb⟩] qC (.pair (.list I) I) [⟨false,(.list I)⟩,⟨false,I⟩] (a0,()) l y (a2,a3,())=bw vK yA a0 l y a2 a3:=by kernel_rfl
def xZ:Nat->(qQ×Unit)->List jO->((List Int)×Int)->((List Int)×Int×Unit)->Option (List jO×((List Int)×Int))
 |0=>fun _ _ _ _=>none
 |n+1=>sO prg ⟨[],[],[(102,⟨[⟨true,jb⟩],qC,(.pair (.list I) I),[⟨false,(.list I)⟩,⟨false,I⟩],(xZ n)⟩)]⟩ [(165,⟨YO,YP,xQ⟩)] GM (zy [] [(9,133)]) 40 102 [⟨true,jb⟩] qC (.pair (.list I) I) [⟨false,(.list I)⟩,⟨false,I⟩]
theorem bV:∀n,Gy.Ok prg 102 ⟨[⟨true,jb⟩],qC,(.pair (.list I) I),[⟨false,(.list I)⟩,⟨false,I⟩],xZ n⟩
 |0=>⟨(znC (lib:=⟨[],[],[]⟩) zbY (t:=[]) zn qP (pl:=GM) (jq:=fun _ _=>false) (n:=0) (f:=102) (pre:=[]) (et:=.unit) (rest:=.unit) (post:=[]) (by kernel_rfl)).1,fun _ _ _ _ r h=>by cases h⟩
 |n+1=>znC ⟨yT,uV,(zfd (bV n) uW)⟩ (ze tU zn) qP (by kernel_rfl)
def Zs:(qQ×Unit)->List jO->((List Int)×Int)->((List Int)×Int×Unit)->Option (List jO×((List Int)×Int)):=xZ 30
theorem NA:Gy.Ok prg 102 ⟨[⟨true,jb⟩],qC,(.pair (.list I) I),[⟨false,(.list I)⟩,⟨false,I⟩],Zs⟩:=bV 30
theorem HJ(n:Nat)(a0:qQ)(l:List jO)(y:((List Int)×Int))(a2:(List Int))(a3:Int):xZ (n+1) (a0,()) l y (a2,a3,())=bw xQ (xZ n) a0 l y a2 a3:=zcI xQ (xZ n) a0 l y a2 a3
abbrev JF:List VT:=[⟨true,jb⟩,⟨false,I⟩]
abbrev JG:List VT:=[⟨false,(.list I)⟩,⟨false,(.list qC)⟩,⟨false,I⟩]
def om:yp:=zG [⟨uX,wB uX,[0]⟩,cdF jb,cdF qC,cdF QK] [] [⟨1,35,some 4,I,false⟩,⟨1,35,some 5,qC,false⟩,⟨3,35,some 4,I,false⟩,⟨3,35,some 5,qC,false⟩,⟨5,35,some 4,I,false⟩,⟨5,35,some 5,qC,false⟩,⟨9,35,some 4,I,false⟩,⟨9,35,some 5,qC,false⟩,⟨11,35,some 4,I,false⟩,⟨11,35,some 5,qC,false⟩,⟨3,133,some 11,yU,true⟩,⟨3,133,none,qC,true⟩,⟨9,133,some 11,yU,true⟩,⟨9,133,none,qC,true⟩,⟨11,133,some 11,yU,true⟩,⟨11,133,none,qC,true⟩,⟨14,133,some 11,yU,true⟩,⟨14,133,none,qC,true⟩,⟨15,133,some 11,yU,true⟩,⟨15,133,none,qC,true⟩,⟨19,133,some 11,yU,true⟩,⟨19,133,none,qC,true⟩,⟨25,133,some 11,yU,true⟩,⟨25,133,none,qC,true⟩,⟨1,35,none,qC,true⟩,⟨3,35,none,qC,true⟩,⟨5,35,none,qC,true⟩,⟨9,35,none,qC,true⟩,⟨11,35,none,qC,true⟩] [(9,133,5,[0]),(9,133,8,[0])] [101,165]
def bz(Vs:tP)(vK:rR)(yA:(qQ×Unit)->List jO->((List Int)×Int)->((List Int)×Int×Unit)->Option (List jO×((List Int)×Int)))(a0:qQ)(a1:Int):Option ((List Int)×(List jO)×Int×Unit):=opt (Vs (a0,())) fun x0=>bif !x0.1 then some ([],([],(340,())))else opt (bif zg a1 0 then some (1,(([],([],(2,()))),()))else bif !(zg a1 2000)then some (1,(([],([],(2,()))),()))else some (0,(([],([],(0,()))),()))) fun x1=>bif Nat.beq x1.1 0 then bif(zj ((a0.1.length:Nat):Int) 0)then some ([],([],(0,())))else bif zg a1 0 then some ([],([],(8,())))else bif zX 0 1 32 then opt (zJ (fun s2:((((List Int)×(List (Int×(Int×(Int×Int)))))×(Unit×(Unit×(Int×Unit))))×(((List (Int×(List (Int×(Int×(Int×Int))))))×(((List Int)×Int)×Unit))×(((List (Int×(List (Int×(Int×(Int×Int))))))×(((List Int)×Int)×Unit))×((List (Int×(Int×(Int×Int))))×Unit))))=>opt (atI s2.1.1.1 0) fun x3=>bif zg s2.1.2.2.2.1 x3 then opt (bif zj s2.1.2.2.2.1 1 then opt (atI s2.1.1.1 0) fun x4=>bif(zX s2.2.2.2.1.length (((1,(x4,((-2),0)))::[]).length) 32)then some (1,((),((s2.2.2.2.1++((1,(x4,((-2),0)))::[])),())))else none else some (0,((),(s2.2.2.2.1,())))) fun x5=>bif Nat.beq x5.1 0 then opt (vK (s2.1.1,([],(s2.1.2.2.2.1,())))) fun x6=>bif(!(zj x6.1 (-1)))then opt (bif(zg 0 ((x5.2.2.1.length:Nat):Int))then opt (atI x5.2.2.1 (wrF .i64 (((x5.2.2.1.length:Nat):Int) - 1))) fun x7=>opt (gl x5.2.2.1 (Int.toNat (wrF .i64 (((x5.2.2.1.length:Nat):Int) - 1)))) fun x8=>bif zj x8.2.2.1 x6.1 then opt (atI x5.2.2.1 (wrF .i64 (((x5.2.2.1.length:Nat):Int) - 1))) fun x9=>opt (gl x5.2.2.1 (Int.toNat (wrF .i64 (((x5.2.2.1.length:Nat):Int) - 1)))) fun x10=>some (0,((),((x5.2.2.1.set (Int.toNat (wrF .i64 (((x5.2.2.1.length:Nat):Int) - 1))) (x10.1,((wrF .i64 (s2.1.2.2.2.1+1)),x10.2.2))),())))else bif(zX x5.2.2.1.length (((s2.1.2.2.2.1,((wrF .i64 (s2.1.2.2.2.1+1)),(x6.1,0)))::[]).length) 32)then some (0,((),((x5.2.2.1++((s2.1.2.2.2.1,((wrF .i64 (s2.1.2.2.2.1+1)),(x6.1,0)))::[])),())))else none else bif(zX x5.2.2.1.length (((s2.1.2.2.2.1,((wrF .i64 (s2.1.2.2.2.1+1)),(x6.1,0)))::[]).length) 32)then some (0,((),((x5.2.2.1++((s2.1.2.2.2.1,((wrF .i64 (s2.1.2.2.2.1+1)),(x6.1,0)))::[])),())))else none) fun x11=>some (.inr ((s2.1.1,((),((),((wrF .i64 (s2.1.2.2.2.1+1)),())))),((s2.2.1.1,(s2.2.1.2.1,())),((s2.2.2.1.1,(s2.2.2.1.2.1,())),(x11.2.2.1,())))))else bif zX 0 0 8 then bif(zX 0 ((s2.1.2.2.2.1::[]).length) 8)then bif(zj (((s2.1.2.2.2.1::[]).length:Nat):Int) ((s2.1.1.1.length:Nat):Int))then some (.inl s2)else bif(zX x5.2.2.1.length (((s2.1.2.2.2.1,((wrF .i64 (s2.1.2.2.2.1+1)),((-1),((s2.2.1.1.length:Nat):Int))))::[]).length) 32)then bif(zg 0 ((s2.2.1.1.length:Nat):Int))then opt (yA (s2.1.1,()) s2.2.1.1 s2.2.1.2.1 ((s2.1.2.2.2.1::[]),(a1,()))) fun x12=>bif(zg 0 ((x12.1.length:Nat):Int))then bif !(zj x12.2.2 0)then some (.inl s2)else some (.inr ((s2.1.1,((),((),((wrF .i64 (s2.1.2.2.2.1+1)),())))),((x12.1,(x12.2,())),((s2.2.2.1.1,(s2.2.2.1.2.1,())),((x5.2.2.1++((s2.1.2.2.2.1,((wrF .i64 (s2.1.2.2.2.1+1)),((-1),((s2.2.1.1.length:Nat):Int))))::[])),())))))else none else none else none else none else none else some (.inl s2)else some (.inl s2)) zR ((a0,((),((),(0,())))),((((0,[])::[]),(([],0),())),(([],(([],0),())),([],()))))) fun x13=>opt (atI x13.1.1.1 0) fun x14=>bif zg x13.1.2.2.2.1 x14 then opt (bif zj x13.1.2.2.2.1 1 then opt (atI x13.1.1.1 0) fun x15=>bif(zX x13.2.2.2.1.length (((1,(x15,((-2),0)))::[]).length) 32)then some (1,((),((x13.2.2.2.1++((1,(x15,((-2),0)))::[])),())))else none else some (0,((),(x13.2.2.2.1,())))) fun x16=>bif Nat.beq x16.1 0 then opt (vK (x13.1.1,([],(x13.1.2.2.2.1,())))) fun x17=>bif(!(zj x17.1 (-1)))then opt (bif(zg 0 ((x16.2.2.1.length:Nat):Int))then opt (atI x16.2.2.1 (wrF .i64 (((x16.2.2.1.length:Nat):Int) - 1))) fun x18=>opt (gl x16.2.2.1 (Int.toNat (wrF .i64 (((x16.2.2.1.length:Nat):Int) - 1)))) fun x19=>bif zj x19.2.2.1 x17.1 then opt (atI x16.2.2.1 (wrF .i64 (((x16.2.2.1.length:Nat):Int) - 1))) fun x20=>opt (gl x16.2.2.1 (Int.toNat (wrF .i64 (((x16.2.2.1.length:Nat):Int) - 1)))) fun x21=>some (0,((),((x16.2.2.1.set (Int.toNat (wrF .i64 (((x16.2.2.1.length:Nat):Int) - 1))) (x21.1,((wrF .i64 (x13.1.2.2.2.1+1)),x21.2.2))),())))else bif(zX x16.2.2.1.length (((x13.1.2.2.2.1,((wrF .i64 (x13.1.2.2.2.1+1)),(x17.1,0)))::[]).length) 32)then some (0,((),((x16.2.2.1++((x13.1.2.2.2.1,((wrF .i64 (x13.1.2.2.2.1+1)),(x17.1,0)))::[])),())))else none else bif(zX x16.2.2.1.length (((x13.1.2.2.2.1,((wrF .i64 (x13.1.2.2.2.1+1)),(x17.1,0)))::[]).length) 32)then some (0,((),((x16.2.2.1++((x13.1.2.2.2.1,((wrF .i64 (x13.1.2.2.2.1+1)),(x17.1,0)))::[])),())))else none) fun x22=>none else bif zX 0 0 8 then bif(zX 0 ((x13.1.2.2.2.1::[]).length) 8)then bif(zj (((x13.1.2.2.2.1::[]).length:Nat):Int) ((x13.1.1.1.length:Nat):Int))then some ((x13.1.2.2.2.1::[]),([],(0,())))else bif(zX x16.2.2.1.length (((x13.1.2.2.2.1,((wrF .i64 (x13.1.2.2.2.1+1)),((-1),((x13.2.1.1.length:Nat):Int))))::[]).length) 32)then bif(zg 0 ((x13.2.1.1.length:Nat):Int))then opt (yA (x13.1.1,()) x13.2.1.1 x13.2.1.2.1 ((x13.1.2.2.2.1::[]),(a1,()))) fun x23=>bif(zg 0 ((x23.1.length:Nat):Int))then bif !(zj x23.2.2 0)then bif zj x23.2.2 1 then some (x23.2.1,([],(0,())))else bif zj x23.2.2 2 then some ([],([],(8,())))else some ([],(x23.1,(4,())))else none else none else none else none else none else none else opt (atI x13.2.1.1 0) fun x24=>opt (gl x13.2.1.1 (Int.toNat 0)) fun x25=>bif zj x13.2.1.2.1.2 1 then some (x13.2.1.2.1.1,([],(0,())))else bif zj x13.2.1.2.1.2 2 then some ([],([],(8,())))else some ([],((x13.2.1.1.set (Int.toNat 0) (x25.1,x16.2.2.1)),(4,())))else opt (atI x13.2.1.1 0) fun x26=>opt (gl x13.2.1.1 (Int.toNat 0)) fun x27=>bif zj x13.2.1.2.1.2 1 then some (x13.2.1.2.1.1,([],(0,())))else bif zj x13.2.1.2.1.2 2 then some ([],([],(8,())))else some ([],((x13.2.1.1.set (Int.toNat 0) (x27.1,x13.2.2.2.1)),(4,())))else none else some (x1.2.1.1,(x1.2.1.2.1,(x1.2.1.2.2.1,())))
theorem zcJ(Vs:(qQ×Unit)->Option (Bool×Unit))(vK:(qQ×(List Int)×Int×Unit)->Option (Int×Unit))(yA:(qQ×Unit)->List jO->((List Int)×Int)->((List Int)×Int×Unit)->Option (List jO×((List Int)×Int)))(a0:qQ)(a1:Int):sFl prg ⟨[],[],[(102,⟨[⟨true,jb⟩],qC,(.pair (.list I) I),[⟨false,(.list I)⟩,⟨false,I⟩],yA⟩)]⟩ [(101,⟨Vg,Vh,Vs⟩),(165,⟨YO,YP,vK⟩)] om (zy [] [(9,133)]) 40 50 JF JG (a0,a1,())=bz Vs vK yA a0 a1:=by kernel_rfl
def xh:(qQ×Int×Unit)->Option ((List Int)×(List jO)×Int×Unit):=sFl prg ⟨[],[],[(102,⟨[⟨true,jb⟩],qC,(.pair (.list I) I),[⟨false,(.list I)⟩,⟨false,I⟩],Zs⟩)]⟩ [(101,⟨Vg,Vh,kz⟩),(165,⟨YO,YP,xQ⟩)] om (zy [] [(9,133)]) 40 50 JF JG
theorem NB:Con.Ok prg 50 ⟨JF,JG,xh⟩:=Dx ⟨yT,uV,(zfd NA uW)⟩ (ze Nv (ze tU zn)) qP (by kernel_rfl)
theorem NC(a0:qQ)(a1:Int):xh (a0,a1,())=bz kz xQ Zs a0 a1:=zcJ kz xQ Zs a0 a1
abbrev lQ:List VT:=[⟨true,zS⟩,⟨true,xd⟩,⟨false,(.list zN)⟩,⟨false,(.list I)⟩]
abbrev lR:List VT:=[⟨false,(.list je)⟩]
def lS(a0:qk)(a1:wm)(a2:(List qi))(a3:(List Int)):Option ((List yN)×Unit):=opt (zJ (fun s0:(((Int×((List Bool)×(List (Int×(Int×(Int×Int))))))×((Int×(Int×(Int×Int)))×(Int×(Int×Unit))))×((List (Int×(Int×(Int×(Int×(Int×Int))))))×Unit))=>bif(zg s0.1.2.2.2.1 ((a2.length:Nat):Int))then opt (atI a2 s0.1.2.2.2.1) fun x1=>bif !(zj x1.2.2.2.1 7)then some (.inr ((s0.1.1,(s0.1.2.1,(s0.1.2.2.1,((wrF .i64 (s0.1.2.2.2.1+1)),())))),(s0.2.1,())))else opt (zJ (fun s2:(((Int×((List Bool)×(List (Int×(Int×(Int×Int))))))×((Int×(Int×(Int×Int)))×(Int×Unit)))×((List (Int×(Int×(Int×(Int×(Int×Int))))))×Unit))=>opt (atI a2 s0.1.2.2.2.1) fun x3=>bif(zg s2.1.2.2.1 ((x3.2.2.2.2.2.2.2.2.length:Nat):Int))then opt (atI a2 s0.1.2.2.2.1) fun x4=>opt (atI a2 s0.1.2.2.2.1) fun x5=>opt (atI x5.2.2.2.2.2.2.2.2 s2.1.2.2.1) fun x6=>opt (xL (s2.1.1,(s2.1.2.1,(x4,(x6,()))))) fun x7=>opt (zJ (fun s8:((Int×Unit)×((List (Int×(Int×(Int×(Int×(Int×Int))))))×Unit))=>bif(zg s8.1.1 ((x7.1.length:Nat):Int))then opt (atI x7.1 s8.1.1) fun x9=>bif zj s2.1.2.1.1 0 then none else opt (atI a2 s0.1.2.2.2.1) fun x10=>opt (atI x7.1 s8.1.1) fun x11=>opt (atI x7.1 s8.1.1) fun x12=>opt (atI a3 s0.1.2.2.1) fun x13=>opt (atI a2 s0.1.2.2.2.1) fun x14=>opt (atI x7.1 s8.1.1) fun x15=>bif(zX s8.2.1.length (((x10.1,(x11.1,((wrF .i64 (x12.2.2.2.1+(wrF .i64 (x13*s2.1.2.1.1)))),((wrF .i64 (x14.2.2.2.2.2.1*s2.1.2.1.1)),((wrF .i64 ((wrF .i64 (Int.tdiv (wrF .i64 ((wrF .i64 (x9.2.2.2.2+s2.1.2.1.1)) - 1)) s2.1.2.1.1))*s2.1.2.1.1)),x15.2.2.2.2)))))::[]).length) 48)then some (.inr (((wrF .i64 (s8.1.1+1)),()),((s8.2.1++((x10.1,(x11.1,((wrF .i64 (x12.2.2.2.1+(wrF .i64 (x13*s2.1.2.1.1)))),((wrF .i64 (x14.2.2.2.2.2.1*s2.1.2.1.1)),((wrF .i64 ((wrF .i64 (Int.tdiv (wrF .i64 ((wrF .i64 (x9.2.2.2.2+s2.1.2.1.1)) - 1)) s2.1.2.1.1))*s2.1.2.1.1)),x15.2.2.2.2)))))::[])),())))else none else some (.inl (0,((s8.1.1,()),(s8.2.1,()))))) zR ((0,()),(s2.2.1,()))) fun x16=>some (.inr ((s2.1.1,(s2.1.2.1,((wrF .i64 (s2.1.2.2.1+1)),()))),(x16.2.2.1,())))else some (.inl (0,((s2.1.1,(s2.1.2.1,(s2.1.2.2.1,()))),(s2.2.1,()))))) zR ((s0.1.1,(s0.1.2.1,(0,()))),(s0.2.1,()))) fun x17=>some (.inr ((x17.2.1.1,(x17.2.1.2.1,((wrF .i64 (s0.1.2.2.1+1)),((wrF .i64 (s0.1.2.2.2.1+1)),())))),(x17.2.2.1,())))else some (.inl (0,((s0.1.1,(s0.1.2.1,(s0.1.2.2.1,(s0.1.2.2.2.1,())))),(s0.2.1,()))))) zR ((a0,(a1,(0,(0,())))),([],()))) fun x18=>some (x18.2.2.1,())
abbrev RV:Type:=(qk×wm×(List qi)×(List Int)×Unit)->Option ((List yN)×Unit)
def ZP:RV:=opq (sF prg [(19,XE)] (zG [cdF zN,cdF zS,cdF je,cdF gx,cdF qD,cdF zr] [] [⟨4,118,some 8,je,false⟩,⟨4,118,some 9,je,true⟩,⟨6,118,some 8,je,false⟩,⟨6,118,some 9,je,true⟩,⟨8,118,some 8,je,false⟩,⟨8,118,some 9,je,true⟩,⟨12,118,some 8,je,false⟩,⟨12,118,some 9,je,true⟩] [] []) (zy []) 30 103 lQ lR)
abbrev lT:Con:=⟨lQ,lR,ZP⟩
theorem Ej:Con.Ok prg 103 lT:=okF (ze YM zn) (by kernel_rfl)
theorem Ek(a0)(a1)(a2)(a3):ZP (a0,a1,a2,a3,())=lS a0 a1 a2 a3:=zA (by kernel_rfl)
abbrev RW:List VT:=[⟨false,(.list je)⟩,⟨false,I⟩,⟨false,I⟩]
abbrev RX:List VT:=[⟨false,.bool⟩]
def RY(a0:(List yN))(a1:Int)(a2:Int):Option (Bool×Unit):=opt (zJ (fun s0:((Bool×(Int×Unit))×Unit)=>bif(zg s0.1.2.1 ((a0.length:Nat):Int))then opt (opt (atI a0 s0.1.2.1) fun x1=>bif zj x1.2.1 a1 then opt (atI a0 s0.1.2.1) fun x2=>opt (atI a0 s0.1.2.1) fun x3=>opt (vq ((wrF .i64 (a2 - x2.2.2.1)),(x3.2.2.2.1,()))) fun x4=>opt (atI a0 s0.1.2.1) fun x5=>bif zg x4.1 x5.2.2.2.2.1 then some (1,((true,()),()))else some (0,((s0.1.1,()),()))else some (0,((s0.1.1,()),()))) fun x6=>bif Nat.beq x6.1 0 then some (.inr ((x6.2.1.1,((wrF .i64 (s0.1.2.1+1)),())),()))else some (.inl (1,((x6.2.1.1,(s0.1.2.1,())),())))else some (.inl (0,((s0.1.1,(s0.1.2.1,())),())))) zR ((false,(0,())),())) fun x7=>bif Nat.beq x7.1 0 then some (false,())else some (x7.2.1.1,())
abbrev zi3:Type:=((List yN)×Int×Int×Unit)->Option (Bool×Unit)
def YQ:zi3:=opq (sF prg [(164,XF)] (zG [cdF je] [] [] [] [164]) (zy []) 30 166 RW RX)
abbrev RZ:Con:=⟨RW,RX,YQ⟩
theorem zcK:Con.Ok prg 166 RZ:=okF (ze YN zn) (by kernel_rfl)
theorem zcL(a0)(a1)(a2):YQ (a0,a1,a2,())=RY a0 a1 a2:=zA (by kernel_rfl)
abbrev El:List VT:=[⟨false,(.list je)⟩,⟨false,I⟩,⟨false,I⟩,⟨false,I⟩]
abbrev Em:List VT:=[⟨true,qG⟩]
def En(a0:(List yN))(a1:Int)(a2:Int)(a3:Int):Option (jD×Unit):=opt (zJ (fun s0:((Unit×(Int×Unit))×(((List (Int×Int))×(Int×Unit))×Unit))=>bif zg s0.1.2.1 a2 then opt (opt (YQ (a0,(a1,((wrF .i64 (s0.1.2.1*a3)),())))) fun x1=>bif x1.1 then some (0,((128,()),()))else some (0,((127,()),()))) fun x2=>opt (bif(zg 0 ((s0.2.1.1.length:Nat):Int))then opt (atI s0.2.1.1 (wrF .i64 (((s0.2.1.1.length:Nat):Int) - 1))) fun x3=>opt (gl s0.2.1.1 (Int.toNat (wrF .i64 (((s0.2.1.1.length:Nat):Int) - 1)))) fun x4=>bif zj x4.1 x2.2.1.1 then opt (atI s0.2.1.1 (wrF .i64 (((s0.2.1.1.length:Nat):Int) - 1))) fun x5=>opt (gl s0.2.1.1 (Int.toNat (wrF .i64 (((s0.2.1.1.length:Nat):Int) - 1)))) fun x6=>opt (atI s0.2.1.1 (wrF .i64 (((s0.2.1.1.length:Nat):Int) - 1))) fun x7=>opt (gl s0.2.1.1 (Int.toNat (wrF .i64 (((s0.2.1.1.length:Nat):Int) - 1)))) fun x8=>some (0,(((),()),(((s0.2.1.1.set (Int.toNat (wrF .i64 (((s0.2.1.1.length:Nat):Int) - 1))) (x8.1,(wrF .i64 (x6.2+a3)))),(s0.2.1.2.1,())),())))else bif(zX s0.2.1.1.length (((x2.2.1.1,a3)::[]).length) 16)then some (0,(((),()),(((s0.2.1.1++((x2.2.1.1,a3)::[])),(s0.2.1.2.1,())),())))else none else bif(zX s0.2.1.1.length (((x2.2.1.1,a3)::[]).length) 16)then some (0,(((),()),(((s0.2.1.1++((x2.2.1.1,a3)::[])),(s0.2.1.2.1,())),())))else none) fun x9=>some (.inr (((),((wrF .i64 (s0.1.2.1+1)),())),((x9.2.2.1.1,(x9.2.2.1.2.1,())),())))else some (.inl (0,(((),(s0.1.2.1,())),((s0.2.1.1,(s0.2.1.2.1,())),()))))) zR (((),(0,())),(([],((wrF .i64 (a2*a3)),())),()))) fun x10=>some ((x10.2.2.1.1,x10.2.2.1.2.1),())
abbrev zfD:Type:=((List yN)×Int×Int×Int×Unit)->Option (jD×Unit)
def Qx:zfD:=opq (sF prg [(166,RZ)] (zG [⟨qG,wB qG,[0]⟩,cdF jk] [] [⟨3,68,none,jk,true⟩,⟨6,68,none,jk,true⟩,⟨9,68,none,jk,true⟩] [(3,68,9,[0]),(9,68,9,[0])] [166]) (zy []) 30 104 El Em)
abbrev Eo:Con:=⟨El,Em,Qx⟩
theorem Sa:Con.Ok prg 104 Eo:=okF (ze zcK zn) (by kernel_rfl)
theorem Sb(a0)(a1)(a2)(a3):Qx (a0,a1,a2,a3,())=En a0 a1 a2 a3:=zA (by kernel_rfl)
abbrev ay:List VT:=[⟨true,zS⟩,⟨true,xd⟩,⟨false,(.list zN)⟩,⟨false,(.list I)⟩,⟨false,I⟩]
abbrev az:List VT:=[⟨false,(.list qG)⟩]
def Lu(a0:qk)(a1:wm)(a2:(List qi))(a3:(List Int))(a4:Int):Option ((List jD)×Unit):=opt (ZP (a0,(a1,(a2,(a3,()))))) fun x0=>opt (zJ (fun s1:(((Int×(Int×(Int×Int)))×(Int×Unit))×((List ((List (Int×Int))×Int))×Unit))=>bif(zg s1.1.2.1 (wrF .i64 (2*((a0.2.2.length:Nat):Int))))then opt (Qx (x0.1,(s1.1.2.1,(a4,(s1.1.1.1,()))))) fun x2=>bif(zX s1.2.1.length ((x2.1::[]).length) 32)then some (.inr ((s1.1.1,((wrF .i64 (s1.1.2.1+1)),())),((s1.2.1++(x2.1::[])),())))else none else some (.inl (0,((s1.1.1,(s1.1.2.1,())),(s1.2.1,()))))) zR ((a1,(0,())),([],()))) fun x3=>some (x3.2.2.1,())
abbrev Lv:Type:=(qk×wm×(List qi)×(List Int)×Int×Unit)->Option ((List jD)×Unit)
def uD:Lv:=opq (sF prg [(103,lT),(104,Eo)] (zG [cdF zS,cdF qD,cdF qG,cdF jk] [] [⟨4,37,some 10,qG,false⟩,⟨4,37,some 12,qG,true⟩] [] []) (zy []) 30 51 ay az)
abbrev zgD:Con:=⟨ay,az,uD⟩
theorem zaq:Con.Ok prg 51 zgD:=okF (ze Ej (ze Sa zn)) (by kernel_rfl)
theorem zar(a0)(a1)(a2)(a3)(a4):uD (a0,a1,a2,a3,a4,())=Lu a0 a1 a2 a3 a4:=zA (by kernel_rfl)
abbrev tV:List VT:=[⟨true,qG⟩]
abbrev tW:List VT:=[⟨false,.bool⟩]
def tX(a0:jD):Option (Bool×Unit):=opt (bif(zg ((a0.1.length:Nat):Int) 1)then some (1,((false,()),()))else bif(zg 128 ((a0.1.length:Nat):Int))then some (1,((false,()),()))else some (0,((false,()),()))) fun x0=>bif Nat.beq x0.1 0 then opt (zJ (fun s1:((Bool×(Int×(Int×Unit)))×Unit)=>bif(zg s1.1.2.2.1 ((a0.1.length:Nat):Int))then opt (atI a0.1 s1.1.2.2.1) fun x2=>opt (bif zg x2.1 0 then some (1,((false,()),()))else bif zg 255 x2.1 then some (1,((false,()),()))else bif zg x2.2 1 then some (1,((false,()),()))else bif zg 9600000 x2.2 then some (1,((false,()),()))else some (0,((s1.1.1,()),()))) fun x3=>bif Nat.beq x3.1 0 then some (.inr ((x3.2.1.1,((wrF .i64 (s1.1.2.1+x2.2)),((wrF .i64 (s1.1.2.2.1+1)),()))),()))else some (.inl (1,((x3.2.1.1,(s1.1.2.1,(s1.1.2.2.1,()))),())))else some (.inl (0,((s1.1.1,(s1.1.2.1,(s1.1.2.2.1,()))),())))) zR ((x0.2.1.1,(0,(0,()))),())) fun x4=>bif Nat.beq x4.1 0 then bif zj x4.2.1.2.1 a0.2 then some ((!(zg 9600000 x4.2.1.2.1)),())else some (false,())else some (x4.2.1.1,())else some (x0.2.1.1,())
abbrev zcM:Type:=(jD×Unit)->Option (Bool×Unit)
def JH:zcM:=opq (sF prg [] (zG [cdF qG,cdF jk] [] [] [] []) (zy []) 30 172 tV tW)
abbrev bA:Con:=⟨tV,tW,JH⟩
theorem eP:Con.Ok prg 172 bA:=okF zn (by kernel_rfl)
theorem ND(a0):JH (a0,())=tX a0:=zA (by kernel_rfl)
abbrev UX:List VT:=[⟨true,jC⟩]
abbrev UY:List VT:=[⟨false,I⟩]
def UZ(a0:wL):Option (Int×Unit):=opt (kx (a0.1,())) fun x0=>bif !x0.1 then some (260,())else opt (JD (a0.2.1,())) fun x1=>bif !x1.1 then some (320,())else opt (zJ (fun s2:((Int×(Int×Unit))×Unit)=>bif(zg s2.1.2.1 ((a0.2.2.1.length:Nat):Int))then opt (atI a0.2.2.1 s2.1.2.1) fun x3=>opt (JH (x3,())) fun x4=>bif !x4.1 then some (.inl (1,((370,(s2.1.2.1,())),())))else some (.inr ((s2.1.1,((wrF .i64 (s2.1.2.1+1)),())),()))else some (.inl (0,((s2.1.1,(s2.1.2.1,())),())))) zR ((0,(0,())),())) fun x5=>bif Nat.beq x5.1 0 then opt (bif(!(zj ((a0.2.2.1.length:Nat):Int) (wrF .i64 (2*((a0.1.2.2.length:Nat):Int)))))then some (1,((410,()),()))else bif zg a0.2.2.2 84 then some (1,((410,()),()))else bif zg 1542 a0.2.2.2 then some (1,((410,()),()))else some (0,((x5.2.1.1,()),()))) fun x6=>bif Nat.beq x6.1 0 then some (0,())else some (x6.2.1.1,())else some (x5.2.1.1,())
abbrev BI:Type:=(wL×Unit)->Option (Int×Unit)
def Zg:BI:=opq (sF prg [(96,JC),(97,bu),(172,bA)] (zG [cdF jC,cdF zS,cdF qD,cdF qG,cdF jk] [] [] [] [96,97,172]) (zy []) 30 109 UX UY)
abbrev Ga:Con:=⟨UX,UY,Zg⟩
theorem nf:Con.Ok prg 109 Ga:=okF (ze Jb (ze eF (ze eP zn))) (by kernel_rfl)
theorem ng(a0):Zg (a0,())=UZ a0:=zA (by kernel_rfl)
abbrev Ep:List VT:=[⟨true,jC⟩,⟨false,(.list zN)⟩]
abbrev Er:List VT:=[⟨false,I⟩]
def Es(a0:wL)(a1:(List qi)):Option (Int×Unit):=opt (Zg (a0,())) fun x0=>opt (bif zj x0.1 0 then opt (gR (a0.1,(a1,()))) fun x1=>some (0,((x1.1,()),()))else some (0,((x0.1,()),()))) fun x2=>bif !(zj x2.2.1.1 0)then some (x2.2.1.1,())else opt (zJ (fun s3:((Int×(Int×Unit))×Unit)=>bif(zg s3.1.2.1 ((a1.length:Nat):Int))then opt (opt (atI a1 s3.1.2.1) fun x4=>bif !(zj x4.2.2.2.1 6)then some (1,((2,()),()))else opt (atI a1 s3.1.2.1) fun x5=>bif zg a0.2.2.2 x5.2.2.2.2.1 then some (1,((2,()),()))else some (0,((s3.1.1,()),()))) fun x6=>bif Nat.beq x6.1 0 then some (.inr ((x6.2.1.1,((wrF .i64 (s3.1.2.1+1)),())),()))else some (.inl (1,((x6.2.1.1,(s3.1.2.1,())),())))else some (.inl (0,((s3.1.1,(s3.1.2.1,())),())))) zR ((0,(0,())),())) fun x7=>bif Nat.beq x7.1 0 then some (0,())else some (x7.2.1.1,())
abbrev zfE:Type:=(wL×(List qi)×Unit)->Option (Int×Unit)
def Ym:zfE:=opq (sF prg [(109,Ga),(98,VO)] (zG [cdF jC,cdF zN,cdF zS,cdF qD,cdF qG,cdF jk] [] [] [] [109,98]) (zy []) 30 58 Ep Er)
abbrev eQ:Con:=⟨Ep,Er,Ym⟩
theorem lU:Con.Ok prg 58 eQ:=okF (ze nf (ze UW zn)) (by kernel_rfl)
theorem Sc(a0)(a1):Ym (a0,a1,())=Es a0 a1:=zA (by kernel_rfl)
abbrev oo:List VT:=[⟨true,zN⟩,⟨false,I⟩]
abbrev oq:List VT:=[⟨false,.bool⟩]
def ot(a0:qi)(a1:Int):Option (Bool×Unit):=opt (zJ (fun s0:((Bool×(Int×Unit))×Unit)=>bif(zg s0.1.2.1 ((a0.2.2.2.2.2.2.2.2.length:Nat):Int))then opt (zJ (fun s1:((Bool×(Int×Unit))×Unit)=>opt (atI a0.2.2.2.2.2.2.2.2 s0.1.2.1) fun x2=>bif(zg s1.1.2.1 ((x2.length:Nat):Int))then opt (atI a0.2.2.2.2.2.2.2.2 s0.1.2.1) fun x3=>opt (atI x3 s1.1.2.1) fun x4=>bif zj x4 a1 then some (.inl (1,((true,(s1.1.2.1,())),())))else some (.inr ((s1.1.1,((wrF .i64 (s1.1.2.1+1)),())),()))else some (.inl (0,((s1.1.1,(s1.1.2.1,())),())))) zR ((s0.1.1,(0,())),())) fun x5=>bif Nat.beq x5.1 0 then some (.inr ((x5.2.1.1,((wrF .i64 (s0.1.2.1+1)),())),()))else some (.inl (1,((x5.2.1.1,(s0.1.2.1,())),())))else some (.inl (0,((s0.1.1,(s0.1.2.1,())),())))) zR ((false,(0,())),())) fun x6=>bif Nat.beq x6.1 0 then some (false,())else some (x6.2.1.1,())
abbrev zas:Type:=(qi×Int×Unit)->Option (Bool×Unit)
def YR:zas:=opq (sF prg [] (zG [cdF zN,cdF zr] [] [] [] []) (zy []) 30 110 oo oq)
abbrev ou:Con:=⟨oo,oq,YR⟩
theorem HK:Con.Ok prg 110 ou:=okF zn (by kernel_rfl)
theorem HL(a0)(a1):YR (a0,a1,())=ot a0 a1:=zA (by kernel_rfl)
abbrev Et:List VT:=[⟨true,qG⟩,⟨false,I⟩,⟨false,I⟩]
abbrev Eu:List VT:=[⟨false,I⟩]
def Ew(a0:jD)(a1:Int)(a2:Int):Option (Int×Unit):=opt (JH (a0,())) fun x0=>bif !x0.1 then some (370,())else opt (bif zg a1 1 then some (1,((2,()),()))else bif zg 1000 a1 then some (1,((2,()),()))else bif zg a2 84 then some (1,((2,()),()))else bif zg 1542 a2 then some (1,((2,()),()))else some (0,((0,()),()))) fun x1=>bif Nat.beq x1.1 0 then some (0,())else some (x1.2.1.1,())
abbrev zfF:Type:=(jD×Int×Int×Unit)->Option (Int×Unit)
def KQ:zfF:=opq (sF prg [(172,bA)] (zG [cdF qG,cdF jk] [] [] [] [172]) (zy []) 30 173 Et Eu)
abbrev Ex:Con:=⟨Et,Eu,KQ⟩
theorem Sd:Con.Ok prg 173 Ex:=okF (ze eP zn) (by kernel_rfl)
theorem Se(a0)(a1)(a2):KQ (a0,a1,a2,())=Ew a0 a1 a2:=zA (by kernel_rfl)
abbrev Lw:List VT:=[⟨false,I⟩,⟨false,I⟩]
abbrev Lx:List VT:=[⟨false,.bool⟩]
def Ly(a0:Int)(a1:Int):Option (Bool×Unit):=bif zg (wrF .u64 a1) 0 then none else some ((zj (Int.tmod (wG .i64 a0 (wrF .u64 a1)) 2) 1),())
abbrev zgE:Type:=(Int×Int×Unit)->Option (Bool×Unit)
def Wa:zgE:=opq (sF prg [] (zG [] [] [] [] []) (zy []) 30 230 Lw Lx)
abbrev aA:Con:=⟨Lw,Lx,Wa⟩
theorem GN:Con.Ok prg 230 aA:=okF zn (by kernel_rfl)
theorem zat(a0)(a1):Wa (a0,a1,())=Ly a0 a1:=zA (by kernel_rfl)
abbrev ov:List VT:=[⟨true,qG⟩]
abbrev ow:List VT:=[⟨false,.bool⟩]
def ox(a0:jD):Option (Bool×Unit):=opt (zJ (fun s0:((Bool×(Int×Unit))×Unit)=>bif(zg s0.1.2.1 ((a0.1.length:Nat):Int))then opt (atI a0.1 s0.1.2.1) fun x1=>opt (Wa (x1.1,(6,()))) fun x2=>bif !x2.1 then some (.inl (1,((false,(s0.1.2.1,())),())))else some (.inr ((s0.1.1,((wrF .i64 (s0.1.2.1+1)),())),()))else some (.inl (0,((s0.1.1,(s0.1.2.1,())),())))) zR ((false,(0,())),())) fun x3=>bif Nat.beq x3.1 0 then some (true,())else some (x3.2.1.1,())
abbrev zau:Type:=(jD×Unit)->Option (Bool×Unit)
def uk:zau:=opq (sF prg [(230,aA)] (zG [cdF qG,cdF jk] [] [] [] [230]) (zy []) 30 175 ov ow)
abbrev YS:Con:=⟨ov,ow,uk⟩
theorem Xq:Con.Ok prg 175 YS:=okF (ze GN zn) (by kernel_rfl)
theorem HM(a0):uk (a0,())=ox a0:=zA (by kernel_rfl)
abbrev Sf:List VT:=[⟨true,qG⟩,⟨false,I⟩]
abbrev Sg:List VT:=[⟨false,I⟩,⟨false,I⟩]
def Sh(a0:jD)(a1:Int):Option (Int×Int×Unit):=bif zj a0.2 0 then none else opt (bif zg (Int.tmod a1 a0.2) 0 then some (0,(((wrF .i64 ((Int.tmod a1 a0.2)+a0.2)),()),()))else some (0,(((Int.tmod a1 a0.2),()),()))) fun x0=>opt (zJ (fun s1:((Int×(Int×Unit))×Unit)=>opt (atI a0.1 s1.1.2.1) fun x2=>bif !(zg s1.1.1 x2.2)then opt (atI a0.1 s1.1.2.1) fun x3=>some (.inr (((wrF .i64 (s1.1.1 - x3.2)),((wrF .i64 (s1.1.2.1+1)),())),()))else some (.inl (0,((s1.1.1,(s1.1.2.1,())),())))) zR ((x0.2.1.1,(0,())),())) fun x4=>some (x4.2.1.2.1,(x4.2.1.1,()))
abbrev zi4:Type:=(jD×Int×Unit)->Option (Int×Int×Unit)
def YT:zi4:=opq (sF prg [] (zG [cdF qG,cdF jk] [] [] [] []) (zy []) 30 254 Sf Sg)
abbrev Si:Con:=⟨Sf,Sg,YT⟩
theorem zcN:Con.Ok prg 254 Si:=okF zn (by kernel_rfl)
theorem zcO(a0)(a1):YT (a0,a1,())=Sh a0 a1:=zA (by kernel_rfl)
abbrev eR:List VT:=[⟨true,qG⟩,⟨false,I⟩,⟨false,I⟩]
abbrev eS:List VT:=[⟨false,(.list jo)⟩]
def eU(a0:jD)(a1:Int)(a2:Int):Option ((List yE)×Unit):=opt (zJ (fun s0:((Bool×(Int×Unit))×((List (Int×Int))×Unit))=>bif zg s0.1.2.1 a2 then opt (YT (a0,(s0.1.2.1,()))) fun x1=>opt (atI a0.1 x1.1) fun x2=>opt (atI a0.1 x1.1) fun x3=>opt (Wa (x3.1,(6,()))) fun x4=>opt (bif x4.1 then bif s0.1.1 then opt (atI s0.2.1 (wrF .i64 (((s0.2.1.length:Nat):Int) - 1))) fun x5=>opt (gl s0.2.1 (Int.toNat (wrF .i64 (((s0.2.1.length:Nat):Int) - 1)))) fun x6=>some (0,((),((s0.2.1.set (Int.toNat (wrF .i64 (((s0.2.1.length:Nat):Int) - 1))) (x6.1,(wN (wrF .i64 ((wrF .i64 (s0.1.2.1 - x1.2.1))+x2.2)) a2))),())))else some (0,((),(s0.2.1,())))else some (0,((),(s0.2.1,())))) fun x7=>opt (bif x4.1 then bif !s0.1.1 then bif(zX x7.2.2.1.length (((s0.1.2.1,(wN (wrF .i64 ((wrF .i64 (s0.1.2.1 - x1.2.1))+x2.2)) a2))::[]).length) 16)then some (0,((),((x7.2.2.1++((s0.1.2.1,(wN (wrF .i64 ((wrF .i64 (s0.1.2.1 - x1.2.1))+x2.2)) a2))::[])),())))else none else some (0,((),(x7.2.2.1,())))else some (0,((),(x7.2.2.1,())))) fun x8=>some (.inr ((x4.1,((wN (wrF .i64 ((wrF .i64 (s0.1.2.1 - x1.2.1))+x2.2)) a2),())),(x8.2.2.1,())))else some (.inl (0,((s0.1.1,(s0.1.2.1,())),(s0.2.1,()))))) zR ((false,(a1,())),([],()))) fun x9=>some (x9.2.2.1,())
abbrev NF:Type:=(jD×Int×Int×Unit)->Option ((List yE)×Unit)
def xT:NF:=opq (sF prg [(254,Si),(230,aA)] (zG [cdF qG,cdF jk] [] [⟨4,68,some 6,jo,false⟩,⟨4,68,some 7,jo,true⟩,⟨8,68,some 6,jo,false⟩,⟨8,68,some 7,jo,true⟩,⟨10,68,some 6,jo,false⟩,⟨10,68,some 7,jo,true⟩] [] [254,230]) (zy []) 30 231 eR eS)
abbrev VQ:Con:=⟨eR,eS,xT⟩
theorem Gb:Con.Ok prg 231 VQ:=okF (ze zcN (ze GN zn)) (by kernel_rfl)
theorem BJ(a0)(a1)(a2):xT (a0,a1,a2,())=eU a0 a1 a2:=zA (by kernel_rfl)
abbrev tY:List VT:=[⟨true,qG⟩]
abbrev tZ:List VT:=[⟨false,(.list jo)⟩]
def Aa(a0:jD):Option ((List yE)×Unit):=opt (zJ (fun s0:((Int×(Int×Unit))×Unit)=>bif(zg s0.1.2.1 ((a0.1.length:Nat):Int))then opt (atI a0.1 s0.1.2.1) fun x1=>opt (Wa (x1.1,(6,()))) fun x2=>bif x2.1 then opt (atI a0.1 s0.1.2.1) fun x3=>some (.inr (((wrF .i64 (s0.1.1+x3.2)),((wrF .i64 (s0.1.2.1+1)),())),()))else some (.inl (0,((s0.1.1,(s0.1.2.1,())),())))else some (.inl (0,((s0.1.1,(s0.1.2.1,())),())))) zR ((0,(0,())),())) fun x4=>opt (xT (a0,(x4.2.1.1,((wrF .i64 (x4.2.1.1+a0.2)),())))) fun x5=>some (x5.1,())
abbrev zcP:Type:=(jD×Unit)->Option ((List yE)×Unit)
def Zt:zcP:=opq (sF prg [(230,aA),(231,VQ)] (zG [cdF qG,cdF jk] [] [⟨3,36,some 2,jo,false⟩] [] [230]) (zy []) 30 176 tY tZ)
abbrev bB:Con:=⟨tY,tZ,Zt⟩
theorem eV:Con.Ok prg 176 bB:=okF (ze GN (ze Gb zn)) (by kernel_rfl)
theorem NG(a0):Zt (a0,())=Aa a0:=zA (by kernel_rfl)
abbrev Lz:List VT:=[⟨false,(.list jo)⟩,⟨false,I⟩]
abbrev LA:List VT:=[⟨false,I⟩]
def LB(a0:(List yE))(a1:Int):Option (Int×Unit):=opt (zJ (fun s0:((Int×(Int×Unit))×Unit)=>bif(zg s0.1.2.1 ((a0.length:Nat):Int))then opt (atI a0 s0.1.2.1) fun x1=>opt (atI a0 s0.1.2.1) fun x2=>some (.inr (((wrF .i64 (s0.1.1+(jY 0 (wrF .i64 ((wrF .i64 (x1.2 - x2.1)) - a1))))),((wrF .i64 (s0.1.2.1+1)),())),()))else some (.inl (0,((s0.1.1,(s0.1.2.1,())),())))) zR ((0,(0,())),())) fun x3=>some (x3.2.1.1,())
abbrev zgF:Type:=((List yE)×Int×Unit)->Option (Int×Unit)
def Wb:zgF:=opq (sF prg [] (zG [cdF jo] [] [] [] []) (zy []) 30 229 Lz LA)
abbrev nh:Con:=⟨Lz,LA,Wb⟩
theorem oy:Con.Ok prg 229 nh:=okF zn (by kernel_rfl)
theorem zav(a0)(a1):Wb (a0,a1,())=LB a0 a1:=zA (by kernel_rfl)
abbrev Ab:List VT:=[⟨true,qG⟩,⟨false,I⟩,⟨false,I⟩]
abbrev Ac:List VT:=[⟨false,I⟩]
def Ad(a0:jD)(a1:Int)(a2:Int):Option (Int×Unit):=opt (uk (a0,())) fun x0=>bif x0.1 then some (a0.2,())else opt (Zt (a0,())) fun x1=>opt (Wb (x1.1,((wrF .i64 (a2*a1)),()))) fun x2=>some (x2.1,())
abbrev zcQ:Type:=(jD×Int×Int×Unit)->Option (Int×Unit)
def Vi:zcQ:=opq (sF prg [(175,YS),(176,bB),(229,nh)] (zG [cdF qG,cdF jk] [] [] [] [175,229]) (zy []) 30 174 Ab Ac)
abbrev Ae:Con:=⟨Ab,Ac,Vi⟩
theorem NH:Con.Ok prg 174 Ae:=okF (ze Xq (ze eV (ze oy zn))) (by kernel_rfl)
theorem NI(a0)(a1)(a2):Vi (a0,a1,a2,())=Ad a0 a1 a2:=zA (by kernel_rfl)
abbrev Af:List VT:=[⟨true,qG⟩,⟨false,I⟩,⟨false,I⟩,⟨false,I⟩,⟨false,I⟩]
abbrev Ag:List VT:=[⟨false,I⟩]
def Ah(a0:jD)(a1:Int)(a2:Int)(a3:Int)(a4:Int):Option (Int×Unit):=opt (uk (a0,())) fun x0=>bif x0.1 then some ((wrF .i64 (a4 - (wrF .i64 (127*a1)))),())else opt (xT (a0,(a3,((wrF .i64 (a3+a4)),())))) fun x1=>opt (Wb (x1.1,((wrF .i64 (a2*a1)),()))) fun x2=>some ((wrF .i64 (x2.1 - (wrF .i64 (127*a1)))),())
abbrev zcR:Type:=(jD×Int×Int×Int×Int×Unit)->Option (Int×Unit)
def Vj:zcR:=opq (sF prg [(175,YS),(231,VQ),(229,nh)] (zG [cdF qG,cdF jk] [] [] [] [175,229]) (zy []) 30 177 Af Ag)
abbrev Ai:Con:=⟨Af,Ag,Vj⟩
theorem NJ:Con.Ok prg 177 Ai:=okF (ze Xq (ze Gb (ze oy zn))) (by kernel_rfl)
theorem NK(a0)(a1)(a2)(a3)(a4):Vj (a0,a1,a2,a3,a4,())=Ah a0 a1 a2 a3 a4:=zA (by kernel_rfl)
abbrev Sj:List VT:=[⟨true,qG⟩,⟨false,I⟩,⟨false,I⟩]
abbrev Sk:List VT:=[⟨true,Qf⟩,⟨false,I⟩]
def Sl(a0:jD)(a1:Int)(a2:Int):Option (kZ×Int×Unit):=opt (KQ (a0,(a1,(a2,())))) fun x0=>bif !(zj x0.1 0)then some ((0,0),(x0.1,()))else opt (Vi (a0,(a1,(a2,())))) fun x1=>bif(zj (wrF .i64 (a0.2*a1)) 0)then none else bif(zg (wrF .i64 (Int.tdiv (wrF .i64 (x1.1*1048576)) (wrF .i64 (a0.2*a1)))) 1)then some ((0,0),(4,()))else opt (opt (uk (a0,())) fun x2=>bif !x2.1 then opt (Zt (a0,())) fun x3=>opt (zJ (fun s4:((Int×(Int×Unit))×Unit)=>bif(zg s4.1.2.1 ((x3.1.length:Nat):Int))then opt (atI x3.1 s4.1.2.1) fun x5=>opt (atI x3.1 s4.1.2.1) fun x6=>opt (atI x3.1 s4.1.2.1) fun x7=>opt (zJ (fun s8:((Int×(Int×Unit))×Unit)=>bif(zg s8.1.2.1 (wrF .i64 (2*((x3.1.length:Nat):Int))))then bif(zj ((x3.1.length:Nat):Int) 0)then none else opt (atI x3.1 (Int.tmod s8.1.2.1 ((x3.1.length:Nat):Int))) fun x9=>bif(zj ((x3.1.length:Nat):Int) 0)then none else opt (bif(zg (wrF .i64 (x5.2 - (wN (wrF .i64 (x6.2 - x7.1)) (wrF .i64 (a2*a1))))) (wrF .i64 ((wrF .i64 (x9.1+(wN (wrF .i64 (x9.2 - x9.1)) (wrF .i64 (a2*a1)))))+(wrF .i64 ((wrF .i64 (Int.tdiv s8.1.2.1 ((x3.1.length:Nat):Int)))*a0.2)))))then opt (Vj (a0,(a1,(a2,((wrF .i64 (x5.2 - (wN (wrF .i64 (x6.2 - x7.1)) (wrF .i64 (a2*a1))))),((wrF .i64 ((wrF .i64 ((wrF .i64 (x9.1+(wN (wrF .i64 (x9.2 - x9.1)) (wrF .i64 (a2*a1)))))+(wrF .i64 ((wrF .i64 (Int.tdiv s8.1.2.1 ((x3.1.length:Nat):Int)))*a0.2)))) - (wrF .i64 (x5.2 - (wN (wrF .i64 (x6.2 - x7.1)) (wrF .i64 (a2*a1))))))),())))))) fun x10=>some (0,(((jY s8.1.1 (wrF .i64 ((wrF .i64 ((wrF .i64 ((wrF .i64 ((wrF .i64 ((wrF .i64 (x9.1+(wN (wrF .i64 (x9.2 - x9.1)) (wrF .i64 (a2*a1)))))+(wrF .i64 ((wrF .i64 (Int.tdiv s8.1.2.1 ((x3.1.length:Nat):Int)))*a0.2)))) - (wrF .i64 (x5.2 - (wN (wrF .i64 (x6.2 - x7.1)) (wrF .i64 (a2*a1)))))))*(wrF .i64 (Int.tdiv (wrF .i64 (x1.1*1048576)) (wrF .i64 (a0.2*a1))))))*a1)) - (wrF .i64 (x10.1*1048576))))),()),()))else some (0,((s8.1.1,()),()))) fun x11=>some (.inr ((x11.2.1.1,((wrF .i64 (s8.1.2.1+1)),())),()))else some (.inl (0,((s8.1.1,(s8.1.2.1,())),())))) zR ((s4.1.1,(0,())),())) fun x12=>some (.inr ((x12.2.1.1,((wrF .i64 (s4.1.2.1+1)),())),()))else some (.inl (0,((s4.1.1,(s4.1.2.1,())),())))) zR (((wrF .i64 ((wrF .i64 (127*a1))*1048576)),(0,())),())) fun x13=>some (0,((a0,(x13.2.1.1,())),()))else some (0,((a0,((wrF .i64 ((wrF .i64 (127*a1))*1048576)),())),()))) fun x14=>bif(zj (wrF .i64 ((wrF .i64 (Int.tdiv (wrF .i64 (x1.1*1048576)) (wrF .i64 (a0.2*a1))))*a1)) 0)then none else some (((wrF .i64 (Int.tdiv (wrF .i64 (x1.1*1048576)) (wrF .i64 (a0.2*a1)))),(wrF .i64 (Int.tdiv (wrF .i64 ((wrF .i64 (x14.2.1.2.1+(wrF .i64 ((wrF .i64 (Int.tdiv (wrF .i64 (x1.1*1048576)) (wrF .i64 (a0.2*a1))))*a1)))) - 1)) (wrF .i64 ((wrF .i64 (Int.tdiv (wrF .i64 (x1.1*1048576)) (wrF .i64 (a0.2*a1))))*a1))))),(0,()))
abbrev zi5:Type:=(jD×Int×Int×Unit)->Option (kZ×Int×Unit)
def KR:zi5:=opq (sF prg [(173,Ex),(174,Ae),(175,YS),(176,bB),(177,Ai)] (zG [cdF qG,cdF jk] [] [] [] [173,174,175,177]) (zy []) 30 111 Sj Sk)
abbrev Sm:Con:=⟨Sj,Sk,KR⟩
theorem zcS:Con.Ok prg 111 Sm:=okF (ze Sd (ze NH (ze Xq (ze eV (ze NJ zn))))) (by kernel_rfl)
theorem zcT(a0)(a1)(a2):KR (a0,a1,a2,())=Sl a0 a1 a2:=zA (by kernel_rfl)
abbrev Aj:List VT:=[⟨true,zr⟩]
abbrev Ak:List VT:=[⟨false,.bool⟩]
def bC(a0:zC):Option (Bool×Unit):=bif !(zg a0.1 1)then bif !(zg 1048576 a0.1)then bif !(zg a0.2 1)then some ((!(zg 2097152 a0.2)),())else some (false,())else some (false,())else some (false,())
abbrev zcU:Type:=(zC×Unit)->Option (Bool×Unit)
def yb:zcU:=opq (sF prg [] (zG [cdF zr] [] [] [] []) (zy []) 30 60 Aj Ak)
abbrev kB:Con:=⟨Aj,Ak,yb⟩
theorem um:Con.Ok prg 60 kB:=okF zn (by kernel_rfl)
theorem eW(a0):yb (a0,())=bC a0:=zA (by kernel_rfl)
abbrev LC:List VT:=[⟨false,(.list zr)⟩]
abbrev LD:List VT:=[⟨true,zr⟩,⟨false,I⟩]
def LF(a0:(List zC)):Option (zC×Int×Unit):=bif(zj ((a0.length:Nat):Int) 0)then some ((0,0),(2,()))else bif(zg 12 ((a0.length:Nat):Int))then some ((0,0),(3,()))else opt (zJ (fun s0:(((Int×Int)×((Int×Int)×(Int×(Int×Unit))))×Unit)=>bif(zg s0.1.2.2.2.1 ((a0.length:Nat):Int))then opt (atI a0 s0.1.2.2.2.1) fun x1=>opt (yb (x1,())) fun x2=>bif !x2.1 then some (.inl (1,(((0,0),(s0.1.2.1,(130,(s0.1.2.2.2.1,())))),())))else opt (atI a0 s0.1.2.2.2.1) fun x3=>opt (atI a0 s0.1.2.2.2.1) fun x4=>some (.inr ((s0.1.1,(((wrF .i64 (s0.1.2.1.1+x3.1)),(wrF .i64 (s0.1.2.1.2+x4.2))),(s0.1.2.2.1,((wrF .i64 (s0.1.2.2.2.1+1)),())))),()))else some (.inl (0,((s0.1.1,(s0.1.2.1,(s0.1.2.2.1,(s0.1.2.2.2.1,())))),())))) zR (((0,0),((0,0),(0,(0,())))),())) fun x5=>bif Nat.beq x5.1 0 then opt (yb (x5.2.1.2.1,())) fun x6=>bif !x6.1 then some ((0,0),(6,()))else some (x5.2.1.2.1,(0,()))else some (x5.2.1.1,(x5.2.1.2.2.1,()))
abbrev zgG:Type:=((List zC)×Unit)->Option (zC×Int×Unit)
def aB:zgG:=opq (sF prg [(60,kB)] (zG [cdF zr] [] [] [] [60]) (zy []) 30 112 LC LD)
abbrev LG:Con:=⟨LC,LD,aB⟩
theorem zaw:Con.Ok prg 112 LG:=okF (ze um zn) (by kernel_rfl)
theorem zax(a0):aB (a0,())=LF a0:=zA (by kernel_rfl)
abbrev Al:List VT:=[⟨true,Qf⟩]
abbrev Am:List VT:=[⟨false,.bool⟩]
def bD(a0:kZ):Option (Bool×Unit):=bif !(zg a0.1 1)then bif !(zg 2097152 a0.1)then bif !(zg a0.2 0)then some ((!(zg 268435456 a0.2)),())else some (false,())else some (false,())else some (false,())
abbrev zcV:Type:=(kZ×Unit)->Option (Bool×Unit)
def Zu:zcV:=opq (sF prg [] (zG [cdF Qf] [] [] [] []) (zy []) 30 178 Al Am)
abbrev An:Con:=⟨Al,Am,Zu⟩
theorem NL:Con.Ok prg 178 An:=okF zn (by kernel_rfl)
theorem eX(a0):Zu (a0,())=bD a0:=zA (by kernel_rfl)
abbrev Ey:List VT:=[⟨false,(.list zr)⟩,⟨false,I⟩]
abbrev Ez:List VT:=[⟨false,.bool⟩]
def EA(a0:(List zC))(a1:Int):Option (Bool×Unit):=opt (zJ (fun s0:((Bool×(Int×Unit))×Unit)=>bif(zg s0.1.2.1 ((a0.length:Nat):Int))then opt (atI a0 s0.1.2.1) fun x1=>bif !(zg a1 x1.2)then some (.inl (1,((true,(s0.1.2.1,())),())))else some (.inr ((s0.1.1,((wrF .i64 (s0.1.2.1+1)),())),()))else some (.inl (0,((s0.1.1,(s0.1.2.1,())),())))) zR ((false,(0,())),())) fun x2=>bif Nat.beq x2.1 0 then some (false,())else some (x2.2.1.1,())
abbrev zfG:Type:=((List zC)×Int×Unit)->Option (Bool×Unit)
def KS:zfG:=opq (sF prg [] (zG [cdF zr] [] [] [] []) (zy []) 30 179 Ey Ez)
abbrev EB:Con:=⟨Ey,Ez,KS⟩
theorem Sn:Con.Ok prg 179 EB:=okF zn (by kernel_rfl)
theorem So(a0)(a1):KS (a0,a1,())=EA a0 a1:=zA (by kernel_rfl)
abbrev EC:List VT:=[⟨false,I⟩,⟨false,I⟩]
abbrev ED:List VT:=[⟨false,I⟩]
def EE(a0:Int)(a1:Int):Option (Int×Unit):=bif zj a1 0 then none else opt (bif(zg (wrF .i64 ((wrF .i64 (Int.tdiv a0 a1))*a1)) a0)then some (0,(((wrF .i64 ((wrF .i64 (Int.tdiv a0 a1))+1)),()),()))else some (0,(((wrF .i64 (Int.tdiv a0 a1)),()),()))) fun x0=>some (x0.2.1.1,())
abbrev zfH:Type:=(Int×Int×Unit)->Option (Int×Unit)
def uO:zfH:=opq (sF prg [] (zG [] [] [] [] []) (zy []) 30 132 EC ED)
abbrev KT:Con:=⟨EC,ED,uO⟩
theorem KU:Con.Ok prg 132 KT:=okF zn (by kernel_rfl)
theorem Sp(a0)(a1):uO (a0,a1,())=EE a0 a1:=zA (by kernel_rfl)
abbrev eY:List VT:=[⟨false,(.list zr)⟩,⟨false,I⟩]
abbrev eZ:List VT:=[⟨false,I⟩]
def fa(a0:(List zC))(a1:Int):Option (Int×Unit):=opt (zJ (fun s0:((Int×(Int×Unit))×Unit)=>bif(zg s0.1.2.1 ((a0.length:Nat):Int))then opt (atI a0 s0.1.2.1) fun x1=>bif zg a1 x1.2 then some (.inr ((s0.1.1,((wrF .i64 (s0.1.2.1+1)),())),()))else opt (uO ((wrF .i64 (x1.1*1048576)),(a1,()))) fun x2=>opt (bif zg s0.1.1 0 then some (0,((x2.1,()),()))else bif zg x2.1 s0.1.1 then some (0,((x2.1,()),()))else some (0,((s0.1.1,()),()))) fun x3=>opt (zJ (fun s4:((Int×(Int×Unit))×Unit)=>bif(zg s4.1.2.1 ((a0.length:Nat):Int))then opt (atI a0 s4.1.2.1) fun x5=>opt (bif zg a1 x5.2 then bif zg x5.1 x1.1 then opt (uO ((wrF .i64 ((wrF .i64 ((wrF .i64 ((wrF .i64 (x5.2 - a1))*x1.1))+(wrF .i64 ((wrF .i64 (a1 - x1.2))*x5.1))))*1048576)),((wrF .i64 (a1*(wrF .i64 (x5.2 - x1.2)))),()))) fun x6=>some (0,(((wN s4.1.1 x6.1),()),()))else some (0,((s4.1.1,()),()))else some (0,((s4.1.1,()),()))) fun x7=>some (.inr ((x7.2.1.1,((wrF .i64 (s4.1.2.1+1)),())),()))else some (.inl (0,((s4.1.1,(s4.1.2.1,())),())))) zR ((x3.2.1.1,(0,())),())) fun x8=>some (.inr ((x8.2.1.1,((wrF .i64 (s0.1.2.1+1)),())),()))else some (.inl (0,((s0.1.1,(s0.1.2.1,())),())))) zR (((-1),(0,())),())) fun x9=>some (x9.2.1.1,())
abbrev NM:Type:=((List zC)×Int×Unit)->Option (Int×Unit)
def Jd:NM:=opq (sF prg [(132,KT)] (zG [cdF zr] [] [] [] [132]) (zy []) 30 180 eY eZ)
abbrev fb:Con:=⟨eY,eZ,Jd⟩
theorem BK:Con.Ok prg 180 fb:=okF (ze KU zn) (by kernel_rfl)
theorem BL(a0)(a1):Jd (a0,a1,())=fa a0 a1:=zA (by kernel_rfl)
abbrev Ao:List VT:=[⟨false,(.list zr)⟩,⟨true,Qf⟩]
abbrev Ap:List VT:=[⟨false,I⟩,⟨false,I⟩]
def bE(a0:(List zC))(a1:kZ):Option (Int×Int×Unit):=bif(zj ((a0.length:Nat):Int) 0)then some (0,(2,()))else bif(zg 12 ((a0.length:Nat):Int))then some (0,(3,()))else opt (zJ (fun s0:((Int×(Int×(Int×Unit)))×Unit)=>bif(zg s0.1.2.2.1 ((a0.length:Nat):Int))then opt (atI a0 s0.1.2.2.1) fun x1=>opt (yb (x1,())) fun x2=>bif !x2.1 then some (.inl (1,((0,(130,(s0.1.2.2.1,()))),())))else some (.inr ((s0.1.1,(s0.1.2.1,((wrF .i64 (s0.1.2.2.1+1)),()))),()))else some (.inl (0,((s0.1.1,(s0.1.2.1,(s0.1.2.2.1,()))),())))) zR ((0,(0,(0,()))),())) fun x3=>bif Nat.beq x3.1 0 then opt (Zu (a1,())) fun x4=>bif !x4.1 then some (0,(140,()))else opt (KS (a0,(a1.1,()))) fun x5=>bif !x5.1 then some (0,(141,()))else opt (Jd (a0,(a1.1,()))) fun x6=>some ((wrF .i64 (a1.2+x6.1)),(0,()))else some (x3.2.1.1,(x3.2.1.2.1,()))
abbrev zcW:Type:=((List zC)×kZ×Unit)->Option (Int×Int×Unit)
def Zv:zcW:=opq (sF prg [(60,kB),(178,An),(179,EB),(180,fb)] (zG [cdF Qf] [] [] [] [60,178,179,180]) (zy []) 30 113 Ao Ap)
abbrev bF:Con:=⟨Ao,Ap,Zv⟩
theorem fc:Con.Ok prg 113 bF:=okF (ze um (ze NL (ze Sn (ze BK zn)))) (by kernel_rfl)
theorem fe(a0)(a1):Zv (a0,a1,())=bE a0 a1:=zA (by kernel_rfl)
abbrev lV:List VT:=[⟨true,zr⟩,⟨true,Qf⟩]
abbrev lW:List VT:=[⟨false,I⟩,⟨false,I⟩]
def lX(a0:zC)(a1:kZ):Option (Int×Int×Unit):=opt (Zv ((a0::[]),(a1,()))) fun x0=>bif !(zj x0.2.1 0)then some (0,(x0.2.1,()))else opt (uO ((wrF .i64 (a0.2*a1.2)),(1048576,()))) fun x1=>some ((wrF .i64 (a0.1+x1.1)),(0,()))
abbrev Sq:Type:=(zC×kZ×Unit)->Option (Int×Int×Unit)
def Wv:Sq:=opq (sF prg [(113,bF),(132,KT)] (zG [cdF zr] [] [] [] [113,132]) (zy []) 30 114 lV lW)
abbrev lY:Con:=⟨lV,lW,Wv⟩
theorem EF:Con.Ok prg 114 lY:=okF (ze fc (ze KU zn)) (by kernel_rfl)
theorem EG(a0)(a1):Wv (a0,a1,())=lX a0 a1:=zA (by kernel_rfl)
abbrev LH:List VT:=[⟨true,jC⟩,⟨false,(.list zN)⟩,⟨false,I⟩]
abbrev LJ:List VT:=[⟨true,Qg⟩,⟨false,I⟩]
def LK(a0:wL)(a1:(List qi))(a2:Int):Option (dc×Int×Unit):=opt (zJ (fun s0:((Int×Unit)×((List (Int×Int))×Unit))=>bif(zg s0.1.1 ((a1.length:Nat):Int))then opt (opt (atI a1 s0.1.1) fun x1=>opt (YR (x1,(a2,()))) fun x2=>bif x2.1 then opt (atI a1 s0.1.1) fun x3=>bif(zX s0.2.1.length ((x3.2.2.2.2.2.2.1::[]).length) 16)then some (0,((),((s0.2.1++(x3.2.2.2.2.2.2.1::[])),())))else none else some (0,((),(s0.2.1,())))) fun x4=>some (.inr (((wrF .i64 (s0.1.1+1)),()),(x4.2.2.1,())))else some (.inl (0,((s0.1.1,()),(s0.2.1,()))))) zR ((0,()),([],()))) fun x5=>bif(zj ((x5.2.2.1.length:Nat):Int) 0)then some (((0,0),((0,0),(0,0))),(4,()))else opt (atI a0.2.2.1 a2) fun x6=>opt (JZ (a0.1,(a2,()))) fun x7=>opt (KR (x6,(x7.1,(a0.2.2.2,())))) fun x8=>bif !(zj x8.2.1 0)then some (((0,0),((0,0),(0,0))),(411,()))else opt (aB (x5.2.2.1,())) fun x9=>bif !(zj x9.2.1 0)then some (((0,0),((0,0),(0,0))),(6,()))else opt (Zv ((x9.1::[]),(x8.1,()))) fun x10=>bif !(zj x10.2.1 0)then some (((0,0),((0,0),(0,0))),(141,()))else opt (Wv (x9.1,(x8.1,()))) fun x11=>some ((x9.1,(x8.1,(x10.1,x11.1))),(0,()))
abbrev zgH:Type:=(wL×(List qi)×Int×Unit)->Option (dc×Int×Unit)
def uE:zgH:=opq (sF prg [(110,ou),(56,mZ),(111,Sm),(112,LG),(113,bF),(114,lY)] (zG [cdF jC,cdF zN,cdF Qg,cdF zS,cdF qD,cdF qG,cdF jk] [] [⟨3,87,some 8,zr,true⟩,⟨5,87,some 8,zr,true⟩,⟨7,87,some 8,zr,true⟩,⟨10,87,some 8,zr,true⟩,⟨13,87,some 8,zr,true⟩,⟨16,87,some 8,zr,true⟩] [] [110,56,111,112,113,114]) (zy []) 30 59 LH LJ)
abbrev aC:Con:=⟨LH,LJ,uE⟩
theorem GO:Con.Ok prg 59 aC:=okF (ze HK (ze oj (ze zcS (ze zaw (ze fc (ze EF zn)))))) (by kernel_rfl)
theorem zay(a0)(a1)(a2):uE (a0,a1,a2,())=LK a0 a1 a2:=zA (by kernel_rfl)
end Go.Proofs.YtlfkgkedfciccaaGreat.nd
end
