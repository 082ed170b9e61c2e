/- Parts of a proof, joined. -/
import Derived.ChangeArms
import Derived.ChangeSlices
import Derived.DataReads
import Derived.Ground.Names2Prog
import Derived.KernelRfl
import Derived.OpenShut
import Derived.Shelf.Slices.CompactI
import Derived.Shelf.Slices.In.SortNone
import Derived.Shelf.Sort.Plain
import Derived.SizedLaws
import Derived.Test.YtleloebnggepoaaGreatProg
import Derived.Test.YtleloebnggepoaaGreatS34
set_option linter.unusedSectionVars false
set_option linter.unusedVariables false
set_option linter.unusedSimpArgs false
set_option maxHeartbeats 0
set_option maxRecDepth 100000
noncomputable section
namespace Go.Fz.Sy
def zEB:List SV→Option Ty
 |[]=>some .unit
 |v
   ::r=>match (match v with
   |.bool _=>some .bool
   |.int k _=>some (.int k)
   |.str _=>some .str
   |.lst t _ _=>some (.list t)
   |_=>none),zEB r with
  |some a,some b=>some (match r with
   |[]=>a
   |_=>.pair a b)
  |_,_=>none
def zd9:Ty→List Ty
 |.unit=>[]
 |.pair a b=>zd9 a++zd9 b
 |t=>[t]
def zHO:SV→Ty→Bool
 |.bool _,.bool=>true
 |.int k _,.int k'=>Wv k k'
 |.str _,.str=>true
 |.lst _ _ _,.list _=>true
 |.nils,.list _=>true
 |.own _,.list _=>true
 |_,_=>false
def lstTy:SV→Option Ty
 |.lst t _ _=>some t
 |_=>none
def tyQ:Ty→Ty→Bool
 |.unit,.unit=>true
 |.bool,.bool=>true
 |.int k,.int k'=>Wv k k'
 |.str,.str=>true
 |.list a,.list b=>tyQ a b
 |.pair a b,.pair c d=>tyQ a c&&tyQ b d
 |_,_=>false
def zxM:List SV→List Ty→Bool
 |[],[]=>true
 |v::r,t::s=>(zHO v t&&(match v,t with
  |.lst a _ _,.list b=>tyQ a b
  |_,_=>true))&&zxM r s
 |_,_=>false
structure zm3 where
 ty:Ty
 fl:List Ty
 gs:List Nat:=[]
def zFk (cands:List zm3) (cs:List SV):Option zm3:=match cands with
 |[]=>none
 |h::r=>bif zxM cs h.fl then some h else zFk r cs
def zHP (gs:List Nat) (lo hi:Nat):Bool:=gs.any fun g=>Nat.ble lo g&&Nat.blt g hi
def zxN (H:SH) (cs:List SV) (gs:List Nat):Ty→Nat→Nat→List CK×Nat
 |.pair a b,i,c=>bif zHP gs i (i+sz (.pair a b)) then match zxN H cs gs a i c with
   |(k1,c1)=>match zxN H cs gs b (i+sz a) c1 with
    |(k2,c2)=>(k1++k2,c2)
  else ([.d (.pair a b)],c)
 |.list e,i,c=>bif vf gs i then (match gl cs i with
   |some (.own b)=>match zk H b with
    |some (.arr nn _ _)=>([.o c nn e],c+1)
    |_=>([.d (.list e)],c)
   |some .nils=>([.o c false e],c+1)
   |_=>([.d (.list e)],c))
  else ([.d (.list e)],c)
 |t,_,c=>([.d t],c)
def zCz (cands:List zm3) (cs:List SV):Option Ty:=match cands with
 |[]=>zEB cs
 |h::r=>bif zxM cs h.fl then some h.ty else zCz r cs
def zIb (cands:List zm3):SV→Option VT
 |.bool _=>some ⟨false,.bool⟩
 |.int k _=>some ⟨false,.int k⟩
 |.str _=>some ⟨false,.str⟩
 |.lst t _ _=>some ⟨false,.list t⟩
 |.agg cs=>match zCz cands cs with
  |some t=>some ⟨true,t⟩
  |none=>none
 |_=>none
def zkD:List Nat→List Nat
 |[]=>[]
 |a::r=>bif vf r a then zkD r else a::zkD r
def Yn:Operand→List Nat
 |.tmp t=>[t]
 |_=>[]
def zwg:Nat:=1000000
def zG9 (l:List Nat):List Nat:=l.map (·+zwg)
def zHa (i:Nat):Nat:=bif Nat.ble zwg i then i - zwg else i
def zA5 (W:List Nat) (d:Nat) (l:List Nat):List Nat:=bif vf W d then l++W else bif vf W (d+zwg) then zG9 l++W else W
def wOp (pf:List Nat) (W:List Nat) (o:Oper):List Nat:=
 match o.op with
 |.store _ a _=>Yn a++W
 |.lookup _ m _ _=>Yn m++W
 |.mapUpdate _ m _ _=>Yn m++W
 |.insert _ m _ _=>Yn m++W
 |.call c=>match c.callee with
  |.value (.func f)=>bif vf pf f then zG9 (c.args.toList.flatMap Yn)++W else c.args.toList.flatMap Yn++W
  |.value f=>Yn f++(c.args.toList.flatMap Yn++W)
  |.builtin .copy=>c.args.toList.flatMap Yn++W
  |.builtin .append=>match o.dst with
   |some d=>c.args.toList.flatMap Yn++W
   |none=>W
  |_=>W
 |.fieldAddr _ x _=>match o.dst with
  |some d=>bif vf W d then Yn x++W else W
  |none=>W
 |.indexAddr _ x _=>match o.dst with
  |some d=>bif vf W d then Yn x++W else W
  |none=>W
 |.load _ x=>match o.dst with
  |some d=>bif vf W d then Yn x++W else W
  |none=>W
 |.move x=>match o.dst with
  |some d=>zA5 W d (Yn x)
  |none=>W
 |.nilCheck x=>match o.dst with
  |some d=>bif vf W d then Yn x++W else W
  |none=>W
 |.pick _ x y=>match o.dst with
  |some d=>zA5 W d (Yn x++Yn y)
  |none=>W
 |.assign x=>match o.dst with
  |some d=>zA5 W d (Yn x)
  |none=>W
 |_=>W
def zHb (pf:List Nat):List Oper→List Nat→List Nat
 |[],W=>W
 |o::r,W=>wOp pf (zHb pf r W) o
def GC (pf:List Nat):Code→List Nat→List Nat
 |.region _ ops _,W=>zHb pf ops.toList W
 |.seq a b,W=>GC pf a (GC pf b W)
 |.cond _ a b,W=>GC pf a (GC pf b W)
 |.block _ c,W=>GC pf c W
 |.loop c,W=>GC pf c W
 |.scope c,W=>GC pf c W
 |.rangeFunc g _ a b,W=>Yn g++GC pf a (GC pf b W)
 |_,W=>W
mutual
def zFl:SV→List Nat
 |.ptr b _=>[b]
 |.own b=>[b]
 |.mp b=>[b]
 |.slv b _=>[b]
 |.agg cs=>zoF cs
 |.fn _ fs cs=>zoF fs++zoF cs
 |_=>[]
def zoF:List SV→List Nat
 |[]=>[]
 |v::r=>zFl v++zoF r
end
def zA6 (tm:List SV):List Nat→List Nat
 |[]=>[]
 |i::r=>(match gl tm (zHa i) with
  |some v=>zFl v
  |none=>[])++zA6 tm r
def reachS (H:SH):Nat→List Nat→List Nat
 |0,l=>zkD l
 |n+1,l=>match zkD l with
  |l=>reachS H n (l++l.flatMap fun b=>match zk H b with
   |some (.vars cs)=>zoF cs
   |some (.ro cs)=>zoF cs
   |_=>[])
def zFm (pf:List Nat) (H:SH):List Nat→List Nat
 |[]=>[]
 |l::r=>(match zk H l with
  |some (.loop L)=>zA6 L.tm (zkD (GC pf L.assign (GC pf L.body [])))
  |_=>[])++zFm pf H r
structure zqd where
 rid:Nat
 ntm:Nat
 tmp:Option Nat
 ty:Ty
 own:Bool:=true
def zqe (rid ntm:Nat) (i:Option Nat):List zqd→Option zqd
 |[]=>none
 |h::r=>bif Nat.beq h.rid rid&&(Nat.beq h.ntm ntm&&(match h.tmp,i with
  |some a,some b=>Nat.beq a b
  |none,none=>true
  |_,_=>false)) then some h else zqe rid ntm i r
def zA7 (rid ntm:Nat):List (Nat×Nat)→Bool
 |[]=>false
 |p::r=>bif Nat.beq p.1 rid&&Nat.beq p.2 ntm then true else zA7 rid ntm r
def zCA (cands:List zm3) (ns:List zqd) (rid:Nat) (tm:List SV) (H:SH) (nx:Nat):List Nat→List DPl×List OPl×Nat
 |[]=>([],[],0)
 |i::r=>match zCA cands ns rid tm H nx r with
  |(dl,ol,g)=>match gl tm i with
   |some (.own b)=>match zk H b with
    |some (.arr nn t _)=>match zqe rid tm.length (some i) ns with
     |some ⟨_,_,_,_,false⟩=>(.tmp i ⟨false,.list t⟩::dl,ol,g)
     |_=>(dl,.otmp i (nx+g) nn t::ol,g+1)
    |some (.fro _ t _)=>(.tmp i ⟨false,.list t⟩::dl,ol,g)
    |_=>(dl,ol,g)
   |some .nils=>match zqe rid tm.length (some i) ns with
    |some h=>bif h.own then (dl,.otmp i (nx+g) false h.ty::ol,g+1) else (.tmp i ⟨false,.list h.ty⟩::dl,ol,g)
    |none=>(dl,ol,g)
   |some .nilp=>match zqe rid tm.length (some i) ns with
    |some _=>(.npt i::dl,ol,g)
    |none=>(dl,ol,g)
   |some v=>match zIb cands v with
    |some vt=>(.tmp i vt::dl,ol,g)
    |none=>(dl,ol,g)
   |none=>(dl,ol,g)
abbrev GrT:=Nat×Nat×Nat×List Nat
def grT (rid ntm d:Nat):List GrT→List Nat
 |[]=>[]
 |h::r=>bif Nat.beq h.1 rid&&(Nat.beq h.2.1 ntm&&Nat.beq h.2.2.1 d) then h.2.2.2 else grT rid ntm d r
def zwh (b:Nat):List SV→Nat→Option Nat
 |[],_=>none
 |v::r,i=>match v with
  |.ptr c o=>bif Nat.beq c b&&Nat.beq o 0 then some i else zwh b r (i+1)
  |_=>zwh b r (i+1)
def zHc (ns:List zqd) (rid:Nat) (tm:List SV) (b:Nat):Option zqd:=match zwh b tm 0 with
 |some d=>match zqe rid tm.length (some d) ns with
  |some h=>some h
  |none=>zqe rid tm.length none ns
 |none=>zqe rid tm.length none ns
def zCB (cands:List zm3) (ns:List zqd) (gt:List GrT) (rid:Nat) (tm:List SV) (H:SH) (nx:Nat) (own:List Nat):List Nat→List DPl×List OPl×Nat→List DPl×List OPl×Nat
 |[],x=>x
 |b::r,x=>match zCB cands ns gt rid tm H nx own r x with
  |(dl,ol,g)=>match zk H b with
   |some (.vars [.own c])=>match zk H c with
    |some (.arr nn t _)=>match zHc ns rid tm b with
     |some ⟨_,_,some _,_,false⟩=>(.blk b (.list t)::dl,ol,g)
     |_=>(dl,.sblk b [.o (nx+g) nn t]::ol,g+1)
    |some (.fro _ t _)=>(.blk b (.list t)::dl,ol,g)
    |_=>(dl,ol,g)
   |some (.vars [.nils])=>match zHc ns rid tm b with
    |some h=>bif h.own then (dl,.sblk b [.o (nx+g) false h.ty]::ol,g+1) else (.blk b (.list h.ty)::dl,ol,g)
    |none=>(dl,ol,g)
   |some (.vars cs)=>match zFk cands cs with
    |some h=>match zxN H cs (match zwh b tm 0 with
      |some d=>grT rid tm.length d gt
      |none=>h.gs) h.ty 0 (nx+g) with
     |(ks,c')=>bif ks.all (fun k=>match k with
       |.d _=>true
       |.o _ _ _=>false) then (.blk b h.ty::dl,ol,g) else (.frz b ks::dl,.sblk b ks::ol,c' - nx)
    |none=>match zEB cs with
     |some t=>(.blk b t::dl,ol,g)
     |none=>(dl,ol,g)
   |some (.arr nn t _)=>bif vf own b then (dl,ol,g) else (dl,.arr b nn t::ol,g)
   |some (.mpb k ag t _)=>(dl,.mpl b k ag t::ol,g)
   |_=>(dl,ol,g)
def zA8:List SV→List Nat
 |[]=>[]
 |.own c::r=>c::zA8 r
 |_::r=>zA8 r
def zxO (tm:List SV) (H:SH) (bs:List Nat):List Nat→List Nat
 |[]=>bs.flatMap fun b=>match zk H b with
  |some (.vars cs)=>zA8 cs
  |_=>[]
 |i::r=>match gl tm i with
  |some (.own b)=>b::zxO tm H bs r
  |_=>zxO tm H bs r
def zIc (l:List Operand):List Nat:=l.flatMap Yn
def zjl (D:List Nat):List Nat→List Nat
 |[]=>[]
 |a::r=>bif vf D a then zjl D r else a::zjl D r
def zA9 (D:List Nat):List Nat→List Nat
 |[]=>[]
 |a::r=>bif vf D a then a::zA9 D r else zA9 D r
def zFn:List Oper→List Nat→List Nat×List Nat
 |[],D=>([],D)
 |o::r,D=>match zFn r (o.dst.toList++D) with
  |(us,D')=>(zjl D (zIc o.op.operands.toList)++us,D')
def lvC:Code→List Nat→List Nat×List Nat
 |.region _ ops _,D=>zFn ops.toList D
 |.seq a b,D=>match lvC a D with
  |(ra,Da)=>match lvC b Da with
   |(rb,Db)=>(ra++rb,Db)
 |.cond c a b,D=>match lvC a D with
  |(ra,Da)=>match lvC b D with
   |(rb,Db)=>(zjl D (Yn c)++(ra++rb),zA9 Da Db)
 |.block _ c,D=>lvC c D
 |.loop c,D=>lvC c D
 |.scope c,D=>lvC c D
 |.rangeFunc g _ a b,D=>match lvC a D with
  |(ra,Da)=>match lvC b Da with
   |(rb,_)=>(zjl D (Yn g)++(ra++rb),D)
 |_,D=>([],D)
def zxP:List Oper→List Nat
 |[]=>[]
 |o::r=>match o.op with
  |.assign _=>o.dst.toList++zxP r
  |_=>zxP r
def zm4:Code→List Nat
 |.region _ ops _=>zxP ops.toList
 |.seq a b=>zm4 a++zm4 b
 |.cond _ a b=>zm4 a++zm4 b
 |.block _ c=>zm4 c
 |.loop c=>zm4 c
 |.scope c=>zm4 c
 |_=>[]
def zea:Code→Bool
 |.region _ ops _=>ops.toList.any fun o=>match o.op with
  |.call {callee:=.value _,..}=>true
  |_=>false
 |.seq a b=>zea a||zea b
 |.cond _ a b=>zea a||zea b
 |.block _ c=>zea c
 |.loop c=>zea c
 |.scope c=>zea c
 |.rangeFunc _ _ _ _=>true
 |_=>false
def zHd (tm:List SV):List Nat→Bool
 |[]=>false
 |i::r=>(match gl tm i with
  |some (.slv _ _)=>true
  |_=>false)||zHd tm r
def zQ (cands:List zm3) (un:List (Nat×Nat)) (ns:List zqd) (gt:List GrT:=[]) (pf:List Nat:=[]):zZ:=fun c tm H nx=>match zan c with
 |some rid=>bif zA7 rid tm.length un||zHd tm (lvC c []).1 then none else
  match zA9 (zm4 c++(lvC c []).1) (zkD (asg c)) with
  |aq=>match reachS H 3 (zA6 tm (zkD (GC pf c (GC pf c [])))++(bif zea c then zFm pf H (qS H) else [])) with
   |bs=>some (zCB cands ns gt rid tm H nx (zxO tm H bs aq) bs (zCA cands ns rid tm H nx aq))
 |none=>none
def zao (i:Nat):Code→Bool
 |.exit j=>Nat.beq i j
 |.seq a b=>zao i a||zao i b
 |.cond _ a b=>zao i a||zao i b
 |.block _ c=>zao i c
 |.loop c=>zao i c
 |.scope c=>zao i c
 |.rangeFunc _ _ a b=>zao i a||zao i b
 |_=>false
def zkE:Code→Bool
 |.ret=>false
 |.exit _=>false
 |.goto _=>false
 |.seq a b=>zkE a&&zkE b
 |.cond _ a b=>zkE a||zkE b
 |.block i c=>zkE c||zao i c
 |.loop _=>false
 |_=>true
def zHe (ops:Array Oper):Bool:=ops.toList.any fun o=>o.guard.isSome
def zwi:Code→Bool
 |.skip=>true
 |.exit _=>true
 |.ret=>true
 |.goto _=>true
 |_=>false
def zFo (g:Bool):Code→Bool
 |.cond _ a b=>(zkE a&&(zkE b&&!(zwi a&&zwi b)))||(g&&((zkE a||zkE b)&&!(zwi a&&zwi b)))
 |.seq (.region _ ops _) (.cond c a b)=>zFo (g||zHe ops) (.cond c a b)
 |_=>false
def zN (ex:List (Nat×Nat)) (re:List (Nat×Nat):=[]) (c:Code) (ntm:Nat):Bool:=match c with
 |.scope (.loop b)=>(match zan b with
  |some rid=>zA7 rid ntm re
  |none=>false)
 |_=>bif zFo false c then (match zan c with
 |some rid=>!zA7 rid ntm ex
 |none=>false) else false
end Go.Fz.Sy
namespace Go.Fz.Sy
variable {P:Program} {w:World}
open Go.RowKit Go.ChangeShapes Go.WideShapes
def alT:Ty→Nat
 |.unit=>1
 |.bool=>1
 |.int k=>k.bits / 8
 |.str=>8
 |.list _=>8
 |.pair a b=>max (alT a) (alT b)
def upT (o a:Nat):Nat:=(o+a - 1) / a*a
def zEC:Ty→Nat→Nat
 |.unit,o=>o
 |.bool,o=>o+1
 |.int k,o=>upT o (k.bits / 8)+k.bits / 8
 |.str,o=>upT o 8+16
 |.list _,o=>upT o 8+24
 |.pair a b,o=>zEC b (zEC a o)
def bsT (y:Ty):Nat:=upT (zEC y 0) (alT y)
def wfT:(t:Ty)→T t→Prop
 |.unit,_=>True
 |.bool,_=>True
 |.int k,n=>k.min≤n∧n≤k.max
 |.str,s=>s.size≤maxLen
 |.list t,l=>(List.length (α:=T t) l≤maxLen∧List.length (α:=T t) l*bsT t≤reachBytes)∧∀x:T t,List.Mem x l→wfT t x
 |.pair a b,x=>wfT a x.1∧wfT b x.2
def Kr (ft:TypeId→Ty→Bool) (cz:TypeId→Nat):List Field→Nat→Ty→Bool
 |[],_,.unit=>true
 |[f],off,y=>Nat.beq f.offset off&&(ft f.type y&&Nat.beq (sz y) (cz f.type))
 |f::g::fs,off,.pair a b=>Nat.beq f.offset off&&(ft f.type a&&(Nat.beq (sz a) (cz f.type)&&Kr ft cz (g::fs) (off+sz a) b))
 |_,_,_=>false
def Ks (ft:Ty→Bool) (cz:Nat):Nat→Ty→Bool
 |0,.unit=>true
 |1,y=>ft y&&Nat.beq (sz y) cz
 |n+2,.pair a b=>ft a&&(Nat.beq (sz a) cz&&Ks ft cz (n+1) b)
 |_,_=>false
def zqf (P:Program):Nat→TypeId→Ty→Bool
 |0,_,_=>false
 |n+1,t,y=>match P.underlying t,y with
  |some .bool,.bool=>true
  |some (.int k),.int k'=>decide (k=k')
  |some .string,.str=>true
  |some (.slice e),.list y=>zqf P n e y&&(Nat.blt 0 (sz y)&&(Nat.beq (sz y) (P.cellsOf e)&&Nat.ble (bsT y) (P.bytesOf e)))
  |some (.struct fs),y=>Kr (zqf P n) P.cellsOf fs.toList 0 y&&Nat.beq (sz y) (P.cellsOf t)
  |some (.array m e),y=>Ks (zqf P n e) (P.cellsOf e) m y&&Nat.beq (sz y) (P.cellsOf t)
  |_,_=>false
def uY (w:World):Ren:=fun n=>if FZ≤n then match w.heap[n - FZ]? with
 |some (.cells a _ _)=>some ⟨n - FZ,0,0,a⟩
 |_=>none else none
theorem zy1 {b:Nat} {a:Array Value} {el:TypeId} {fr:Nat×Nat} (h:w.heap[b]?=some (.cells a el fr)):uY w (FZ+b)=some ⟨b,0,0,a⟩:=by
 have h1:FZ≤FZ+b:=by omega
 have h2:FZ+b - FZ=b:=by omega
 simp only [uY,h1,if_true,h2,h]
theorem zBa (w:World):zA (uY w) [] (fun c=>c < w.heap.size) w:=by
 refine ⟨fun b k h=>by simp [Hp.get_nil] at h,fun b c k k' L L' h=>by simp [Hp.get_nil] at h,fun b k L h=>by simp [Hp.get_nil] at h,fun c hc=>hc,fun b L hL=>?_,fun b k L c M h=>by simp [Hp.get_nil] at h⟩
 have h1:FZ≤FZ+b:=by omega
 have h2:FZ+b - FZ=b:=by omega
 simp only [uY,h1,if_true,h2] at hL
 split at hL
 ·rename_i a el fr ha
  cases hL
  exact ⟨rfl,rfl,a,el,fr,ha,fun j u h=>h⟩
 ·cases hL
theorem zy2 (w:World) {n m:Nat} (hm:m≤FZ):vv (uY w) n m:=⟨hm,fun b h1 h2=>by
 have:¬FZ≤b:=by omega
 simp only [uY,this,if_false]⟩
theorem zBb {f:FuncId} {args:List Value} {H':Hp} {n':Nat} (hz:n'≤FZ) (hm:gN P f args [] 0 (.bool true) H' n') {us:List Value} (hl:zy (uY w) args us) :
  Calls P f us.toArray w fun e w'=>e=.returned (.bool true)∧Below w.heap.size w w':=by
 refine Calls.mono (hm.2 (uY w) w (fun c=>c < w.heap.size) us (zBa w) (zy2 w hz) hl) ?_
 rintro e w' ⟨v',φ',rfl,x1,x2,x3,x4⟩
 cases x1
 exact ⟨rfl,zvp x4⟩
section
variable {H:Type} {enc:TypeId×Value→H} {base:Nat} {spare:Nat→Bool} {held:Bool}
theorem zqg {φ:Ren}:∀{a b x y:List Value},zy φ a x→zy φ b y→zy φ (a++b) (x++y)
 |[],_,[],_,_,h=>h
 |_::_,_,_::_,_,h,k=>⟨h.1,zqg h.2 k⟩
 |[],_,_::_,_,h,_=>h.elim
 |_::_,_,[],_,h,_=>h.elim
theorem zu8 {α:Type} {Φ:Nat→α→Prop}:∀(n:Nat),(∀i,i < n→∃q,Φ i q)→∃l:List α,l.length=n∧∀i q,l[i]?=some q→Φ i q
 |0,_=>⟨[],rfl,fun i q h=>by simp at h⟩
 |n+1,h=>by
  obtain ⟨l,hl,hq⟩:=zu8 n fun i hi=>h i (by omega)
  obtain ⟨q,hn⟩:=h n (by omega)
  refine ⟨l++[q],by simp [hl],fun i q' hi=>?_⟩
  by_cases hlt:i < l.length
  ·rw [List.getElem?_append_left hlt] at hi;exact hq i q' hi
  ·rw [List.getElem?_append_right (by omega)] at hi
   have:i - l.length=0:=by
    have:=(List.getElem?_eq_some_iff.1 hi).1
    simp at this;omega
   rw [this] at hi
   simp at hi
   subst hi
   have:i=n:=by omega
   rw [this];exact hn
def zgx (w:World) (y:Ty) (cs:List Value):Prop:=∃a:T y,wfT y a∧zy (uY w) (qn y a) cs
theorem zxQ {ft:TypeId→Ty→Bool} {cz:TypeId→Nat} {cs:List Value}:∀{fs:List Field} {off:Nat} {y:Ty},Kr ft cz fs off y=true→
  (∀f∈fs,∀z,ft f.type z=true→zgx w z ((cs.drop f.offset).take (cz f.type)))→off+sz y=cs.length→zgx w y (cs.drop off)
 |[],off,.unit,h,hf,hl=>⟨(),trivial,by
   have:cs.drop off=[]:=by simp [sz] at hl ⊢;omega
   rw [this];trivial⟩
 |[f],off,y,h,hf,hl=>by
  simp only [Kr,Bool.and_eq_true] at h
  obtain ⟨h1,h2,h3⟩:=h
  have h1:=Nat.eq_of_beq_eq_true h1
  have h3:=Nat.eq_of_beq_eq_true h3
  have:=hf f (by simp) y h2
  rw [h1,←h3,List.take_of_length_le (by simp;omega)] at this
  exact this
 |f::g::fs,off,.pair a b,h,hf,hl=>by
  simp only [Kr,Bool.and_eq_true] at h
  obtain ⟨h1,h2,h3,h4⟩:=h
  have h1:=Nat.eq_of_beq_eq_true h1
  have h3:=Nat.eq_of_beq_eq_true h3
  obtain ⟨x,wx,rx⟩:=hf f (by simp) a h2
  simp only [sz] at hl
  obtain ⟨z,wz,rz⟩:=zxQ (cs:=cs) h4 (fun q hq=>hf q (by simp only [List.mem_cons] at hq ⊢;exact .inr hq)) (by omega)
  refine ⟨(x,z),⟨wx,wz⟩,?_⟩
  rw [h1,←h3] at rx
  have e:cs.drop off=(cs.drop off).take (sz a)++cs.drop (off+sz a):=by
   rw [←List.drop_drop];exact (List.take_append_drop _ _).symm
  rw [e]
  exact zqg rx rz
 |[],_,.bool,h,_,_=>by simp [Kr] at h
 |[],_,.int _,h,_,_=>by simp [Kr] at h
 |[],_,.str,h,_,_=>by simp [Kr] at h
 |[],_,.list _,h,_,_=>by simp [Kr] at h
 |[],_,.pair _ _,h,_,_=>by simp [Kr] at h
 |_::_::_,_,.unit,h,_,_=>by simp [Kr] at h
 |_::_::_,_,.bool,h,_,_=>by simp [Kr] at h
 |_::_::_,_,.int _,h,_,_=>by simp [Kr] at h
 |_::_::_,_,.str,h,_,_=>by simp [Kr] at h
 |_::_::_,_,.list _,h,_,_=>by simp [Kr] at h
theorem zxR {ft:Ty→Bool} {cz:Nat} {cs:List Value} {N:Nat} (hf:∀i,i < N→∀z,ft z=true→zgx w z ((cs.drop (i*cz)).take cz)):∀{m:Nat} {y:Ty} {i:Nat},Ks ft cz m y=true→i+m=N→i*cz+sz y=cs.length→zgx w y (cs.drop (i*cz))
 |0,.unit,i,h,hN,hl=>⟨(),trivial,by
   have:cs.drop (i*cz)=[]:=by simp [sz] at hl ⊢;omega
   rw [this];trivial⟩
 |1,y,i,h,hN,hl=>by
  simp only [Ks,Bool.and_eq_true] at h
  obtain ⟨h1,h2⟩:=h
  have h2:=Nat.eq_of_beq_eq_true h2
  have:=hf i (by omega) y h1
  rw [←h2,List.take_of_length_le (by simp;rw [←h2] at hl;omega)] at this
  rw [←h2];exact this
 |m+2,.pair a b,i,h,hN,hl=>by
  simp only [Ks,Bool.and_eq_true] at h
  obtain ⟨h1,h2,h3⟩:=h
  have h2:=Nat.eq_of_beq_eq_true h2
  obtain ⟨x,wx,rx⟩:=hf i (by omega) a h1
  simp only [sz] at hl
  have e1:(i+1)*cz=i*cz+cz:=by rw [Nat.add_mul,Nat.one_mul]
  obtain ⟨z,wz,rz⟩:=zxR hf (m:=m+1) (i:=i+1) h3 (by omega) (by rw [e1];omega)
  refine ⟨(x,z),⟨wx,wz⟩,?_⟩
  have e:cs.drop (i*cz)=(cs.drop (i*cz)).take cz++cs.drop ((i+1)*cz):=by
   rw [e1,←List.drop_drop];exact (List.take_append_drop _ _).symm
  rw [e]
  exact zqg rx rz
 |0,.bool,_,h,_,_=>by simp [Ks] at h
 |0,.int _,_,h,_,_=>by simp [Ks] at h
 |0,.str,_,h,_,_=>by simp [Ks] at h
 |0,.list _,_,h,_,_=>by simp [Ks] at h
 |0,.pair _ _,_,h,_,_=>by simp [Ks] at h
 |_+2,.unit,_,h,_,_=>by simp [Ks] at h
 |_+2,.bool,_,h,_,_=>by simp [Ks] at h
 |_+2,.int _,_,h,_,_=>by simp [Ks] at h
 |_+2,.str,_,h,_,_=>by simp [Ks] at h
 |_+2,.list _,_,h,_,_=>by simp [Ks] at h
theorem ziy {e:TypeId} {d:DataW H}:∀{l:List (DataW H)},d∈l→∀n∈d.weights P e,n∈DataW.weightsAll P e l
 |a::l,h,n,hn=>by
  simp only [DataW.weightsAll,List.mem_append]
  rcases List.mem_cons.1 h with rfl | h
  ·exact .inl hn
  ·exact .inr (ziy h n hn)
theorem zED {e:TypeId} {y:Ty} {cs:List Value} {t:TypeId} {fuel:Nat} {x:DataW H×List MemPlace} (hu:P.underlying t=some (.slice e)) (h:DataW.trod enc P w base spare held fuel t cs=some x) (hw:∀n∈x.1.weights P t,n≤reachBytes)
  (ih:∀{fuel:Nat} {cs:List Value} {x:DataW H×List MemPlace},DataW.trod enc P w base spare held fuel e cs=some x→(∀n∈x.1.weights P e,n≤reachBytes)→zgx w y cs) (hs:0 < sz y) (hz:sz y=P.cellsOf e) (hbs:bsT y≤P.bytesOf e):zgx w (.list y) cs:=by
 rcases DataW.trod_slice hu h with ⟨rfl,_⟩ | ⟨a,len,cap,elems,rest,m,_,rfl,rfl,hb,hl,hm,hlen,hel,_,_⟩
 ·exact ⟨([]:List (T y)),⟨⟨Nat.zero_le _,by show 0*_≤_;rw [Nat.zero_mul];exact Nat.zero_le _⟩,fun x hx=>by cases hx⟩,by
   have:=zo.fz0 (φ:=uY w) (sz y) none 0
   exact ⟨this,trivial⟩⟩
 ·have hw1:(elems.length+rest.length)*P.bytesOf e≤reachBytes:=by
   have:=hw ((elems.length+rest.length)*P.bytesOf e) (by simp [DataW.weights,hu])
   exact this
  have hw2:∀z∈elems,∀n∈z.1.weights P e,n≤reachBytes:=fun z hz n hn=>hw n (by
   simp only [DataW.weights,hu]
   exact List.mem_cons_of_mem _ (List.mem_append_left _ (ziy (List.mem_map_of_mem hz) n hn)))
  have hall:∀i,i < len→∃q:T y,wfT y q∧∃us,zy (uY w) (qn y q) us∧us.length=sz y∧∀j,j < sz y→w.cell? ((a.add (i*sz y)).add j)=us[j]?:=fun i hi=>by
   have h1:=hel i hi
   obtain ⟨z,hz2⟩:∃z,elems[i]?=some z:=⟨elems[i],List.getElem?_eq_getElem (by omega)⟩
   rw [hz2,Option.bind_eq_some_iff] at h1
   obtain ⟨us,h2,h3⟩:=h1
   obtain ⟨q,q1,q2⟩:=ih h3 (hw2 z (List.mem_of_getElem? hz2))
   obtain ⟨_,h4,h5⟩:=World.cells?_some h2
   rw [←hz] at h4 h5
   exact ⟨q,q1,us,q2,h4,h5⟩
  obtain ⟨l,hll,hl2⟩:=zu8 len hall
  refine ⟨l,⟨⟨by show l.length≤maxLen;omega,Nat.le_trans (Nat.mul_le_mul (show l.length≤elems.length+rest.length by omega) hbs) hw1⟩,fun q hq=>?_⟩,?_⟩
  ·obtain ⟨i,hi⟩:=List.getElem?_of_mem hq
   exact (hl2 i q hi).1
  ·show zy (uY w) [fzV (sz y) false (l.map fun x=>Value.agg (qn y x).toArray)] [Value.slice (some a) len cap]
   refine ⟨?_,trivial⟩
   by_cases h0:len=0
   ·subst h0
    obtain rfl:l=[]:=List.length_eq_zero_iff.1 hll
    exact zo.fz0 _ _ _
   ·
    obtain ⟨q0,hq0⟩:∃q,l[0]?=some q:=⟨l[0],List.getElem?_eq_getElem (by omega)⟩
    obtain ⟨_,us0,r0,l0,c0⟩:=hl2 0 q0 hq0
    have c00:=c0 0 hs
    have:∃v,us0[0]?=some v:=⟨us0[0],List.getElem?_eq_getElem (by omega)⟩
    obtain ⟨v0,hv0⟩:=this
    obtain ⟨b,o,sp⟩:=a
    have e0:((⟨b,o,sp⟩:Addr).add (0*sz y)).add 0=⟨b,o,sp⟩:=by simp [Addr.add]
    rw [e0,hv0] at c00
    unfold World.cell? at c00
    cases hh:w.heap[b]? with
    |none=>rw [hh] at c00;simp at c00
    |some ob=>
     rw [hh] at c00
     cases ob with
     |cells arr el fr=>
      have hsp:sp=none:=by
       cases sp with
       |none=>rfl
       |some s=>simp at c00
      subst hsp
      have hcell:∀k,w.cell? (⟨b,k,none⟩:Addr)=arr[k]?:=fun k=>by
       unfold World.cell?
       rw [hh];rfl
      have hat:∀i (q:T y),l[i]?=some q→∃us,zy (uY w) (qn y q) us∧us.length=sz y∧∀j,j < sz y→arr[o+i*sz y+j]?=us[j]?:=fun i q hi=>by
       obtain ⟨_,us,r,hlu,hc⟩:=hl2 i q hi
       refine ⟨us,r,hlu,fun j hj=>?_⟩
       have:=hc j hj
       rw [Addr.add_none,Addr.add_none,hcell] at this
       exact this
      have hsz:∀(j:Nat) e,(l.map fun x=>Value.agg (qn y x).toArray).toArray[j]?=some e→e.cells.size=sz y:=fun j e he=>by
       simp only [List.getElem?_toArray,List.getElem?_map,Option.map_eq_some_iff] at he
       obtain ⟨q,_,rfl⟩:=he
       simp [Value.cells,wD]
      have hsize:(l.map fun x=>Value.agg (qn y x).toArray).toArray.size=len:=by simp [hll]
      have key:=zo.fz (φ:=uY w) (sz y) (l.map fun x=>Value.agg (qn y x).toArray).toArray b o cap ⟨b,0,0,arr⟩ (zy1 hh) (by rw [hsize];omega) (by
        rw [hsize]
        obtain ⟨q,hq⟩:∃q,l[len - 1]?=some q:=⟨l[len - 1],List.getElem?_eq_getElem (by omega)⟩
        obtain ⟨us,r,hlu,hc⟩:=hat (len - 1) q hq
        have h1:=hc (sz y - 1) (by omega)
        have:∃v,us[sz y - 1]?=some v:=⟨us[sz y - 1],List.getElem?_eq_getElem (by omega)⟩
        obtain ⟨v,hv⟩:=this
        rw [hv] at h1
        have h2:=(Array.getElem?_eq_some_iff.1 h1).1
        have h3:len*sz y=(len - 1)*sz y+sz y:=by
         have:len=(len - 1)+1:=by omega
         rw [this,Nat.add_mul,Nat.one_mul];simp
        show o+len*sz y≤arr.size
        omega) (by rw [hsize];omega) hsz (fun j k e u u' he hu hu'=>by
        simp only [List.getElem?_toArray,List.getElem?_map,Option.map_eq_some_iff] at he
        obtain ⟨q,hq,rfl⟩:=he
        obtain ⟨us,r,hlu,hc⟩:=hat j q hq
        simp only [Value.cells,List.getElem?_toArray] at hu
        have hk:k < sz y:=by
         have:=(List.getElem?_eq_some_iff.1 hu).1
         rw [wD] at this;exact this
        obtain ⟨v',hv',hr⟩:=r.get hu
        have:arr[o+j*sz y+k]?=some u':=hu'
        rw [hc k hk,hv'] at this
        cases this
        exact hr)
      rw [hsize] at key
      exact key
     |_=>simp at c00
theorem zrP:∀(n:Nat) {t:TypeId} {y:Ty} {fuel:Nat} {cs:List Value} {x:DataW H×List MemPlace},zqf P n t y=true→DataW.trod enc P w base spare held fuel t cs=some x→(∀n∈x.1.weights P t,n≤reachBytes)→zgx w y cs
 |0,_,_,_,_,_,h,_,_=>by cases h
 |n+1,t,y,0,cs,x,_,h,_=>by cases h
 |n+1,t,y,fuel+1,cs,x,h,hx,hw=>by
  simp only [zqf] at h
  split at h
  ·rename_i hu
   simp only [DataW.trod,hu] at hx
   split at hx<;>first | (rename_i e1 e2;cases e1;done) | skip
   all_goals first | (exact ⟨_,trivial,.bool _,trivial⟩) | (simp_all;done) | cases hx
  ·rename_i k k' hu
   have hk:k=k':=of_decide_eq_true h
   subst hk
   obtain ⟨m,h1,h2,h3⟩:=DataW.trod_int hu hx
   subst h1
   simp only [Lit.wf,Bool.and_eq_true,decide_eq_true_eq] at h3
   exact ⟨m,h3,.int _ _,trivial⟩
  ·rename_i hu
   obtain ⟨s,h1,h2,h3⟩:=DataW.trod_string hu hx
   subst h1
   exact ⟨s,h3,.str _,trivial⟩
  ·rename_i e y' hu
   simp only [Bool.and_eq_true] at h
   obtain ⟨h1,h2,h3,h4⟩:=h
   exact zED hu hx hw (fun hy hwy=>zrP n h1 hy hwy) (by simpa using h2) (Nat.eq_of_beq_eq_true h3) (Nat.le_of_ble_eq_true h4)
  ·rename_i fs hu
   simp only [Bool.and_eq_true] at h
   obtain ⟨h1,h2⟩:=h
   have h2:=Nat.eq_of_beq_eq_true h2
   obtain ⟨xs,m,_,rfl,hl,hlen,hf⟩:=DataW.trod_struct hu hx
   simp only [DataW.weights,hu] at hw
   have:=zxQ (w:=w) (cs:=cs) h1 (fun f hf2 z hz=>by
    obtain ⟨i,hi⟩:=List.getElem?_of_mem hf2
    have h4:=hf i f (by simpa using hi)
    have hlt:i < xs.length:=by
     have:=(List.getElem?_eq_some_iff.1 hi).1
     rw [hlen];simpa using this
    rw [List.getElem?_eq_getElem hlt] at h4
    exact zrP n hz h4 fun k hk=>hw k (DataW.weights_mem_each (j:=i) (t:=f.type) (d:=xs[i].1) (by rw [List.getElem?_map,hi];rfl) (by rw [List.getElem?_map,List.getElem?_eq_getElem hlt];rfl) k hk)) (by rw [hl,h2,Nat.zero_add])
   simpa using this
  ·rename_i m e hu
   simp only [Bool.and_eq_true] at h
   obtain ⟨h1,h2⟩:=h
   have h2:=Nat.eq_of_beq_eq_true h2
   obtain ⟨xs,q,_,rfl,hl,hlen,hf⟩:=DataW.trod_array hu hx
   simp only [DataW.weights,hu] at hw
   have:=zxR (w:=w) (cs:=cs) (N:=m) (cz:=P.cellsOf e) (fun i hi z hz=>by
    have h4:=hf i hi
    have hlt:i < xs.length:=by omega
    rw [List.getElem?_eq_getElem hlt] at h4
    exact zrP n hz h4 fun k hk=>hw k (ziy (List.mem_map_of_mem (List.getElem_mem hlt)) k hk)) (m:=m) (i:=0) h1 (by omega) (by rw [hl,h2];simp)
   simpa using this
  ·cases h
def zm5 (P:Program) (t:TypeId):Bool:=match P.underlying t with
 |some (.struct _)=>true
 |some (.array _ _)=>true
 |_=>false
def zdl (P:Program) (n:Nat):List TypeId→List VT→Bool
 |[],[]=>true
 |t::ts,v::vs=>zqf P n t v.ty&&((bif zm5 P t then v.agg else !v.agg)&&zdl P n ts vs)
 |_,_=>false
theorem zEE {φ:Ren} {x v:Value} {a:List Value} (h:zy φ a [v]) (ha:a=[x]):zo φ x v:=by subst ha;exact h.1
theorem zHQ {n:Nat} {t:TypeId} {vt:VT} {r:Reach} {b0:Nat} {v:Value} {d:DataW H} {ps:List MemPlace} (hf:zqf P n t vt.ty=true) (ha:(bif zm5 P t then vt.agg else !vt.agg)=true) (hv:Value.okWide P w r b0 t v) (hd:DataW.Trod enc P w base spare held t v d ps) (hw:∀n∈d.weights P t,n≤reachBytes) :
  ∃x:T vt.ty,wfT vt.ty x∧∀ρ,zo (uY w) (den ρ (mkV vt x)) v:=by
 obtain ⟨ag,ty⟩:=vt
 obtain ⟨fuel,hd⟩:=hd
 obtain ⟨x,wx,rx⟩:=zrP n hf hd hw
 refine ⟨x,wx,fun ρ=>?_⟩
 cases ag with
 |true=>
  have hag:zm5 P t=true:=by
   cases h:zm5 P t with
   |true=>rfl
   |false=>rw [h] at ha;cases ha
  have:∃cs,v=.agg cs:=by
   unfold zm5 at hag
   unfold Value.okWide at hv
   split at hv
   ·obtain ⟨cs,h1,_⟩:=hv;exact ⟨cs,h1⟩
   ·obtain ⟨cs,h1,_⟩:=hv;exact ⟨cs,h1⟩
   ·rename_i h1 h2
    split at hag
    ·rename_i h3;exact absurd h3 (h1 _)
    ·rename_i h3;exact absurd h3 (h2 _ _)
    ·cases hag
  obtain ⟨cs,rfl⟩:=this
  simp only [mkV,cond_true,den]
  refine .agg' ?_
  rw [qA,yH]
  exact rx
 |false=>
  have hag:zm5 P t=false:=by
   cases h:zm5 P t with
   |true=>rw [h] at ha;cases ha
   |false=>rfl
  have hcell:v.cells.toList=[v]:=by
   unfold zm5 at hag
   unfold Value.okWide at hv
   split at hv
   ·rename_i h1;simp only [h1] at hag;cases hag
   ·rename_i h1;simp only [h1] at hag;cases hag
   ·cases v with
    |agg cs=>
     unfold Cell.okWide at hv
     split at hv<;>first | (exfalso;revert hv;unfold Cell.ok;split<;>simp_all;done) | (rename_i e1 e2;cases e2)
    |_=>rfl
  rw [hcell] at rx
  have hlen:=rx.length
  have h2:=yH ρ ty x
  simp only [mkV,cond_false]
  match he:wJ ty x with
  |[u]=>
   rw [he] at h2
   exact zEE rx h2.symm
  |[]=>rw [he] at h2;rw [←h2] at hlen;simp at hlen
  |_::_::_=>rw [he] at h2;rw [←h2] at hlen;simp at hlen
theorem zCC {n:Nat} {r:Reach} {b0:Nat}:∀{ts:List TypeId} {a:List VT} {us:List Value} {ds:List (DataW H)} {ps:List MemPlace},zdl P n ts a=true→
  (∀(j:Nat) t v,ts[j]?=some t→us[j]?=some v→Value.okWide P w r b0 t v)→DataW.TrodAll enc P w base spare held ts us ds ps→(∀n∈DataW.weightsEach P ts ds,n≤reachBytes)→
  ∃x:T (zJ a),wfT (zJ a) x∧∀ρ,zy (uY w) (zp ρ (wa a x)) us
 |[],[],us,ds,ps,_,_,h,_=>by
  obtain ⟨rfl,_,_⟩:=trodAll_nil h
  exact ⟨(),trivial,fun ρ=>trivial⟩
 |t::ts,v::a,us,ds,ps,hf,hv,h,hw=>by
  simp only [zdl,Bool.and_eq_true] at hf
  obtain ⟨f1,f2,f3⟩:=hf
  obtain ⟨u,us',d,ds',p,q,rfl,rfl,rfl,h1,h2⟩:=trodAll_cons h
  obtain ⟨x,wx,rx⟩:=zHQ f1 f2 (hv 0 t u rfl rfl) h1 (fun n hn=>hw n (by simp only [DataW.weightsEach,List.mem_append];exact .inl hn))
  obtain ⟨y,wy,ry⟩:=zCC (ts:=ts) (a:=a) f3 (fun j t v ht hv2=>hv (j+1) t v (by simpa using ht) (by simpa using hv2)) h2 (fun n hn=>hw n (by simp only [DataW.weightsEach,List.mem_append];exact .inr hn))
  exact ⟨(x,y),⟨wx,wy⟩,fun ρ=>⟨rx ρ,ry ρ⟩⟩
 |[],_::_,_,_,_,hf,_,_,_=>by simp [zdl] at hf
 |_::_,[],_,_,_,hf,_,_,_=>by simp [zdl] at hf
theorem zpz:∀{ts:List TypeId} {us:List Value} {ds:List (DataW H)} {ps:List MemPlace},DataW.TrodAll enc P w base spare held ts us ds ps→ds.length=ts.length
 |[],_,_,_,h=>by
  obtain ⟨_,rfl,_⟩:=trodAll_nil h
  rfl
 |t::ts,us,ds,ps,h=>by
  obtain ⟨u,us',d,ds',p,q,rfl,rfl,rfl,h1,h2⟩:=trodAll_cons h
  rw [List.length_cons,List.length_cons,zpz h2]
theorem zCD {f:FuncId} {a:List VT} {G:T (zJ a)→Option (T (zJ [⟨false,.bool⟩]))} (hc:Con.Ok P f ⟨a,[⟨false,.bool⟩],G⟩) (hG:∀x,wfT (zJ a) x→G x=some (true,())) {n:Nat} {r:Reach} {b0:Nat} {ts:List TypeId} {us:List Value} {ds:List (DataW H)} {ps:List MemPlace} (hf:zdl P n ts a=true)
  (hv:∀(j:Nat) t v,ts[j]?=some t→us[j]?=some v→Value.okWide P w r b0 t v) (h:DataW.TrodAll enc P w base spare held ts us ds ps) (hw:(DataW.weightsEach P ts ds).all (·≤reachBytes)=true) :
  Calls P f us.toArray w fun e w'=>e=.returned (.bool true)∧Below w.heap.size w w':=by
 obtain ⟨x,wx,rx⟩:=zCC hf hv h (fun n hn=>of_decide_eq_true (List.all_eq_true.1 hw n hn))
 obtain ⟨Hd,nx',hz,hcall⟩:=hc.2 x _ (hG x wx)
 exact zBb hz hcall (rx _)
end
def zrQ:Ty→List Value
 |.unit=>[]
 |.bool=>[.bool false]
 |.int k=>[.int k 0]
 |.str=>[.string ByteArray.empty]
 |.list _=>[.slice none 0 0]
 |.pair a b=>zrQ a++zrQ b
def zId (v:VT):Value:=bif v.agg then .agg (zrQ v.ty).toArray else match zrQ v.ty with
 |[u]=>u
 |_=>.nilFunc
def zHR (a:List VT):Array Value:=(a.map zId).toArray
theorem zh:zfR P []:=fun x h=>by cases h
theorem zf {f:FuncId} {c:Con} {t:Tbl} (h:c.Ok P f) (ht:zfR P t):zfR P ((f,c)::t):=fun x hx=>by
 rcases List.mem_cons.1 hx with rfl | hx
 ·exact h
 ·exact ht x hx
end Go.Fz.Sy
namespace Go.Fz.Sy
def ztG {α:Type} (f:α→α→Bool):List α→List α→Bool
 |[],[]=>true
 |x::l,y::r=>bif f x y then ztG f l r else false
 |_,_=>false
theorem zzF {α:Type} {f:α→α→Bool} (hf:∀x y,f x y=true→x=y):∀l r:List α,ztG f l r=true→l=r
 |[],[],_=>rfl
 |[],_::_,h=>by simp [ztG] at h
 |_::_,[],h=>by simp [ztG] at h
 |x::l,y::r,h=>by
  have h:(bif f x y then ztG f l r else false)=true:=h
  cases hx:f x y with
  |false=>rw [hx] at h;cases h
  |true=>
   rw [hx] at h
   rw [hf x y hx,zzF hf l r h]
def eqT:(t:Ty)→T t→T t→Bool
 |.unit,_,_=>true
 |.bool,a,b=>bif (a:Bool) then b else !(b:Bool)
 |.int _,a,b=>zj a b
 |.str,a,b=>@decide ((a:ByteArray)=b) (inferInstanceAs (Decidable ((a:ByteArray)=b)))
 |.list t,a,b=>ztG (eqT t) a b
 |.pair s t,x,y=>bif eqT s (p1 x) (p1 y) then eqT t (p2 x) (p2 y) else false
theorem zeb:∀(t:Ty) (x y:T t),eqT t x y=true→x=y
 |.unit,x,y,_=>by cases x;cases y;rfl
 |.bool,a,b,h=>by
  have h:(bif (a:Bool) then b else !(b:Bool))=true:=h
  cases a<;>cases b<;>first | rfl | cases h
 |.int _,a,b,h=>by
  have h:zj a b=true:=h
  rw [wo] at h;exact eq_of_beq h
 |.str,a,b,h=>by
  have h:@decide ((a:ByteArray)=b) (inferInstanceAs (Decidable ((a:ByteArray)=b)))=true:=h
  exact of_decide_eq_true h
 |.list t,a,b,h=>zzF (zeb t) a b h
 |.pair s t,x,y,h=>by
  have h:(bif eqT s (p1 x) (p1 y) then eqT t (p2 x) (p2 y) else false)=true:=h
  cases h1:eqT s (p1 x) (p1 y) with
  |false=>rw [h1] at h;cases h
  |true=>
   rw [h1] at h
   have e1:=zeb s _ _ h1
   have e2:=zeb t _ _ h
   exact Prod.ext e1 e2
def Qh {a b:List VT}:List (T (zJ a)×T (zJ b))→T (zJ a)→Option (T (zJ b))
 |[],_=>none
 |p::r,x=>bif eqT (zJ a) x p.1 then some p.2 else Qh r x
theorem zm6 {a b:List VT} {c:T (zJ a)→Option (T (zJ b))}:∀{l:List (T (zJ a)×T (zJ b))},(∀p∈l,c p.1=some p.2)→∀{x r},Qh l x=some r→c x=some r
 |[],_,_,_,h=>by cases h
 |p::l,hl,x,r,h=>by
  have h:(bif eqT (zJ a) x p.1 then some p.2 else Qh l x)=some r:=h
  cases hx:eqT (zJ a) x p.1 with
  |true=>
   rw [hx] at h
   cases h
   rw [zeb _ _ _ hx]
   exact hl p (by simp)
  |false=>
   rw [hx] at h
   exact zm6 (fun q hq=>hl q (by simp [hq])) h
theorem UW {P:Program} {f:FuncId} {a b:List VT} {c:T (zJ a)→Option (T (zJ b))} (h:Con.Ok P f ⟨a,b,c⟩) {l:List (T (zJ a)×T (zJ b))} (hl:∀p∈l,c p.1=some p.2):Con.Ok P f ⟨a,b,Qh l⟩:=
 ⟨h.1,fun x r hx=>h.2 x r (zm6 hl hx)⟩
theorem JL {a b:List VT} {c:T (zJ a)→Option (T (zJ b))}:∀p∈([]:List (T (zJ a)×T (zJ b))),c p.1=some p.2:=fun p hp=>by cases hp
theorem xH {a b:List VT} {c:T (zJ a)→Option (T (zJ b))} {x:T (zJ a)} {r:T (zJ b)} {l:List (T (zJ a)×T (zJ b))} (h:c x=some r) (hl:∀p∈l,c p.1=some p.2):∀p∈(x,r)::l,c p.1=some p.2:=fun p hp=>by
 rcases List.mem_cons.1 hp with rfl | hp
 ·exact h
 ·exact hl p hp
theorem qR {z:Int} (h1 : -9223372036854775808≤z) (h2:z≤9223372036854775807):wrF .i64 z=z:=by
 rw [zbG]
 have e:IntKind.i64.wrap z=if z % 18446744073709551616≥9223372036854775808 then z % 18446744073709551616 - 18446744073709551616 else z % 18446744073709551616:=by
  unfold IntKind.wrap
  show (if (true&&decide (z % 18446744073709551616≥9223372036854775808))=true then z % 18446744073709551616 - 18446744073709551616 else z % 18446744073709551616)=_
  simp only [Bool.true_and,decide_eq_true_eq]
 rw [e]
 split<;>omega
theorem zK {α R:Type} (a:α) (f:α→Option R):opt (some a) f=f a:=rfl
theorem zzG {α:Type} (l:List α) (n:Nat):atI l (n:Int)=l[n]?:=by
 show gl l n=_
 exact ke l n
theorem zHf {α:Type} {l:List α} {z:Int} (h0:0≤z) (h:z < l.length):∃x,atI l z=some x∧l[z.toNat]?=some x:=by
 obtain ⟨n,rfl⟩:=Int.eq_ofNat_of_zero_le h0
 have hn:n < l.length:=by omega
 exact ⟨l[n],by rw [zzG];simp [hn],by simp [hn]⟩
theorem Ql {α:Type} {l:List α} {n:Nat} {x:α} (h:l[n]?=some x):atI l (n:Int)=some x:=by rw [zzG];exact h
theorem zu9 {X S:Type} {B:S→Option (X ⊕ S)} {I:S→Prop} {J:X→Prop} {m:S→Nat} (h:∀s,I s→(∃x,B s=some (.inl x)∧J x)∨(∃s',B s=some (.inr s')∧I s'∧m s' < m s)) :
  ∀(N:Nat) (s:S),I s→m s < N→∃x,qb B N s=some x∧J x
 |0,s,_,hm=>by omega
 |N+1,s,hI,hm=>by
  rw [Kp]
  rcases h s hI with ⟨x,hx,hJ⟩ | ⟨s',hs,hI',hlt⟩
  ·exact ⟨x,by rw [hx],hJ⟩
  ·rw [hs]
   exact zu9 h N s' hI' (by omega)
theorem zEF {X S:Type} {B:S→Option (X ⊕ S)} (I:S→Prop) (J:X→Prop) (m:S→Nat) (h:∀s,I s→(∃x,B s=some (.inl x)∧J x)∨(∃s',B s=some (.inr s')∧I s'∧m s' < m s)) {s:S} (hI:I s) (hm:m s < 1180591620717411303424) :
  ∃x,qb B qw s=some x∧J x:=zu9 h qw s hI (Nat.lt_of_lt_of_le hm zzE)
def qB {α:Type} (o:Option α) (Q:α→Prop):Prop:=∃r,o=some r∧Q r
theorem zd {α:Type} {a:α} {Q:α→Prop} (h:Q a):qB (some a) Q:=⟨a,rfl,h⟩
theorem zn {α R:Type} {x:Option α} {f:α→Option R} {Q:R→Prop} (h:qB x fun a=>qB (f a) Q):qB (opt x f) Q:=by
 obtain ⟨a,rfl,r,h1,h2⟩:=h
 exact ⟨r,h1,h2⟩
theorem zq {α R:Type} {x:Option α} {f:α→Option R} {J:α→Prop} {Q:R→Prop} (h:qB x J) (hf:∀a,J a→qB (f a) Q):qB (opt x f) Q:=by
 obtain ⟨a,rfl,ha⟩:=h
 exact hf a ha
theorem zt {α:Type} {b:Bool} {x y:Option α} {Q:α→Prop} (h1:b=true→qB x Q) (h2:b=false→qB y Q):qB (bif b then x else y) Q:=by
 cases b with
 |true=>exact h1 rfl
 |false=>exact h2 rfl
theorem zva {α:Type} {o:Option α} {Q Q':α→Prop} (h:qB o Q) (hq:∀a,Q a→Q' a):qB o Q':=by
 obtain ⟨a,e,ha⟩:=h
 exact ⟨a,e,hq a ha⟩
theorem xr {α:Type} {o:Option α} {a:α} (h:qB o fun r=>r=a):o=some a:=by
 obtain ⟨r,e,rfl⟩:=h
 exact e
def zBc {X S:Type} (I:S→Prop) (J:X→Prop) (m:S→Nat) (s:S) (r:X ⊕ S):Prop:=(∀x,r=.inl x→J x)∧∀s',r=.inr s'→I s'∧m s' < m s
theorem zvb {X S:Type} {I:S→Prop} {J:X→Prop} {m:S→Nat} {s:S} {x:X} (h:J x):zBc I J m s (.inl x):=⟨fun y e=>by cases e;exact h,fun s' e=>by cases e⟩
theorem zxS {X S:Type} {I:S→Prop} {J:X→Prop} {m:S→Nat} {s s':S} (h:I s') (hm:m s' < m s):zBc I J m s (.inr s'):=⟨(fun y e=>by cases e),fun s'' e=>by cases e;exact ⟨h,hm⟩⟩
theorem zvc {X S:Type} {B:S→Option (X ⊕ S)} {s:S} (I:S→Prop) (J:X→Prop) (m:S→Nat) (hI:I s) (hm:m s < 1180591620717411303424) (h:∀s,I s→qB (B s) (zBc I J m s)):qB (qb B qw s) J:=by
 obtain ⟨x,h1,h2⟩:=zEF (B:=B) I J m (fun s hs=>by
  obtain ⟨r,e,h3,h4⟩:=h s hs
  cases r with
  |inl x=>exact .inl ⟨x,e,h3 x rfl⟩
  |inr s'=>exact .inr ⟨s',e,h4 s' rfl⟩) hI hm
 exact ⟨x,h1,h2⟩
theorem qh {α:Type} {l:List α} {n:Nat} {x:α} {Q:α→Prop} (h:l[n]?=some x) (hq:Q x):qB (atI l (n:Int)) Q:=⟨x,Ql h,hq⟩
end Go.Fz.Sy
namespace Go.Proofs.YtleloebnggepoaaGreat.sg
open Go Go.Fz Go.Fz.Sy
abbrev I:Ty:=.int .i64
theorem zm:vZ Tryz.prog:=zwD (by kernel_rfl)
abbrev qp:Ty:=(.pair I (.pair I (.pair I I)))
abbrev zvd:Type:=(Int×(Int×(Int×Int)))
abbrev zR:Ty:=(.pair I (.pair (.list .bool) (.list qp)))
abbrev qj:Type:=(Int×((List Bool)×(List zvd)))
abbrev ziz:Ty:=(.pair I (.pair I (.pair I I)))
abbrev zfS:Type:=(Int×(Int×(Int×Int)))
abbrev qQ:Ty:=(.pair I I)
abbrev zfT:Type:=(Int×Int)
abbrev qk:Ty:=(.pair (.list qQ) I)
abbrev ja:Type:=((List zfT)×Int)
abbrev qz:Ty:=(.pair zR (.pair ziz (.pair (.list qk) I)))
abbrev jA:Type:=(qj×(zfS×((List ja)×Int)))
abbrev zu:Ty:=(.pair I I)
abbrev jM:Type:=(Int×Int)
abbrev zz:Ty:=(.pair I (.pair I (.pair I (.pair I (.pair I (.pair I (.pair zu (.pair I (.list (.list I))))))))))
abbrev zD:Type:=(Int×(Int×(Int×(Int×(Int×(Int×(jM×(Int×(List (List Int))))))))))
abbrev jH:Ty:=(.pair I (.pair I (.pair I (.pair zz I))))
abbrev wc:Type:=(Int×(Int×(Int×(zD×Int))))
abbrev jv:Ty:=(.pair I (.pair I (.pair I (.pair I (.list I)))))
abbrev qy:Type:=(Int×(Int×(Int×(Int×(List Int)))))
abbrev yl:Ty:=(.pair I (.pair I (.pair I .bool)))
abbrev xI:Type:=(Int×(Int×(Int×Bool)))
abbrev qv:Ty:=(.pair I (.pair I (.pair I (.pair I (.pair .bool (.pair zz I))))))
abbrev zI:Type:=(Int×(Int×(Int×(Int×(Bool×(zD×Int))))))
abbrev qq:Ty:=(.pair qz (.pair (.list zz) (.pair (.list jH) (.pair (.list jv) (.pair (.list yl) (.list qv))))))
abbrev zL:Type:=(jA×((List zD)×((List wc)×((List qy)×((List xI)×(List zI))))))
abbrev ze:Ty:=qq
abbrev za:Type:=zL
abbrev XW:Ty:=zR
abbrev QL:Type:=qj
abbrev zpA:Ty:=(.pair I (.pair I I))
abbrev GD:Ty:=(.pair qp I)
abbrev zbk:Type:=(zvd×Int)
abbrev wq:Ty:=(.pair I I)
abbrev Wb:Ty:=(.pair I I)
abbrev vJ:Type:=(Int×Int)
abbrev zpB:Ty:=(.pair zu (.pair Wb (.pair I I)))
abbrev ztH:Ty:=(.pair zpB I)
abbrev xd:Ty:=(.pair I (.pair I (.pair I zz)))
abbrev yL:Type:=(Int×(Int×(Int×zD)))
end Go.Proofs.YtleloebnggepoaaGreat.sg
namespace Go.Proofs.YtleloebnggepoaaGreat.sg
open Go.Shelf
def zy3:Go.Shelf.Ren:=⟨fun | 189=>140 | 125=>156 | 257=>155 | 128=>175 | 129=>176 | 294=>166 | 295=>167 | 296=>168 | 297=>169 | 298=>170 | 299=>171 | 216=>172 | 300=>173 | 301=>174 | 328=>180 | 329=>181 | 330=>182 | 331=>183 | 332=>184 | 215=>55 | 343=>187 | n=>n,fun | 28=>77 | 3=>3 | 46=>241 | 0=>0 | 51=>261 | 53=>246 | 4=>4 | 183=>254 | 182=>253 | 131=>106 | 5=>5 | 9=>9 | 218=>267 | 222=>271 | 228=>274 | 229=>275 | n=>n,fun | n=>n⟩
theorem zzH:Go.Proofs.Lays.n189 Tryz.prog zy3:={
 mixed:=by kernel_rfl
 f125:=Tryz.func156.trans (congrArg some (by kernel_rfl))
 f128:=Tryz.func175.trans (congrArg some (by kernel_rfl))
 f129:=Tryz.func176.trans (congrArg some (by kernel_rfl))
 f189:=Tryz.func140.trans (congrArg some (by kernel_rfl))
 f215:=Tryz.func55.trans (congrArg some (by kernel_rfl))
 f216:=Tryz.func172.trans (congrArg some (by kernel_rfl))
 f257:=Tryz.func155.trans (congrArg some (by kernel_rfl))
 f294:=Tryz.func166.trans (congrArg some (by kernel_rfl))
 f295:=Tryz.func167.trans (congrArg some (by kernel_rfl))
 f296:=Tryz.func168.trans (congrArg some (by kernel_rfl))
 f297:=Tryz.func169.trans (congrArg some (by kernel_rfl))
 f298:=Tryz.func170.trans (congrArg some (by kernel_rfl))
 f299:=Tryz.func171.trans (congrArg some (by kernel_rfl))
 f300:=Tryz.func173.trans (congrArg some (by kernel_rfl))
 f301:=Tryz.func174.trans (congrArg some (by kernel_rfl))
 f328:=Tryz.func180.trans (congrArg some (by kernel_rfl))
 f329:=Tryz.func181.trans (congrArg some (by kernel_rfl))
 f330:=Tryz.func182.trans (congrArg some (by kernel_rfl))
 f331:=Tryz.func183.trans (congrArg some (by kernel_rfl))
 f332:=Tryz.func184.trans (congrArg some (by kernel_rfl))
 f343:=Tryz.func187.trans (congrArg some (by kernel_rfl))
 t0:=Tryz.underlying0
 a0:=Tryz.isAgg0
 z0:=Tryz.sizeOf0
 v0:=Tryz.zeroValue0
 t3:=Tryz.underlying3
 a3:=Tryz.isAgg3
 z3:=Tryz.sizeOf3
 v3:=Tryz.zeroValue3
 t4:=Tryz.underlying4
 a4:=Tryz.isAgg4
 z4:=Tryz.sizeOf4
 v4:=Tryz.zeroValue4
 t5:=Tryz.underlying5
 a5:=Tryz.isAgg5
 z5:=Tryz.sizeOf5
 v5:=Tryz.zeroValue5
 t9:=Tryz.underlying9
 a9:=Tryz.isAgg9
 z9:=Tryz.sizeOf9
 v9:=Tryz.zeroValue9
 t28:=Tryz.underlying77
 a28:=Tryz.isAgg77
 z28:=Tryz.sizeOf77
 v28:=Tryz.zeroValue77
 t46:=Tryz.underlying241
 a46:=Tryz.isAgg241
 z46:=Tryz.sizeOf241
 v46:=Tryz.zeroValue241
 t51:=Tryz.underlying261
 a51:=Tryz.isAgg261
 z51:=Tryz.sizeOf261
 v51:=Tryz.zeroValue261
 t53:=Tryz.underlying246
 a53:=Tryz.isAgg246
 z53:=Tryz.sizeOf246
 v53:=Tryz.zeroValue246
 t131:=Tryz.underlying106
 a131:=Tryz.isAgg106
 z131:=Tryz.sizeOf106
 v131:=Tryz.zeroValue106
 t182:=Tryz.underlying253
 a182:=Tryz.isAgg253
 z182:=Tryz.sizeOf253
 v182:=Tryz.zeroValue253
 t183:=Tryz.underlying254
 a183:=Tryz.isAgg254
 z183:=Tryz.sizeOf254
 v183:=Tryz.zeroValue254
 t218:=Tryz.underlying267
 a218:=Tryz.isAgg267
 z218:=Tryz.sizeOf267
 v218:=Tryz.zeroValue267
 t222:=Tryz.underlying271
 a222:=Tryz.isAgg271
 z222:=Tryz.sizeOf271
 v222:=Tryz.zeroValue271
 t228:=Tryz.underlying274
 a228:=Tryz.isAgg274
 z228:=Tryz.sizeOf274
 v228:=Tryz.zeroValue274
 t229:=Tryz.underlying275
 a229:=Tryz.isAgg275
 z229:=Tryz.sizeOf275
 v229:=Tryz.zeroValue275}
def zvr:Go.Shelf.Ren:=⟨fun | 20=>141 | n=>n,fun | 22=>77 | 3=>3 | 4=>4 | 0=>0 | n=>n,fun | n=>n⟩
theorem zve:Go.Proofs.Lays2.n20 Tryz.prog zvr:={
 mixed:=by kernel_rfl
 f20:=Tryz.func141.trans (congrArg some (by kernel_rfl))
 t0:=Tryz.underlying0
 a0:=Tryz.isAgg0
 z0:=Tryz.sizeOf0
 v0:=Tryz.zeroValue0
 t3:=Tryz.underlying3
 a3:=Tryz.isAgg3
 z3:=Tryz.sizeOf3
 v3:=Tryz.zeroValue3
 t4:=Tryz.underlying4
 a4:=Tryz.isAgg4
 z4:=Tryz.sizeOf4
 v4:=Tryz.zeroValue4
 t22:=Tryz.underlying77
 a22:=Tryz.isAgg77
 z22:=Tryz.sizeOf77
 v22:=Tryz.zeroValue77
 i3:=by kernel_rfl}
end Go.Proofs.YtleloebnggepoaaGreat.sg
namespace Go.Proofs.YtleloebnggepoaaGreat.sg
open Go Go.Fz Go.Fz.Sy
theorem zHg:zjg Tryz.prog 140 where
 fn:=⟨Tryz.f140,Tryz.func140,by kernel_rfl⟩
 run:=fun blk off cap L w hH hb hl=>Any.slices_Sort_int zzH blk off cap L w hH hb hl
 nil:=fun a cap w=>Any.slices_Sort_int_none zzH a cap w
theorem zHh:zjh Tryz.prog 141 where
 fn:=⟨Tryz.f141,Tryz.func141,by kernel_rfl⟩
 run:=fun blk off cap L w hH hl hc=>Any.slices_Compact_int zve blk off cap L w hH hl hc
 nil:=fun a cap w=>Any.slices_Compact_int_empty zve a cap w
theorem zHS:zhV Tryz.prog [(140,true),(141,false)]:=zA3 zHg (zA4 zHh qu)
abbrev cdF (t:Ty):zm3:=⟨t,zd9 t,[]⟩
abbrev Xo:List VT:=[]
abbrev Xp:List VT:=[⟨true,qz⟩]
def zxT:zZ:=zQ [⟨qz,zd9 qz,[7]⟩,cdF zR,cdF qp,cdF qk,cdF qQ] [] [⟨4,25,none,qk,true⟩] [(4,25,1,[7])] []
def ziA:Option (jA×Unit):=
 opt (qb (fun s0:((Unit×(Int×Unit))×(((Int×((List Bool)×(List (Int×(Int×(Int×Int))))))×((Int×(Int×(Int×Int)))×((List ((List (Int×Int))×Int))×(Int×Unit))))×Unit))=>
  bif zr s0.1.2.1 6 then bif (yS s0.2.1.2.2.1.length (((((127,100)::[]),100)::[]).length) 32) then some (.inr (((),((wrF .i64 (s0.1.2.1+1)),())),((s0.2.1.1,(s0.2.1.2.1,((s0.2.1.2.2.1++((((127,100)::[]),100)::[])),(s0.2.1.2.2.2.1,())))),())))
   else none
  else some (.inl (0,(((),(s0.1.2.1,())),((s0.2.1.1,(s0.2.1.2.1,(s0.2.1.2.2.1,(s0.2.1.2.2.2.1,())))),()))))) qw (((),(0,())),(((4,((true::(false::(false::(true::[])))),((0,(1,(8,5)))::((1,(2,(8,5)))::((2,(3,(8,5)))::[]))))),((100,(2,(10,8000))),([],(200,())))),()))) fun x1=>
 some ((x1.2.2.1.1,(x1.2.2.1.2.1,(x1.2.2.1.2.2.1,x1.2.2.1.2.2.2.1))),())
abbrev ziB:Type:=(Unit)→Option (jA×Unit)
def zpC:ziB:=sF Tryz.prog [] zxT (zN []) 30 15 Xo Xp
theorem zy4:zpC ()=ziA:=by kernel_rfl
def Xq:ziB:=zpC
theorem ztI:Con.Ok Tryz.prog 15 ⟨Xo,Xp,Xq⟩:=zv zh zm (by kernel_rfl)
theorem ztJ:Xq ()=ziA:=zy4
abbrev KZ:List VT:=[⟨true,zR⟩,⟨false,I⟩]
abbrev Ua:List VT:=[⟨false,.bool⟩]
def zxU:zZ:=zQ [cdF zR,cdF qp] [] [] [] []
def ziC (a0:qj) (a1:Int):Option (Bool×Unit):=
 bif !(zr a1 0) then some ((zr a1 a0.1),())
 else some (false,())
abbrev zdT:Type:=(qj×Int×Unit)→Option (Bool×Unit)
def zpD:zdT:=sF Tryz.prog [] zxU (zN []) 30 93 KZ Ua
theorem zy5 (a0) (a1):zpD (a0,a1,())=ziC a0 a1:=by kernel_rfl
def Ub:zdT:=zpD
theorem ztK:Con.Ok Tryz.prog 93 ⟨KZ,Ua,Ub⟩:=zv zh zm (by kernel_rfl)
theorem ztL (a0) (a1):Ub (a0,a1,())=ziC  a0 a1:=zy5  a0 a1
abbrev XX:List VT:=[⟨true,zR⟩]
abbrev XY:List VT:=[⟨false,.bool⟩]
def zvs:zZ:=zQ [cdF zR,cdF qp] [] [] [] [93]
def zgy (Xz:zdT) (a0:qj):Option (Bool×Unit):=
 opt (qb (fun s0:((Bool×(Int×Unit))×Unit)=>
  bif (zr s0.1.2.1 ((a0.2.2.length:Nat):Int)) then opt (qb (fun s1:((Bool×(Int×Unit))×Unit)=>
    bif zr s1.1.2.1 4 then bif zj s1.1.2.1 0 then opt (atI a0.2.2 s0.1.2.1) fun x2=>
      opt (Xz (a0,(x2.1,()))) fun x3=>
      bif x3.1 then opt (Xz (a0,(x2.2.1,()))) fun x4=>
       bif x4.1 then bif (!(!(zj x2.1 x2.2.1))) then some (.inl (1,((false,(s1.1.2.1,())),())))
        else some (.inr ((s1.1.1,((wrF .i64 (s1.1.2.1+1)),())),()))
       else some (.inl (1,((false,(s1.1.2.1,())),())))
      else some (.inl (1,((false,(s1.1.2.1,())),())))
     else bif zj s1.1.2.1 1 then opt (atI a0.2.2 s0.1.2.1) fun x5=>
       opt (atI a0.2.1 x5.1) fun x6=>
       bif !x6 then some (.inr ((s1.1.1,((wrF .i64 (s1.1.2.1+1)),())),()))
       else opt (atI a0.2.1 x5.2.1) fun x7=>
        bif !(!x7) then some (.inl (1,((false,(s1.1.2.1,())),())))
        else some (.inr ((s1.1.1,((wrF .i64 (s1.1.2.1+1)),())),()))
      else bif zj s1.1.2.1 2 then opt (atI a0.2.2 s0.1.2.1) fun x8=>
        opt (ux a0.2.2 none (some s0.1.2.1) none) fun x9=>
        opt (qb (fun s10:((Bool×(Int×Unit))×Unit)=>
         bif (zr s10.1.2.1 ((x9.length:Nat):Int)) then opt (atI x9 s10.1.2.1) fun x11=>
          opt (bif zj x8.1 x11.1 then bif zj x8.2.1 x11.2.1 then some (1,((false,()),()))
            else bif zj x8.1 x11.2.1 then bif zj x8.2.1 x11.1 then some (1,((false,()),()))
              else some (0,((s10.1.1,()),()))
             else some (0,((s10.1.1,()),()))
           else bif zj x8.1 x11.2.1 then bif zj x8.2.1 x11.1 then some (1,((false,()),()))
             else some (0,((s10.1.1,()),()))
            else some (0,((s10.1.1,()),()))) fun x12=>
          bif Nat.beq x12.1 0 then some (.inr ((x12.2.1.1,((wrF .i64 (s10.1.2.1+1)),())),()))
          else some (.inl (1,((x12.2.1.1,(s10.1.2.1,())),())))
         else some (.inl (0,((s10.1.1,(s10.1.2.1,())),())))) qw ((false,(0,())),())) fun x13=>
        bif Nat.beq x13.1 0 then some (.inr ((s1.1.1,((wrF .i64 (s1.1.2.1+1)),())),()))
        else bif !x13.2.1.1 then some (.inl (1,((false,(s1.1.2.1,())),())))
         else some (.inr ((s1.1.1,((wrF .i64 (s1.1.2.1+1)),())),()))
       else bif zj s1.1.2.1 3 then opt (atI a0.2.2 s0.1.2.1) fun x14=>
         bif !(zr x14.2.2.1 1) then bif !(zr 1000 x14.2.2.1) then bif !(zr x14.2.2.2 0) then bif (!(!(zr 10000 x14.2.2.2))) then some (.inl (1,((false,(s1.1.2.1,())),())))
            else some (.inr ((s1.1.1,((wrF .i64 (s1.1.2.1+1)),())),()))
           else some (.inl (1,((false,(s1.1.2.1,())),())))
          else some (.inl (1,((false,(s1.1.2.1,())),())))
         else some (.inl (1,((false,(s1.1.2.1,())),())))
        else none
    else some (.inl (0,((s1.1.1,(s1.1.2.1,())),())))) qw ((s0.1.1,(0,())),())) fun x15=>
   bif Nat.beq x15.1 0 then some (.inr ((x15.2.1.1,((wrF .i64 (s0.1.2.1+1)),())),()))
   else some (.inl (1,((x15.2.1.1,(s0.1.2.1,())),())))
  else some (.inl (0,((s0.1.1,(s0.1.2.1,())),())))) qw ((false,(0,())),())) fun x16=>
 bif Nat.beq x16.1 0 then some (true,())
 else some (x16.2.1.1,())
abbrev zbV:Type:=(qj×Unit)→Option (Bool×Unit)
def zm7:zdT→zbV:=fun Xz=>sF Tryz.prog [(93,⟨KZ,Ua,Xz⟩)] zvs (zN []) 30 59 XX XY
theorem zxV (Xz) (a0):zm7 Xz (a0,())=zgy Xz a0:=by kernel_rfl
def XZ:zbV:=zm7 Ub
theorem zrR:Con.Ok Tryz.prog 59 ⟨XX,XY,XZ⟩:=zv (zf ztK zh) zm (by kernel_rfl)
theorem zrS (a0):XZ (a0,())=zgy Ub a0:=zxV Ub a0
abbrev Va:List VT:=[⟨true,zR⟩,⟨false,I⟩,⟨true,(.pair .bool (.pair .bool (.pair .bool (.pair .bool (.pair .bool (.pair .bool (.pair .bool (.pair .bool (.pair .bool (.pair .bool (.pair .bool (.pair .bool (.pair .bool (.pair .bool (.pair .bool (.pair .bool (.pair .bool (.pair .bool (.pair .bool (.pair .bool (.pair .bool (.pair .bool (.pair .bool .bool)))))))))))))))))))))))⟩]
abbrev Vb:List VT:=[⟨false,(.list .bool)⟩]
def zvt:zZ:=zQ [⟨(.pair .bool (.pair .bool (.pair .bool (.pair .bool (.pair .bool (.pair .bool (.pair .bool (.pair .bool (.pair .bool (.pair .bool (.pair .bool (.pair .bool (.pair .bool (.pair .bool (.pair .bool (.pair .bool (.pair .bool (.pair .bool (.pair .bool (.pair .bool (.pair .bool (.pair .bool (.pair .bool .bool))))))))))))))))))))))),zd9 (.pair .bool (.pair .bool (.pair .bool (.pair .bool (.pair .bool (.pair .bool (.pair .bool (.pair .bool (.pair .bool (.pair .bool (.pair .bool (.pair .bool (.pair .bool (.pair .bool (.pair .bool (.pair .bool (.pair .bool (.pair .bool (.pair .bool (.pair .bool (.pair .bool (.pair .bool (.pair .bool .bool))))))))))))))))))))))),[]⟩,cdF zR,cdF qp] [] [⟨4,56,some 6,.bool,false⟩,⟨6,56,some 6,.bool,false⟩,⟨8,56,some 6,.bool,false⟩] [] []
def zgz (a0:qj) (a1:Int) (a2:(Bool×(Bool×(Bool×(Bool×(Bool×(Bool×(Bool×(Bool×(Bool×(Bool×(Bool×(Bool×(Bool×(Bool×(Bool×(Bool×(Bool×(Bool×(Bool×(Bool×(Bool×(Bool×(Bool×Bool)))))))))))))))))))))))):Option ((List Bool)×Unit):=
 bif zp4 a0.1 a0.1 1 then opt (atI (List.replicate (Int.toNat a0.1) false) a1) fun x0=>
  opt (gl (List.replicate (Int.toNat a0.1) false) (Int.toNat a1)) fun x1=>
  opt (qb (fun s2:((Int×Unit)×((List Bool)×Unit))=>
   bif zr s2.1.1 a0.1 then opt (qb (fun s3:((Int×Unit)×((List Bool)×Unit))=>
     bif (zr s3.1.1 ((a0.2.2.length:Nat):Int)) then opt (atI a0.2.2 s3.1.1) fun x4=>
      opt (bif zj s3.1.1 0 then bif !a2.1 then opt (atI s3.2.1 x4.1) fun x5=>
         opt (gl s3.2.1 (Int.toNat x4.1)) fun x6=>
         opt (atI s3.2.1 x4.2.1) fun x7=>
         opt (gl s3.2.1 (Int.toNat x4.2.1)) fun x8=>
         bif !(x6 == x8) then opt (atI s3.2.1 x4.1) fun x9=>
          opt (gl s3.2.1 (Int.toNat x4.1)) fun x10=>
          opt (atI (s3.2.1.set (Int.toNat x4.1) true) x4.2.1) fun x11=>
          opt (gl (s3.2.1.set (Int.toNat x4.1) true) (Int.toNat x4.2.1)) fun x12=>
          some (0,((),(((s3.2.1.set (Int.toNat x4.1) true).set (Int.toNat x4.2.1) true),())))
         else some (0,((),(s3.2.1,())))
        else some (0,((),(s3.2.1,())))
       else bif zj s3.1.1 1 then bif !a2.2.1 then opt (atI s3.2.1 x4.1) fun x13=>
          opt (gl s3.2.1 (Int.toNat x4.1)) fun x14=>
          opt (atI s3.2.1 x4.2.1) fun x15=>
          opt (gl s3.2.1 (Int.toNat x4.2.1)) fun x16=>
          bif !(x14 == x16) then opt (atI s3.2.1 x4.1) fun x17=>
           opt (gl s3.2.1 (Int.toNat x4.1)) fun x18=>
           opt (atI (s3.2.1.set (Int.toNat x4.1) true) x4.2.1) fun x19=>
           opt (gl (s3.2.1.set (Int.toNat x4.1) true) (Int.toNat x4.2.1)) fun x20=>
           some (0,((),(((s3.2.1.set (Int.toNat x4.1) true).set (Int.toNat x4.2.1) true),())))
          else some (0,((),(s3.2.1,())))
         else some (0,((),(s3.2.1,())))
        else bif zj s3.1.1 2 then bif !a2.2.2.1 then opt (atI s3.2.1 x4.1) fun x21=>
           opt (gl s3.2.1 (Int.toNat x4.1)) fun x22=>
           opt (atI s3.2.1 x4.2.1) fun x23=>
           opt (gl s3.2.1 (Int.toNat x4.2.1)) fun x24=>
           bif !(x22 == x24) then opt (atI s3.2.1 x4.1) fun x25=>
            opt (gl s3.2.1 (Int.toNat x4.1)) fun x26=>
            opt (atI (s3.2.1.set (Int.toNat x4.1) true) x4.2.1) fun x27=>
            opt (gl (s3.2.1.set (Int.toNat x4.1) true) (Int.toNat x4.2.1)) fun x28=>
            some (0,((),(((s3.2.1.set (Int.toNat x4.1) true).set (Int.toNat x4.2.1) true),())))
           else some (0,((),(s3.2.1,())))
          else some (0,((),(s3.2.1,())))
         else bif zj s3.1.1 3 then bif !a2.2.2.2.1 then opt (atI s3.2.1 x4.1) fun x29=>
            opt (gl s3.2.1 (Int.toNat x4.1)) fun x30=>
            opt (atI s3.2.1 x4.2.1) fun x31=>
            opt (gl s3.2.1 (Int.toNat x4.2.1)) fun x32=>
            bif !(x30 == x32) then opt (atI s3.2.1 x4.1) fun x33=>
             opt (gl s3.2.1 (Int.toNat x4.1)) fun x34=>
             opt (atI (s3.2.1.set (Int.toNat x4.1) true) x4.2.1) fun x35=>
             opt (gl (s3.2.1.set (Int.toNat x4.1) true) (Int.toNat x4.2.1)) fun x36=>
             some (0,((),(((s3.2.1.set (Int.toNat x4.1) true).set (Int.toNat x4.2.1) true),())))
            else some (0,((),(s3.2.1,())))
           else some (0,((),(s3.2.1,())))
          else bif zj s3.1.1 4 then bif !a2.2.2.2.2.1 then opt (atI s3.2.1 x4.1) fun x37=>
             opt (gl s3.2.1 (Int.toNat x4.1)) fun x38=>
             opt (atI s3.2.1 x4.2.1) fun x39=>
             opt (gl s3.2.1 (Int.toNat x4.2.1)) fun x40=>
             bif !(x38 == x40) then opt (atI s3.2.1 x4.1) fun x41=>
              opt (gl s3.2.1 (Int.toNat x4.1)) fun x42=>
              opt (atI (s3.2.1.set (Int.toNat x4.1) true) x4.2.1) fun x43=>
              opt (gl (s3.2.1.set (Int.toNat x4.1) true) (Int.toNat x4.2.1)) fun x44=>
              some (0,((),(((s3.2.1.set (Int.toNat x4.1) true).set (Int.toNat x4.2.1) true),())))
             else some (0,((),(s3.2.1,())))
            else some (0,((),(s3.2.1,())))
           else bif zj s3.1.1 5 then bif !a2.2.2.2.2.2.1 then opt (atI s3.2.1 x4.1) fun x45=>
              opt (gl s3.2.1 (Int.toNat x4.1)) fun x46=>
              opt (atI s3.2.1 x4.2.1) fun x47=>
              opt (gl s3.2.1 (Int.toNat x4.2.1)) fun x48=>
              bif !(x46 == x48) then opt (atI s3.2.1 x4.1) fun x49=>
               opt (gl s3.2.1 (Int.toNat x4.1)) fun x50=>
               opt (atI (s3.2.1.set (Int.toNat x4.1) true) x4.2.1) fun x51=>
               opt (gl (s3.2.1.set (Int.toNat x4.1) true) (Int.toNat x4.2.1)) fun x52=>
               some (0,((),(((s3.2.1.set (Int.toNat x4.1) true).set (Int.toNat x4.2.1) true),())))
              else some (0,((),(s3.2.1,())))
             else some (0,((),(s3.2.1,())))
            else bif zj s3.1.1 6 then bif !a2.2.2.2.2.2.2.1 then opt (atI s3.2.1 x4.1) fun x53=>
               opt (gl s3.2.1 (Int.toNat x4.1)) fun x54=>
               opt (atI s3.2.1 x4.2.1) fun x55=>
               opt (gl s3.2.1 (Int.toNat x4.2.1)) fun x56=>
               bif !(x54 == x56) then opt (atI s3.2.1 x4.1) fun x57=>
                opt (gl s3.2.1 (Int.toNat x4.1)) fun x58=>
                opt (atI (s3.2.1.set (Int.toNat x4.1) true) x4.2.1) fun x59=>
                opt (gl (s3.2.1.set (Int.toNat x4.1) true) (Int.toNat x4.2.1)) fun x60=>
                some (0,((),(((s3.2.1.set (Int.toNat x4.1) true).set (Int.toNat x4.2.1) true),())))
               else some (0,((),(s3.2.1,())))
              else some (0,((),(s3.2.1,())))
             else bif zj s3.1.1 7 then bif !a2.2.2.2.2.2.2.2.1 then opt (atI s3.2.1 x4.1) fun x61=>
                opt (gl s3.2.1 (Int.toNat x4.1)) fun x62=>
                opt (atI s3.2.1 x4.2.1) fun x63=>
                opt (gl s3.2.1 (Int.toNat x4.2.1)) fun x64=>
                bif !(x62 == x64) then opt (atI s3.2.1 x4.1) fun x65=>
                 opt (gl s3.2.1 (Int.toNat x4.1)) fun x66=>
                 opt (atI (s3.2.1.set (Int.toNat x4.1) true) x4.2.1) fun x67=>
                 opt (gl (s3.2.1.set (Int.toNat x4.1) true) (Int.toNat x4.2.1)) fun x68=>
                 some (0,((),(((s3.2.1.set (Int.toNat x4.1) true).set (Int.toNat x4.2.1) true),())))
                else some (0,((),(s3.2.1,())))
               else some (0,((),(s3.2.1,())))
              else bif zj s3.1.1 8 then bif !a2.2.2.2.2.2.2.2.2.1 then opt (atI s3.2.1 x4.1) fun x69=>
                 opt (gl s3.2.1 (Int.toNat x4.1)) fun x70=>
                 opt (atI s3.2.1 x4.2.1) fun x71=>
                 opt (gl s3.2.1 (Int.toNat x4.2.1)) fun x72=>
                 bif !(x70 == x72) then opt (atI s3.2.1 x4.1) fun x73=>
                  opt (gl s3.2.1 (Int.toNat x4.1)) fun x74=>
                  opt (atI (s3.2.1.set (Int.toNat x4.1) true) x4.2.1) fun x75=>
                  opt (gl (s3.2.1.set (Int.toNat x4.1) true) (Int.toNat x4.2.1)) fun x76=>
                  some (0,((),(((s3.2.1.set (Int.toNat x4.1) true).set (Int.toNat x4.2.1) true),())))
                 else some (0,((),(s3.2.1,())))
                else some (0,((),(s3.2.1,())))
               else bif zj s3.1.1 9 then bif !a2.2.2.2.2.2.2.2.2.2.1 then opt (atI s3.2.1 x4.1) fun x77=>
                  opt (gl s3.2.1 (Int.toNat x4.1)) fun x78=>
                  opt (atI s3.2.1 x4.2.1) fun x79=>
                  opt (gl s3.2.1 (Int.toNat x4.2.1)) fun x80=>
                  bif !(x78 == x80) then opt (atI s3.2.1 x4.1) fun x81=>
                   opt (gl s3.2.1 (Int.toNat x4.1)) fun x82=>
                   opt (atI (s3.2.1.set (Int.toNat x4.1) true) x4.2.1) fun x83=>
                   opt (gl (s3.2.1.set (Int.toNat x4.1) true) (Int.toNat x4.2.1)) fun x84=>
                   some (0,((),(((s3.2.1.set (Int.toNat x4.1) true).set (Int.toNat x4.2.1) true),())))
                  else some (0,((),(s3.2.1,())))
                 else some (0,((),(s3.2.1,())))
                else bif zj s3.1.1 10 then bif !a2.2.2.2.2.2.2.2.2.2.2.1 then opt (atI s3.2.1 x4.1) fun x85=>
                   opt (gl s3.2.1 (Int.toNat x4.1)) fun x86=>
                   opt (atI s3.2.1 x4.2.1) fun x87=>
                   opt (gl s3.2.1 (Int.toNat x4.2.1)) fun x88=>
                   bif !(x86 == x88) then opt (atI s3.2.1 x4.1) fun x89=>
                    opt (gl s3.2.1 (Int.toNat x4.1)) fun x90=>
                    opt (atI (s3.2.1.set (Int.toNat x4.1) true) x4.2.1) fun x91=>
                    opt (gl (s3.2.1.set (Int.toNat x4.1) true) (Int.toNat x4.2.1)) fun x92=>
                    some (0,((),(((s3.2.1.set (Int.toNat x4.1) true).set (Int.toNat x4.2.1) true),())))
                   else some (0,((),(s3.2.1,())))
                  else some (0,((),(s3.2.1,())))
                 else bif zj s3.1.1 11 then bif !a2.2.2.2.2.2.2.2.2.2.2.2.1 then opt (atI s3.2.1 x4.1) fun x93=>
                    opt (gl s3.2.1 (Int.toNat x4.1)) fun x94=>
                    opt (atI s3.2.1 x4.2.1) fun x95=>
                    opt (gl s3.2.1 (Int.toNat x4.2.1)) fun x96=>
                    bif !(x94 == x96) then opt (atI s3.2.1 x4.1) fun x97=>
                     opt (gl s3.2.1 (Int.toNat x4.1)) fun x98=>
                     opt (atI (s3.2.1.set (Int.toNat x4.1) true) x4.2.1) fun x99=>
                     opt (gl (s3.2.1.set (Int.toNat x4.1) true) (Int.toNat x4.2.1)) fun x100=>
                     some (0,((),(((s3.2.1.set (Int.toNat x4.1) true).set (Int.toNat x4.2.1) true),())))
                    else some (0,((),(s3.2.1,())))
                   else some (0,((),(s3.2.1,())))
                  else bif zj s3.1.1 12 then bif !a2.2.2.2.2.2.2.2.2.2.2.2.2.1 then opt (atI s3.2.1 x4.1) fun x101=>
                     opt (gl s3.2.1 (Int.toNat x4.1)) fun x102=>
                     opt (atI s3.2.1 x4.2.1) fun x103=>
                     opt (gl s3.2.1 (Int.toNat x4.2.1)) fun x104=>
                     bif !(x102 == x104) then opt (atI s3.2.1 x4.1) fun x105=>
                      opt (gl s3.2.1 (Int.toNat x4.1)) fun x106=>
                      opt (atI (s3.2.1.set (Int.toNat x4.1) true) x4.2.1) fun x107=>
                      opt (gl (s3.2.1.set (Int.toNat x4.1) true) (Int.toNat x4.2.1)) fun x108=>
                      some (0,((),(((s3.2.1.set (Int.toNat x4.1) true).set (Int.toNat x4.2.1) true),())))
                     else some (0,((),(s3.2.1,())))
                    else some (0,((),(s3.2.1,())))
                   else bif zj s3.1.1 13 then bif !a2.2.2.2.2.2.2.2.2.2.2.2.2.2.1 then opt (atI s3.2.1 x4.1) fun x109=>
                      opt (gl s3.2.1 (Int.toNat x4.1)) fun x110=>
                      opt (atI s3.2.1 x4.2.1) fun x111=>
                      opt (gl s3.2.1 (Int.toNat x4.2.1)) fun x112=>
                      bif !(x110 == x112) then opt (atI s3.2.1 x4.1) fun x113=>
                       opt (gl s3.2.1 (Int.toNat x4.1)) fun x114=>
                       opt (atI (s3.2.1.set (Int.toNat x4.1) true) x4.2.1) fun x115=>
                       opt (gl (s3.2.1.set (Int.toNat x4.1) true) (Int.toNat x4.2.1)) fun x116=>
                       some (0,((),(((s3.2.1.set (Int.toNat x4.1) true).set (Int.toNat x4.2.1) true),())))
                      else some (0,((),(s3.2.1,())))
                     else some (0,((),(s3.2.1,())))
                    else bif zj s3.1.1 14 then bif !a2.2.2.2.2.2.2.2.2.2.2.2.2.2.2.1 then opt (atI s3.2.1 x4.1) fun x117=>
                       opt (gl s3.2.1 (Int.toNat x4.1)) fun x118=>
                       opt (atI s3.2.1 x4.2.1) fun x119=>
                       opt (gl s3.2.1 (Int.toNat x4.2.1)) fun x120=>
                       bif !(x118 == x120) then opt (atI s3.2.1 x4.1) fun x121=>
                        opt (gl s3.2.1 (Int.toNat x4.1)) fun x122=>
                        opt (atI (s3.2.1.set (Int.toNat x4.1) true) x4.2.1) fun x123=>
                        opt (gl (s3.2.1.set (Int.toNat x4.1) true) (Int.toNat x4.2.1)) fun x124=>
                        some (0,((),(((s3.2.1.set (Int.toNat x4.1) true).set (Int.toNat x4.2.1) true),())))
                       else some (0,((),(s3.2.1,())))
                      else some (0,((),(s3.2.1,())))
                     else bif zj s3.1.1 15 then bif !a2.2.2.2.2.2.2.2.2.2.2.2.2.2.2.2.1 then opt (atI s3.2.1 x4.1) fun x125=>
                        opt (gl s3.2.1 (Int.toNat x4.1)) fun x126=>
                        opt (atI s3.2.1 x4.2.1) fun x127=>
                        opt (gl s3.2.1 (Int.toNat x4.2.1)) fun x128=>
                        bif !(x126 == x128) then opt (atI s3.2.1 x4.1) fun x129=>
                         opt (gl s3.2.1 (Int.toNat x4.1)) fun x130=>
                         opt (atI (s3.2.1.set (Int.toNat x4.1) true) x4.2.1) fun x131=>
                         opt (gl (s3.2.1.set (Int.toNat x4.1) true) (Int.toNat x4.2.1)) fun x132=>
                         some (0,((),(((s3.2.1.set (Int.toNat x4.1) true).set (Int.toNat x4.2.1) true),())))
                        else some (0,((),(s3.2.1,())))
                       else some (0,((),(s3.2.1,())))
                      else bif zj s3.1.1 16 then bif !a2.2.2.2.2.2.2.2.2.2.2.2.2.2.2.2.2.1 then opt (atI s3.2.1 x4.1) fun x133=>
                         opt (gl s3.2.1 (Int.toNat x4.1)) fun x134=>
                         opt (atI s3.2.1 x4.2.1) fun x135=>
                         opt (gl s3.2.1 (Int.toNat x4.2.1)) fun x136=>
                         bif !(x134 == x136) then opt (atI s3.2.1 x4.1) fun x137=>
                          opt (gl s3.2.1 (Int.toNat x4.1)) fun x138=>
                          opt (atI (s3.2.1.set (Int.toNat x4.1) true) x4.2.1) fun x139=>
                          opt (gl (s3.2.1.set (Int.toNat x4.1) true) (Int.toNat x4.2.1)) fun x140=>
                          some (0,((),(((s3.2.1.set (Int.toNat x4.1) true).set (Int.toNat x4.2.1) true),())))
                         else some (0,((),(s3.2.1,())))
                        else some (0,((),(s3.2.1,())))
                       else bif zj s3.1.1 17 then bif !a2.2.2.2.2.2.2.2.2.2.2.2.2.2.2.2.2.2.1 then opt (atI s3.2.1 x4.1) fun x141=>
                          opt (gl s3.2.1 (Int.toNat x4.1)) fun x142=>
                          opt (atI s3.2.1 x4.2.1) fun x143=>
                          opt (gl s3.2.1 (Int.toNat x4.2.1)) fun x144=>
                          bif !(x142 == x144) then opt (atI s3.2.1 x4.1) fun x145=>
                           opt (gl s3.2.1 (Int.toNat x4.1)) fun x146=>
                           opt (atI (s3.2.1.set (Int.toNat x4.1) true) x4.2.1) fun x147=>
                           opt (gl (s3.2.1.set (Int.toNat x4.1) true) (Int.toNat x4.2.1)) fun x148=>
                           some (0,((),(((s3.2.1.set (Int.toNat x4.1) true).set (Int.toNat x4.2.1) true),())))
                          else some (0,((),(s3.2.1,())))
                         else some (0,((),(s3.2.1,())))
                        else bif zj s3.1.1 18 then bif !a2.2.2.2.2.2.2.2.2.2.2.2.2.2.2.2.2.2.2.1 then opt (atI s3.2.1 x4.1) fun x149=>
                           opt (gl s3.2.1 (Int.toNat x4.1)) fun x150=>
                           opt (atI s3.2.1 x4.2.1) fun x151=>
                           opt (gl s3.2.1 (Int.toNat x4.2.1)) fun x152=>
                           bif !(x150 == x152) then opt (atI s3.2.1 x4.1) fun x153=>
                            opt (gl s3.2.1 (Int.toNat x4.1)) fun x154=>
                            opt (atI (s3.2.1.set (Int.toNat x4.1) true) x4.2.1) fun x155=>
                            opt (gl (s3.2.1.set (Int.toNat x4.1) true) (Int.toNat x4.2.1)) fun x156=>
                            some (0,((),(((s3.2.1.set (Int.toNat x4.1) true).set (Int.toNat x4.2.1) true),())))
                           else some (0,((),(s3.2.1,())))
                          else some (0,((),(s3.2.1,())))
                         else bif zj s3.1.1 19 then bif !a2.2.2.2.2.2.2.2.2.2.2.2.2.2.2.2.2.2.2.2.1 then opt (atI s3.2.1 x4.1) fun x157=>
                            opt (gl s3.2.1 (Int.toNat x4.1)) fun x158=>
                            opt (atI s3.2.1 x4.2.1) fun x159=>
                            opt (gl s3.2.1 (Int.toNat x4.2.1)) fun x160=>
                            bif !(x158 == x160) then opt (atI s3.2.1 x4.1) fun x161=>
                             opt (gl s3.2.1 (Int.toNat x4.1)) fun x162=>
                             opt (atI (s3.2.1.set (Int.toNat x4.1) true) x4.2.1) fun x163=>
                             opt (gl (s3.2.1.set (Int.toNat x4.1) true) (Int.toNat x4.2.1)) fun x164=>
                             some (0,((),(((s3.2.1.set (Int.toNat x4.1) true).set (Int.toNat x4.2.1) true),())))
                            else some (0,((),(s3.2.1,())))
                           else some (0,((),(s3.2.1,())))
                          else bif zj s3.1.1 20 then bif !a2.2.2.2.2.2.2.2.2.2.2.2.2.2.2.2.2.2.2.2.2.1 then opt (atI s3.2.1 x4.1) fun x165=>
                             opt (gl s3.2.1 (Int.toNat x4.1)) fun x166=>
                             opt (atI s3.2.1 x4.2.1) fun x167=>
                             opt (gl s3.2.1 (Int.toNat x4.2.1)) fun x168=>
                             bif !(x166 == x168) then opt (atI s3.2.1 x4.1) fun x169=>
                              opt (gl s3.2.1 (Int.toNat x4.1)) fun x170=>
                              opt (atI (s3.2.1.set (Int.toNat x4.1) true) x4.2.1) fun x171=>
                              opt (gl (s3.2.1.set (Int.toNat x4.1) true) (Int.toNat x4.2.1)) fun x172=>
                              some (0,((),(((s3.2.1.set (Int.toNat x4.1) true).set (Int.toNat x4.2.1) true),())))
                             else some (0,((),(s3.2.1,())))
                            else some (0,((),(s3.2.1,())))
                           else bif zj s3.1.1 21 then bif !a2.2.2.2.2.2.2.2.2.2.2.2.2.2.2.2.2.2.2.2.2.2.1 then opt (atI s3.2.1 x4.1) fun x173=>
                              opt (gl s3.2.1 (Int.toNat x4.1)) fun x174=>
                              opt (atI s3.2.1 x4.2.1) fun x175=>
                              opt (gl s3.2.1 (Int.toNat x4.2.1)) fun x176=>
                              bif !(x174 == x176) then opt (atI s3.2.1 x4.1) fun x177=>
                               opt (gl s3.2.1 (Int.toNat x4.1)) fun x178=>
                               opt (atI (s3.2.1.set (Int.toNat x4.1) true) x4.2.1) fun x179=>
                               opt (gl (s3.2.1.set (Int.toNat x4.1) true) (Int.toNat x4.2.1)) fun x180=>
                               some (0,((),(((s3.2.1.set (Int.toNat x4.1) true).set (Int.toNat x4.2.1) true),())))
                              else some (0,((),(s3.2.1,())))
                             else some (0,((),(s3.2.1,())))
                            else bif zj s3.1.1 22 then bif !a2.2.2.2.2.2.2.2.2.2.2.2.2.2.2.2.2.2.2.2.2.2.2.1 then opt (atI s3.2.1 x4.1) fun x181=>
                               opt (gl s3.2.1 (Int.toNat x4.1)) fun x182=>
                               opt (atI s3.2.1 x4.2.1) fun x183=>
                               opt (gl s3.2.1 (Int.toNat x4.2.1)) fun x184=>
                               bif !(x182 == x184) then opt (atI s3.2.1 x4.1) fun x185=>
                                opt (gl s3.2.1 (Int.toNat x4.1)) fun x186=>
                                opt (atI (s3.2.1.set (Int.toNat x4.1) true) x4.2.1) fun x187=>
                                opt (gl (s3.2.1.set (Int.toNat x4.1) true) (Int.toNat x4.2.1)) fun x188=>
                                some (0,((),(((s3.2.1.set (Int.toNat x4.1) true).set (Int.toNat x4.2.1) true),())))
                               else some (0,((),(s3.2.1,())))
                              else some (0,((),(s3.2.1,())))
                             else bif zj s3.1.1 23 then bif !a2.2.2.2.2.2.2.2.2.2.2.2.2.2.2.2.2.2.2.2.2.2.2.2 then opt (atI s3.2.1 x4.1) fun x189=>
                                opt (gl s3.2.1 (Int.toNat x4.1)) fun x190=>
                                opt (atI s3.2.1 x4.2.1) fun x191=>
                                opt (gl s3.2.1 (Int.toNat x4.2.1)) fun x192=>
                                bif !(x190 == x192) then opt (atI s3.2.1 x4.1) fun x193=>
                                 opt (gl s3.2.1 (Int.toNat x4.1)) fun x194=>
                                 opt (atI (s3.2.1.set (Int.toNat x4.1) true) x4.2.1) fun x195=>
                                 opt (gl (s3.2.1.set (Int.toNat x4.1) true) (Int.toNat x4.2.1)) fun x196=>
                                 some (0,((),(((s3.2.1.set (Int.toNat x4.1) true).set (Int.toNat x4.2.1) true),())))
                                else some (0,((),(s3.2.1,())))
                               else some (0,((),(s3.2.1,())))
                              else none) fun x197=>
      some (.inr (((wrF .i64 (s3.1.1+1)),()),(x197.2.2.1,())))
     else some (.inl (0,((s3.1.1,()),(s3.2.1,()))))) qw ((0,()),(s2.2.1,()))) fun x198=>
    some (.inr (((wrF .i64 (s2.1.1+1)),()),(x198.2.2.1,())))
   else some (.inl (0,((s2.1.1,()),(s2.2.1,()))))) qw ((0,()),(((List.replicate (Int.toNat a0.1) false).set (Int.toNat a1) true),()))) fun x199=>
  some (x199.2.2.1,())
 else none
abbrev zbW:Type:=(qj×Int×(Bool×(Bool×(Bool×(Bool×(Bool×(Bool×(Bool×(Bool×(Bool×(Bool×(Bool×(Bool×(Bool×(Bool×(Bool×(Bool×(Bool×(Bool×(Bool×(Bool×(Bool×(Bool×(Bool×Bool)))))))))))))))))))))))×Unit)→Option ((List Bool)×Unit)
def zm8:zbW:=sF Tryz.prog [] zvt (zN []) 30 61 Va Vb
theorem zxW (a0) (a1) (a2):zm8 (a0,a1,a2,())=zgz a0 a1 a2:=by kernel_rfl
def WC:zbW:=zm8
theorem zrT:Con.Ok Tryz.prog 61 ⟨Va,Vb,WC⟩:=zv zh zm (by kernel_rfl)
theorem zrU (a0) (a1) (a2):WC (a0,a1,a2,())=zgz  a0 a1 a2:=zxW  a0 a1 a2
abbrev xt:List VT:=[⟨false,(.list .bool)⟩,⟨false,.bool⟩]
abbrev xu:List VT:=[⟨false,I⟩]
def zec:zZ:=zQ [] [] [] [] []
def JM (a0:(List Bool)) (a1:Bool):Option (Int×Unit):=
 opt (qb (fun s0:((Int×(Int×Unit))×Unit)=>
  bif (zr s0.1.2.1 ((a0.length:Nat):Int)) then opt (atI a0 s0.1.2.1) fun x1=>
   bif a1 == x1 then some (.inl (1,((s0.1.2.1,(s0.1.2.1,())),())))
   else some (.inr ((s0.1.1,((wrF .i64 (s0.1.2.1+1)),())),()))
  else some (.inl (0,((s0.1.1,(s0.1.2.1,())),())))) qw ((0,(0,())),())) fun x2=>
 bif Nat.beq x2.1 0 then some ((-1),())
 else some (x2.2.1.1,())
abbrev kI:Type:=((List Bool)×Bool×Unit)→Option (Int×Unit)
def KK:kI:=sF Tryz.prog [] zec (zN []) 30 97 xt xu
theorem zeK (a0) (a1):KK (a0,a1,())=JM a0 a1:=by kernel_rfl
def xw:kI:=KK
theorem zcF:Con.Ok Tryz.prog 97 ⟨xt,xu,xw⟩:=zv zh zm (by kernel_rfl)
theorem zcG (a0) (a1):xw (a0,a1,())=JM  a0 a1:=zeK  a0 a1
abbrev yD:List VT:=[⟨false,(.list .bool)⟩,⟨false,.bool⟩]
abbrev yE:List VT:=[⟨false,.bool⟩]
def zbX:zZ:=zQ [] [] [] [] [97]
def ZY (xC:kI) (a0:(List Bool)) (a1:Bool):Option (Bool×Unit):=
 opt (xC (a0,(a1,()))) fun x0=>
 some ((!(zr x0.1 0)),())
abbrev uq:Type:=((List Bool)×Bool×Unit)→Option (Bool×Unit)
def XA:kI→uq:=fun xC=>sF Tryz.prog [(97,⟨xt,xu,xC⟩)] zbX (zN []) 30 60 yD yE
theorem zcH (xC) (a0) (a1):XA xC (a0,a1,())=ZY xC a0 a1:=by kernel_rfl
def yF:uq:=XA xw
theorem zaS:Con.Ok Tryz.prog 60 ⟨yD,yE,yF⟩:=zv (zf zcF zh) zm (by kernel_rfl)
theorem zaT (a0) (a1):yF (a0,a1,())=ZY xw a0 a1:=zcH xw a0 a1
abbrev wL:List VT:=[⟨true,zR⟩]
abbrev wM:List VT:=[⟨false,I⟩]
def zvu:zZ:=zQ [⟨(.pair .bool (.pair .bool (.pair .bool (.pair .bool (.pair .bool (.pair .bool (.pair .bool (.pair .bool (.pair .bool (.pair .bool (.pair .bool (.pair .bool (.pair .bool (.pair .bool (.pair .bool (.pair .bool (.pair .bool (.pair .bool (.pair .bool (.pair .bool (.pair .bool (.pair .bool (.pair .bool .bool))))))))))))))))))))))),zd9 (.pair .bool (.pair .bool (.pair .bool (.pair .bool (.pair .bool (.pair .bool (.pair .bool (.pair .bool (.pair .bool (.pair .bool (.pair .bool (.pair .bool (.pair .bool (.pair .bool (.pair .bool (.pair .bool (.pair .bool (.pair .bool (.pair .bool (.pair .bool (.pair .bool (.pair .bool (.pair .bool .bool))))))))))))))))))))))),[]⟩,cdF zR,cdF qp] [] [] [] [59,60]
def zgA (VM:zbV) (VO:zbW) (yG:uq) (a0:qj):Option (Int×Unit):=
 opt (bif zr a0.1 2 then some (1,((260,()),()))
  else bif zr 12 a0.1 then some (1,((260,()),()))
   else bif (!(zj ((a0.2.1.length:Nat):Int) a0.1)) then some (1,((260,()),()))
    else some (0,((0,()),()))) fun x0=>
 bif Nat.beq x0.1 0 then opt (bif (zr 24 ((a0.2.2.length:Nat):Int)) then some (1,((260,()),()))
   else opt (VM (a0,())) fun x1=>
    bif !x1.1 then some (1,((260,()),()))
    else some (0,((x0.2.1.1,()),()))) fun x2=>
  bif Nat.beq x2.1 0 then bif zp4 a0.1 a0.1 8 then opt (qb (fun s3:((Int×Unit)×((List Int)×Unit))=>
     bif (zr s3.1.1 ((a0.2.2.length:Nat):Int)) then opt (atI a0.2.2 s3.1.1) fun x4=>
      opt (atI s3.2.1 x4.1) fun x5=>
      opt (gl s3.2.1 (Int.toNat x4.1)) fun x6=>
      opt (atI s3.2.1 x4.1) fun x7=>
      opt (gl s3.2.1 (Int.toNat x4.1)) fun x8=>
      opt (atI (s3.2.1.set (Int.toNat x4.1) (wrF .i64 (x6+1))) x4.2.1) fun x9=>
      opt (gl (s3.2.1.set (Int.toNat x4.1) (wrF .i64 (x6+1))) (Int.toNat x4.2.1)) fun x10=>
      opt (atI (s3.2.1.set (Int.toNat x4.1) (wrF .i64 (x6+1))) x4.2.1) fun x11=>
      opt (gl (s3.2.1.set (Int.toNat x4.1) (wrF .i64 (x6+1))) (Int.toNat x4.2.1)) fun x12=>
      some (.inr (((wrF .i64 (s3.1.1+1)),()),(((s3.2.1.set (Int.toNat x4.1) (wrF .i64 (x6+1))).set (Int.toNat x4.2.1) (wrF .i64 (x10+1))),())))
     else some (.inl (0,((s3.1.1,()),(s3.2.1,()))))) qw ((0,()),((List.replicate (Int.toNat a0.1) 0),()))) fun x13=>
    opt (qb (fun s14:((Int×(Int×Unit))×Unit)=>
     bif (zr s14.1.2.1 ((a0.2.1.length:Nat):Int)) then opt (atI a0.2.1 s14.1.2.1) fun x15=>
      opt (bif x15 then opt (atI x13.2.2.1 s14.1.2.1) fun x16=>
        opt (gl x13.2.2.1 (Int.toNat s14.1.2.1)) fun x17=>
        bif zr x17 1 then some (1,((260,()),()))
        else opt (atI x13.2.2.1 s14.1.2.1) fun x18=>
         opt (gl x13.2.2.1 (Int.toNat s14.1.2.1)) fun x19=>
         bif zr 2 x19 then some (1,((260,()),()))
         else some (0,((s14.1.1,()),()))
       else some (0,((s14.1.1,()),()))) fun x20=>
      bif Nat.beq x20.1 0 then some (.inr ((x20.2.1.1,((wrF .i64 (s14.1.2.1+1)),())),()))
      else some (.inl (1,((x20.2.1.1,(s14.1.2.1,())),())))
     else some (.inl (0,((s14.1.1,(s14.1.2.1,())),())))) qw ((x2.2.1.1,(0,())),())) fun x21=>
    bif Nat.beq x21.1 0 then opt (VO (a0,(0,((false,(false,(false,(false,(false,(false,(false,(false,(false,(false,(false,(false,(false,(false,(false,(false,(false,(false,(false,(false,(false,(false,(false,false))))))))))))))))))))))),())))) fun x22=>
     opt (yG (x22.1,(false,()))) fun x23=>
     bif x23.1 then some (260,())
     else some (0,())
    else some (x21.2.1.1,())
   else none
  else some (x2.2.1.1,())
 else some (x0.2.1.1,())
abbrev xJ:Type:=(qj×Unit)→Option (Int×Unit)
def zm9:zbV→zbW→uq→xJ:=fun VM VO yG=>sF Tryz.prog [(59,⟨XX,XY,VM⟩),(61,⟨Va,Vb,VO⟩),(60,⟨yD,yE,yG⟩)] zvu (zN []) 30 41 wL wM
theorem zxX (VM) (VO) (yG) (a0):zm9 VM VO yG (a0,())=zgA VM VO yG a0:=by kernel_rfl
def jB:xJ:=zm9 XZ WC yF
theorem Ji:Con.Ok Tryz.prog 41 ⟨wL,wM,jB⟩:=zv (zf zrR (zf zrT (zf zaS zh))) zm (by kernel_rfl)
theorem zrV (a0):jB (a0,())=zgA XZ WC yF a0:=zxX XZ WC yF a0
abbrev xR:List VT:=[⟨false,I⟩,⟨false,I⟩,⟨false,I⟩]
abbrev xS:List VT:=[⟨false,.bool⟩]
def zoN:zZ:=zQ [] [] [] [] []
def zaU (a0:Int) (a1:Int) (a2:Int):Option (Bool×Unit):=
 bif !(zr a0 a1) then some ((!(zr a2 a0)),())
 else some (false,())
abbrev uA:Type:=(Int×Int×Int×Unit)→Option (Bool×Unit)
def zgB:uA:=sF Tryz.prog [] zoN (zN []) 30 63 xR xS
theorem zqh (a0) (a1) (a2):zgB (a0,a1,a2,())=zaU a0 a1 a2:=by kernel_rfl
def yv:uA:=zgB
theorem Ui:Con.Ok Tryz.prog 63 ⟨xR,xS,yv⟩:=zv zh zm (by kernel_rfl)
theorem zlM (a0) (a1) (a2):yv (a0,a1,a2,())=zaU  a0 a1 a2:=zqh  a0 a1 a2
abbrev ko:List VT:=[⟨true,ziz⟩]
abbrev kp:List VT:=[⟨false,I⟩]
def zkF:zZ:=zQ [cdF ziz] [] [] [] [63]
def Uj (qd:uA) (a0:zfS):Option (Int×Unit):=
 opt (opt (qd (a0.1,(1,(10000,())))) fun x0=>
  bif !x0.1 then some (1,((320,()),()))
  else opt (qd (a0.2.1,(0,(1000,())))) fun x1=>
   bif !x1.1 then some (1,((320,()),()))
   else some (0,((0,()),()))) fun x2=>
 bif Nat.beq x2.1 0 then opt (opt (qd (a0.2.2.1,(0,(10000,())))) fun x3=>
   bif !x3.1 then some (1,((320,()),()))
   else opt (qd (a0.2.2.2,(1542,(65536,())))) fun x4=>
    bif !x4.1 then some (1,((320,()),()))
    else some (0,((x2.2.1.1,()),()))) fun x5=>
  bif Nat.beq x5.1 0 then some (0,())
  else some (x5.2.1.1,())
 else some (x2.2.1.1,())
abbrev Yb:Type:=(zfS×Unit)→Option (Int×Unit)
def zcR:uA→Yb:=fun qd=>sF Tryz.prog [(63,⟨xR,xS,qd⟩)] zkF (zN []) 30 45 ko kp
theorem zlN (qd) (a0):zcR qd (a0,())=Uj qd a0:=by kernel_rfl
def kq:Yb:=zcR yv
theorem ziD:Con.Ok Tryz.prog 45 ⟨ko,kp,kq⟩:=zv (zf Ui zh) zm (by kernel_rfl)
theorem ziE (a0):kq (a0,())=Uj yv a0:=zlN yv a0
abbrev uI:List VT:=[⟨true,qk⟩]
abbrev uJ:List VT:=[⟨false,I⟩]
def ztM:zZ:=zQ [cdF qk,cdF qQ] [] [] [] []
def zeL (a0:ja):Option (Int×Unit):=
 opt (bif (zr ((a0.1.length:Nat):Int) 1) then some (1,((370,()),()))
  else bif (zr 128 ((a0.1.length:Nat):Int)) then some (1,((370,()),()))
   else some (0,((0,()),()))) fun x0=>
 bif Nat.beq x0.1 0 then opt (qb (fun s1:((Int×(Int×(Int×Unit)))×Unit)=>
   bif (zr s1.1.2.2.1 ((a0.1.length:Nat):Int)) then opt (atI a0.1 s1.1.2.2.1) fun x2=>
    opt (bif zr x2.1 0 then some (1,((370,()),()))
     else bif zr 255 x2.1 then some (1,((370,()),()))
      else bif zr x2.2 1 then some (1,((370,()),()))
       else bif zr 9600000 x2.2 then some (1,((370,()),()))
        else some (0,((s1.1.1,()),()))) fun x3=>
    bif Nat.beq x3.1 0 then some (.inr ((x3.2.1.1,((wrF .i64 (s1.1.2.1+x2.2)),((wrF .i64 (s1.1.2.2.1+1)),()))),()))
    else some (.inl (1,((x3.2.1.1,(s1.1.2.1,(s1.1.2.2.1,()))),())))
   else some (.inl (0,((s1.1.1,(s1.1.2.1,(s1.1.2.2.1,()))),())))) qw ((x0.2.1.1,(0,(0,()))),())) fun x4=>
  bif Nat.beq x4.1 0 then opt (bif !(zj x4.2.1.2.1 a0.2) then some (1,((370,()),()))
    else bif zr 9600000 x4.2.1.2.1 then some (1,((370,()),()))
     else some (0,((x4.2.1.1,()),()))) fun x5=>
   bif Nat.beq x5.1 0 then some (0,())
   else some (x5.2.1.1,())
  else some (x4.2.1.1,())
 else some (x0.2.1.1,())
abbrev ZP:Type:=(ja×Unit)→Option (Int×Unit)
def zlm:ZP:=sF Tryz.prog [] ztM (zN []) 30 46 uI uJ
theorem zvv (a0):zlm (a0,())=zeL a0:=by kernel_rfl
def xW:ZP:=zlm
theorem zaV:Con.Ok Tryz.prog 46 ⟨uI,uJ,xW⟩:=zv zh zm (by kernel_rfl)
theorem zqi (a0):xW (a0,())=zeL  a0:=zvv  a0
abbrev yq:List VT:=[⟨true,qz⟩]
abbrev yr:List VT:=[⟨false,I⟩]
def zkG:zZ:=zQ [cdF qz,cdF zR,cdF qp,cdF qk,cdF qQ] [] [] [] [41,45,46]
def Uk (zY:xJ) (kz:Yb) (js:ZP) (a0:jA):Option (Int×Unit):=
 opt (zY (a0.1,())) fun x0=>
 bif !(zj x0.1 0) then some (x0.1,())
 else opt (kz (a0.2.1,())) fun x1=>
  bif !(zj x1.1 0) then some (x1.1,())
  else opt (qb (fun s2:((Int×(Int×Unit))×Unit)=>
    bif (zr s2.1.2.1 ((a0.2.2.1.length:Nat):Int)) then opt (atI a0.2.2.1 s2.1.2.1) fun x3=>
     opt (js (x3,())) fun x4=>
     bif !(zj x4.1 0) then some (.inl (1,((x4.1,(s2.1.2.1,())),())))
     else some (.inr ((s2.1.1,((wrF .i64 (s2.1.2.1+1)),())),()))
    else some (.inl (0,((s2.1.1,(s2.1.2.1,())),())))) qw ((0,(0,())),())) fun x5=>
   bif Nat.beq x5.1 0 then opt (bif (!(zj ((a0.2.2.1.length:Nat):Int) (wrF .i64 (2*((a0.1.2.2.length:Nat):Int))))) then some (1,((410,()),()))
     else bif zr a0.2.2.2 84 then some (1,((410,()),()))
      else bif zr 1542 a0.2.2.2 then some (1,((410,()),()))
       else some (0,((x5.2.1.1,()),()))) fun x6=>
    bif Nat.beq x6.1 0 then some (0,())
    else some (x6.2.1.1,())
   else some (x5.2.1.1,())
abbrev kr:Type:=(jA×Unit)→Option (Int×Unit)
def zcS:xJ→Yb→ZP→kr:=fun zY kz js=>sF Tryz.prog [(41,⟨wL,wM,zY⟩),(45,⟨ko,kp,kz⟩),(46,⟨uI,uJ,js⟩)] zkG (zN []) 30 29 yq yr
theorem zlO (zY) (kz) (js) (a0):zcS zY kz js (a0,())=Uk zY kz js a0:=by kernel_rfl
def xe:kr:=zcS jB kq xW
theorem zap:Con.Ok Tryz.prog 29 ⟨yq,yr,xe⟩:=zv (zf Ji (zf ziD (zf zaV zh))) zm (by kernel_rfl)
theorem ziF (a0):xe (a0,())=Uk jB kq xW a0:=zlO jB kq xW a0
abbrev WD:List VT:=[⟨true,qz⟩]
abbrev WE:List VT:=[⟨true,qq⟩,⟨false,I⟩]
def zvw:zZ:=zQ [cdF qq,cdF qv,cdF qz,cdF jH,cdF zz,cdF zR,cdF jv,cdF yl,cdF qp,cdF qk,cdF qQ] [] [] [] [29]
def zbY (jz:kr) (a0:jA):Option (zL×Int×Unit):=
 opt (jz (a0,())) fun x0=>
 bif !(zj x0.1 0) then some ((((0,([],[])),((0,(0,(0,0))),([],0))),([],([],([],([],[]))))),(x0.1,()))
 else some ((a0,([],([],([],([],[]))))),(0,()))
abbrev zgC:Type:=(jA×Unit)→Option (zL×Int×Unit)
def zna:kr→zgC:=fun jz=>sF Tryz.prog [(29,⟨yq,yr,jz⟩)] zvw (zN []) 30 14 WD WE
theorem zxY (jz) (a0):zna jz (a0,())=zbY jz a0:=by kernel_rfl
def QS:zgC:=zna xe
theorem zrW:Con.Ok Tryz.prog 14 ⟨WD,WE,QS⟩:=zv (zf zap zh) zm (by kernel_rfl)
theorem zh0 (a0):QS (a0,())=zbY xe a0:=zxY xe a0
abbrev gS:List VT:=[]
abbrev gT:List VT:=[⟨true,zz⟩]
def zqj:zZ:=zQ [cdF zz,cdF zu] [] [] [] []
def zh1:Option (zD×Unit):=
 some ((1,(0,(3,(6,(100,(0,((200,16384),(9000,((0::(2::(4::[])))::[]))))))))),())
abbrev zbZ:Type:=(Unit)→Option (zD×Unit)
def zh2:zbZ:=sF Tryz.prog [] zqj (zN []) 30 17 gS gT
theorem zrX:zh2 ()=zh1:=by kernel_rfl
def gU:zbZ:=zh2
theorem znb:Con.Ok Tryz.prog 17 ⟨gS,gT,gU⟩:=zv zh zm (by kernel_rfl)
theorem znc:gU ()=zh1:=zrX
abbrev Jj:List VT:=[⟨false,I⟩]
abbrev Jk:List VT:=[⟨false,.bool⟩]
def zqk:zZ:=zQ [] [] [] [] []
def zb0 (a0:Int):Option (Bool×Unit):=
 some ((!(zj a0 a0)),())
abbrev Us:Type:=(Int×Unit)→Option (Bool×Unit)
def zh3:Us:=sF Tryz.prog [] zqk (zN []) 30 55 Jj Jk
theorem zrY (a0):zh3 (a0,())=zb0 a0:=by kernel_rfl
def Xb:Us:=zh3
theorem znd:Con.Ok Tryz.prog 55 ⟨Jj,Jk,Xb⟩:=zv zh zm (by kernel_rfl)
theorem zed (a0):Xb (a0,())=zb0  a0:=zrY  a0
abbrev wu:List VT:=[⟨false,I⟩,⟨false,I⟩]
abbrev wv:List VT:=[⟨false,I⟩]
def zne:zZ:=zQ [] [] [] [] [55]
def GV (Zd:Us) (a0:Int) (a1:Int):Option (Int×Unit):=
 opt (Zd (a0,())) fun x0=>
 opt (Zd (a1,())) fun x1=>
 bif x0.1 then bif x1.1 then some (0,())
  else some ((-1),())
 else bif x1.1 then some (1,())
  else bif zr a0 a1 then some ((-1),())
   else bif zr a1 a0 then some (1,())
    else some (0,())
abbrev JT:Type:=(Int×Int×Unit)→Option (Int×Unit)
def zfg:Us→JT:=fun Zd=>sF Tryz.prog [(55,⟨Jj,Jk,Zd⟩)] zne (zN []) 30 37 wu wv
theorem zoO (Zd) (a0) (a1):zfg Zd (a0,a1,())=GV Zd a0 a1:=by kernel_rfl
def jb:JT:=zfg Xb
theorem Kt:Con.Ok Tryz.prog 37 ⟨wu,wv,jb⟩:=zv (zf znd zh) zm (by kernel_rfl)
theorem zkH (a0) (a1):jb (a0,a1,())=GV Xb a0 a1:=zoO Xb a0 a1
abbrev qJ:List VT:=[⟨false,I⟩]
abbrev qK:List VT:=[⟨false,I⟩,⟨true,jH⟩,⟨false,.bool⟩]
def GN:zZ:=zQ [cdF ze,cdF jH,cdF zz,cdF zu] [] [] [] [37]
def Xr (jt:JT) (s:za) (a0:Int):Option (za×(Int×wc×Bool×Unit)):=
 opt (qb (fun s0:((Int×(Int×(Bool×(Int×Unit))))×Unit)=>
  bif (zr s0.1.2.2.2.1 ((s.2.2.1.length:Nat):Int)) then opt (atI s.2.2.1 s0.1.2.2.2.1) fun x1=>
   opt (jt (x1.1,(s0.1.1,()))) fun x2=>
   bif !(zr x2.1 0) then some (.inl (1,((s0.1.1,(s0.1.2.2.2.1,((zj x2.1 0),(s0.1.2.2.2.1,())))),())))
   else some (.inr ((s0.1.1,(s0.1.2.1,(s0.1.2.2.1,((wrF .i64 (s0.1.2.2.2.1+1)),())))),()))
  else some (.inl (0,((s0.1.1,(s0.1.2.1,(s0.1.2.2.1,(s0.1.2.2.2.1,())))),())))) qw ((a0,(0,(false,(0,())))),())) fun x3=>
 bif Nat.beq x3.1 0 then some (s,(((s.2.2.1.length:Nat):Int),((x3.2.1.1,(0,(0,((0,(0,(0,(0,(0,(0,((0,0),(0,[])))))))),0)))),(false,()))))
 else bif !x3.2.1.2.2.1 then some (s,(x3.2.1.2.1,((x3.2.1.1,(0,(0,((0,(0,(0,(0,(0,(0,((0,0),(0,[])))))))),0)))),(false,()))))
  else opt (atI s.2.2.1 x3.2.1.2.1) fun x4=>
   some (s,(x3.2.1.2.1,(x4,(true,()))))
theorem ziG (jt:(Int×Int×Unit)→Option (Int×Unit)) (s:za) (a0:Int):sP Tryz.prog ⟨[],[]⟩ [(37,⟨wu,wv,jt⟩)] GN (zN []) 30 24 ze qJ qK s (a0,())=Xr jt s a0:=by kernel_rfl
def we:za→(Int×Unit)→Option (za×(Int×wc×Bool×Unit)):=sP Tryz.prog ⟨[],[]⟩ [(37,⟨wu,wv,jb⟩)] GN (zN []) 30 24 ze qJ qK
theorem gC:yC.Ok Tryz.prog 24 ⟨ze,qJ,qK,we⟩:=xc ⟨qu,qW⟩ (zf Kt zh) zm (by kernel_rfl)
theorem zfU (s:za) (a0:Int):we s (a0,())=Xr jb s a0:=ziG jb s a0
abbrev jQ:List VT:=[⟨false,(.list jH)⟩,⟨false,I⟩,⟨false,.bool⟩,⟨true,jH⟩]
abbrev jR:List VT:=[⟨false,(.list jH)⟩]
def ziH:zZ:=zQ [cdF jH,cdF zz,cdF zu] [] [⟨2,27,some 8,jH,true⟩] [] []
def Vc (a0:(List wc)) (a1:Int) (a2:Bool) (a3:wc):Option ((List wc)×Unit):=
 opt (ux a0 (some a1) none none) fun x0=>
 opt (bif a2 then opt (ux a0 (some (wrF .i64 (a1+1))) none none) fun x1=>
   some (0,((x1,()),()))
  else some (0,((x0,()),()))) fun x2=>
 opt (ux a0 none (some a1) (some a1)) fun x3=>
 bif (yS x3.length ((a3::[]).length) 128) then bif (yS ((x3++(a3::[])).length) x2.2.1.1.length 128) then some (((x3++(a3::[]))++x2.2.1.1),())
  else none
 else none
abbrev Vd:Type:=((List wc)×Int×Bool×wc×Unit)→Option ((List wc)×Unit)
def zbl:Vd:=sF Tryz.prog [] ziH (zN []) 30 75 jQ jR
theorem zjm (a0) (a1) (a2) (a3):zbl (a0,a1,a2,a3,())=Vc a0 a1 a2 a3:=by kernel_rfl
def ym:Vd:=zbl
theorem WG:Con.Ok Tryz.prog 75 ⟨jQ,jR,ym⟩:=zv zh zm (by kernel_rfl)
theorem zgD (a0) (a1) (a2) (a3):ym (a0,a1,a2,a3,())=Vc  a0 a1 a2 a3:=zjm  a0 a1 a2 a3
abbrev qf:List VT:=[⟨true,qv⟩]
abbrev qg:List VT:=[]
def GO:zZ:=zQ [⟨ze,zd9 ze,[13]⟩,cdF qv,cdF zz,cdF zu] [] [⟨2,28,none,qv,true⟩] [] []
def Xt (s:za) (a0:zI):Option (za×(Unit)):=
 opt (bif (zr ((s.2.2.2.2.2.length:Nat):Int) 1024) then opt (ux s.2.2.2.2.2 none (some ((s.2.2.2.2.2.length:Nat):Int)) (some ((s.2.2.2.2.2.length:Nat):Int))) fun x0=>
   bif (yS x0.length ((a0::[]).length) 144) then some (0,(((s.1,(s.2.1,(s.2.2.1,(s.2.2.2.1,(s.2.2.2.2.1,(x0++(a0::[]))))))),()),()))
   else none
  else some (0,((s,()),()))) fun x1=>
 some (x1.2.1.1,())
theorem ziI  (s:za) (a0:zI):sP Tryz.prog ⟨[],[]⟩ [] GO (zN []) 30 52 ze qf qg s (a0,())=Xt  s a0:=by kernel_rfl
def ql:za→(zI×Unit)→Option (za×(Unit)):=sP Tryz.prog ⟨[],[]⟩ [] GO (zN []) 30 52 ze qf qg
theorem uf:yC.Ok Tryz.prog 52 ⟨ze,qf,qg,ql⟩:=xc ⟨qu,qW⟩ zh zm (by kernel_rfl)
theorem zfV (s:za) (a0:zI):ql s (a0,())=Xt  s a0:=ziI  s a0
abbrev qL:List VT:=[⟨true,jH⟩]
abbrev qM:List VT:=[]
def KL:zZ:=zQ [cdF ze,cdF qv,cdF jH,cdF zz,cdF zu] [] [] [] [52]
def JV (zM:za→(zI×Unit)→Option (za×(Unit))) (s:za) (a0:wc):Option (za×(Unit)):=
 bif zj a0.2.2.1 1 then opt (zM s ((1,(a0.1,(a0.2.1,(0,(true,(a0.2.2.2.1,0)))))),())) fun x0=>
  some (x0.1,())
 else bif zj a0.2.2.1 4 then opt (zM s ((1,(a0.1,(a0.2.1,(0,(false,((0,(0,(0,(0,(0,(0,((0,0),(0,[])))))))),0)))))),())) fun x1=>
   some (x1.1,())
  else some (s,())
theorem zfW (zM:za→(zI×Unit)→Option (za×(Unit))) (s:za) (a0:wc):sP Tryz.prog ⟨[],[(52,⟨ze,qf,qg,zM⟩)]⟩ [] KL (fun _ _=>false) 30 33 ze qL qM s (a0,())=JV zM s a0:=by kernel_rfl
def wO:za→(wc×Unit)→Option (za×(Unit)):=sP Tryz.prog ⟨[],[(52,⟨ze,qf,qg,ql⟩)]⟩ [] KL (fun _ _=>false) 30 33 ze qL qM
theorem Qm:yC.Ok Tryz.prog 33 ⟨ze,qL,qM,wO⟩:=xc ⟨qu,(zP uf qW)⟩ zh zm (by kernel_rfl)
theorem zdm (s:za) (a0:wc):wO s (a0,())=JV ql s a0:=zfW ql s a0
abbrev vh:List VT:=[⟨true,zz⟩]
abbrev vi:List VT:=[⟨false,I⟩]
def ziJ:zZ:=zQ [cdF ze,cdF jH,cdF zz,cdF zu] [] [] [] [33]
def Jl:za→(zD×Unit)→Option (za×(Int×Unit)):=sP Tryz.prog ⟨[],[(24,⟨ze,qJ,qK,we⟩),(33,⟨ze,qL,qM,wO⟩)]⟩ [(75,⟨jQ,jR,ym⟩)] ziJ (zN []) 30 43 ze vh vi
theorem zgE:yC.Ok Tryz.prog 43 ⟨ze,vh,vi,Jl⟩:=xc ⟨qu,(zP gC (zP Qm qW))⟩ (zf WG zh) zm (by kernel_rfl)
abbrev yW:List VT:=[⟨false,I⟩]
abbrev yX:List VT:=[⟨false,I⟩]
def zfX:zZ:=zQ [cdF ze,cdF jH,cdF zz,cdF zu] [] [] [] [33]
def gV:za→(Int×Unit)→Option (za×(Int×Unit)):=sP Tryz.prog ⟨[],[(24,⟨ze,qJ,qK,we⟩),(33,⟨ze,qL,qM,wO⟩)]⟩ [(75,⟨jQ,jR,ym⟩)] zfX (zN []) 30 44 ze yW yX
theorem zee:yC.Ok Tryz.prog 44 ⟨ze,yW,yX,gV⟩:=xc ⟨qu,(zP gC (zP Qm qW))⟩ (zf WG zh) zm (by kernel_rfl)
abbrev ya:List VT:=[⟨false,(.list qv)⟩,⟨false,I⟩]
abbrev yb:List VT:=[⟨false,(.list qv)⟩]
def zdn:zZ:=zQ [] [] [] [] []
def QT (a0:(List zI)) (a1:Int):Option ((List zI)×Unit):=
 opt (ux a0 none (some a1) (some a1)) fun x0=>
 opt (ux a0 (some (wrF .i64 (a1+1))) none none) fun x1=>
 bif yS x0.length x1.length 144 then some ((x0++x1),())
 else none
abbrev QU:Type:=((List zI)×Int×Unit)→Option ((List zI)×Unit)
def VX:QU:=sF Tryz.prog [] zdn (zN []) 30 53 ya yb
theorem zef (a0) (a1):VX (a0,a1,())=QT a0 a1:=by kernel_rfl
def yc:QU:=VX
theorem zb1:Con.Ok Tryz.prog 53 ⟨ya,yb,yc⟩:=zv zh zm (by kernel_rfl)
theorem zb2 (a0) (a1):yc (a0,a1,())=QT  a0 a1:=zef  a0 a1
abbrev jd:List VT:=[⟨false,I⟩]
abbrev je:List VT:=[⟨false,I⟩,⟨true,jv⟩,⟨false,.bool⟩]
def Ut:zZ:=zQ [cdF ze,cdF jv] [] [] [] [37]
def WH (jt:JT) (s:za) (a0:Int):Option (za×(Int×qy×Bool×Unit)):=
 opt (qb (fun s0:((Int×(Int×(Bool×(Int×Unit))))×Unit)=>
  bif (zr s0.1.2.2.2.1 ((s.2.2.2.1.length:Nat):Int)) then opt (atI s.2.2.2.1 s0.1.2.2.2.1) fun x1=>
   opt (jt (x1.1,(s0.1.1,()))) fun x2=>
   bif !(zr x2.1 0) then some (.inl (1,((s0.1.1,(s0.1.2.2.2.1,((zj x2.1 0),(s0.1.2.2.2.1,())))),())))
   else some (.inr ((s0.1.1,(s0.1.2.1,(s0.1.2.2.1,((wrF .i64 (s0.1.2.2.2.1+1)),())))),()))
  else some (.inl (0,((s0.1.1,(s0.1.2.1,(s0.1.2.2.1,(s0.1.2.2.2.1,())))),())))) qw ((a0,(0,(false,(0,())))),())) fun x3=>
 bif Nat.beq x3.1 0 then some (s,(((s.2.2.2.1.length:Nat):Int),((x3.2.1.1,(0,(0,(0,[])))),(false,()))))
 else bif !x3.2.1.2.2.1 then some (s,(x3.2.1.2.1,((x3.2.1.1,(0,(0,(0,[])))),(false,()))))
  else opt (atI s.2.2.2.1 x3.2.1.2.1) fun x4=>
   some (s,(x3.2.1.2.1,(x4,(true,()))))
theorem zgF (jt:(Int×Int×Unit)→Option (Int×Unit)) (s:za) (a0:Int):sP Tryz.prog ⟨[],[]⟩ [(37,⟨wu,wv,jt⟩)] Ut (zN []) 30 107 ze jd je s (a0,())=WH jt s a0:=by kernel_rfl
def jC:za→(Int×Unit)→Option (za×(Int×qy×Bool×Unit)):=sP Tryz.prog ⟨[],[]⟩ [(37,⟨wu,wv,jb⟩)] Ut (zN []) 30 107 ze jd je
theorem VY:yC.Ok Tryz.prog 107 ⟨ze,jd,je,jC⟩:=xc ⟨qu,qW⟩ (zf Kt zh) zm (by kernel_rfl)
theorem zeg (s:za) (a0:Int):jC s (a0,())=WH jb s a0:=zgF jb s a0
abbrev jf:List VT:=[⟨true,jv⟩]
abbrev jg:List VT:=[]
def Uu:zZ:=zQ [cdF ze,cdF qv,cdF zz,cdF jv,cdF zu] [] [] [] [52]
def WI (zM:za→(zI×Unit)→Option (za×(Unit))) (s:za) (a0:qy):Option (za×(Unit)):=
 bif zj a0.2.2.1 2 then opt (zM s ((5,(a0.1,(a0.2.1,(0,(false,((0,(0,(0,(0,(0,(0,((0,0),(0,[])))))))),0)))))),())) fun x0=>
  some (x0.1,())
 else bif zj a0.2.2.1 3 then opt (zM s ((6,(a0.1,(a0.2.1,(0,(false,((0,(0,(0,(0,(0,(0,((0,0),(0,[])))))))),a0.2.2.2.1)))))),())) fun x1=>
   some (x1.1,())
  else bif zj a0.2.2.1 5 then opt (zM s ((7,(a0.1,(a0.2.1,(0,(false,((0,(0,(0,(0,(0,(0,((0,0),(0,[])))))))),0)))))),())) fun x2=>
    some (x2.1,())
   else some (s,())
theorem zgG (zM:za→(zI×Unit)→Option (za×(Unit))) (s:za) (a0:qy):sP Tryz.prog ⟨[],[(52,⟨ze,qf,qg,zM⟩)]⟩ [] Uu (fun _ _=>false) 30 108 ze jf jg s (a0,())=WI zM s a0:=by kernel_rfl
def jh:za→(qy×Unit)→Option (za×(Unit)):=sP Tryz.prog ⟨[],[(52,⟨ze,qf,qg,ql⟩)]⟩ [] Uu (fun _ _=>false) 30 108 ze jf jg
theorem VZ:yC.Ok Tryz.prog 108 ⟨ze,jf,jg,jh⟩:=xc ⟨qu,(zP uf qW)⟩ zh zm (by kernel_rfl)
theorem zeh (s:za) (a0:qy):jh s (a0,())=WI ql s a0:=zgG ql s a0
abbrev Qn:List VT:=[⟨true,zR⟩,⟨false,I⟩]
abbrev Qo:List VT:=[⟨false,.bool⟩]
def zoP:zZ:=zQ [cdF zR,cdF qp] [] [] [] [63]
def zaW (qd:uA) (a0:qj) (a1:Int):Option (Bool×Unit):=
 opt (qd (a1,(0,((wrF .i64 (a0.1 - 1)),())))) fun x0=>
 bif x0.1 then opt (atI a0.2.1 a1) fun x1=>
  some (x1,())
 else some (false,())
abbrev Ku:Type:=(qj×Int×Unit)→Option (Bool×Unit)
def zgH:uA→Ku:=fun qd=>sF Tryz.prog [(63,⟨xR,xS,qd⟩)] zoP (zN []) 30 65 Qn Qo
theorem zql (qd) (a0) (a1):zgH qd (a0,a1,())=zaW qd a0 a1:=by kernel_rfl
def Qp:Ku:=zgH yv
theorem zlP:Con.Ok Tryz.prog 65 ⟨Qn,Qo,Qp⟩:=zv (zf Ui zh) zm (by kernel_rfl)
theorem zlQ (a0) (a1):Qp (a0,a1,())=zaW yv a0 a1:=zql yv a0 a1
abbrev ku:List VT:=[⟨false,I⟩,⟨false,I⟩,⟨false,I⟩]
abbrev kx:List VT:=[⟨false,.bool⟩]
def zkI:zZ:=zQ [] [] [] [] []
def Ul (a0:Int) (a1:Int) (a2:Int):Option (Bool×Unit):=
 bif !(zr a0 a1) then some ((!(zr a2 a0)),())
 else some (false,())
abbrev Yc:Type:=(Int×Int×Int×Unit)→Option (Bool×Unit)
def zcT:Yc:=sF Tryz.prog [] zkI (zN []) 30 98 ku kx
theorem zlR (a0) (a1) (a2):zcT (a0,a1,a2,())=Ul a0 a1 a2:=by kernel_rfl
def ky:Yc:=zcT
theorem ziK:Con.Ok Tryz.prog 98 ⟨ku,kx,ky⟩:=zv zh zm (by kernel_rfl)
theorem ziL (a0) (a1) (a2):ky (a0,a1,a2,())=Ul  a0 a1 a2:=zlR  a0 a1 a2
abbrev xx:List VT:=[⟨true,zu⟩]
abbrev xy:List VT:=[⟨false,I⟩]
def zrZ:zZ:=zQ [cdF zu] [] [] [] [98]
def zdo (ud:Yc) (a0:jM):Option (Int×Unit):=
 opt (opt (ud (a0.1,(1,(1048576,())))) fun x0=>
  bif !x0.1 then some (1,((130,()),()))
  else opt (ud (a0.2,(1,(2097152,())))) fun x1=>
   bif !x1.1 then some (1,((130,()),()))
   else some (0,((0,()),()))) fun x2=>
 bif Nat.beq x2.1 0 then some (0,())
 else some (x2.2.1.1,())
abbrev vX:Type:=(jM×Unit)→Option (Int×Unit)
def zjn:Yc→vX:=fun ud=>sF Tryz.prog [(98,⟨ku,kx,ud⟩)] zrZ (zN []) 30 69 xx xy
theorem ztN (ud) (a0):zjn ud (a0,())=zdo ud a0:=by kernel_rfl
def wR:vX:=zjn ky
theorem XF:Con.Ok Tryz.prog 69 ⟨xx,xy,wR⟩:=zv (zf ziK zh) zm (by kernel_rfl)
theorem zoQ (a0):wR (a0,())=zdo ky a0:=ztN ky a0
abbrev vC:List VT:=[⟨true,XW⟩,⟨false,(.list I)⟩]
abbrev vD:List VT:=[⟨false,(.list I)⟩]
def zlS:zZ:=zQ [cdF XW,cdF qp,cdF zpA] [] [⟨5,30,some 4,I,false⟩,⟨5,30,none,I,true⟩,⟨5,30,some 5,I,true⟩,⟨1,54,none,I,true⟩,⟨3,54,none,I,true⟩,⟨6,54,none,I,true⟩,⟨8,54,none,I,true⟩,⟨0,54,none,I,true⟩] [(5,30,5,[0])] []
def UX (a0:QL) (a1:(List Int)):Option ((List Int)×Unit):=
 bif (zp4 0 (wrF .i64 (((a1.length:Nat):Int)+1)) 8) then opt (qb (fun s0:((Int×Unit)×(((List Int)×Unit)×(Unit×(Unit×Unit))))=>
   bif (zr s0.1.1 ((a1.length:Nat):Int)) then opt (atI a1 s0.1.1) fun x1=>
    bif zr x1 0 then some (.inl (0,((s0.1.1,()),((s0.2.1.1,()),((),((),()))))))
    else bif (!(zr x1 (wrF .i64 (2*((a0.2.2.length:Nat):Int))))) then some (.inl (0,((s0.1.1,()),((s0.2.1.1,()),((),((),()))))))
     else opt (atI a0.2.2 (wrF .i64 (Int.tdiv x1 2))) fun x2=>
      opt (bif zj (Int.tmod x1 2) 1 then some (0,(((x1,(x2.2.1,x2.1)),()),((),((),()))))
       else some (0,(((x1,(x2.1,x2.2.1)),()),((),((),()))))) fun x3=>
      opt (bif zj s0.1.1 0 then bif (yS s0.2.1.1.length ((x3.2.1.1.2.1::[]).length) 8) then some (0,((),(((s0.2.1.1++(x3.2.1.1.2.1::[])),()),((),()))))
        else none
       else some (0,((),((s0.2.1.1,()),((),()))))) fun x4=>
      bif (yS x4.2.2.1.1.length ((x3.2.1.1.2.2::[]).length) 8) then some (.inr (((wrF .i64 (s0.1.1+1)),()),(((x4.2.2.1.1++(x3.2.1.1.2.2::[])),()),((),((),())))))
      else none
   else some (.inl (0,((s0.1.1,()),((s0.2.1.1,()),((),((),()))))))) qw ((0,()),(((List.replicate (Int.toNat 0) 0),()),((),((),()))))) fun x5=>
  some (x5.2.2.1.1,())
 else none
abbrev kZ:Type:=(QL×(List Int)×Unit)→Option ((List Int)×Unit)
def zei:kZ:=sF Tryz.prog [] zlS (zN []) 30 78 vC vD
theorem znf (a0) (a1):zei (a0,a1,())=UX a0 a1:=by kernel_rfl
def xK:kZ:=zei
theorem zbm:Con.Ok Tryz.prog 78 ⟨vC,vD,xK⟩:=zv zh zm (by kernel_rfl)
theorem zjo (a0) (a1):xK (a0,a1,())=UX  a0 a1:=znf  a0 a1
abbrev vE:List VT:=[⟨true,XW⟩,⟨false,(.list I)⟩]
abbrev vF:List VT:=[⟨false,.bool⟩]
def zlT:zZ:=zQ [⟨(.pair .bool (.pair .bool (.pair .bool (.pair .bool (.pair .bool (.pair .bool (.pair .bool (.pair .bool (.pair .bool (.pair .bool (.pair .bool .bool))))))))))),zd9 (.pair .bool (.pair .bool (.pair .bool (.pair .bool (.pair .bool (.pair .bool (.pair .bool (.pair .bool (.pair .bool (.pair .bool (.pair .bool .bool))))))))))),[]⟩,cdF XW,cdF qp,cdF zpA] [] [] [] []
def UY (a0:QL) (a1:(List Int)):Option (Bool×Unit):=
 opt (bif (zr ((a1.length:Nat):Int) 1) then some (1,((false,()),()))
  else bif (zr 8 ((a1.length:Nat):Int)) then some (1,((false,()),()))
   else some (0,((false,()),()))) fun x0=>
 bif Nat.beq x0.1 0 then opt (qb (fun s1:((Int×(Int×(Int×Unit)))×((List Bool)×(Unit×(Unit×Unit))))=>
   bif (zr s1.1.2.2.1 ((a1.length:Nat):Int)) then opt (atI a1 s1.1.2.2.1) fun x2=>
    bif zr x2 0 then some (.inl (0,((s1.1.1,(s1.1.2.1,(s1.1.2.2.1,()))),(s1.2.1,((),((),()))))))
    else bif (!(zr x2 (wrF .i64 (2*((a0.2.2.length:Nat):Int))))) then some (.inl (0,((s1.1.1,(s1.1.2.1,(s1.1.2.2.1,()))),(s1.2.1,((),((),()))))))
     else opt (atI a0.2.2 (wrF .i64 (Int.tdiv x2 2))) fun x3=>
      opt (bif zj (Int.tmod x2 2) 1 then some (0,(((x2,(x3.2.1,x3.1)),()),((),((),()))))
       else some (0,(((x2,(x3.1,x3.2.1)),()),((),((),()))))) fun x4=>
      bif Nat.beq x4.1 0 then opt (bif zj s1.1.2.2.1 0 then bif zr x4.2.1.1.2.1 12 then opt (atI s1.2.1 x4.2.1.1.2.1) fun x5=>
          opt (gl s1.2.1 (Int.toNat x4.2.1.1.2.1)) fun x6=>
          some (0,((),((s1.2.1.set (Int.toNat x4.2.1.1.2.1) true),((),()))))
         else none
        else bif !(zj x4.2.1.1.2.1 s1.1.1) then some (1,((),(s1.2.1,((),()))))
         else opt (atI a0.2.1 s1.1.1) fun x7=>
          bif x7 then some (1,((),(s1.2.1,((),()))))
          else some (0,((),(s1.2.1,((),()))))) fun x8=>
       bif Nat.beq x8.1 0 then bif zr x4.2.1.1.2.2 12 then opt (atI x8.2.2.1 x4.2.1.1.2.2) fun x9=>
         opt (gl x8.2.2.1 (Int.toNat x4.2.1.1.2.2)) fun x10=>
         bif x10 then some (.inl (1,((s1.1.1,(s1.1.2.1,(s1.1.2.2.1,()))),(x8.2.2.1,((),((),()))))))
         else bif zr x4.2.1.1.2.2 12 then opt (atI x8.2.2.1 x4.2.1.1.2.2) fun x11=>
           opt (gl x8.2.2.1 (Int.toNat x4.2.1.1.2.2)) fun x12=>
           some (.inr ((x4.2.1.1.2.2,((wrF .i64 (s1.1.2.1+1)),((wrF .i64 (s1.1.2.2.1+1)),()))),((x8.2.2.1.set (Int.toNat x4.2.1.1.2.2) true),((),((),())))))
          else none
        else none
       else some (.inl (1,((s1.1.1,(s1.1.2.1,(s1.1.2.2.1,()))),(x8.2.2.1,((),((),()))))))
      else none
   else some (.inl (0,((s1.1.1,(s1.1.2.1,(s1.1.2.2.1,()))),(s1.2.1,((),((),()))))))) qw ((0,(0,(0,()))),((List.replicate 12 false),((),((),()))))) fun x13=>
  bif Nat.beq x13.1 0 then some ((zj x13.2.1.2.1 ((a1.length:Nat):Int)),())
  else some ((zj x13.2.1.2.1 ((a1.length:Nat):Int)),())
 else some (x0.2.1.1,())
abbrev gb:Type:=(QL×(List Int)×Unit)→Option (Bool×Unit)
def zej:gb:=sF Tryz.prog [] zlT (zN []) 30 102 vE vF
theorem zng (a0) (a1):zej (a0,a1,())=UY a0 a1:=by kernel_rfl
def xL:gb:=zej
theorem zbn:Con.Ok Tryz.prog 102 ⟨vE,vF,xL⟩:=zv zh zm (by kernel_rfl)
theorem zjp (a0) (a1):xL (a0,a1,())=UY  a0 a1:=zng  a0 a1
abbrev ZQ:List VT:=[⟨true,zR⟩,⟨false,(.list I)⟩]
abbrev ZR:List VT:=[⟨false,I⟩]
def ztO:zZ:=zQ [cdF zR,cdF qp] [] [] [] [41,102]
def zeM (zY:xJ) (jV:gb) (a0:qj) (a1:(List Int)):Option (Int×Unit):=
 opt (zY (a0,())) fun x0=>
 bif !(zj x0.1 0) then some (x0.1,())
 else opt (jV (a0,(a1,()))) fun x1=>
  bif !x1.1 then some (310,())
  else some (0,())
abbrev Yr:Type:=(qj×(List Int)×Unit)→Option (Int×Unit)
def zln:xJ→gb→Yr:=fun zY jV=>sF Tryz.prog [(41,⟨wL,wM,zY⟩),(102,⟨vE,vF,jV⟩)] ztO (zN []) 30 105 ZQ ZR
theorem zvx (zY) (jV) (a0) (a1):zln zY jV (a0,a1,())=zeM zY jV a0 a1:=by kernel_rfl
def kJ:Yr:=zln jB xL
theorem zgI:Con.Ok Tryz.prog 105 ⟨ZQ,ZR,kJ⟩:=zv (zf Ji (zf zbn zh)) zm (by kernel_rfl)
theorem zqm (a0) (a1):kJ (a0,a1,())=zeM jB xL a0 a1:=zvx jB xL a0 a1
abbrev uK:List VT:=[⟨true,zR⟩,⟨false,(.list I)⟩]
abbrev uL:List VT:=[⟨false,(.list I)⟩,⟨false,I⟩]
def ztP:zZ:=zQ [cdF zR,cdF qp] [] [⟨3,23,some 6,I,false⟩,⟨3,23,some 8,I,false⟩] [] [105]
def zeN (jy:kZ) (xD:Yr) (a0:qj) (a1:(List Int)):Option ((List Int)×Int×Unit):=
 opt (xD (a0,(a1,()))) fun x0=>
 bif !(zj x0.1 0) then some ([],(x0.1,()))
 else opt (jy (a0,(a1,()))) fun x1=>
  some (x1.1,(0,()))
abbrev KM:Type:=(qj×(List Int)×Unit)→Option ((List Int)×Int×Unit)
def zlo:kZ→Yr→KM:=fun jy xD=>sF Tryz.prog [(78,⟨vC,vD,jy⟩),(105,⟨ZQ,ZR,xD⟩)] ztP (zN []) 30 49 uK uL
theorem zvy (jy) (xD) (a0) (a1):zlo jy xD (a0,a1,())=zeN jy xD a0 a1:=by kernel_rfl
def xX:KM:=zlo xK kJ
theorem zaX:Con.Ok Tryz.prog 49 ⟨uK,uL,xX⟩:=zv (zf zbm (zf zgI zh)) zm (by kernel_rfl)
theorem zqn (a0) (a1):xX (a0,a1,())=zeN xK kJ a0 a1:=zvy xK kJ a0 a1
abbrev Ve:List VT:=[⟨true,zR⟩,⟨false,(.list I)⟩]
abbrev Vf:List VT:=[⟨false,I⟩,⟨false,I⟩,⟨false,I⟩]
def zvz:zZ:=zQ [cdF zR,cdF qp] [] [] [] []
def zgJ (vQ:KM) (a0:qj) (a1:(List Int)):Option (Int×Int×Int×Unit):=
 opt (vQ (a0,(a1,()))) fun x0=>
 bif !(zj x0.2.1 0) then some (0,(0,(x0.2.1,())))
 else opt (atI x0.1 0) fun x1=>
  opt (atI x0.1 (wrF .i64 (((x0.1.length:Nat):Int) - 1))) fun x2=>
  some (x1,(x2,(0,())))
abbrev zb3:Type:=(qj×(List Int)×Unit)→Option (Int×Int×Int×Unit)
def znh:KM→zb3:=fun vQ=>sF Tryz.prog [(49,⟨uK,uL,vQ⟩)] zvz (zN []) 30 99 Ve Vf
theorem zxZ (vQ) (a0) (a1):znh vQ (a0,a1,())=zgJ vQ a0 a1:=by kernel_rfl
def Vg:zb3:=znh xX
theorem zr0:Con.Ok Tryz.prog 99 ⟨Ve,Vf,Vg⟩:=zv (zf zaX zh) zm (by kernel_rfl)
theorem zr1 (a0) (a1):Vg (a0,a1,())=zgJ xX a0 a1:=zxZ xX a0 a1
abbrev Wd:List VT:=[⟨true,zR⟩,⟨false,(.list I)⟩,⟨false,I⟩,⟨false,I⟩]
abbrev We:List VT:=[⟨false,.bool⟩]
def zr2:zZ:=zQ [cdF zR,cdF qp] [] [] [] [99]
def zdp (VP:zb3) (a0:qj) (a1:(List Int)) (a2:Int) (a3:Int):Option (Bool×Unit):=
 opt (VP (a0,(a1,()))) fun x0=>
 bif zj x0.2.2.1 0 then bif zj x0.1 a2 then some ((zj x0.2.1 a3),())
  else some (false,())
 else some (false,())
abbrev GF:Type:=(qj×(List Int)×Int×Int×Unit)→Option (Bool×Unit)
def zjq:zb3→GF:=fun VP=>sF Tryz.prog [(99,⟨Ve,Vf,VP⟩)] zr2 (zN []) 30 72 Wd We
theorem ztQ (VP) (a0) (a1) (a2) (a3):zjq VP (a0,a1,a2,a3,())=zdp VP a0 a1 a2 a3:=by kernel_rfl
def Qq:GF:=zjq Vg
theorem zoR:Con.Ok Tryz.prog 72 ⟨Wd,We,Qq⟩:=zv (zf zr0 zh) zm (by kernel_rfl)
theorem zoS (a0) (a1) (a2) (a3):Qq (a0,a1,a2,a3,())=zdp Vg a0 a1 a2 a3:=ztQ Vg a0 a1 a2 a3
abbrev Wf:List VT:=[⟨false,(.list I)⟩,⟨false,(.list I)⟩]
abbrev Wg:List VT:=[⟨false,.bool⟩]
def zr3:zZ:=zQ [] [] [] [] []
def zdq (a0:(List Int)) (a1:(List Int)):Option (Bool×Unit):=
 opt (qb (fun s0:((Bool×(Int×Unit))×Unit)=>
  bif (zr s0.1.2.1 ((a0.length:Nat):Int)) then opt (atI a0 s0.1.2.1) fun x1=>
   opt (qb (fun s2:((Bool×(Int×Unit))×Unit)=>
    bif (zr s2.1.2.1 ((a1.length:Nat):Int)) then opt (atI a1 s2.1.2.1) fun x3=>
     bif (zj (wrF .i64 (Int.tdiv x1 2)) (wrF .i64 (Int.tdiv x3 2))) then some (.inl (1,((true,(s2.1.2.1,())),())))
     else some (.inr ((s2.1.1,((wrF .i64 (s2.1.2.1+1)),())),()))
    else some (.inl (0,((s2.1.1,(s2.1.2.1,())),())))) qw ((s0.1.1,(0,())),())) fun x4=>
   bif Nat.beq x4.1 0 then some (.inr ((x4.2.1.1,((wrF .i64 (s0.1.2.1+1)),())),()))
   else some (.inl (1,((x4.2.1.1,(s0.1.2.1,())),())))
  else some (.inl (0,((s0.1.1,(s0.1.2.1,())),())))) qw ((false,(0,())),())) fun x5=>
 bif Nat.beq x5.1 0 then some (false,())
 else some (x5.2.1.1,())
abbrev GG:Type:=((List Int)×(List Int)×Unit)→Option (Bool×Unit)
def zjr:GG:=sF Tryz.prog [] zr3 (zN []) 30 103 Wf Wg
theorem ztR (a0) (a1):zjr (a0,a1,())=zdq a0 a1:=by kernel_rfl
def Wh:GG:=zjr
theorem zoT:Con.Ok Tryz.prog 103 ⟨Wf,Wg,Wh⟩:=zv zh zm (by kernel_rfl)
theorem zoU (a0) (a1):Wh (a0,a1,())=zdq  a0 a1:=ztR  a0 a1
abbrev wi:List VT:=[⟨false,(.list I)⟩,⟨false,I⟩]
abbrev wj:List VT:=[⟨false,I⟩]
def zfY:zZ:=zQ [] [] [] [] []
def gW (a0:(List Int)) (a1:Int):Option (Int×Unit):=
 opt (qb (fun s0:((Int×(Int×Unit))×Unit)=>
  bif (zr s0.1.2.1 ((a0.length:Nat):Int)) then opt (atI a0 s0.1.2.1) fun x1=>
   bif zj a1 x1 then some (.inl (1,((s0.1.2.1,(s0.1.2.1,())),())))
   else some (.inr ((s0.1.1,((wrF .i64 (s0.1.2.1+1)),())),()))
  else some (.inl (0,((s0.1.1,(s0.1.2.1,())),())))) qw ((0,(0,())),())) fun x2=>
 bif Nat.beq x2.1 0 then some ((-1),())
 else some (x2.2.1.1,())
abbrev uB:Type:=((List Int)×Int×Unit)→Option (Int×Unit)
def UZ:uB:=sF Tryz.prog [] zfY (zN []) 30 114 wi wj
theorem zgK (a0) (a1):UZ (a0,a1,())=gW a0 a1:=by kernel_rfl
def qI:uB:=UZ
theorem Ka:Con.Ok Tryz.prog 114 ⟨wi,wj,qI⟩:=zv zh zm (by kernel_rfl)
theorem Kb (a0) (a1):qI (a0,a1,())=gW  a0 a1:=zgK  a0 a1
abbrev xg:List VT:=[⟨false,(.list I)⟩,⟨false,I⟩]
abbrev xh:List VT:=[⟨false,.bool⟩]
def zdr:zZ:=zQ [] [] [] [] [114]
def QV (qV:uB) (a0:(List Int)) (a1:Int):Option (Bool×Unit):=
 opt (qV (a0,(a1,()))) fun x0=>
 some ((!(zr x0.1 0)),())
abbrev kg:Type:=((List Int)×Int×Unit)→Option (Bool×Unit)
def Kc:uB→kg:=fun qV=>sF Tryz.prog [(114,⟨wi,wj,qV⟩)] zdr (zN []) 30 136 xg xh
theorem zek (qV) (a0) (a1):Kc qV (a0,a1,())=QV qV a0 a1:=by kernel_rfl
def xi:kg:=Kc qI
theorem zb4:Con.Ok Tryz.prog 136 ⟨xg,xh,xi⟩:=zv (zf Ka zh) zm (by kernel_rfl)
theorem zb5 (a0) (a1):xi (a0,a1,())=QV qI a0 a1:=zek qI a0 a1
abbrev gf:List VT:=[⟨true,XW⟩,⟨false,(.list I)⟩,⟨false,(.list I)⟩]
abbrev gg:List VT:=[⟨false,.bool⟩]
def zlU:zZ:=zQ [cdF XW] [] [] [] [136]
def Ga (jy:kZ) (xl:kg) (a0:QL) (a1:(List Int)) (a2:(List Int)):Option (Bool×Unit):=
 opt (jy (a0,(a1,()))) fun x0=>
 opt (jy (a0,(a2,()))) fun x1=>
 opt (ux x0.1 (some 1) (some (wrF .i64 (((x0.1.length:Nat):Int) - 1))) (some (wrF .i64 (((x0.1.length:Nat):Int) - 1)))) fun x2=>
 opt (qb (fun s3:((Bool×(Int×Unit))×Unit)=>
  bif (zr s3.1.2.1 ((x2.length:Nat):Int)) then opt (atI x2 s3.1.2.1) fun x4=>
   opt (xl (x1.1,(x4,()))) fun x5=>
   bif x5.1 then some (.inl (1,((true,(s3.1.2.1,())),())))
   else some (.inr ((s3.1.1,((wrF .i64 (s3.1.2.1+1)),())),()))
  else some (.inl (0,((s3.1.1,(s3.1.2.1,())),())))) qw ((false,(0,())),())) fun x6=>
 bif Nat.beq x6.1 0 then some (false,())
 else some (x6.2.1.1,())
abbrev Xc:Type:=(QL×(List Int)×(List Int)×Unit)→Option (Bool×Unit)
def zel:kZ→kg→Xc:=fun jy xl=>sF Tryz.prog [(78,⟨vC,vD,jy⟩),(136,⟨xg,xh,xl⟩)] zlU (zN []) 30 104 gf gg
theorem zni (jy) (xl) (a0) (a1) (a2):zel jy xl (a0,a1,a2,())=Ga jy xl a0 a1 a2:=by kernel_rfl
def gi:Xc:=zel xK xi
theorem zjs:Con.Ok Tryz.prog 104 ⟨gf,gg,gi⟩:=zv (zf zbm (zf zb4 zh)) zm (by kernel_rfl)
theorem zjt (a0) (a1) (a2):gi (a0,a1,a2,())=Ga xK xi a0 a1 a2:=zni xK xi a0 a1 a2
abbrev Ys:List VT:=[⟨true,zR⟩,⟨false,(.list I)⟩,⟨false,(.list I)⟩]
abbrev Yt:List VT:=[⟨false,.bool⟩,⟨false,I⟩]
def ztS:zZ:=zQ [cdF zR,cdF qp] [] [] [] [102,103,104,105]
def zeO (jV:gb) (Ws:GG) (uH:Xc) (xD:Yr) (a0:qj) (a1:(List Int)) (a2:(List Int)):Option (Bool×Int×Unit):=
 opt (xD (a0,(a1,()))) fun x0=>
 bif !(zj x0.1 0) then some (false,(x0.1,()))
 else opt (jV (a0,(a2,()))) fun x1=>
  bif !x1.1 then some (false,(310,()))
  else opt (Ws (a1,(a2,()))) fun x2=>
   bif !x2.1 then opt (uH (a0,(a1,(a2,())))) fun x3=>
    bif !x3.1 then opt (uH (a0,(a2,(a1,())))) fun x4=>
     some ((!x4.1),(0,()))
    else some (false,(0,()))
   else some (false,(0,()))
abbrev zay:Type:=(qj×(List Int)×(List Int)×Unit)→Option (Bool×Int×Unit)
def zlp:gb→GG→Xc→Yr→zay:=fun jV Ws uH xD=>sF Tryz.prog [(102,⟨vE,vF,jV⟩),(103,⟨Wf,Wg,Ws⟩),(104,⟨gf,gg,uH⟩),(105,⟨ZQ,ZR,xD⟩)] ztS (zN []) 30 74 Ys Yt
theorem zvA (jV) (Ws) (uH) (xD) (a0) (a1) (a2):zlp jV Ws uH xD (a0,a1,a2,())=zeO jV Ws uH xD a0 a1 a2:=by kernel_rfl
def ZS:zay:=zlp xL Wh gi kJ
theorem zqo:Con.Ok Tryz.prog 74 ⟨Ys,Yt,ZS⟩:=zv (zf zbn (zf zoT (zf zjs (zf zgI zh)))) zm (by kernel_rfl)
theorem zqp (a0) (a1) (a2):ZS (a0,a1,a2,())=zeO xL Wh gi kJ a0 a1 a2:=zvA xL Wh gi kJ a0 a1 a2
abbrev gk:List VT:=[⟨true,zR⟩,⟨true,zz⟩]
abbrev gm:List VT:=[⟨false,.bool⟩]
def zr4:zZ:=zQ [cdF zz,cdF zR,cdF qp,cdF zu] [] [] [] [63,65,69,72,74]
def zds (qd:uA) (kX:Ku) (qt:vX) (QH:GF) (kP:zay) (a0:qj) (a1:zD):Option (Bool×Unit):=
 opt (qd (a1.1,(1,(4095,())))) fun x0=>
 bif !x0.1 then some (false,())
 else opt (kX (a0,(a1.2.1,()))) fun x1=>
  bif x1.1 then opt (kX (a0,(a1.2.2.1,()))) fun x2=>
   bif x2.1 then bif (!(!(zj a1.2.1 a1.2.2.1))) then some (false,())
    else opt (qd (a1.2.2.2.2.1,(84,(1542,())))) fun x3=>
     bif !x3.1 then some (false,())
     else opt (qd (a1.2.2.2.2.2.2.2.1,(1,(1099511627776,())))) fun x4=>
      bif !x4.1 then some (false,())
      else bif zj a1.2.2.2.1 7 then opt (qd (a1.2.2.2.2.2.1,(1,(240,())))) fun x5=>
        bif x5.1 then bif (!((zj a1.2.2.2.2.2.2.1.1 0)&&((zj a1.2.2.2.2.2.2.1.2 0)&&true))) then some (false,())
         else opt (qd (((a1.2.2.2.2.2.2.2.2.length:Nat):Int),(1,(2,())))) fun x6=>
          bif !x6.1 then some (false,())
          else opt (qb (fun s7:((Bool×(Int×Unit))×Unit)=>
            bif (zr s7.1.2.1 ((a1.2.2.2.2.2.2.2.2.length:Nat):Int)) then opt (atI a1.2.2.2.2.2.2.2.2 s7.1.2.1) fun x8=>
             opt (QH (a0,(x8,(a1.2.1,(a1.2.2.1,()))))) fun x9=>
             bif !x9.1 then some (.inl (1,((false,(s7.1.2.1,())),())))
             else some (.inr ((s7.1.1,((wrF .i64 (s7.1.2.1+1)),())),()))
            else some (.inl (0,((s7.1.1,(s7.1.2.1,())),())))) qw ((false,(0,())),())) fun x10=>
           bif Nat.beq x10.1 0 then bif (zr ((a1.2.2.2.2.2.2.2.2.length:Nat):Int) 2) then some (true,())
            else opt (atI a1.2.2.2.2.2.2.2.2 0) fun x11=>
             opt (atI a1.2.2.2.2.2.2.2.2 1) fun x12=>
             opt (kP (a0,(x11,(x12,())))) fun x13=>
             bif zj x13.2.1 0 then bif !x13.1 then some (false,())
              else some (true,())
             else some (false,())
           else bif !x10.2.1.1 then some (false,())
            else bif (zr ((a1.2.2.2.2.2.2.2.2.length:Nat):Int) 2) then some (true,())
             else opt (atI a1.2.2.2.2.2.2.2.2 0) fun x14=>
              opt (atI a1.2.2.2.2.2.2.2.2 1) fun x15=>
              opt (kP (a0,(x14,(x15,())))) fun x16=>
              bif zj x16.2.1 0 then bif !x16.1 then some (false,())
               else some (true,())
              else some (false,())
        else some (false,())
       else bif zj a1.2.2.2.1 6 then bif zj a1.2.2.2.2.2.1 0 then opt (qt (a1.2.2.2.2.2.2.1,())) fun x17=>
          bif zj x17.1 0 then bif (!(!(zr a1.2.2.2.2.2.2.1.1 a1.2.2.2.2.1))) then some (false,())
           else opt (qd (((a1.2.2.2.2.2.2.2.2.length:Nat):Int),(1,(2,())))) fun x18=>
            bif !x18.1 then some (false,())
            else opt (qb (fun s19:((Bool×(Int×Unit))×Unit)=>
              bif (zr s19.1.2.1 ((a1.2.2.2.2.2.2.2.2.length:Nat):Int)) then opt (atI a1.2.2.2.2.2.2.2.2 s19.1.2.1) fun x20=>
               opt (QH (a0,(x20,(a1.2.1,(a1.2.2.1,()))))) fun x21=>
               bif !x21.1 then some (.inl (1,((false,(s19.1.2.1,())),())))
               else some (.inr ((s19.1.1,((wrF .i64 (s19.1.2.1+1)),())),()))
              else some (.inl (0,((s19.1.1,(s19.1.2.1,())),())))) qw ((false,(0,())),())) fun x22=>
             bif Nat.beq x22.1 0 then bif (zr ((a1.2.2.2.2.2.2.2.2.length:Nat):Int) 2) then some (true,())
              else opt (atI a1.2.2.2.2.2.2.2.2 0) fun x23=>
               opt (atI a1.2.2.2.2.2.2.2.2 1) fun x24=>
               opt (kP (a0,(x23,(x24,())))) fun x25=>
               bif zj x25.2.1 0 then bif !x25.1 then some (false,())
                else some (true,())
               else some (false,())
             else bif !x22.2.1.1 then some (false,())
              else bif (zr ((a1.2.2.2.2.2.2.2.2.length:Nat):Int) 2) then some (true,())
               else opt (atI a1.2.2.2.2.2.2.2.2 0) fun x26=>
                opt (atI a1.2.2.2.2.2.2.2.2 1) fun x27=>
                opt (kP (a0,(x26,(x27,())))) fun x28=>
                bif zj x28.2.1 0 then bif !x28.1 then some (false,())
                 else some (true,())
                else some (false,())
          else some (false,())
         else some (false,())
        else some (false,())
   else some (false,())
  else some (false,())
abbrev Wj:Type:=(qj×zD×Unit)→Option (Bool×Unit)
def zju:uA→Ku→vX→GF→zay→Wj:=fun qd kX qt QH kP=>sF Tryz.prog [(63,⟨xR,xS,qd⟩),(65,⟨Qn,Qo,kX⟩),(69,⟨xx,xy,qt⟩),(72,⟨Wd,We,QH⟩),(74,⟨Ys,Yt,kP⟩)] zr4 (zN []) 30 42 gk gm
theorem ztT (qd) (kX) (qt) (QH) (kP) (a0) (a1):zju qd kX qt QH kP (a0,a1,())=zds qd kX qt QH kP a0 a1:=by kernel_rfl
def uQ:Wj:=zju yv Qp wR Qq ZS
theorem zfh:Con.Ok Tryz.prog 42 ⟨gk,gm,uQ⟩:=zv (zf Ui (zf zlP (zf XF (zf zoR (zf zqo zh))))) zm (by kernel_rfl)
theorem zoV (a0) (a1):uQ (a0,a1,())=zds yv Qp wR Qq ZS a0 a1:=ztT yv Qp wR Qq ZS a0 a1
abbrev Zm:List VT:=[⟨true,zR⟩,⟨false,(.list zz)⟩]
abbrev Zn:List VT:=[⟨false,I⟩]
def znj:zZ:=zQ [cdF zz,cdF zR,cdF qp,cdF zu] [] [] [] [41,42]
def GW (zY:xJ) (yQ:Wj) (a0:qj) (a1:(List zD)):Option (Int×Unit):=
 opt (zY (a0,())) fun x0=>
 bif !(zj x0.1 0) then some (x0.1,())
 else bif (zr 12 ((a1.length:Nat):Int)) then some (3,())
  else opt (qb (fun s1:((Int×(Int×Unit))×Unit)=>
    bif (zr s1.1.2.1 ((a1.length:Nat):Int)) then opt (atI a1 s1.1.2.1) fun x2=>
     opt (yQ (a0,(x2,()))) fun x3=>
     bif !x3.1 then some (.inl (1,((321,(s1.1.2.1,())),())))
     else some (.inr ((s1.1.1,((wrF .i64 (s1.1.2.1+1)),())),()))
    else some (.inl (0,((s1.1.1,(s1.1.2.1,())),())))) qw ((0,(0,())),())) fun x4=>
   bif Nat.beq x4.1 0 then opt (qb (fun s5:((Int×(Int×Unit))×((List (Int×Bool))×Unit))=>
     bif (zr s5.1.2.1 ((a1.length:Nat):Int)) then opt (atI a1 s5.1.2.1) fun x6=>
      bif mpD (α:=Bool) s5.2.1 x6.1 false then some (.inl (1,((322,(s5.1.2.1,())),(s5.2.1,()))))
      else some (.inr ((s5.1.1,((wrF .i64 (s5.1.2.1+1)),())),((mpP (α:=Bool) s5.2.1 x6.1 true),())))
     else some (.inl (0,((s5.1.1,(s5.1.2.1,())),(s5.2.1,()))))) qw ((x4.2.1.1,(0,())),([],()))) fun x7=>
    bif Nat.beq x7.1 0 then some (0,())
    else some (x7.2.1.1,())
   else some (x4.2.1.1,())
abbrev XG:Type:=(qj×(List zD)×Unit)→Option (Int×Unit)
def zfi:xJ→Wj→XG:=fun zY yQ=>sF Tryz.prog [(41,⟨wL,wM,zY⟩),(42,⟨gk,gm,yQ⟩)] znj (zN []) 30 56 Zm Zn
theorem zoW (zY) (yQ) (a0) (a1):zfi zY yQ (a0,a1,())=GW zY yQ a0 a1:=by kernel_rfl
def Zo:XG:=zfi jB uQ
theorem zkJ:Con.Ok Tryz.prog 56 ⟨Zm,Zn,Zo⟩:=zv (zf Ji (zf zfh zh)) zm (by kernel_rfl)
theorem zkK (a0) (a1):Zo (a0,a1,())=GW jB uQ a0 a1:=zoW jB uQ a0 a1
abbrev yM:List VT:=[⟨false,(.list I)⟩,⟨false,I⟩]
abbrev yN:List VT:=[⟨false,I⟩]
def zcI:zZ:=zQ [] [] [] [] []
def Qr (a0:(List Int)) (a1:Int):Option (Int×Unit):=
 opt (qb (fun s0:((Int×(Int×Unit))×Unit)=>
  bif (zr s0.1.2.1 ((a0.length:Nat):Int)) then opt (atI a0 s0.1.2.1) fun x1=>
   bif zj a1 x1 then some (.inl (1,((s0.1.2.1,(s0.1.2.1,())),())))
   else some (.inr ((s0.1.1,((wrF .i64 (s0.1.2.1+1)),())),()))
  else some (.inl (0,((s0.1.1,(s0.1.2.1,())),())))) qw ((0,(0,())),())) fun x2=>
 bif Nat.beq x2.1 0 then some ((-1),())
 else some (x2.2.1.1,())
abbrev uR:Type:=((List Int)×Int×Unit)→Option (Int×Unit)
def Vh:uR:=sF Tryz.prog [] zcI (zN []) 30 145 yM yN
theorem zdt (a0) (a1):Vh (a0,a1,())=Qr a0 a1:=by kernel_rfl
def yO:uR:=Vh
theorem zbx:Con.Ok Tryz.prog 145 ⟨yM,yN,yO⟩:=zv zh zm (by kernel_rfl)
theorem zby (a0) (a1):yO (a0,a1,())=Qr  a0 a1:=zdt  a0 a1
abbrev wY:List VT:=[⟨false,(.list I)⟩,⟨false,I⟩]
abbrev wZ:List VT:=[⟨false,.bool⟩]
def zaY:zZ:=zQ [] [] [] [] [145]
def gJ (yR:uR) (a0:(List Int)) (a1:Int):Option (Bool×Unit):=
 opt (yR (a0,(a1,()))) fun x0=>
 some ((!(zr x0.1 0)),())
abbrev vS:Type:=((List Int)×Int×Unit)→Option (Bool×Unit)
def Yg:uR→vS:=fun yR=>sF Tryz.prog [(145,⟨yM,yN,yR⟩)] zaY (zN []) 30 119 wY wZ
theorem zbz (yR) (a0) (a1):Yg yR (a0,a1,())=gJ yR a0 a1:=by kernel_rfl
def jm:vS:=Yg yO
theorem GX:Con.Ok Tryz.prog 119 ⟨wY,wZ,jm⟩:=zv (zf zbx zh) zm (by kernel_rfl)
theorem GY (a0) (a1):jm (a0,a1,())=gJ yO a0 a1:=zbz yO a0 a1
abbrev Wk:List VT:=[⟨true,GD⟩]
abbrev Wl:List VT:=[⟨false,I⟩]
def zr5:zZ:=zQ [cdF GD,cdF qp] [] [] [] []
def zdu (a0:zbk):Option (Int×Unit):=
 some (a0.1.2.2.1,())
abbrev GH:Type:=(zbk×Unit)→Option (Int×Unit)
def zjv:GH:=sF Tryz.prog [] zr5 (zN []) 30 121 Wk Wl
theorem ztU (a0):zjv (a0,())=zdu a0:=by kernel_rfl
def Vi:GH:=zjv
theorem zoX:Con.Ok Tryz.prog 121 ⟨Wk,Wl,Vi⟩:=zv zh zm (by kernel_rfl)
theorem zoY (a0):Vi (a0,())=zdu  a0:=ztU  a0
abbrev GI:List VT:=[⟨true,zR⟩,⟨false,I⟩]
abbrev GJ:List VT:=[⟨false,I⟩,⟨false,I⟩]
def zy6:zZ:=zQ [cdF zR,cdF GD,cdF qp] [] [] [] [41,121]
def zkL (zY:xJ) (Wt:GH) (a0:qj) (a1:Int):Option (Int×Int×Unit):=
 opt (zY (a0,())) fun x0=>
 bif !(zj x0.1 0) then some (0,(x0.1,()))
 else opt (bif zr a1 0 then some (1,((0,(2,())),()))
   else bif (!(zr a1 (wrF .i64 (2*((a0.2.2.length:Nat):Int))))) then some (1,((0,(2,())),()))
    else some (0,((0,(0,())),()))) fun x1=>
  bif Nat.beq x1.1 0 then opt (atI a0.2.2 (wrF .i64 (Int.tdiv a1 2))) fun x2=>
   opt (Wt ((x2,a1),())) fun x3=>
   some (x3.1,(0,()))
  else some (x1.2.1.1,(x1.2.1.2.1,()))
abbrev zfZ:Type:=(qj×Int×Unit)→Option (Int×Int×Unit)
def zr6:xJ→GH→zfZ:=fun zY Wt=>sF Tryz.prog [(41,⟨wL,wM,zY⟩),(121,⟨Wk,Wl,Wt⟩)] zy6 (zN []) 30 85 GI GJ
theorem zBd (zY) (Wt) (a0) (a1):zr6 zY Wt (a0,a1,())=zkL zY Wt a0 a1:=by kernel_rfl
def gX:zfZ:=zr6 jB Vi
theorem zvB:Con.Ok Tryz.prog 85 ⟨GI,GJ,gX⟩:=zv (zf Ji (zf zoX zh)) zm (by kernel_rfl)
theorem zvC (a0) (a1):gX (a0,a1,())=zkL jB Vi a0 a1:=zBd jB Vi a0 a1
abbrev Jm:List VT:=[⟨true,qk⟩,⟨false,I⟩,⟨false,I⟩]
abbrev Jn:List VT:=[⟨false,I⟩]
def zqq:zZ:=zQ [cdF qk,cdF qQ] [] [] [] [46]
def zb6 (js:ZP) (a0:ja) (a1:Int) (a2:Int):Option (Int×Unit):=
 opt (js (a0,())) fun x0=>
 bif !(zj x0.1 0) then some (x0.1,())
 else opt (bif zr a1 1 then some (1,((2,()),()))
   else bif zr 1000 a1 then some (1,((2,()),()))
    else bif zr a2 84 then some (1,((2,()),()))
     else bif zr 1542 a2 then some (1,((2,()),()))
      else some (0,((0,()),()))) fun x1=>
  bif Nat.beq x1.1 0 then some (0,())
  else some (x1.2.1.1,())
abbrev Uv:Type:=(ja×Int×Int×Unit)→Option (Int×Unit)
def zh4:ZP→Uv:=fun js=>sF Tryz.prog [(46,⟨uI,uJ,js⟩)] zqq (zN []) 30 122 Jm Jn
theorem zr7 (js) (a0) (a1) (a2):zh4 js (a0,a1,a2,())=zb6 js a0 a1 a2:=by kernel_rfl
def Jo:Uv:=zh4 xW
theorem znk:Con.Ok Tryz.prog 122 ⟨Jm,Jn,Jo⟩:=zv (zf zaV zh) zm (by kernel_rfl)
theorem znl (a0) (a1) (a2):Jo (a0,a1,a2,())=zb6 xW a0 a1 a2:=zr7 xW a0 a1 a2
abbrev Yu:List VT:=[⟨true,qk⟩,⟨false,I⟩,⟨false,I⟩,⟨false,I⟩]
abbrev Yv:List VT:=[⟨false,I⟩]
def ztV:zZ:=zQ [cdF qk,cdF qQ] [] [] [] [46]
def zeP (js:ZP) (a0:ja) (a1:Int) (a2:Int) (a3:Int):Option (Int×Unit):=
 opt (js (a0,())) fun x0=>
 bif !(zj x0.1 0) then some (x0.1,())
 else opt (bif zr a1 0 then some (1,((2,()),()))
   else bif !(zr a1 8) then some (1,((2,()),()))
    else bif zr a2 (-1099511627776) then some (1,((2,()),()))
     else bif zr 1099511627776 a2 then some (1,((2,()),()))
      else bif zr a3 0 then some (1,((2,()),()))
       else bif zr 1099511627776 a3 then some (1,((2,()),()))
        else some (0,((0,()),()))) fun x1=>
  bif Nat.beq x1.1 0 then some (0,())
  else some (x1.2.1.1,())
abbrev zaz:Type:=(ja×Int×Int×Int×Unit)→Option (Int×Unit)
def zlq:ZP→zaz:=fun js=>sF Tryz.prog [(46,⟨uI,uJ,js⟩)] ztV (zN []) 30 177 Yu Yv
theorem zvD (js) (a0) (a1) (a2) (a3):zlq js (a0,a1,a2,a3,())=zeP js a0 a1 a2 a3:=by kernel_rfl
def Yw:zaz:=zlq xW
theorem zqr:Con.Ok Tryz.prog 177 ⟨Yu,Yv,Yw⟩:=zv (zf zaV zh) zm (by kernel_rfl)
theorem zqs (a0) (a1) (a2) (a3):Yw (a0,a1,a2,a3,())=zeP xW a0 a1 a2 a3:=zvD xW a0 a1 a2 a3
abbrev Vj:List VT:=[⟨true,qk⟩,⟨false,I⟩]
abbrev Vk:List VT:=[⟨false,I⟩,⟨false,I⟩]
def zvE:zZ:=zQ [cdF qk,cdF qQ] [] [] [] []
def zgL (a0:ja) (a1:Int):Option (Int×Int×Unit):=
 bif zj a0.2 0 then none
 else bif zj a0.2 0 then none
  else opt (atI a0.1 0) fun x0=>
   bif (!(zr (Int.tmod (wrF .i64 ((Int.tmod a1 a0.2)+a0.2)) a0.2) x0.2)) then opt (atI a0.1 0) fun x1=>
    opt (qb (fun s2:((Int×(Int×(Int×Unit)))×Unit)=>
     opt (atI a0.1 s2.1.2.1) fun x3=>
     bif !(zr s2.1.1 x3.2) then opt (atI a0.1 s2.1.2.1) fun x4=>
      some (.inr (((wrF .i64 (s2.1.1 - x4.2)),((wrF .i64 (s2.1.2.1+1)),(s2.1.2.2.1,()))),()))
     else opt (atI a0.1 s2.1.2.1) fun x5=>
      some (.inl (0,((s2.1.1,(s2.1.2.1,((wrF .i64 (x5.2 - s2.1.1)),()))),())))) qw (((wrF .i64 ((Int.tmod (wrF .i64 ((Int.tmod a1 a0.2)+a0.2)) a0.2) - x1.2)),(1,(0,()))),())) fun x6=>
    some (x6.2.1.2.1,(x6.2.1.2.2.1,()))
   else opt (atI a0.1 0) fun x7=>
    some (0,((wrF .i64 (x7.2 - (Int.tmod (wrF .i64 ((Int.tmod a1 a0.2)+a0.2)) a0.2))),()))
abbrev zb7:Type:=(ja×Int×Unit)→Option (Int×Int×Unit)
def znm:zb7:=sF Tryz.prog [] zvE (zN []) 30 188 Vj Vk
theorem zx0 (a0) (a1):znm (a0,a1,())=zgL a0 a1:=by kernel_rfl
def Vl:zb7:=znm
theorem zr8:Con.Ok Tryz.prog 188 ⟨Vj,Vk,Vl⟩:=zv zh zm (by kernel_rfl)
theorem zr9 (a0) (a1):Vl (a0,a1,())=zgL  a0 a1:=zx0  a0 a1
abbrev Vm:List VT:=[⟨true,qk⟩,⟨false,I⟩,⟨false,I⟩]
abbrev Vn:List VT:=[⟨false,I⟩]
def zvF:zZ:=zQ [cdF qk,cdF qQ] [] [] [] [188]
def zgM (VQ:zb7) (a0:ja) (a1:Int) (a2:Int):Option (Int×Unit):=
 opt (VQ (a0,(a2,()))) fun x0=>
 opt (qb (fun s1:((Int×(((List (Int×Int))×Int)×(Int×(Int×(Int×(Int×(Int×Unit)))))))×Unit)=>
  bif (zr s1.1.2.2.2.2.2.2.1 (wrF .i64 (((a0.1.length:Nat):Int)+1))) then opt (atI s1.1.2.1.1 s1.1.2.2.2.2.1) fun x2=>
   bif zr s1.1.1 0 then none
   else bif (!(zj (gP .and .i64 (yu .i64 x2.1 s1.1.1) 1) 1)) then some (.inl (1,((s1.1.1,(s1.1.2.1,(s1.1.2.2.2.1,(s1.1.2.2.2.1,(s1.1.2.2.2.2.1,(s1.1.2.2.2.2.2.1,(s1.1.2.2.2.2.2.2.1,()))))))),())))
    else bif (zj ((s1.1.2.1.1.length:Nat):Int) 0) then none
     else opt (atI s1.1.2.1.1 (Int.tmod (wrF .i64 (s1.1.2.2.2.2.1+1)) ((s1.1.2.1.1.length:Nat):Int))) fun x3=>
      some (.inr ((s1.1.1,(s1.1.2.1,(s1.1.2.2.1,((wrF .i64 (s1.1.2.2.2.1+s1.1.2.2.2.2.2.1)),((Int.tmod (wrF .i64 (s1.1.2.2.2.2.1+1)) ((s1.1.2.1.1.length:Nat):Int)),(x3.2,((wrF .i64 (s1.1.2.2.2.2.2.2.1+1)),()))))))),()))
  else some (.inl (0,((s1.1.1,(s1.1.2.1,(s1.1.2.2.1,(s1.1.2.2.2.1,(s1.1.2.2.2.2.1,(s1.1.2.2.2.2.2.1,(s1.1.2.2.2.2.2.2.1,()))))))),())))) qw ((a1,(a0,(0,(0,(x0.1,(x0.2.1,(0,()))))))),())) fun x4=>
 bif Nat.beq x4.1 0 then bif zj x4.2.1.2.1.2 a0.2 then some (1099511627776,())
  else some (x4.2.1.2.1.2,())
 else bif zj x4.2.1.2.2.1 a0.2 then some (1099511627776,())
  else some (x4.2.1.2.2.1,())
abbrev zb8:Type:=(ja×Int×Int×Unit)→Option (Int×Unit)
def znn:zb7→zb8:=fun VQ=>sF Tryz.prog [(188,⟨Vj,Vk,VQ⟩)] zvF (zN []) 30 178 Vm Vn
theorem zx1 (VQ) (a0) (a1) (a2):znn VQ (a0,a1,a2,())=zgM VQ a0 a1 a2:=by kernel_rfl
def Vo:zb8:=znn Vl
theorem zsa:Con.Ok Tryz.prog 178 ⟨Vm,Vn,Vo⟩:=zv (zf zr8 zh) zm (by kernel_rfl)
theorem zsb (a0) (a1) (a2):Vo (a0,a1,a2,())=zgM Vl a0 a1 a2:=zx1 Vl a0 a1 a2
abbrev Vp:List VT:=[⟨true,qk⟩,⟨false,I⟩,⟨false,I⟩]
abbrev Vq:List VT:=[⟨false,I⟩,⟨false,I⟩]
def zvG:zZ:=zQ [cdF qk,cdF qQ] [] [] [] [177,178]
def zgN (YL:zaz) (VR:zb8) (a0:ja) (a1:Int) (a2:Int):Option (Int×Int×Unit):=
 opt (YL (a0,(a1,(a2,(0,()))))) fun x0=>
 bif !(zj x0.1 0) then some (0,(x0.1,()))
 else opt (VR (a0,(a1,(a2,())))) fun x1=>
  some (x1.1,(0,()))
abbrev zb9:Type:=(ja×Int×Int×Unit)→Option (Int×Int×Unit)
def zno:zaz→zb8→zb9:=fun YL VR=>sF Tryz.prog [(177,⟨Yu,Yv,YL⟩),(178,⟨Vm,Vn,VR⟩)] zvG (zN []) 30 157 Vp Vq
theorem zx2 (YL) (VR) (a0) (a1) (a2):zno YL VR (a0,a1,a2,())=zgN YL VR a0 a1 a2:=by kernel_rfl
def Vr:zb9:=zno Yw Vo
theorem zsc:Con.Ok Tryz.prog 157 ⟨Vp,Vq,Vr⟩:=zv (zf zqr (zf zsa zh)) zm (by kernel_rfl)
theorem zsd (a0) (a1) (a2):Vr (a0,a1,a2,())=zgN Yw Vo a0 a1 a2:=zx2 Yw Vo a0 a1 a2
abbrev Qs:List VT:=[⟨true,qk⟩]
abbrev Qt:List VT:=[⟨false,.bool⟩]
def zoZ:zZ:=zQ [cdF qk,cdF qQ] [] [] [] [157]
def zaZ (VS:zb9) (a0:ja):Option (Bool×Unit):=
 opt (VS (a0,(6,(0,())))) fun x0=>
 bif zj x0.2.1 0 then some ((zj x0.1 1099511627776),())
 else some (false,())
abbrev Kv:Type:=(ja×Unit)→Option (Bool×Unit)
def zgO:zb9→Kv:=fun VS=>sF Tryz.prog [(157,⟨Vp,Vq,VS⟩)] zoZ (zN []) 30 147 Qs Qt
theorem zqt (VS) (a0):zgO VS (a0,())=zaZ VS a0:=by kernel_rfl
def Qu:Kv:=zgO Vr
theorem zlV:Con.Ok Tryz.prog 147 ⟨Qs,Qt,Qu⟩:=zv (zf zsc zh) zm (by kernel_rfl)
theorem zlW (a0):Qu (a0,())=zaZ Vr a0:=zqt Vr a0
abbrev uC:List VT:=[⟨true,qQ⟩]
abbrev uD:List VT:=[⟨false,.bool⟩]
def zo0:zZ:=zQ [cdF qQ] [] [] [] []
def Kw (a0:zfT):Option (Bool×Unit):=
 some ((zj (gP .and .i64 (yu .i64 a0.1 6) 1) 1),())
abbrev Qv:Type:=(zfT×Unit)→Option (Bool×Unit)
def zgP:Qv:=sF Tryz.prog [] zo0 (zN []) 30 159 uC uD
theorem zqu (a0):zgP (a0,())=Kw a0:=by kernel_rfl
def vK:Qv:=zgP
theorem zcU:Con.Ok Tryz.prog 159 ⟨uC,uD,vK⟩:=zv zh zm (by kernel_rfl)
theorem zcV (a0):vK (a0,())=Kw  a0:=zqu  a0
abbrev Zp:List VT:=[⟨true,qk⟩,⟨false,I⟩]
abbrev Zq:List VT:=[⟨false,I⟩]
def znp:zZ:=zQ [cdF qk,cdF qQ] [] [] [] [147,159]
def XH (QI:Kv) (jL:Qv) (a0:ja) (a1:Int):Option (Int×Unit):=
 opt (QI (a0,())) fun x0=>
 bif x0.1 then some (a0.2,())
 else opt (qb (fun s1:((Int×(Int×(Int×Unit)))×(Unit×(Unit×Unit)))=>
   bif (zr s1.1.2.2.1 ((a0.1.length:Nat):Int)) then opt (atI a0.1 s1.1.2.2.1) fun x2=>
    opt (jL (x2,())) fun x3=>
    bif x3.1 then opt (atI a0.1 s1.1.2.2.1) fun x4=>
     some (.inr ((s1.1.1,((wrF .i64 (s1.1.2.1+x4.2)),((wrF .i64 (s1.1.2.2.1+1)),()))),((),((),()))))
    else some (.inl (0,((s1.1.1,(s1.1.2.1,(s1.1.2.2.1,()))),((),((),())))))
   else some (.inl (0,((s1.1.1,(s1.1.2.1,(s1.1.2.2.1,()))),((),((),())))))) qw ((0,(0,(0,()))),((),((),())))) fun x5=>
  bif (zj x5.2.1.2.2.1 ((a0.1.length:Nat):Int)) then some (x5.2.1.1,())
  else opt (atI a0.1 x5.2.1.2.2.1) fun x6=>
   opt (qb (fun s7:(((Int×Int)×(Int×(Int×(Int×Unit))))×(Unit×(Unit×Unit)))=>
    bif (zr s7.1.2.2.2.1 ((a0.1.length:Nat):Int)) then bif (zj ((a0.1.length:Nat):Int) 0) then none
     else opt (atI a0.1 (Int.tmod (wrF .i64 ((wrF .i64 (x5.2.1.2.2.1+1))+s7.1.2.2.2.1)) ((a0.1.length:Nat):Int))) fun x8=>
      opt (jL (x8,())) fun x9=>
      bif x9.1 then opt (bif zj s7.1.1.2 0 then some (0,(((s7.1.2.2.1,s7.1.1.2),()),((),((),()))))
        else some (0,((s7.1.1,()),((),((),()))))) fun x10=>
       some (.inr (((x10.2.1.1.1,(wrF .i64 (x10.2.1.1.2+x8.2))),(s7.1.2.1,((wrF .i64 (s7.1.2.2.1+x8.2)),((wrF .i64 (s7.1.2.2.2.1+1)),())))),((),((),()))))
      else bif zr 0 s7.1.1.2 then some (.inr (((0,0),((wrF .i64 (s7.1.2.1+(Yl 0 (wrF .i64 (s7.1.1.2 - a1))))),((wrF .i64 (s7.1.2.2.1+x8.2)),((wrF .i64 (s7.1.2.2.2.1+1)),())))),((),((),()))))
       else some (.inr (((0,0),(s7.1.2.1,((wrF .i64 (s7.1.2.2.1+x8.2)),((wrF .i64 (s7.1.2.2.2.1+1)),())))),((),((),()))))
    else some (.inl (0,((s7.1.1,(s7.1.2.1,(s7.1.2.2.1,(s7.1.2.2.2.1,())))),((),((),())))))) qw (((0,0),(x5.2.1.1,((wrF .i64 (x5.2.1.2.1+x6.2)),(0,())))),((),((),())))) fun x11=>
   bif Nat.beq x11.1 0 then some (x11.2.1.2.1,())
   else some (x11.2.1.2.1,())
abbrev XI:Type:=(ja×Int×Unit)→Option (Int×Unit)
def zfj:Kv→Qv→XI:=fun QI jL=>sF Tryz.prog [(147,⟨Qs,Qt,QI⟩),(159,⟨uC,uD,jL⟩)] znp (zN []) 30 123 Zp Zq
theorem zo1 (QI) (jL) (a0) (a1):zfj QI jL (a0,a1,())=XH QI jL a0 a1:=by kernel_rfl
def uZ:XI:=zfj Qu vK
theorem zkM:Con.Ok Tryz.prog 123 ⟨Zp,Zq,uZ⟩:=zv (zf zlV (zf zcU zh)) zm (by kernel_rfl)
theorem zca (a0) (a1):uZ (a0,a1,())=XH Qu vK a0 a1:=zo1 Qu vK a0 a1
abbrev Yx:List VT:=[⟨false,I⟩,⟨false,I⟩]
abbrev Yy:List VT:=[⟨false,I⟩]
def ztW:zZ:=zQ [] [] [] [] []
def zeQ (a0:Int) (a1:Int):Option (Int×Unit):=
 bif zj a1 0 then none
 else bif zj a1 0 then none
  else some ((Int.tmod (wrF .i64 ((Int.tmod a0 a1)+a1)) a1),())
abbrev zaA:Type:=(Int×Int×Unit)→Option (Int×Unit)
def zlr:zaA:=sF Tryz.prog [] ztW (zN []) 30 149 Yx Yy
theorem zvH (a0) (a1):zlr (a0,a1,())=zeQ a0 a1:=by kernel_rfl
def Yz:zaA:=zlr
theorem zqv:Con.Ok Tryz.prog 149 ⟨Yx,Yy,Yz⟩:=zv zh zm (by kernel_rfl)
theorem zqw (a0) (a1):Yz (a0,a1,())=zeQ  a0 a1:=zvH  a0 a1
abbrev gp:List VT:=[⟨false,I⟩,⟨false,I⟩]
abbrev gq:List VT:=[⟨false,I⟩]
def zlX:zZ:=zQ [] [] [] [] [149]
def Gb (YM:zaA) (a0:Int) (a1:Int):Option (Int×Unit):=
 opt (YM (a0,(a1,()))) fun x0=>
 bif zj a1 0 then none
 else some ((wrF .i64 (Int.tdiv (wrF .i64 (a0 - x0.1)) a1)),())
abbrev Xd:Type:=(Int×Int×Unit)→Option (Int×Unit)
def zem:zaA→Xd:=fun YM=>sF Tryz.prog [(149,⟨Yx,Yy,YM⟩)] zlX (zN []) 30 125 gp gq
theorem znq (YM) (a0) (a1):zem YM (a0,a1,())=Gb YM a0 a1:=by kernel_rfl
def uE:Xd:=zem Yz
theorem zjw:Con.Ok Tryz.prog 125 ⟨gp,gq,uE⟩:=zv (zf zqv zh) zm (by kernel_rfl)
theorem zjx (a0) (a1):uE (a0,a1,())=Gb Yz a0 a1:=znq Yz a0 a1
abbrev QW:List VT:=[⟨true,qk⟩,⟨false,I⟩,⟨false,I⟩]
abbrev QX:List VT:=[⟨true,Wb⟩,⟨false,I⟩]
def zvI:zZ:=zQ [cdF qk,cdF qQ] [] [⟨7,87,none,wq,true⟩,⟨12,87,none,wq,true⟩,⟨7,87,some 6,wq,false⟩,⟨12,87,some 6,wq,false⟩,⟨2,48,none,wq,true⟩,⟨6,48,none,wq,true⟩,⟨2,90,none,wq,true⟩,⟨5,90,none,wq,true⟩,⟨9,90,none,wq,true⟩,⟨12,90,none,wq,true⟩,⟨13,90,none,wq,true⟩,⟨18,90,none,wq,true⟩,⟨8,90,none,wq,true⟩] [] [122,123,125,159]
def Gc (JA:Uv) (ZG:XI) (xO:Xd) (jL:Qv) (a0:ja) (a1:Int) (a2:Int):Option (vJ×Int×Unit):=
 opt (JA (a0,(a1,(a2,())))) fun x0=>
 bif !(zj x0.1 0) then some ((0,0),(x0.1,()))
 else opt (ZG (a0,((wrF .i64 (a2*a1)),()))) fun x1=>
  bif (zj (wrF .i64 (a0.2*a1)) 0) then none
  else bif (zr (wrF .i64 (Int.tdiv (wrF .i64 (x1.1*1048576)) (wrF .i64 (a0.2*a1)))) 1) then some ((0,0),(4,()))
   else opt (xO ((wrF .i64 ((wrF .i64 ((-127)*a1))*1048576)),((wrF .i64 ((wrF .i64 (Int.tdiv (wrF .i64 (x1.1*1048576)) (wrF .i64 (a0.2*a1))))*a1)),()))) fun x2=>
    opt (qb (fun s3:((Int×(Int×Unit))×(((List (Int×Int))×Unit)×(Unit×(Unit×Unit))))=>
     bif (zr s3.1.2.1 ((a0.1.length:Nat):Int)) then opt (atI a0.1 s3.1.2.1) fun x4=>
      opt (jL (x4,())) fun x5=>
      bif x5.1 then opt (atI a0.1 s3.1.2.1) fun x6=>
       some (.inr (((wrF .i64 (s3.1.1+x6.2)),((wrF .i64 (s3.1.2.1+1)),())),((s3.2.1.1,()),((),((),())))))
      else some (.inl (0,((s3.1.1,(s3.1.2.1,())),((s3.2.1.1,()),((),((),()))))))
     else some (.inl (0,((s3.1.1,(s3.1.2.1,())),((s3.2.1.1,()),((),((),()))))))) qw ((0,(0,())),(([],()),((),((),()))))) fun x7=>
    bif (zj x7.2.1.2.1 ((a0.1.length:Nat):Int)) then opt (qb (fun s8:((Int×(Int×(Int×(Int×Unit))))×(Unit×Unit))=>
      bif (zr s8.1.2.2.2.1 ((x7.2.2.1.1.length:Nat):Int)) then opt (atI x7.2.2.1.1 s8.1.2.2.2.1) fun x9=>
       opt (gl x7.2.2.1.1 (Int.toNat s8.1.2.2.2.1)) fun x10=>
       opt (qb (fun s11:((Int×(Int×(Int×(Int×(Int×Unit)))))×(Unit×Unit))=>
        bif (zr s11.1.2.2.2.2.1 ((x7.2.2.1.1.length:Nat):Int)) then bif (zj ((x7.2.2.1.1.length:Nat):Int) 0) then none
         else opt (atI x7.2.2.1.1 (Int.tmod (wrF .i64 ((wrF .i64 (s8.1.2.2.2.1+1))+s11.1.2.2.2.2.1)) ((x7.2.2.1.1.length:Nat):Int))) fun x12=>
          opt (gl x7.2.2.1.1 (Int.toNat (Int.tmod (wrF .i64 ((wrF .i64 (s8.1.2.2.2.1+1))+s11.1.2.2.2.2.1)) ((x7.2.2.1.1.length:Nat):Int)))) fun x13=>
          bif (zj ((x7.2.2.1.1.length:Nat):Int) 0) then none
          else opt (xO ((wrF .i64 ((wrF .i64 (s11.1.2.2.2.1 - (wrF .i64 (127*s11.1.2.2.1))))*1048576)),((wrF .i64 (s11.1.2.1*s11.1.2.2.1)),()))) fun x14=>
           some (.inr (((Yl s11.1.1 (wrF .i64 ((wrF .i64 ((wrF .i64 ((wrF .i64 (x13.1+(wrF .i64 ((wrF .i64 (Int.tdiv (wrF .i64 ((wrF .i64 (s8.1.2.2.2.1+1))+s11.1.2.2.2.2.1)) ((x7.2.2.1.1.length:Nat):Int)))*a0.2))))+(UM (wrF .i64 (a2*a1)) x13.2))) - (wrF .i64 ((wrF .i64 (x10.1+x10.2)) - (UM (wrF .i64 (a2*a1)) x10.2))))) - x14.1))),(s11.1.2.1,(s11.1.2.2.1,((wrF .i64 (s11.1.2.2.2.1+(Yl 0 (wrF .i64 (x13.2 - (wrF .i64 (a2*a1))))))),((wrF .i64 (s11.1.2.2.2.2.1+1)),()))))),((),())))
        else some (.inl (0,((s11.1.1,(s11.1.2.1,(s11.1.2.2.1,(s11.1.2.2.2.1,(s11.1.2.2.2.2.1,()))))),((),()))))) qw ((s8.1.1,(s8.1.2.1,(s8.1.2.2.1,(0,(0,()))))),((),()))) fun x15=>
       some (.inr ((x15.2.1.1,(x15.2.1.2.1,(x15.2.1.2.2.1,((wrF .i64 (s8.1.2.2.2.1+1)),())))),((),())))
      else some (.inl (0,((s8.1.1,(s8.1.2.1,(s8.1.2.2.1,(s8.1.2.2.2.1,())))),((),()))))) qw (((Yl 0 (wrF .i64 (0 - x2.1))),((wrF .i64 (Int.tdiv (wrF .i64 (x1.1*1048576)) (wrF .i64 (a0.2*a1)))),(a1,(0,())))),((),()))) fun x16=>
     some ((x16.2.1.2.1,x16.2.1.1),(0,()))
    else opt (atI a0.1 x7.2.1.2.1) fun x17=>
     opt (qb (fun s18:(((Int×Int)×(Int×(Int×Unit)))×(((List (Int×Int))×Unit)×(Unit×(Unit×Unit))))=>
      bif (zr s18.1.2.2.1 ((a0.1.length:Nat):Int)) then bif (zj ((a0.1.length:Nat):Int) 0) then none
       else opt (atI a0.1 (Int.tmod (wrF .i64 ((wrF .i64 (x7.2.1.2.1+1))+s18.1.2.2.1)) ((a0.1.length:Nat):Int))) fun x19=>
        opt (jL (x19,())) fun x20=>
        bif x20.1 then opt (bif zj s18.1.1.2 0 then some (0,(((s18.1.2.1,s18.1.1.2),()),((),((),()))))
          else some (0,((s18.1.1,()),((),((),()))))) fun x21=>
         some (.inr (((x21.2.1.1.1,(wrF .i64 (x21.2.1.1.2+x19.2))),((wrF .i64 (s18.1.2.1+x19.2)),((wrF .i64 (s18.1.2.2.1+1)),()))),((s18.2.1.1,()),((),((),())))))
        else bif zr 0 s18.1.1.2 then bif (yS s18.2.1.1.length ((s18.1.1::[]).length) 16) then some (.inr (((0,0),((wrF .i64 (s18.1.2.1+x19.2)),((wrF .i64 (s18.1.2.2.1+1)),()))),(((s18.2.1.1++(s18.1.1::[])),()),((),((),())))))
          else none
         else some (.inr (((0,0),((wrF .i64 (s18.1.2.1+x19.2)),((wrF .i64 (s18.1.2.2.1+1)),()))),((s18.2.1.1,()),((),((),())))))
      else some (.inl (0,((s18.1.1,(s18.1.2.1,(s18.1.2.2.1,()))),((s18.2.1.1,()),((),((),()))))))) qw (((0,0),((wrF .i64 (x7.2.1.1+x17.2)),(0,()))),((x7.2.2.1.1,()),((),((),()))))) fun x22=>
     bif Nat.beq x22.1 0 then opt (qb (fun s23:((Int×(Int×(Int×(Int×Unit))))×(Unit×Unit))=>
       bif (zr s23.1.2.2.2.1 ((x22.2.2.1.1.length:Nat):Int)) then opt (atI x22.2.2.1.1 s23.1.2.2.2.1) fun x24=>
        opt (gl x22.2.2.1.1 (Int.toNat s23.1.2.2.2.1)) fun x25=>
        opt (qb (fun s26:((Int×(Int×(Int×(Int×(Int×Unit)))))×(Unit×Unit))=>
         bif (zr s26.1.2.2.2.2.1 ((x22.2.2.1.1.length:Nat):Int)) then bif (zj ((x22.2.2.1.1.length:Nat):Int) 0) then none
          else opt (atI x22.2.2.1.1 (Int.tmod (wrF .i64 ((wrF .i64 (s23.1.2.2.2.1+1))+s26.1.2.2.2.2.1)) ((x22.2.2.1.1.length:Nat):Int))) fun x27=>
           opt (gl x22.2.2.1.1 (Int.toNat (Int.tmod (wrF .i64 ((wrF .i64 (s23.1.2.2.2.1+1))+s26.1.2.2.2.2.1)) ((x22.2.2.1.1.length:Nat):Int)))) fun x28=>
           bif (zj ((x22.2.2.1.1.length:Nat):Int) 0) then none
           else opt (xO ((wrF .i64 ((wrF .i64 (s26.1.2.2.2.1 - (wrF .i64 (127*s26.1.2.2.1))))*1048576)),((wrF .i64 (s26.1.2.1*s26.1.2.2.1)),()))) fun x29=>
            some (.inr (((Yl s26.1.1 (wrF .i64 ((wrF .i64 ((wrF .i64 ((wrF .i64 (x28.1+(wrF .i64 ((wrF .i64 (Int.tdiv (wrF .i64 ((wrF .i64 (s23.1.2.2.2.1+1))+s26.1.2.2.2.2.1)) ((x22.2.2.1.1.length:Nat):Int)))*a0.2))))+(UM (wrF .i64 (a2*a1)) x28.2))) - (wrF .i64 ((wrF .i64 (x25.1+x25.2)) - (UM (wrF .i64 (a2*a1)) x25.2))))) - x29.1))),(s26.1.2.1,(s26.1.2.2.1,((wrF .i64 (s26.1.2.2.2.1+(Yl 0 (wrF .i64 (x28.2 - (wrF .i64 (a2*a1))))))),((wrF .i64 (s26.1.2.2.2.2.1+1)),()))))),((),())))
         else some (.inl (0,((s26.1.1,(s26.1.2.1,(s26.1.2.2.1,(s26.1.2.2.2.1,(s26.1.2.2.2.2.1,()))))),((),()))))) qw ((s23.1.1,(s23.1.2.1,(s23.1.2.2.1,(0,(0,()))))),((),()))) fun x30=>
        some (.inr ((x30.2.1.1,(x30.2.1.2.1,(x30.2.1.2.2.1,((wrF .i64 (s23.1.2.2.2.1+1)),())))),((),())))
       else some (.inl (0,((s23.1.1,(s23.1.2.1,(s23.1.2.2.1,(s23.1.2.2.2.1,())))),((),()))))) qw (((Yl 0 (wrF .i64 (0 - x2.1))),((wrF .i64 (Int.tdiv (wrF .i64 (x1.1*1048576)) (wrF .i64 (a0.2*a1)))),(a1,(0,())))),((),()))) fun x31=>
      some ((x31.2.1.2.1,x31.2.1.1),(0,()))
     else opt (qb (fun s32:((Int×(Int×(Int×(Int×Unit))))×(Unit×Unit))=>
       bif (zr s32.1.2.2.2.1 ((x22.2.2.1.1.length:Nat):Int)) then opt (atI x22.2.2.1.1 s32.1.2.2.2.1) fun x33=>
        opt (gl x22.2.2.1.1 (Int.toNat s32.1.2.2.2.1)) fun x34=>
        opt (qb (fun s35:((Int×(Int×(Int×(Int×(Int×Unit)))))×(Unit×Unit))=>
         bif (zr s35.1.2.2.2.2.1 ((x22.2.2.1.1.length:Nat):Int)) then bif (zj ((x22.2.2.1.1.length:Nat):Int) 0) then none
          else opt (atI x22.2.2.1.1 (Int.tmod (wrF .i64 ((wrF .i64 (s32.1.2.2.2.1+1))+s35.1.2.2.2.2.1)) ((x22.2.2.1.1.length:Nat):Int))) fun x36=>
           opt (gl x22.2.2.1.1 (Int.toNat (Int.tmod (wrF .i64 ((wrF .i64 (s32.1.2.2.2.1+1))+s35.1.2.2.2.2.1)) ((x22.2.2.1.1.length:Nat):Int)))) fun x37=>
           bif (zj ((x22.2.2.1.1.length:Nat):Int) 0) then none
           else opt (xO ((wrF .i64 ((wrF .i64 (s35.1.2.2.2.1 - (wrF .i64 (127*s35.1.2.2.1))))*1048576)),((wrF .i64 (s35.1.2.1*s35.1.2.2.1)),()))) fun x38=>
            some (.inr (((Yl s35.1.1 (wrF .i64 ((wrF .i64 ((wrF .i64 ((wrF .i64 (x37.1+(wrF .i64 ((wrF .i64 (Int.tdiv (wrF .i64 ((wrF .i64 (s32.1.2.2.2.1+1))+s35.1.2.2.2.2.1)) ((x22.2.2.1.1.length:Nat):Int)))*a0.2))))+(UM (wrF .i64 (a2*a1)) x37.2))) - (wrF .i64 ((wrF .i64 (x34.1+x34.2)) - (UM (wrF .i64 (a2*a1)) x34.2))))) - x38.1))),(s35.1.2.1,(s35.1.2.2.1,((wrF .i64 (s35.1.2.2.2.1+(Yl 0 (wrF .i64 (x37.2 - (wrF .i64 (a2*a1))))))),((wrF .i64 (s35.1.2.2.2.2.1+1)),()))))),((),())))
         else some (.inl (0,((s35.1.1,(s35.1.2.1,(s35.1.2.2.1,(s35.1.2.2.2.1,(s35.1.2.2.2.2.1,()))))),((),()))))) qw ((s32.1.1,(s32.1.2.1,(s32.1.2.2.1,(0,(0,()))))),((),()))) fun x39=>
        some (.inr ((x39.2.1.1,(x39.2.1.2.1,(x39.2.1.2.2.1,((wrF .i64 (s32.1.2.2.2.1+1)),())))),((),())))
       else some (.inl (0,((s32.1.1,(s32.1.2.1,(s32.1.2.2.1,(s32.1.2.2.2.1,())))),((),()))))) qw (((Yl 0 (wrF .i64 (0 - x2.1))),((wrF .i64 (Int.tdiv (wrF .i64 (x1.1*1048576)) (wrF .i64 (a0.2*a1)))),(a1,(0,())))),((),()))) fun x40=>
      some ((x40.2.1.2.1,x40.2.1.1),(0,()))
abbrev zcb:Type:=(ja×Int×Int×Unit)→Option (vJ×Int×Unit)
def znr:Uv→XI→Xd→Qv→zcb:=fun JA ZG xO jL=>sF Tryz.prog [(122,⟨Jm,Jn,JA⟩),(123,⟨Zp,Zq,ZG⟩),(125,⟨gp,gq,xO⟩),(159,⟨uC,uD,jL⟩)] zvI (zN []) 30 86 QW QX
theorem zx3 (JA) (ZG) (xO) (jL) (a0) (a1) (a2):znr JA ZG xO jL (a0,a1,a2,())=Gc JA ZG xO jL a0 a1 a2:=by kernel_rfl
def xM:zcb:=znr Jo uZ uE vK
theorem zse:Con.Ok Tryz.prog 86 ⟨QW,QX,xM⟩:=zv (zf znk (zf zkM (zf zjw (zf zcU zh)))) zm (by kernel_rfl)
theorem zcc (a0) (a1) (a2):xM (a0,a1,a2,())=Gc Jo uZ uE vK a0 a1 a2:=zx3 Jo uZ uE vK a0 a1 a2
abbrev Vs:List VT:=[⟨false,(.list zu)⟩]
abbrev Vt:List VT:=[⟨true,zu⟩,⟨false,I⟩]
def zvJ:zZ:=zQ [cdF zu] [] [] [] [69]
def zgQ (qt:vX) (a0:(List jM)):Option (jM×Int×Unit):=
 bif (zj ((a0.length:Nat):Int) 0) then some ((0,0),(2,()))
 else bif (zr 12 ((a0.length:Nat):Int)) then some ((0,0),(3,()))
  else opt (qb (fun s0:(((Int×Int)×((Int×Int)×(Int×(Int×Unit))))×Unit)=>
    bif (zr s0.1.2.2.2.1 ((a0.length:Nat):Int)) then opt (atI a0 s0.1.2.2.2.1) fun x1=>
     opt (qt (x1,())) fun x2=>
     bif !(zj x2.1 0) then some (.inl (1,(((0,0),(s0.1.2.1,(x2.1,(s0.1.2.2.2.1,())))),())))
     else some (.inr ((s0.1.1,(((wrF .i64 (s0.1.2.1.1+x1.1)),(wrF .i64 (s0.1.2.1.2+x1.2))),(s0.1.2.2.1,((wrF .i64 (s0.1.2.2.2.1+1)),())))),()))
    else some (.inl (0,((s0.1.1,(s0.1.2.1,(s0.1.2.2.1,(s0.1.2.2.2.1,())))),())))) qw (((0,0),((0,0),(0,(0,())))),())) fun x3=>
   bif Nat.beq x3.1 0 then opt (qt (x3.2.1.2.1,())) fun x4=>
    bif !(zj x4.1 0) then some ((0,0),(6,()))
    else some (x3.2.1.2.1,(0,()))
   else some (x3.2.1.1,(x3.2.1.2.2.1,()))
abbrev zcd:Type:=((List jM)×Unit)→Option (jM×Int×Unit)
def zns:vX→zcd:=fun qt=>sF Tryz.prog [(69,⟨xx,xy,qt⟩)] zvJ (zN []) 30 87 Vs Vt
theorem zx4 (qt) (a0):zns qt (a0,())=zgQ qt a0:=by kernel_rfl
def uF:zcd:=zns wR
theorem zsf:Con.Ok Tryz.prog 87 ⟨Vs,Vt,uF⟩:=zv (zf XF zh) zm (by kernel_rfl)
theorem zsg (a0):uF (a0,())=zgQ wR a0:=zx4 wR a0
abbrev ZT:List VT:=[⟨true,Wb⟩]
abbrev ZU:List VT:=[⟨false,I⟩]
def ztX:zZ:=zQ [cdF Wb] [] [] [] []
def zeR (a0:vJ):Option (Int×Unit):=
 opt (bif zr a0.1 1 then some (1,((140,()),()))
  else bif zr 2097152 a0.1 then some (1,((140,()),()))
   else bif zr a0.2 0 then some (1,((140,()),()))
    else bif zr 268435456 a0.2 then some (1,((140,()),()))
     else some (0,((0,()),()))) fun x0=>
 bif Nat.beq x0.1 0 then some (0,())
 else some (x0.2.1.1,())
abbrev YA:Type:=(vJ×Unit)→Option (Int×Unit)
def zls:YA:=sF Tryz.prog [] ztX (zN []) 30 132 ZT ZU
theorem zvK (a0):zls (a0,())=zeR a0:=by kernel_rfl
def kK:YA:=zls
theorem zgR:Con.Ok Tryz.prog 132 ⟨ZT,ZU,kK⟩:=zv zh zm (by kernel_rfl)
theorem zqx (a0):kK (a0,())=zeR  a0:=zvK  a0
abbrev ZV:List VT:=[⟨false,(.list I)⟩]
abbrev ZW:List VT:=[⟨false,.bool⟩]
def ztY:zZ:=zQ [] [] [] [] []
def zeS (a0:(List Int)):Option (Bool×Unit):=
 opt (qb (fun s0:((Bool×(Int×Unit))×Unit)=>
  bif (zr s0.1.2.1 ((a0.length:Nat):Int)) then opt (atI a0 s0.1.2.1) fun x1=>
   opt (bif zr x1 (-1125899906842624) then some (1,((false,()),()))
    else bif zr 1125899906842624 x1 then some (1,((false,()),()))
     else some (0,((s0.1.1,()),()))) fun x2=>
   bif Nat.beq x2.1 0 then some (.inr ((x2.2.1.1,((wrF .i64 (s0.1.2.1+1)),())),()))
   else some (.inl (1,((x2.2.1.1,(s0.1.2.1,())),())))
  else some (.inl (0,((s0.1.1,(s0.1.2.1,())),())))) qw ((false,(0,())),())) fun x3=>
 bif Nat.beq x3.1 0 then some (true,())
 else some (x3.2.1.1,())
abbrev YB:Type:=((List Int)×Unit)→Option (Bool×Unit)
def zlt:YB:=sF Tryz.prog [] ztY (zN []) 30 161 ZV ZW
theorem zvL (a0):zlt (a0,())=zeS a0:=by kernel_rfl
def kL:YB:=zlt
theorem zgS:Con.Ok Tryz.prog 161 ⟨ZV,ZW,kL⟩:=zv zh zm (by kernel_rfl)
theorem zqy (a0):kL (a0,())=zeS  a0:=zvL  a0
abbrev Jp:List VT:=[⟨false,I⟩]
abbrev Jq:List VT:=[⟨false,(.int .u64)⟩]
def zqz:zZ:=zQ [] [] [] [] []
def Uw (a0:Int):Option (Int×Unit):=
 bif zr a0 0 then some ((wrF .u64 (wrF .i64 (0 - a0))),())
 else some ((wrF .u64 a0),())
abbrev Ux:Type:=(Int×Unit)→Option (Int×Unit)
def zh5:Ux:=sF Tryz.prog [] zqz (zN []) 30 163 Jp Jq
theorem zsh (a0):zh5 (a0,())=Uw a0:=by kernel_rfl
def gY:Ux:=zh5
theorem znt:Con.Ok Tryz.prog 163 ⟨Jp,Jq,gY⟩:=zv zh zm (by kernel_rfl)
theorem zen (a0):gY (a0,())=Uw  a0:=zsh  a0
abbrev Zr:List VT:=[⟨false,(.int .u64)⟩,⟨false,(.int .u64)⟩]
abbrev Zs:List VT:=[⟨false,(.int .u64)⟩,⟨false,(.int .u64)⟩]
def znu:zZ:=zQ [] [] [] [] []
def GZ (a0:Int) (a1:Int):Option (Int×Int×Unit):=
 some ((wrF .u64 ((wrF .u64 ((wrF .u64 ((yu .u64 a0 32)*(yu .u64 a1 32)))+(yu .u64 (wrF .u64 ((wrF .u64 ((yu .u64 a0 32)*(gP .and .u64 a1 4294967295)))+(yu .u64 (wrF .u64 ((gP .and .u64 a0 4294967295)*(gP .and .u64 a1 4294967295))) 32))) 32)))+(yu .u64 (wrF .u64 ((gP .and .u64 (wrF .u64 ((wrF .u64 ((yu .u64 a0 32)*(gP .and .u64 a1 4294967295)))+(yu .u64 (wrF .u64 ((gP .and .u64 a0 4294967295)*(gP .and .u64 a1 4294967295))) 32))) 4294967295)+(wrF .u64 ((gP .and .u64 a0 4294967295)*(yu .u64 a1 32))))) 32))),((wrF .u64 (a0*a1)),()))
abbrev XJ:Type:=(Int×Int×Unit)→Option (Int×Int×Unit)
def zfk:XJ:=sF Tryz.prog [] znu (zN []) 30 162 Zr Zs
theorem zo2 (a0) (a1):zfk (a0,a1,())=GZ a0 a1:=by kernel_rfl
def Zt:XJ:=zfk
theorem zkN:Con.Ok Tryz.prog 162 ⟨Zr,Zs,Zt⟩:=zv zh zm (by kernel_rfl)
theorem zkO (a0) (a1):Zt (a0,a1,())=GZ  a0 a1:=zo2  a0 a1
abbrev Zu:List VT:=[⟨false,(.int .u64)⟩]
abbrev Zv:List VT:=[⟨false,I⟩]
def znv:zZ:=zQ [] [] [] [] []
def zfl:(Int×Unit)→Option (Int×Unit):=sF Tryz.prog [] znv (zN []) 30 176 Zu Zv
theorem zkP:Con.Ok Tryz.prog 176 ⟨Zu,Zv,zfl⟩:=zv zh zm (by kernel_rfl)
abbrev xz:List VT:=[⟨false,(.int .u64)⟩]
abbrev xA:List VT:=[⟨false,I⟩]
def zeo:zZ:=zQ [] [] [] [] [176]
def kM:(Int×Unit)→Option (Int×Unit):=sF Tryz.prog [(176,⟨Zu,Zv,zfl⟩)] zeo (zN []) 30 179 xz xA
theorem zcJ:Con.Ok Tryz.prog 179 ⟨xz,xA,kM⟩:=zv (zf zkP zh) zm (by kernel_rfl)
abbrev Zw:List VT:=[⟨false,(.int .u64)⟩,⟨false,(.int .u64)⟩,⟨false,(.int .u64)⟩]
abbrev Zx:List VT:=[⟨false,(.int .u64)⟩,⟨false,(.int .u64)⟩]
def znw:zZ:=zQ [] [] [] [] [179]
def zaa (xE:(Int×Unit)→Option (Int×Unit)) (a0:Int) (a1:Int) (a2:Int):Option (Int×Int×Unit):=
 opt (bif zj a2 0 then none
  else some (0,((),()))) fun x0=>
 opt (bif !(zr a0 a2) then none
  else some (0,((),()))) fun x1=>
 bif zj a0 0 then bif zj a2 0 then none
  else bif zj a2 0 then none
   else some ((wrF .u64 (Int.tdiv a1 a2)),((Int.tmod a1 a2),()))
 else opt (xE (a2,())) fun x2=>
  bif zr (wrF .u64 x2.1) 0 then none
  else bif zr (wrF .u64 x2.1) 0 then none
   else bif (zr (wrF .u64 (64 - (wrF .u64 x2.1))) 0) then none
    else bif zr (wrF .u64 x2.1) 0 then none
     else bif (zj (yu .u64 (xQ .u64 a2 (wrF .u64 x2.1)) 32) 0) then none
      else opt (qb (fun s3:((Int×(Int×Unit))×Unit)=>
        bif !(zr s3.1.1 4294967296) then bif (!(zr (wrF .u64 (s3.1.2.1+(yu .u64 (xQ .u64 a2 (wrF .u64 x2.1)) 32))) 4294967296)) then some (.inl (0,(((wrF .u64 (s3.1.1 - 1)),((wrF .u64 (s3.1.2.1+(yu .u64 (xQ .u64 a2 (wrF .u64 x2.1)) 32))),())),())))
         else some (.inr (((wrF .u64 (s3.1.1 - 1)),((wrF .u64 (s3.1.2.1+(yu .u64 (xQ .u64 a2 (wrF .u64 x2.1)) 32))),())),()))
        else bif (zr (wrF .u64 ((wrF .u64 (4294967296*s3.1.2.1))+(yu .u64 (xQ .u64 a1 (wrF .u64 x2.1)) 32))) (wrF .u64 (s3.1.1*(gP .and .u64 (xQ .u64 a2 (wrF .u64 x2.1)) 4294967295)))) then bif (!(zr (wrF .u64 (s3.1.2.1+(yu .u64 (xQ .u64 a2 (wrF .u64 x2.1)) 32))) 4294967296)) then some (.inl (0,(((wrF .u64 (s3.1.1 - 1)),((wrF .u64 (s3.1.2.1+(yu .u64 (xQ .u64 a2 (wrF .u64 x2.1)) 32))),())),())))
          else some (.inr (((wrF .u64 (s3.1.1 - 1)),((wrF .u64 (s3.1.2.1+(yu .u64 (xQ .u64 a2 (wrF .u64 x2.1)) 32))),())),()))
         else some (.inl (0,((s3.1.1,(s3.1.2.1,())),())))) qw (((wrF .u64 (Int.tdiv (gP .or .u64 (xQ .u64 a0 (wrF .u64 x2.1)) (yu .u64 a1 (wrF .u64 (64 - (wrF .u64 x2.1))))) (yu .u64 (xQ .u64 a2 (wrF .u64 x2.1)) 32))),((wrF .u64 ((gP .or .u64 (xQ .u64 a0 (wrF .u64 x2.1)) (yu .u64 a1 (wrF .u64 (64 - (wrF .u64 x2.1))))) - (wrF .u64 ((wrF .u64 (Int.tdiv (gP .or .u64 (xQ .u64 a0 (wrF .u64 x2.1)) (yu .u64 a1 (wrF .u64 (64 - (wrF .u64 x2.1))))) (yu .u64 (xQ .u64 a2 (wrF .u64 x2.1)) 32)))*(yu .u64 (xQ .u64 a2 (wrF .u64 x2.1)) 32))))),())),())) fun x4=>
       bif (zj (yu .u64 (xQ .u64 a2 (wrF .u64 x2.1)) 32) 0) then none
       else opt (qb (fun s5:((Int×(Int×Unit))×Unit)=>
         bif !(zr s5.1.1 4294967296) then bif (!(zr (wrF .u64 (s5.1.2.1+(yu .u64 (xQ .u64 a2 (wrF .u64 x2.1)) 32))) 4294967296)) then some (.inl (0,(((wrF .u64 (s5.1.1 - 1)),((wrF .u64 (s5.1.2.1+(yu .u64 (xQ .u64 a2 (wrF .u64 x2.1)) 32))),())),())))
          else some (.inr (((wrF .u64 (s5.1.1 - 1)),((wrF .u64 (s5.1.2.1+(yu .u64 (xQ .u64 a2 (wrF .u64 x2.1)) 32))),())),()))
         else bif (zr (wrF .u64 ((wrF .u64 (4294967296*s5.1.2.1))+(gP .and .u64 (xQ .u64 a1 (wrF .u64 x2.1)) 4294967295))) (wrF .u64 (s5.1.1*(gP .and .u64 (xQ .u64 a2 (wrF .u64 x2.1)) 4294967295)))) then bif (!(zr (wrF .u64 (s5.1.2.1+(yu .u64 (xQ .u64 a2 (wrF .u64 x2.1)) 32))) 4294967296)) then some (.inl (0,(((wrF .u64 (s5.1.1 - 1)),((wrF .u64 (s5.1.2.1+(yu .u64 (xQ .u64 a2 (wrF .u64 x2.1)) 32))),())),())))
           else some (.inr (((wrF .u64 (s5.1.1 - 1)),((wrF .u64 (s5.1.2.1+(yu .u64 (xQ .u64 a2 (wrF .u64 x2.1)) 32))),())),()))
          else some (.inl (0,((s5.1.1,(s5.1.2.1,())),())))) qw (((wrF .u64 (Int.tdiv (wrF .u64 ((wrF .u64 ((wrF .u64 ((gP .or .u64 (xQ .u64 a0 (wrF .u64 x2.1)) (yu .u64 a1 (wrF .u64 (64 - (wrF .u64 x2.1)))))*4294967296))+(yu .u64 (xQ .u64 a1 (wrF .u64 x2.1)) 32))) - (wrF .u64 (x4.2.1.1*(xQ .u64 a2 (wrF .u64 x2.1)))))) (yu .u64 (xQ .u64 a2 (wrF .u64 x2.1)) 32))),((wrF .u64 ((wrF .u64 ((wrF .u64 ((wrF .u64 ((gP .or .u64 (xQ .u64 a0 (wrF .u64 x2.1)) (yu .u64 a1 (wrF .u64 (64 - (wrF .u64 x2.1)))))*4294967296))+(yu .u64 (xQ .u64 a1 (wrF .u64 x2.1)) 32))) - (wrF .u64 (x4.2.1.1*(xQ .u64 a2 (wrF .u64 x2.1)))))) - (wrF .u64 ((wrF .u64 (Int.tdiv (wrF .u64 ((wrF .u64 ((wrF .u64 ((gP .or .u64 (xQ .u64 a0 (wrF .u64 x2.1)) (yu .u64 a1 (wrF .u64 (64 - (wrF .u64 x2.1)))))*4294967296))+(yu .u64 (xQ .u64 a1 (wrF .u64 x2.1)) 32))) - (wrF .u64 (x4.2.1.1*(xQ .u64 a2 (wrF .u64 x2.1)))))) (yu .u64 (xQ .u64 a2 (wrF .u64 x2.1)) 32)))*(yu .u64 (xQ .u64 a2 (wrF .u64 x2.1)) 32))))),())),())) fun x6=>
        bif zr (wrF .u64 x2.1) 0 then none
        else some ((wrF .u64 ((wrF .u64 (x4.2.1.1*4294967296))+x6.2.1.1)),((yu .u64 (wrF .u64 ((wrF .u64 ((wrF .u64 ((wrF .u64 ((wrF .u64 ((wrF .u64 ((gP .or .u64 (xQ .u64 a0 (wrF .u64 x2.1)) (yu .u64 a1 (wrF .u64 (64 - (wrF .u64 x2.1)))))*4294967296))+(yu .u64 (xQ .u64 a1 (wrF .u64 x2.1)) 32))) - (wrF .u64 (x4.2.1.1*(xQ .u64 a2 (wrF .u64 x2.1))))))*4294967296))+(gP .and .u64 (xQ .u64 a1 (wrF .u64 x2.1)) 4294967295))) - (wrF .u64 (x6.2.1.1*(xQ .u64 a2 (wrF .u64 x2.1)))))) (wrF .u64 x2.1)),()))
abbrev XK:Type:=(Int×Int×Int×Unit)→Option (Int×Int×Unit)
def zfm:((Int×Unit)→Option (Int×Unit))→XK:=fun xE=>sF Tryz.prog [(179,⟨xz,xA,xE⟩)] znw (zN []) 30 164 Zw Zx
theorem zo3 (xE) (a0) (a1) (a2):zfm xE (a0,a1,a2,())=zaa xE a0 a1 a2:=by kernel_rfl
def Zy:XK:=zfm kM
theorem zkQ:Con.Ok Tryz.prog 164 ⟨Zw,Zx,Zy⟩:=zv (zf zcJ zh) zm (by kernel_rfl)
theorem zkR (a0) (a1) (a2):Zy (a0,a1,a2,())=zaa kM a0 a1 a2:=zo3 kM a0 a1 a2
abbrev YC:List VT:=[⟨false,I⟩]
abbrev YD:List VT:=[⟨false,I⟩,⟨false,.bool⟩]
def ztZ:zZ:=zQ [] [] [] [] [161]
def zeT (xF:YB) (a0:Int):Option (Int×Bool×Unit):=
 opt (xF ((a0::[]),())) fun x0=>
 bif !x0.1 then some (0,(false,()))
 else some (a0,(true,()))
abbrev zaB:Type:=(Int×Unit)→Option (Int×Bool×Unit)
def zlu:YB→zaB:=fun xF=>sF Tryz.prog [(161,⟨ZV,ZW,xF⟩)] ztZ (zN []) 30 165 YC YD
theorem zvM (xF) (a0):zlu xF (a0,())=zeT xF a0:=by kernel_rfl
def YE:zaB:=zlu kL
theorem zqA:Con.Ok Tryz.prog 165 ⟨YC,YD,YE⟩:=zv (zf zgS zh) zm (by kernel_rfl)
theorem zqB (a0):YE (a0,())=zeT kL a0:=zvM kL a0
abbrev Vu:List VT:=[⟨false,I⟩,⟨false,I⟩,⟨false,I⟩]
abbrev Vv:List VT:=[⟨false,I⟩,⟨false,.bool⟩]
def zvN:zZ:=zQ [] [] [] [] [161,163,162,164,165]
def zgT (xF:YB) (Ze:Ux) (ZH:XJ) (ZI:XK) (YN:zaB) (a0:Int) (a1:Int) (a2:Int):Option (Int×Bool×Unit):=
 opt (opt (xF ((a0::(a1::(a2::[]))),())) fun x0=>
  bif !x0.1 then some (1,((0,(false,())),()))
  else bif zr a2 1 then some (1,((0,(false,())),()))
   else some (0,((0,(false,())),()))) fun x1=>
 bif Nat.beq x1.1 0 then opt (Ze (a0,())) fun x2=>
  opt (Ze (a1,())) fun x3=>
  opt (ZH (x2.1,(x3.1,()))) fun x4=>
  bif (!(zr x4.1 (wrF .u64 a2))) then some (0,(false,()))
  else opt (ZI (x4.1,(x4.2.1,((wrF .u64 a2),())))) fun x5=>
   bif zr 1125899906842624 x5.1 then some (0,(false,()))
   else opt (bif (!((zr a0 0) == (zr a1 0))) then opt (bif !(zj x5.2.1 0) then some (0,(((wrF .i64 ((wrF .i64 (0 - (wrF .i64 x5.1))) - 1)),()),()))
       else some (0,(((wrF .i64 (0 - (wrF .i64 x5.1))),()),()))) fun x6=>
      some (0,((x6.2.1.1,()),()))
     else some (0,(((wrF .i64 x5.1),()),()))) fun x7=>
    opt (YN (x7.2.1.1,())) fun x8=>
    some (x8.1,(x8.2.1,()))
 else some (x1.2.1.1,(x1.2.1.2.1,()))
abbrev zce:Type:=(Int×Int×Int×Unit)→Option (Int×Bool×Unit)
def znx:YB→Ux→XJ→XK→zaB→zce:=fun xF Ze ZH ZI YN=>sF Tryz.prog [(161,⟨ZV,ZW,xF⟩),(163,⟨Jp,Jq,Ze⟩),(162,⟨Zr,Zs,ZH⟩),(164,⟨Zw,Zx,ZI⟩),(165,⟨YC,YD,YN⟩)] zvN (zN []) 30 154 Vu Vv
theorem zx5 (xF) (Ze) (ZH) (ZI) (YN) (a0) (a1) (a2):znx xF Ze ZH ZI YN (a0,a1,a2,())=zgT xF Ze ZH ZI YN a0 a1 a2:=by kernel_rfl
def Vw:zce:=znx kL gY Zt Zy YE
theorem zsi:Con.Ok Tryz.prog 154 ⟨Vu,Vv,Vw⟩:=zv (zf zgS (zf znt (zf zkN (zf zkQ (zf zqA zh))))) zm (by kernel_rfl)
theorem zsj (a0) (a1) (a2):Vw (a0,a1,a2,())=zgT kL gY Zt Zy YE a0 a1 a2:=zx5 kL gY Zt Zy YE a0 a1 a2
abbrev QY:List VT:=[⟨false,I⟩,⟨false,I⟩,⟨false,I⟩]
abbrev QZ:List VT:=[⟨false,I⟩]
def zvO:zZ:=zQ [] [] [] [] [154]
def zgU (VU:zce) (a0:Int) (a1:Int) (a2:Int):Option (Int×Unit):=
 opt (VU ((wrF .i64 (0 - a0)),(a1,(a2,())))) fun x0=>
 some ((wrF .i64 (0 - x0.1)),())
abbrev Vx:Type:=(Int×Int×Int×Unit)→Option (Int×Unit)
def zny:zce→Vx:=fun VU=>sF Tryz.prog [(154,⟨Vu,Vv,VU⟩)] zvO (zN []) 30 135 QY QZ
theorem zx6 (VU) (a0) (a1) (a2):zny VU (a0,a1,a2,())=zgU VU a0 a1 a2:=by kernel_rfl
def kB:Vx:=zny Vw
theorem zh6:Con.Ok Tryz.prog 135 ⟨QY,QZ,kB⟩:=zv (zf zsi zh) zm (by kernel_rfl)
theorem zsk (a0) (a1) (a2):kB (a0,a1,a2,())=zgU Vw a0 a1 a2:=zx6 Vw a0 a1 a2
abbrev Qw:List VT:=[⟨false,(.list zu)⟩,⟨false,I⟩]
abbrev Qx:List VT:=[⟨false,I⟩,⟨false,.bool⟩]
def zo4:zZ:=zQ [cdF zu] [] [] [] [135]
def za0 (xP:Vx) (a0:(List jM)) (a1:Int):Option (Int×Bool×Unit):=
 opt (qb (fun s0:((Int×(Bool×(Int×Unit)))×(Unit×(Unit×Unit)))=>
  bif (zr s0.1.2.2.1 ((a0.length:Nat):Int)) then opt (atI a0 s0.1.2.2.1) fun x1=>
   bif zr a1 x1.2 then some (.inr ((s0.1.1,(s0.1.2.1,((wrF .i64 (s0.1.2.2.1+1)),()))),((),((),()))))
   else opt (xP (x1.1,(1048576,(a1,())))) fun x2=>
    opt (bif !s0.1.2.1 then some (0,((x2.1,(true,())),((),())))
     else bif zr x2.1 s0.1.1 then some (0,((x2.1,(true,())),((),())))
      else some (0,((s0.1.1,(s0.1.2.1,())),((),())))) fun x3=>
    opt (qb (fun s4:((Int×(Bool×(Int×Unit)))×(Unit×(Unit×Unit)))=>
     bif (zr s4.1.2.2.1 ((a0.length:Nat):Int)) then opt (atI a0 s4.1.2.2.1) fun x5=>
      bif !(zr a1 x5.2) then some (.inr ((s4.1.1,(s4.1.2.1,((wrF .i64 (s4.1.2.2.1+1)),()))),((),((),()))))
      else bif !(zr x5.1 x1.1) then some (.inr ((s4.1.1,(s4.1.2.1,((wrF .i64 (s4.1.2.2.1+1)),()))),((),((),()))))
       else opt (xP ((wrF .i64 ((wrF .i64 ((wrF .i64 (x5.2 - a1))*x1.1))+(wrF .i64 ((wrF .i64 (a1 - x1.2))*x5.1)))),(1048576,((wrF .i64 (a1*(wrF .i64 (x5.2 - x1.2)))),())))) fun x6=>
        opt (bif !s4.1.2.1 then some (0,((x6.1,(true,())),((),())))
         else bif zr x6.1 s4.1.1 then some (0,((x6.1,(true,())),((),())))
          else some (0,((s4.1.1,(s4.1.2.1,())),((),())))) fun x7=>
        some (.inr ((x7.2.1.1,(x7.2.1.2.1,((wrF .i64 (s4.1.2.2.1+1)),()))),((),((),()))))
     else some (.inl (0,((s4.1.1,(s4.1.2.1,(s4.1.2.2.1,()))),((),((),())))))) qw ((x3.2.1.1,(x3.2.1.2.1,(0,()))),((),((),())))) fun x8=>
    bif Nat.beq x8.1 0 then some (.inr ((x8.2.1.1,(x8.2.1.2.1,((wrF .i64 (s0.1.2.2.1+1)),()))),((),((),()))))
    else some (.inl (1,((x8.2.1.1,(x8.2.1.2.1,(s0.1.2.2.1,()))),((),((),())))))
  else some (.inl (0,((s0.1.1,(s0.1.2.1,(s0.1.2.2.1,()))),((),((),())))))) qw ((0,(false,(0,()))),((),((),())))) fun x9=>
 bif Nat.beq x9.1 0 then some (x9.2.1.1,(x9.2.1.2.1,()))
 else some (x9.2.1.1,(x9.2.1.2.1,()))
abbrev Kx:Type:=((List jM)×Int×Unit)→Option (Int×Bool×Unit)
def zgV:Vx→Kx:=fun xP=>sF Tryz.prog [(135,⟨QY,QZ,xP⟩)] zo4 (zN []) 30 133 Qw Qx
theorem zqC (xP) (a0) (a1):zgV xP (a0,a1,())=za0 xP a0 a1:=by kernel_rfl
def Qy:Kx:=zgV kB
theorem zlY:Con.Ok Tryz.prog 133 ⟨Qw,Qx,Qy⟩:=zv (zf zh6 zh) zm (by kernel_rfl)
theorem zlZ (a0) (a1):Qy (a0,a1,())=za0 kB a0 a1:=zqC kB a0 a1
abbrev YF:List VT:=[⟨false,(.list zu)⟩,⟨true,Wb⟩]
abbrev YG:List VT:=[⟨false,I⟩,⟨false,I⟩]
def zt0:zZ:=zQ [cdF Wb] [] [⟨2,30,some 2,zu,false⟩,⟨5,30,some 2,zu,false⟩] [] [69,132,133]
def zeU (qt:vX) (yU:YA) (xU:Kx) (a0:(List jM)) (a1:vJ):Option (Int×Int×Unit):=
 bif (zj ((a0.length:Nat):Int) 0) then some (0,(2,()))
 else bif (zr 12 ((a0.length:Nat):Int)) then some (0,(3,()))
  else opt (qb (fun s0:((Int×(Int×Unit))×Unit)=>
    bif (zr s0.1.2.1 ((a0.length:Nat):Int)) then opt (atI a0 s0.1.2.1) fun x1=>
     opt (qt (x1,())) fun x2=>
     bif !(zj x2.1 0) then some (.inl (1,((x2.1,(s0.1.2.1,())),())))
     else some (.inr ((s0.1.1,((wrF .i64 (s0.1.2.1+1)),())),()))
    else some (.inl (0,((s0.1.1,(s0.1.2.1,())),())))) qw ((0,(0,())),())) fun x3=>
   bif Nat.beq x3.1 0 then opt (yU (a1,())) fun x4=>
    bif !(zj x4.1 0) then bif !(zj x4.1 0) then some (0,(x4.1,()))
     else opt (xU (a0,(a1.1,()))) fun x5=>
      bif !x5.2.1 then some (0,(141,()))
      else some ((wrF .i64 (a1.2+x5.1)),(0,()))
    else opt (xU (a0,(a1.1,()))) fun x6=>
     bif !x6.2.1 then some (0,(141,()))
     else some ((wrF .i64 (a1.2+x6.1)),(0,()))
   else bif !(zj x3.2.1.1 0) then bif !(zj x3.2.1.1 0) then some (0,(x3.2.1.1,()))
     else opt (xU (a0,(a1.1,()))) fun x7=>
      bif !x7.2.1 then some (0,(141,()))
      else some ((wrF .i64 (a1.2+x7.1)),(0,()))
    else opt (yU (a1,())) fun x8=>
     bif !(zj x8.1 0) then bif !(zj x8.1 0) then some (0,(x8.1,()))
      else opt (xU (a0,(a1.1,()))) fun x9=>
       bif !x9.2.1 then some (0,(141,()))
       else some ((wrF .i64 (a1.2+x9.1)),(0,()))
     else opt (xU (a0,(a1.1,()))) fun x10=>
      bif !x10.2.1 then some (0,(141,()))
      else some ((wrF .i64 (a1.2+x10.1)),(0,()))
abbrev zaC:Type:=((List jM)×vJ×Unit)→Option (Int×Int×Unit)
def zlv:vX→YA→Kx→zaC:=fun qt yU xU=>sF Tryz.prog [(69,⟨xx,xy,qt⟩),(132,⟨ZT,ZU,yU⟩),(133,⟨Qw,Qx,xU⟩)] zt0 (zN []) 30 88 YF YG
theorem zvP (qt) (yU) (xU) (a0) (a1):zlv qt yU xU (a0,a1,())=zeU qt yU xU a0 a1:=by kernel_rfl
def vO:zaC:=zlv wR kK Qy
theorem zqD:Con.Ok Tryz.prog 88 ⟨YF,YG,vO⟩:=zv (zf XF (zf zgR (zf zlY zh))) zm (by kernel_rfl)
theorem zqE (a0) (a1):vO (a0,a1,())=zeU wR kK Qy a0 a1:=zvP wR kK Qy a0 a1
abbrev Zz:List VT:=[⟨true,zu⟩,⟨true,Wb⟩]
abbrev ZA:List VT:=[⟨false,I⟩]
def znz:zZ:=zQ [cdF zu] [] [] [] [69,132]
def zab (qt:vX) (yU:YA) (a0:jM) (a1:vJ):Option (Int×Unit):=
 opt (qt (a0,())) fun x0=>
 bif !(zj x0.1 0) then some (x0.1,())
 else opt (yU (a1,())) fun x1=>
  bif !(zj x1.1 0) then some (x1.1,())
  else bif zr a1.1 a0.2 then some (141,())
   else some (0,())
abbrev XL:Type:=(jM×vJ×Unit)→Option (Int×Unit)
def zfn:vX→YA→XL:=fun qt yU=>sF Tryz.prog [(69,⟨xx,xy,qt⟩),(132,⟨ZT,ZU,yU⟩)] znz (zN []) 30 134 Zz ZA
theorem zo5 (qt) (yU) (a0) (a1):zfn qt yU (a0,a1,())=zab qt yU a0 a1:=by kernel_rfl
def ZB:XL:=zfn wR kK
theorem zkS:Con.Ok Tryz.prog 134 ⟨Zz,ZA,ZB⟩:=zv (zf XF (zf zgR zh)) zm (by kernel_rfl)
theorem zkT (a0) (a1):ZB (a0,a1,())=zab wR kK a0 a1:=zo5 wR kK a0 a1
abbrev Jr:List VT:=[⟨true,zu⟩,⟨true,Wb⟩]
abbrev Js:List VT:=[⟨false,I⟩,⟨false,I⟩]
def zqF:zZ:=zQ [cdF zu] [] [] [] [134,135]
def zcf (ZJ:XL) (xP:Vx) (a0:jM) (a1:vJ):Option (Int×Int×Unit):=
 opt (ZJ (a0,(a1,()))) fun x0=>
 bif !(zj x0.1 0) then some (0,(x0.1,()))
 else opt (xP (a0.2,(a1.2,(1048576,())))) fun x1=>
  some ((wrF .i64 (a0.1+x1.1)),(0,()))
abbrev Uy:Type:=(jM×vJ×Unit)→Option (Int×Int×Unit)
def zh7:XL→Vx→Uy:=fun ZJ xP=>sF Tryz.prog [(134,⟨Zz,ZA,ZJ⟩),(135,⟨QY,QZ,xP⟩)] zqF (zN []) 30 89 Jr Js
theorem zsl (ZJ) (xP) (a0) (a1):zh7 ZJ xP (a0,a1,())=zcf ZJ xP a0 a1:=by kernel_rfl
def xN:Uy:=zh7 ZB kB
theorem znA:Con.Ok Tryz.prog 89 ⟨Jr,Js,xN⟩:=zv (zf zkS (zf zh6 zh)) zm (by kernel_rfl)
theorem znB (a0) (a1):xN (a0,a1,())=zcf ZB kB a0 a1:=zsl ZB kB a0 a1
abbrev Qz:List VT:=[⟨true,GD⟩]
abbrev QA:List VT:=[⟨false,I⟩]
def zo6:zZ:=zQ [cdF GD,cdF qp] [] [] [] []
def za1 (a0:zbk):Option (Int×Unit):=
 some (a0.1.2.2.2,())
abbrev Ky:Type:=(zbk×Unit)→Option (Int×Unit)
def zgW:Ky:=sF Tryz.prog [] zo6 (zN []) 30 91 Qz QA
theorem zqG (a0):zgW (a0,())=za1 a0:=by kernel_rfl
def WJ:Ky:=zgW
theorem zl0:Con.Ok Tryz.prog 91 ⟨Qz,QA,WJ⟩:=zv zh zm (by kernel_rfl)
theorem zl1 (a0):WJ (a0,())=za1  a0:=zqG  a0
abbrev Vy:List VT:=[⟨true,zR⟩,⟨false,I⟩]
abbrev Vz:List VT:=[⟨false,I⟩,⟨false,I⟩]
def zvQ:zZ:=zQ [cdF zR,cdF GD,cdF qp] [] [] [] [41,91]
def zgX (zY:xJ) (QJ:Ky) (a0:qj) (a1:Int):Option (Int×Int×Unit):=
 opt (zY (a0,())) fun x0=>
 bif !(zj x0.1 0) then some (0,(x0.1,()))
 else opt (bif zr a1 0 then some (1,((0,(2,())),()))
   else bif (!(zr a1 (wrF .i64 (2*((a0.2.2.length:Nat):Int))))) then some (1,((0,(2,())),()))
    else some (0,((0,(0,())),()))) fun x1=>
  bif Nat.beq x1.1 0 then opt (atI a0.2.2 (wrF .i64 (Int.tdiv a1 2))) fun x2=>
   opt (QJ ((x2,a1),())) fun x3=>
   some (x3.1,(0,()))
  else some (x1.2.1.1,(x1.2.1.2.1,()))
abbrev zcg:Type:=(qj×Int×Unit)→Option (Int×Int×Unit)
def znC:xJ→Ky→zcg:=fun zY QJ=>sF Tryz.prog [(41,⟨wL,wM,zY⟩),(91,⟨Qz,QA,QJ⟩)] zvQ (zN []) 30 58 Vy Vz
theorem zx7 (zY) (QJ) (a0) (a1):znC zY QJ (a0,a1,())=zgX zY QJ a0 a1:=by kernel_rfl
def WK:zcg:=znC jB WJ
theorem zsm:Con.Ok Tryz.prog 58 ⟨Vy,Vz,WK⟩:=zv (zf Ji (zf zl0 zh)) zm (by kernel_rfl)
theorem zsn (a0) (a1):WK (a0,a1,())=zgX jB WJ a0 a1:=zx7 jB WJ a0 a1
abbrev xY:List VT:=[⟨true,qz⟩,⟨false,(.list zz)⟩]
abbrev xZ:List VT:=[⟨false,I⟩]
def zt1:zZ:=zQ [cdF qz,cdF zz,cdF ztH,cdF zpB,cdF zR,cdF qp,cdF qk,cdF qQ] [] [⟨8,44,some 4,.unit,true⟩,⟨10,44,some 4,.unit,true⟩,⟨5,98,none,zu,true⟩,⟨8,98,none,zu,true⟩,⟨12,98,none,zu,true⟩,⟨15,98,none,zu,true⟩,⟨18,98,none,zu,true⟩,⟨21,98,none,zu,true⟩,⟨5,98,some 6,zu,false⟩,⟨8,98,some 6,zu,false⟩,⟨12,98,some 6,zu,false⟩,⟨15,98,some 6,zu,false⟩,⟨18,98,some 6,zu,false⟩,⟨21,98,some 6,zu,false⟩,⟨2,90,none,zu,true⟩,⟨6,90,none,zu,true⟩,⟨9,90,none,zu,true⟩,⟨10,90,none,zu,true⟩,⟨12,90,none,zu,true⟩,⟨15,90,none,zu,true⟩,⟨18,90,none,zu,true⟩,⟨21,90,none,zu,true⟩,⟨24,90,none,zu,true⟩,⟨26,90,none,zu,true⟩,⟨5,90,none,zu,true⟩,⟨2,44,none,zu,true⟩,⟨5,44,none,zu,true⟩,⟨8,44,none,zu,true⟩,⟨10,44,none,zu,true⟩,⟨2,37,none,zu,true⟩,⟨1,28,none,zu,true⟩,⟨4,28,none,zu,true⟩,⟨2,19,none,zu,true⟩,⟨4,19,none,zu,true⟩,⟨3,55,none,zu,true⟩,⟨6,55,none,zu,true⟩,⟨9,55,none,zu,true⟩] [] [29,56,119,85,86,87,88,89,58]
def zeV (jz:kr) (ZK:XG) (jZ:vS) (JY:zfZ) (Zf:zcb) (Zg:zcd) (kQ:zaC) (uj:Uy) (VV:zcg) (a0:jA) (a1:(List zD)):Option (Int×Unit):=
 opt (jz (a0,())) fun x0=>
 bif !(zj x0.1 0) then bif !(zj x0.1 0) then some (x0.1,())
  else none
 else opt (ZK (a0.1,(a1,()))) fun x1=>
  bif !(zj x1.1 0) then bif !(zj x1.1 0) then some (x1.1,())
   else none
  else opt (qb (fun s2:((Unit×(Int×(Int×Unit)))×Unit)=>
    bif (zr s2.1.2.2.1 ((a1.length:Nat):Int)) then opt (atI a1 s2.1.2.2.1) fun x3=>
     opt (bif !(zj x3.2.2.2.1 6) then some (1,(((),(2,())),()))
      else bif zr a0.2.2.2 x3.2.2.2.2.1 then some (1,(((),(2,())),()))
       else some (0,(((),(s2.1.2.1,())),()))) fun x4=>
     bif Nat.beq x4.1 0 then some (.inr (((),(x4.2.1.2.1,((wrF .i64 (s2.1.2.2.1+1)),()))),()))
     else some (.inl (1,(((),(x4.2.1.2.1,(s2.1.2.2.1,()))),())))
    else some (.inl (0,(((),(s2.1.2.1,(s2.1.2.2.1,()))),())))) qw (((),(0,(0,()))),())) fun x5=>
   bif Nat.beq x5.1 0 then opt (qb (fun s6:((Int×(Int×Unit))×((List (Int×(((Int×Int)×((Int×Int)×(Int×Int)))×Int)))×Unit))=>
     bif (zr s6.1.2.1 ((a0.2.2.1.length:Nat):Int)) then opt (bif (!(mpH (α:=(((Int×Int)×((Int×Int)×(Int×Int)))×Int)) s6.2.1 s6.1.2.1)) then opt (qb (fun s7:((Int×Unit)×(((List (Int×Int))×Unit)×(Unit×(Unit×Unit))))=>
         bif (zr s7.1.1 ((a1.length:Nat):Int)) then opt (atI a1 s7.1.1) fun x8=>
          opt (qb (fun s9:((Int×(Int×Unit))×(((List (Int×Int))×Unit)×(Unit×(Unit×Unit))))=>
           bif (zr s9.1.2.1 ((x8.2.2.2.2.2.2.2.2.length:Nat):Int)) then opt (atI x8.2.2.2.2.2.2.2.2 s9.1.2.1) fun x10=>
            opt (jZ (x10,(s6.1.2.1,()))) fun x11=>
            bif x11.1 then some (.inl (1,((s9.1.2.1,(s9.1.2.1,())),((s9.2.1.1,()),((),((),()))))))
            else some (.inr ((s9.1.1,((wrF .i64 (s9.1.2.1+1)),())),((s9.2.1.1,()),((),((),())))))
           else some (.inl (0,((s9.1.1,(s9.1.2.1,())),((s9.2.1.1,()),((),((),()))))))) qw ((0,(0,())),((s7.2.1.1,()),((),((),()))))) fun x12=>
          bif Nat.beq x12.1 0 then some (.inr (((wrF .i64 (s7.1.1+1)),()),((x12.2.2.1.1,()),((),((),())))))
          else bif !(zr x12.2.1.1 0) then bif (yS x12.2.2.1.1.length ((x8.2.2.2.2.2.2.1::[]).length) 16) then some (.inr (((wrF .i64 (s7.1.1+1)),()),(((x12.2.2.1.1++(x8.2.2.2.2.2.2.1::[])),()),((),((),())))))
            else none
           else some (.inr (((wrF .i64 (s7.1.1+1)),()),((x12.2.2.1.1,()),((),((),())))))
         else some (.inl (0,((s7.1.1,()),((s7.2.1.1,()),((),((),()))))))) qw ((0,()),(([],()),((),((),()))))) fun x13=>
        bif Nat.beq x13.1 0 then bif (zj ((x13.2.2.1.1.length:Nat):Int) 0) then some (0,(((((0,0),((0,0),(0,0))),4),()),((mpP (α:=(((Int×Int)×((Int×Int)×(Int×Int)))×Int)) s6.2.1 s6.1.2.1 (((0,0),((0,0),(0,0))),4)),())))
         else opt (JY (a0.1,(s6.1.2.1,()))) fun x14=>
          bif !(zj x14.2.1 0) then some (0,(((((0,0),((0,0),(0,0))),x14.2.1),()),((mpP (α:=(((Int×Int)×((Int×Int)×(Int×Int)))×Int)) s6.2.1 s6.1.2.1 (((0,0),((0,0),(0,0))),x14.2.1)),())))
          else opt (atI a0.2.2.1 s6.1.2.1) fun x15=>
           opt (Zf (x15,(x14.1,(a0.2.2.2,())))) fun x16=>
           bif !(zj x16.2.1 0) then some (0,(((((0,0),((0,0),(0,0))),411),()),((mpP (α:=(((Int×Int)×((Int×Int)×(Int×Int)))×Int)) s6.2.1 s6.1.2.1 (((0,0),((0,0),(0,0))),411)),())))
           else opt (Zg (x13.2.2.1.1,())) fun x17=>
            bif !(zj x17.2.1 0) then some (0,(((((0,0),((0,0),(0,0))),x17.2.1),()),((mpP (α:=(((Int×Int)×((Int×Int)×(Int×Int)))×Int)) s6.2.1 s6.1.2.1 (((0,0),((0,0),(0,0))),x17.2.1)),())))
            else opt (kQ ((x17.1::[]),(x16.1,()))) fun x18=>
             bif !(zj x18.2.1 0) then some (0,(((((0,0),((0,0),(0,0))),x18.2.1),()),((mpP (α:=(((Int×Int)×((Int×Int)×(Int×Int)))×Int)) s6.2.1 s6.1.2.1 (((0,0),((0,0),(0,0))),x18.2.1)),())))
             else opt (uj (x17.1,(x16.1,()))) fun x19=>
              bif !(zj x19.2.1 0) then some (0,(((((0,0),((0,0),(0,0))),x19.2.1),()),((mpP (α:=(((Int×Int)×((Int×Int)×(Int×Int)))×Int)) s6.2.1 s6.1.2.1 (((0,0),((0,0),(0,0))),x19.2.1)),())))
              else some (0,((((x17.1,(x16.1,(x18.1,x19.1))),0),()),((mpP (α:=(((Int×Int)×((Int×Int)×(Int×Int)))×Int)) s6.2.1 s6.1.2.1 ((x17.1,(x16.1,(x18.1,x19.1))),0)),())))
        else bif (zj ((x13.2.2.1.1.length:Nat):Int) 0) then some (0,(((((0,0),((0,0),(0,0))),4),()),((mpP (α:=(((Int×Int)×((Int×Int)×(Int×Int)))×Int)) s6.2.1 s6.1.2.1 (((0,0),((0,0),(0,0))),4)),())))
         else opt (JY (a0.1,(s6.1.2.1,()))) fun x20=>
          bif !(zj x20.2.1 0) then some (0,(((((0,0),((0,0),(0,0))),x20.2.1),()),((mpP (α:=(((Int×Int)×((Int×Int)×(Int×Int)))×Int)) s6.2.1 s6.1.2.1 (((0,0),((0,0),(0,0))),x20.2.1)),())))
          else opt (atI a0.2.2.1 s6.1.2.1) fun x21=>
           opt (Zf (x21,(x20.1,(a0.2.2.2,())))) fun x22=>
           bif !(zj x22.2.1 0) then some (0,(((((0,0),((0,0),(0,0))),411),()),((mpP (α:=(((Int×Int)×((Int×Int)×(Int×Int)))×Int)) s6.2.1 s6.1.2.1 (((0,0),((0,0),(0,0))),411)),())))
           else opt (Zg (x13.2.2.1.1,())) fun x23=>
            bif !(zj x23.2.1 0) then some (0,(((((0,0),((0,0),(0,0))),x23.2.1),()),((mpP (α:=(((Int×Int)×((Int×Int)×(Int×Int)))×Int)) s6.2.1 s6.1.2.1 (((0,0),((0,0),(0,0))),x23.2.1)),())))
            else opt (kQ ((x23.1::[]),(x22.1,()))) fun x24=>
             bif !(zj x24.2.1 0) then some (0,(((((0,0),((0,0),(0,0))),x24.2.1),()),((mpP (α:=(((Int×Int)×((Int×Int)×(Int×Int)))×Int)) s6.2.1 s6.1.2.1 (((0,0),((0,0),(0,0))),x24.2.1)),())))
             else opt (uj (x23.1,(x22.1,()))) fun x25=>
              bif !(zj x25.2.1 0) then some (0,(((((0,0),((0,0),(0,0))),x25.2.1),()),((mpP (α:=(((Int×Int)×((Int×Int)×(Int×Int)))×Int)) s6.2.1 s6.1.2.1 (((0,0),((0,0),(0,0))),x25.2.1)),())))
              else some (0,((((x23.1,(x22.1,(x24.1,x25.1))),0),()),((mpP (α:=(((Int×Int)×((Int×Int)×(Int×Int)))×Int)) s6.2.1 s6.1.2.1 ((x23.1,(x22.1,(x24.1,x25.1))),0)),())))
       else some (0,(((mpD (α:=(((Int×Int)×((Int×Int)×(Int×Int)))×Int)) s6.2.1 s6.1.2.1 (((0,0),((0,0),(0,0))),0)),()),(s6.2.1,())))) fun x26=>
      bif zj x26.2.1.1.2 4 then some (.inr ((s6.1.1,((wrF .i64 (s6.1.2.1+1)),())),(x26.2.2.1,())))
      else bif !(zj x26.2.1.1.2 0) then some (.inl (0,((x26.2.1.1.2,(s6.1.2.1,())),(x26.2.2.1,()))))
       else bif zr a0.2.1.2.2.2 x26.2.1.1.1.2.2.2 then some (.inl (0,((7,(s6.1.2.1,())),(x26.2.2.1,()))))
        else some (.inr ((s6.1.1,((wrF .i64 (s6.1.2.1+1)),())),(x26.2.2.1,())))
     else some (.inl (0,((s6.1.1,(s6.1.2.1,())),(s6.2.1,()))))) qw ((0,(0,())),([],()))) fun x27=>
    bif !(zj x27.2.1.1 0) then some (x27.2.1.1,())
    else opt (qb (fun s28:((Int×(Int×Unit))×((List (Int×(((Int×Int)×((Int×Int)×(Int×Int)))×Int)))×Unit))=>
      bif (zr s28.1.2.1 ((a1.length:Nat):Int)) then opt (atI a1 s28.1.2.1) fun x29=>
       opt (qb (fun s30:((Int×(Int×Unit))×((List (Int×(((Int×Int)×((Int×Int)×(Int×Int)))×Int)))×Unit))=>
        bif (zr s30.1.2.1 ((x29.2.2.2.2.2.2.2.2.length:Nat):Int)) then opt (atI x29.2.2.2.2.2.2.2.2 s30.1.2.1) fun x31=>
         opt (qb (fun s32:((Int×(Int×(Int×(Int×Unit))))×((List (Int×(((Int×Int)×((Int×Int)×(Int×Int)))×Int)))×Unit))=>
          bif (zr s32.1.2.2.2.1 ((x31.length:Nat):Int)) then opt (atI x31 s32.1.2.2.2.1) fun x33=>
           opt (bif (!(mpH (α:=(((Int×Int)×((Int×Int)×(Int×Int)))×Int)) s32.2.1 x33)) then opt (qb (fun s34:((Int×Unit)×(((List (Int×Int))×Unit)×(Unit×(Unit×Unit))))=>
              bif (zr s34.1.1 ((a1.length:Nat):Int)) then opt (atI a1 s34.1.1) fun x35=>
               opt (qb (fun s36:((Int×(Int×Unit))×(((List (Int×Int))×Unit)×(Unit×(Unit×Unit))))=>
                bif (zr s36.1.2.1 ((x35.2.2.2.2.2.2.2.2.length:Nat):Int)) then opt (atI x35.2.2.2.2.2.2.2.2 s36.1.2.1) fun x37=>
                 opt (jZ (x37,(x33,()))) fun x38=>
                 bif x38.1 then some (.inl (1,((s36.1.2.1,(s36.1.2.1,())),((s36.2.1.1,()),((),((),()))))))
                 else some (.inr ((s36.1.1,((wrF .i64 (s36.1.2.1+1)),())),((s36.2.1.1,()),((),((),())))))
                else some (.inl (0,((s36.1.1,(s36.1.2.1,())),((s36.2.1.1,()),((),((),()))))))) qw ((0,(0,())),((s34.2.1.1,()),((),((),()))))) fun x39=>
               bif Nat.beq x39.1 0 then some (.inr (((wrF .i64 (s34.1.1+1)),()),((x39.2.2.1.1,()),((),((),())))))
               else bif !(zr x39.2.1.1 0) then bif (yS x39.2.2.1.1.length ((x35.2.2.2.2.2.2.1::[]).length) 16) then some (.inr (((wrF .i64 (s34.1.1+1)),()),(((x39.2.2.1.1++(x35.2.2.2.2.2.2.1::[])),()),((),((),())))))
                 else none
                else some (.inr (((wrF .i64 (s34.1.1+1)),()),((x39.2.2.1.1,()),((),((),())))))
              else some (.inl (0,((s34.1.1,()),((s34.2.1.1,()),((),((),()))))))) qw ((0,()),(([],()),((),((),()))))) fun x40=>
             bif Nat.beq x40.1 0 then bif (zj ((x40.2.2.1.1.length:Nat):Int) 0) then some (0,(((((0,0),((0,0),(0,0))),4),()),((mpP (α:=(((Int×Int)×((Int×Int)×(Int×Int)))×Int)) s32.2.1 x33 (((0,0),((0,0),(0,0))),4)),())))
              else opt (JY (a0.1,(x33,()))) fun x41=>
               bif !(zj x41.2.1 0) then some (0,(((((0,0),((0,0),(0,0))),x41.2.1),()),((mpP (α:=(((Int×Int)×((Int×Int)×(Int×Int)))×Int)) s32.2.1 x33 (((0,0),((0,0),(0,0))),x41.2.1)),())))
               else opt (atI a0.2.2.1 x33) fun x42=>
                opt (Zf (x42,(x41.1,(a0.2.2.2,())))) fun x43=>
                bif !(zj x43.2.1 0) then some (0,(((((0,0),((0,0),(0,0))),411),()),((mpP (α:=(((Int×Int)×((Int×Int)×(Int×Int)))×Int)) s32.2.1 x33 (((0,0),((0,0),(0,0))),411)),())))
                else opt (Zg (x40.2.2.1.1,())) fun x44=>
                 bif !(zj x44.2.1 0) then some (0,(((((0,0),((0,0),(0,0))),x44.2.1),()),((mpP (α:=(((Int×Int)×((Int×Int)×(Int×Int)))×Int)) s32.2.1 x33 (((0,0),((0,0),(0,0))),x44.2.1)),())))
                 else opt (kQ ((x44.1::[]),(x43.1,()))) fun x45=>
                  bif !(zj x45.2.1 0) then some (0,(((((0,0),((0,0),(0,0))),x45.2.1),()),((mpP (α:=(((Int×Int)×((Int×Int)×(Int×Int)))×Int)) s32.2.1 x33 (((0,0),((0,0),(0,0))),x45.2.1)),())))
                  else opt (uj (x44.1,(x43.1,()))) fun x46=>
                   bif !(zj x46.2.1 0) then some (0,(((((0,0),((0,0),(0,0))),x46.2.1),()),((mpP (α:=(((Int×Int)×((Int×Int)×(Int×Int)))×Int)) s32.2.1 x33 (((0,0),((0,0),(0,0))),x46.2.1)),())))
                   else some (0,((((x44.1,(x43.1,(x45.1,x46.1))),0),()),((mpP (α:=(((Int×Int)×((Int×Int)×(Int×Int)))×Int)) s32.2.1 x33 ((x44.1,(x43.1,(x45.1,x46.1))),0)),())))
             else bif (zj ((x40.2.2.1.1.length:Nat):Int) 0) then some (0,(((((0,0),((0,0),(0,0))),4),()),((mpP (α:=(((Int×Int)×((Int×Int)×(Int×Int)))×Int)) s32.2.1 x33 (((0,0),((0,0),(0,0))),4)),())))
              else opt (JY (a0.1,(x33,()))) fun x47=>
               bif !(zj x47.2.1 0) then some (0,(((((0,0),((0,0),(0,0))),x47.2.1),()),((mpP (α:=(((Int×Int)×((Int×Int)×(Int×Int)))×Int)) s32.2.1 x33 (((0,0),((0,0),(0,0))),x47.2.1)),())))
               else opt (atI a0.2.2.1 x33) fun x48=>
                opt (Zf (x48,(x47.1,(a0.2.2.2,())))) fun x49=>
                bif !(zj x49.2.1 0) then some (0,(((((0,0),((0,0),(0,0))),411),()),((mpP (α:=(((Int×Int)×((Int×Int)×(Int×Int)))×Int)) s32.2.1 x33 (((0,0),((0,0),(0,0))),411)),())))
                else opt (Zg (x40.2.2.1.1,())) fun x50=>
                 bif !(zj x50.2.1 0) then some (0,(((((0,0),((0,0),(0,0))),x50.2.1),()),((mpP (α:=(((Int×Int)×((Int×Int)×(Int×Int)))×Int)) s32.2.1 x33 (((0,0),((0,0),(0,0))),x50.2.1)),())))
                 else opt (kQ ((x50.1::[]),(x49.1,()))) fun x51=>
                  bif !(zj x51.2.1 0) then some (0,(((((0,0),((0,0),(0,0))),x51.2.1),()),((mpP (α:=(((Int×Int)×((Int×Int)×(Int×Int)))×Int)) s32.2.1 x33 (((0,0),((0,0),(0,0))),x51.2.1)),())))
                  else opt (uj (x50.1,(x49.1,()))) fun x52=>
                   bif !(zj x52.2.1 0) then some (0,(((((0,0),((0,0),(0,0))),x52.2.1),()),((mpP (α:=(((Int×Int)×((Int×Int)×(Int×Int)))×Int)) s32.2.1 x33 (((0,0),((0,0),(0,0))),x52.2.1)),())))
                   else some (0,((((x50.1,(x49.1,(x51.1,x52.1))),0),()),((mpP (α:=(((Int×Int)×((Int×Int)×(Int×Int)))×Int)) s32.2.1 x33 ((x50.1,(x49.1,(x51.1,x52.1))),0)),())))
            else some (0,(((mpD (α:=(((Int×Int)×((Int×Int)×(Int×Int)))×Int)) s32.2.1 x33 (((0,0),((0,0),(0,0))),0)),()),(s32.2.1,())))) fun x53=>
           bif !(zj x53.2.1.1.2 0) then some (.inl (1,((0,(x53.2.1.1.2,(s32.1.2.2.1,(s32.1.2.2.2.1,())))),(x53.2.2.1,()))))
           else opt (VV (a0.1,(x33,()))) fun x54=>
            bif !(zj x54.2.1 0) then some (.inl (1,((0,(x54.2.1,(s32.1.2.2.1,(s32.1.2.2.2.1,())))),(x53.2.2.1,()))))
            else some (.inr ((s32.1.1,(s32.1.2.1,((wrF .i64 (s32.1.2.2.1+(wrF .i64 ((wrF .i64 (x53.2.1.1.1.2.2.1+x54.1))+a0.2.1.2.2.1)))),((wrF .i64 (s32.1.2.2.2.1+1)),())))),(x53.2.2.1,())))
          else some (.inl (0,((s32.1.1,(s32.1.2.1,(s32.1.2.2.1,(s32.1.2.2.2.1,())))),(s32.2.1,()))))) qw ((0,(0,(0,(0,())))),(s30.2.1,()))) fun x55=>
         bif Nat.beq x55.1 0 then bif zr x29.2.2.2.2.2.2.2.1 x55.2.1.2.2.1 then some (.inl (1,((412,(s30.1.2.1,())),(x55.2.2.1,()))))
          else some (.inr ((s30.1.1,((wrF .i64 (s30.1.2.1+1)),())),(x55.2.2.1,())))
         else bif !(zj x55.2.1.2.1 0) then some (.inl (1,((x55.2.1.2.1,(s30.1.2.1,())),(x55.2.2.1,()))))
          else bif zr x29.2.2.2.2.2.2.2.1 x55.2.1.1 then some (.inl (1,((412,(s30.1.2.1,())),(x55.2.2.1,()))))
           else some (.inr ((s30.1.1,((wrF .i64 (s30.1.2.1+1)),())),(x55.2.2.1,())))
        else some (.inl (0,((s30.1.1,(s30.1.2.1,())),(s30.2.1,()))))) qw ((s28.1.1,(0,())),(s28.2.1,()))) fun x56=>
       bif Nat.beq x56.1 0 then some (.inr ((x56.2.1.1,((wrF .i64 (s28.1.2.1+1)),())),(x56.2.2.1,())))
       else some (.inl (1,((x56.2.1.1,(s28.1.2.1,())),(x56.2.2.1,()))))
      else some (.inl (0,((s28.1.1,(s28.1.2.1,())),(s28.2.1,()))))) qw ((0,(0,())),(x27.2.2.1,()))) fun x57=>
     bif Nat.beq x57.1 0 then some (0,())
     else some (x57.2.1.1,())
   else bif !(zj x5.2.1.2.1 0) then some (x5.2.1.2.1,())
    else none
abbrev YH:Type:=(jA×(List zD)×Unit)→Option (Int×Unit)
def zlw:kr→XG→vS→zfZ→zcb→zcd→zaC→Uy→zcg→YH:=fun jz ZK jZ JY Zf Zg kQ uj VV=>sF Tryz.prog [(29,⟨yq,yr,jz⟩),(56,⟨Zm,Zn,ZK⟩),(119,⟨wY,wZ,jZ⟩),(85,⟨GI,GJ,JY⟩),(86,⟨QW,QX,Zf⟩),(87,⟨Vs,Vt,Zg⟩),(88,⟨YF,YG,kQ⟩),(89,⟨Jr,Js,uj⟩),(58,⟨Vy,Vz,VV⟩)] zt1 (zN []) 30 25 xY xZ
theorem zvR (jz) (ZK) (jZ) (JY) (Zf) (Zg) (kQ) (uj) (VV) (a0) (a1):zlw jz ZK jZ JY Zf Zg kQ uj VV (a0,a1,())=zeV jz ZK jZ JY Zf Zg kQ uj VV a0 a1:=by kernel_rfl
def uM:YH:=zlw xe Zo jm gX xM uF vO xN WK
theorem za2:Con.Ok Tryz.prog 25 ⟨xY,xZ,uM⟩:=zv (zf zap (zf zkJ (zf GX (zf zvB (zf zse (zf zsf (zf zqD (zf znA (zf zsm zh))))))))) zm (by kernel_rfl)
theorem zqH (a0) (a1):uM (a0,a1,())=zeV xe Zo jm gX xM uF vO xN WK a0 a1:=zvR xe Zo jm gX xM uF vO xN WK a0 a1
abbrev gr:List VT:=[⟨true,zR⟩,⟨true,zz⟩]
abbrev gu:List VT:=[⟨false,I⟩]
def zso:zZ:=zQ [cdF zz,cdF zR,cdF qp,cdF zu] [] [] [] [41,42]
def zdv (zY:xJ) (yQ:Wj) (a0:qj) (a1:zD):Option (Int×Unit):=
 opt (zY (a0,())) fun x0=>
 bif !(zj x0.1 0) then some (x0.1,())
 else opt (yQ (a0,(a1,()))) fun x1=>
  bif !x1.1 then some (321,())
  else some (0,())
abbrev GK:Type:=(qj×zD×Unit)→Option (Int×Unit)
def zjy:xJ→Wj→GK:=fun zY yQ=>sF Tryz.prog [(41,⟨wL,wM,zY⟩),(42,⟨gk,gm,yQ⟩)] zso (zN []) 30 26 gr gu
theorem zt2 (zY) (yQ) (a0) (a1):zjy zY yQ (a0,a1,())=zdv zY yQ a0 a1:=by kernel_rfl
def Wm:GK:=zjy jB uQ
theorem zo7:Con.Ok Tryz.prog 26 ⟨gr,gu,Wm⟩:=zv (zf Ji (zf zfh zh)) zm (by kernel_rfl)
theorem zo8 (a0) (a1):Wm (a0,a1,())=zdv jB uQ a0 a1:=zt2 jB uQ a0 a1
abbrev kN:List VT:=[⟨true,qz⟩,⟨false,(.list zz)⟩,⟨true,zz⟩]
abbrev kO:List VT:=[⟨false,(.list zz)⟩,⟨false,I⟩]
def zt3:zZ:=zQ [cdF qz,cdF zz,cdF zR,cdF qp,cdF qk,cdF qQ] [] [⟨2,41,some 6,zz,false⟩,⟨5,41,some 6,zz,false⟩,⟨9,41,some 6,zz,false⟩] [] [25,26]
def zeW (yV:YH) (Wu:GK) (a0:jA) (a1:(List zD)) (a2:zD):Option ((List zD)×Int×Unit):=
 opt (yV (a0,(a1,()))) fun x0=>
 bif !(zj x0.1 0) then some ([],(x0.1,()))
 else opt (Wu (a0.1,(a2,()))) fun x1=>
  bif !(zj x1.1 0) then some ([],(x1.1,()))
  else opt (ux a1 none (some ((a1.length:Nat):Int)) (some ((a1.length:Nat):Int))) fun x2=>
   bif (yS x2.length ((a2::[]).length) 96) then opt (yV (a0,((x2++(a2::[])),()))) fun x3=>
    bif !(zj x3.1 0) then some ([],(x3.1,()))
    else some ((x2++(a2::[])),(0,()))
   else none
abbrev zeX:Type:=(jA×(List zD)×zD×Unit)→Option ((List zD)×Int×Unit)
def zlx:YH→GK→zeX:=fun yV Wu=>sF Tryz.prog [(25,⟨xY,xZ,yV⟩),(26,⟨gr,gu,Wu⟩)] zt3 (zN []) 30 11 kN kO
theorem zvS (yV) (Wu) (a0) (a1) (a2):zlx yV Wu (a0,a1,a2,())=zeW yV Wu a0 a1 a2:=by kernel_rfl
def YI:zeX:=zlx uM Wm
theorem zqI:Con.Ok Tryz.prog 11 ⟨kN,kO,YI⟩:=zv (zf za2 (zf zo7 zh)) zm (by kernel_rfl)
theorem zqJ (a0) (a1) (a2):YI (a0,a1,a2,())=zeW uM Wm a0 a1 a2:=zvS uM Wm a0 a1 a2
abbrev xn:List VT:=[⟨true,zz⟩]
abbrev xp:List VT:=[⟨false,(.list I)⟩]
def Ge:zZ:=zQ [cdF ze,cdF qz,cdF zz,cdF zR,cdF qp,cdF qk,cdF zu] [] [⟨3,38,some 4,I,false⟩,⟨3,38,some 5,I,true⟩,⟨6,38,some 4,I,false⟩,⟨6,38,some 5,I,true⟩,⟨1,61,some 2,I,false⟩,⟨4,61,some 2,I,false⟩,⟨6,61,some 2,I,false⟩,⟨9,61,some 2,I,false⟩,⟨11,61,some 2,I,false⟩] [] []
def Yo (vQ:KM) (s:za) (a0:zD):Option (za×((List Int)×Unit)):=
 opt (qb (fun s0:(((((Int×((List Bool)×(List (Int×(Int×(Int×Int))))))×((Int×(Int×(Int×Int)))×((List ((List (Int×Int))×Int))×Int)))×((List (Int×(Int×(Int×(Int×(Int×(Int×((Int×Int)×(Int×(List (List Int)))))))))))×((List (Int×(Int×(Int×((Int×(Int×(Int×(Int×(Int×(Int×((Int×Int)×(Int×(List (List Int))))))))))×Int)))))×((List (Int×(Int×(Int×(Int×(List Int))))))×((List (Int×(Int×(Int×Bool))))×(List (Int×(Int×(Int×(Int×(Bool×((Int×(Int×(Int×(Int×(Int×(Int×((Int×Int)×(Int×(List (List Int))))))))))×Int))))))))))))×(Int×Unit))×((List Int)×Unit))=>
  bif (zr s0.1.2.1 ((a0.2.2.2.2.2.2.2.2.length:Nat):Int)) then opt (atI a0.2.2.2.2.2.2.2.2 s0.1.2.1) fun x1=>
   opt (vQ (s0.1.1.1.1,(x1,()))) fun x2=>
   opt (bif zj x2.2.1 0 then bif yS s0.2.1.length x2.1.length 8 then some (0,((),((s0.2.1++x2.1),())))
     else none
    else some (0,((),(s0.2.1,())))) fun x3=>
   some (.inr ((s0.1.1,((wrF .i64 (s0.1.2.1+1)),())),(x3.2.2.1,())))
  else some (.inl (0,((s0.1.1,(s0.1.2.1,())),(s0.2.1,()))))) qw ((s,(0,())),([],()))) fun x4=>
 bif zqb x4.2.2.1 then bif zqb (Xn x4.2.2.1) then some (x4.2.1.1,((zmV (Xn x4.2.2.1)),()))
  else none
 else none
theorem zhw (vQ:(qj×(List Int)×Unit)→Option ((List Int)×Int×Unit)) (s:za) (a0:zD):sP Tryz.prog ⟨[(140,true),(141,false)],[]⟩ [(49,⟨uK,uL,vQ⟩)] Ge (zN []) 30 109 ze xn xp s (a0,())=Yo vQ s a0:=by kernel_rfl
def yy:za→(zD×Unit)→Option (za×((List Int)×Unit)):=sP Tryz.prog ⟨[(140,true),(141,false)],[]⟩ [(49,⟨uK,uL,xX⟩)] Ge (zN []) 30 109 ze xn xp
theorem KN:yC.Ok Tryz.prog 109 ⟨ze,xn,xp,yy⟩:=xc ⟨zHS,qW⟩ (zf zaX zh) zm (by kernel_rfl)
theorem zeY (s:za) (a0:zD):yy s (a0,())=Yo xX s a0:=zhw xX s a0
abbrev uS:List VT:=[⟨false,(.list zz)⟩,⟨false,I⟩]
abbrev uT:List VT:=[⟨false,I⟩,⟨false,I⟩]
def zsp:zZ:=zQ [cdF zz,cdF zu] [] [] [] []
def zdw (a0:(List zD)) (a1:Int):Option (Int×Int×Unit):=
 opt (qb (fun s0:((Int×(Int×(Int×Unit)))×Unit)=>
  bif (zr s0.1.2.2.1 ((a0.length:Nat):Int)) then opt (atI a0 s0.1.2.2.1) fun x1=>
   bif zj x1.1 a1 then some (.inl (1,((s0.1.2.2.1,(0,(s0.1.2.2.1,()))),())))
   else some (.inr ((s0.1.1,(s0.1.2.1,((wrF .i64 (s0.1.2.2.1+1)),()))),()))
  else some (.inl (0,((s0.1.1,(s0.1.2.1,(s0.1.2.2.1,()))),())))) qw ((0,(0,(0,()))),())) fun x2=>
 bif Nat.beq x2.1 0 then some (0,(4,()))
 else some (x2.2.1.1,(x2.2.1.2.1,()))
abbrev VA:Type:=((List zD)×Int×Unit)→Option (Int×Int×Unit)
def zjz:VA:=sF Tryz.prog [] zsp (zN []) 30 110 uS uT
theorem zt4 (a0) (a1):zjz (a0,a1,())=zdw a0 a1:=by kernel_rfl
def xB:VA:=zjz
theorem zfo:Con.Ok Tryz.prog 110 ⟨uS,uT,xB⟩:=zv zh zm (by kernel_rfl)
theorem zo9 (a0) (a1):xB (a0,a1,())=zdw  a0 a1:=zt4  a0 a1
abbrev wF:List VT:=[⟨false,(.list jv)⟩,⟨false,I⟩,⟨false,.bool⟩,⟨true,jv⟩]
abbrev wG:List VT:=[⟨false,(.list jv)⟩]
def ziM:zZ:=zQ [cdF jv] [] [⟨2,27,some 8,jv,true⟩] [] []
def VB (a0:(List qy)) (a1:Int) (a2:Bool) (a3:qy):Option ((List qy)×Unit):=
 opt (ux a0 (some a1) none none) fun x0=>
 opt (bif a2 then opt (ux a0 (some (wrF .i64 (a1+1))) none none) fun x1=>
   some (0,((x1,()),()))
  else some (0,((x0,()),()))) fun x2=>
 opt (ux a0 none (some a1) (some a1)) fun x3=>
 bif (yS x3.length ((a3::[]).length) 56) then bif (yS ((x3++(a3::[])).length) x2.2.1.1.length 56) then some (((x3++(a3::[]))++x2.2.1.1),())
  else none
 else none
abbrev Jt:Type:=((List qy)×Int×Bool×qy×Unit)→Option ((List qy)×Unit)
def zbo:Jt:=sF Tryz.prog [] ziM (zN []) 30 111 wF wG
theorem zjA (a0) (a1) (a2) (a3):zbo (a0,a1,a2,a3,())=VB a0 a1 a2 a3:=by kernel_rfl
def jS:Jt:=zbo
theorem Gf:Con.Ok Tryz.prog 111 ⟨wF,wG,jS⟩:=zv zh zm (by kernel_rfl)
theorem zgY (a0) (a1) (a2) (a3):jS (a0,a1,a2,a3,())=VB  a0 a1 a2 a3:=zjA  a0 a1 a2 a3
abbrev qT:List VT:=[⟨true,jv⟩]
abbrev qU:List VT:=[]
def Kd:zZ:=zQ [cdF ze,cdF qv,cdF zz,cdF jv,cdF zu] [] [] [] [52]
def JN (zM:za→(zI×Unit)→Option (za×(Unit))) (s:za) (a0:qy):Option (za×(Unit)):=
 opt (bif zj a0.2.2.1 1 then some (0,(((2,(a0.1,(a0.2.1,(0,(false,((0,(0,(0,(0,(0,(0,((0,0),(0,[])))))))),0)))))),()),()))
  else bif zj a0.2.2.1 4 then some (0,(((3,(a0.1,(a0.2.1,(0,(false,((0,(0,(0,(0,(0,(0,((0,0),(0,[])))))))),0)))))),()),()))
   else some (1,(((0,(a0.1,(a0.2.1,(0,(false,((0,(0,(0,(0,(0,(0,((0,0),(0,[])))))))),0)))))),()),()))) fun x0=>
 bif Nat.beq x0.1 0 then opt (qb (fun s1:(((Int×(Int×(Int×(Int×(Bool×((Int×(Int×(Int×(Int×(Int×(Int×((Int×Int)×(Int×(List (List Int))))))))))×Int))))))×((((Int×((List Bool)×(List (Int×(Int×(Int×Int))))))×((Int×(Int×(Int×Int)))×((List ((List (Int×Int))×Int))×Int)))×((List (Int×(Int×(Int×(Int×(Int×(Int×((Int×Int)×(Int×(List (List Int)))))))))))×((List (Int×(Int×(Int×((Int×(Int×(Int×(Int×(Int×(Int×((Int×Int)×(Int×(List (List Int))))))))))×Int)))))×((List (Int×(Int×(Int×(Int×(List Int))))))×((List (Int×(Int×(Int×Bool))))×(List (Int×(Int×(Int×(Int×(Bool×((Int×(Int×(Int×(Int×(Int×(Int×((Int×Int)×(Int×(List (List Int))))))))))×Int))))))))))))×(Int×Unit)))×Unit)=>
   bif (zr s1.1.2.2.1 ((a0.2.2.2.2.length:Nat):Int)) then opt (atI a0.2.2.2.2 s1.1.2.2.1) fun x2=>
    opt (zM s1.1.2.1 ((s1.1.1.1,(s1.1.1.2.1,(s1.1.1.2.2.1,(x2,s1.1.1.2.2.2.2)))),())) fun x3=>
    some (.inr (((s1.1.1.1,(s1.1.1.2.1,(s1.1.1.2.2.1,(x2,s1.1.1.2.2.2.2)))),(x3.1,((wrF .i64 (s1.1.2.2.1+1)),()))),()))
   else some (.inl (0,((s1.1.1,(s1.1.2.1,(s1.1.2.2.1,()))),())))) qw ((x0.2.1.1,(s,(0,()))),())) fun x4=>
  some (x4.2.1.2.1,())
 else some (s,())
theorem zeZ (zM:za→(zI×Unit)→Option (za×(Unit))) (s:za) (a0:qy):sP Tryz.prog ⟨[],[(52,⟨ze,qf,qg,zM⟩)]⟩ [] Kd (zN []) 30 34 ze qT qU s (a0,())=JN zM s a0:=by kernel_rfl
def jk:za→(qy×Unit)→Option (za×(Unit)):=sP Tryz.prog ⟨[],[(52,⟨ze,qf,qg,ql⟩)]⟩ [] Kd (zN []) 30 34 ze qT qU
theorem XB:yC.Ok Tryz.prog 34 ⟨ze,qT,qU,jk⟩:=xc ⟨qu,(zP uf qW)⟩ zh zm (by kernel_rfl)
theorem zcK (s:za) (a0:qy):jk s (a0,())=JN ql s a0:=zeZ ql s a0
end Go.Proofs.YtleloebnggepoaaGreat.sg
end
