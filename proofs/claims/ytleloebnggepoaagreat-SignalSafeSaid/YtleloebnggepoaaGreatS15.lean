/- Parts of a proof, joined. -/
import Derived.ChangeArms
import Derived.ChangeSlices
import Derived.DataReads
import Derived.Ground.Names2Prog
import Derived.KernelRfl
import Derived.OpenShut
import Derived.Shelf.Slices.CompactI
import Derived.Shelf.Slices.In.SortNone
import Derived.Shelf.Sort.Plain
import Derived.SizedLaws
import Derived.Test.YtleloebnggepoaaGreatProg
import Derived.Test.YtleloebnggepoaaGreatS14
set_option linter.unusedSectionVars false
set_option linter.unusedVariables false
set_option linter.unusedSimpArgs false
set_option maxHeartbeats 0
set_option maxRecDepth 100000
noncomputable section
namespace Go.Fz.Sy
def zD8:List SV→Option Ty
 |[]=>some .unit
 |v
   ::r=>match (match v with
   |.bool _=>some .bool
   |.int k _=>some (.int k)
   |.str _=>some .str
   |.lst t _ _=>some (.list t)
   |_=>none),zD8 r with
  |some a,some b=>some (match r with
   |[]=>a
   |_=>.pair a b)
  |_,_=>none
def zd1:Ty→List Ty
 |.unit=>[]
 |.pair a b=>zd1 a++zd1 b
 |t=>[t]
def zGZ:SV→Ty→Bool
 |.bool _,.bool=>true
 |.int k _,.int k'=>JT k k'
 |.str _,.str=>true
 |.lst _ _ _,.list _=>true
 |.nils,.list _=>true
 |.own _,.list _=>true
 |_,_=>false
def lstTy:SV→Option Ty
 |.lst t _ _=>some t
 |_=>none
def tyQ:Ty→Ty→Bool
 |.unit,.unit=>true
 |.bool,.bool=>true
 |.int k,.int k'=>JT k k'
 |.str,.str=>true
 |.list a,.list b=>tyQ a b
 |.pair a b,.pair c d=>tyQ a c&&tyQ b d
 |_,_=>false
def zxB:List SV→List Ty→Bool
 |[],[]=>true
 |v::r,t::s=>(zGZ v t&&(match v,t with
  |.lst a _ _,.list b=>tyQ a b
  |_,_=>true))&&zxB r s
 |_,_=>false
structure zmZ where
 ty:Ty
 fl:List Ty
 gs:List Nat:=[]
def zEM (cands:List zmZ) (cs:List SV):Option zmZ:=match cands with
 |[]=>none
 |h::r=>bif zxB cs h.fl then some h else zEM r cs
def zG0 (gs:List Nat) (lo hi:Nat):Bool:=gs.any fun g=>Nat.ble lo g&&Nat.blt g hi
def zxC (H:SH) (cs:List SV) (gs:List Nat):Ty→Nat→Nat→List CK×Nat
 |.pair a b,i,c=>bif zG0 gs i (i+sz (.pair a b)) then match zxC H cs gs a i c with
   |(k1,c1)=>match zxC H cs gs b (i+sz a) c1 with
    |(k2,c2)=>(k1++k2,c2)
  else ([.d (.pair a b)],c)
 |.list e,i,c=>bif xY gs i then (match gl cs i with
   |some (.own b)=>match zk H b with
    |some (.arr nn _ _)=>([.o c nn e],c+1)
    |_=>([.d (.list e)],c)
   |some .nils=>([.o c false e],c+1)
   |_=>([.d (.list e)],c))
  else ([.d (.list e)],c)
 |t,_,c=>([.d t],c)
def zB9 (cands:List zmZ) (cs:List SV):Option Ty:=match cands with
 |[]=>zD8 cs
 |h::r=>bif zxB cs h.fl then some h.ty else zB9 r cs
def zHf (cands:List zmZ):SV→Option VT
 |.bool _=>some ⟨false,.bool⟩
 |.int k _=>some ⟨false,.int k⟩
 |.str _=>some ⟨false,.str⟩
 |.lst t _ _=>some ⟨false,.list t⟩
 |.agg cs=>match zB9 cands cs with
  |some t=>some ⟨true,t⟩
  |none=>none
 |_=>none
def zkz:List Nat→List Nat
 |[]=>[]
 |a::r=>bif xY r a then zkz r else a::zkz r
def WM:Operand→List Nat
 |.tmp t=>[t]
 |_=>[]
def zv3:Nat:=1000000
def zGp (l:List Nat):List Nat:=l.map (·+zv3)
def zGq (i:Nat):Nat:=bif Nat.ble zv3 i then i - zv3 else i
def zAI (W:List Nat) (d:Nat) (l:List Nat):List Nat:=bif xY W d then l++W else bif xY W (d+zv3) then zGp l++W else W
def wOp (pf:List Nat) (W:List Nat) (o:Oper):List Nat:=
 match o.op with
 |.store _ a _=>WM a++W
 |.lookup _ m _ _=>WM m++W
 |.mapUpdate _ m _ _=>WM m++W
 |.insert _ m _ _=>WM m++W
 |.call c=>match c.callee with
  |.value (.func f)=>bif xY pf f then zGp (c.args.toList.flatMap WM)++W else c.args.toList.flatMap WM++W
  |.value f=>WM f++(c.args.toList.flatMap WM++W)
  |.builtin .copy=>c.args.toList.flatMap WM++W
  |.builtin .append=>match o.dst with
   |some d=>c.args.toList.flatMap WM++W
   |none=>W
  |_=>W
 |.fieldAddr _ x _=>match o.dst with
  |some d=>bif xY W d then WM x++W else W
  |none=>W
 |.indexAddr _ x _=>match o.dst with
  |some d=>bif xY W d then WM x++W else W
  |none=>W
 |.load _ x=>match o.dst with
  |some d=>bif xY W d then WM x++W else W
  |none=>W
 |.move x=>match o.dst with
  |some d=>zAI W d (WM x)
  |none=>W
 |.nilCheck x=>match o.dst with
  |some d=>bif xY W d then WM x++W else W
  |none=>W
 |.pick _ x y=>match o.dst with
  |some d=>zAI W d (WM x++WM y)
  |none=>W
 |.assign x=>match o.dst with
  |some d=>zAI W d (WM x)
  |none=>W
 |_=>W
def zGr (pf:List Nat):List Oper→List Nat→List Nat
 |[],W=>W
 |o::r,W=>wOp pf (zGr pf r W) o
def Ge (pf:List Nat):Code→List Nat→List Nat
 |.region _ ops _,W=>zGr pf ops.toList W
 |.seq a b,W=>Ge pf a (Ge pf b W)
 |.cond _ a b,W=>Ge pf a (Ge pf b W)
 |.block _ c,W=>Ge pf c W
 |.loop c,W=>Ge pf c W
 |.scope c,W=>Ge pf c W
 |.rangeFunc g _ a b,W=>WM g++Ge pf a (Ge pf b W)
 |_,W=>W
mutual
def zEN:SV→List Nat
 |.ptr b _=>[b]
 |.own b=>[b]
 |.mp b=>[b]
 |.slv b _=>[b]
 |.agg cs=>zou cs
 |.fn _ fs cs=>zou fs++zou cs
 |_=>[]
def zou:List SV→List Nat
 |[]=>[]
 |v::r=>zEN v++zou r
end
def zAJ (tm:List SV):List Nat→List Nat
 |[]=>[]
 |i::r=>(match gl tm (zGq i) with
  |some v=>zEN v
  |none=>[])++zAJ tm r
def reachS (H:SH):Nat→List Nat→List Nat
 |0,l=>zkz l
 |n+1,l=>match zkz l with
  |l=>reachS H n (l++l.flatMap fun b=>match zk H b with
   |some (.vars cs)=>zou cs
   |some (.ro cs)=>zou cs
   |_=>[])
def zEO (pf:List Nat) (H:SH):List Nat→List Nat
 |[]=>[]
 |l::r=>(match zk H l with
  |some (.loop L)=>zAJ L.tm (zkz (Ge pf L.assign (Ge pf L.body [])))
  |_=>[])++zEO pf H r
structure zp3 where
 rid:Nat
 ntm:Nat
 tmp:Option Nat
 ty:Ty
 own:Bool:=true
def zp4 (rid ntm:Nat) (i:Option Nat):List zp3→Option zp3
 |[]=>none
 |h::r=>bif Nat.beq h.rid rid&&(Nat.beq h.ntm ntm&&(match h.tmp,i with
  |some a,some b=>Nat.beq a b
  |none,none=>true
  |_,_=>false)) then some h else zp4 rid ntm i r
def zAK (rid ntm:Nat):List (Nat×Nat)→Bool
 |[]=>false
 |p::r=>bif Nat.beq p.1 rid&&Nat.beq p.2 ntm then true else zAK rid ntm r
def zCa (cands:List zmZ) (ns:List zp3) (rid:Nat) (tm:List SV) (H:SH) (nx:Nat):List Nat→List DPl×List OPl×Nat
 |[]=>([],[],0)
 |i::r=>match zCa cands ns rid tm H nx r with
  |(dl,ol,g)=>match gl tm i with
   |some (.own b)=>match zk H b with
    |some (.arr nn t _)=>match zp4 rid tm.length (some i) ns with
     |some ⟨_,_,_,_,false⟩=>(.tmp i ⟨false,.list t⟩::dl,ol,g)
     |_=>(dl,.otmp i (nx+g) nn t::ol,g+1)
    |some (.fro _ t _)=>(.tmp i ⟨false,.list t⟩::dl,ol,g)
    |_=>(dl,ol,g)
   |some .nils=>match zp4 rid tm.length (some i) ns with
    |some h=>bif h.own then (dl,.otmp i (nx+g) false h.ty::ol,g+1) else (.tmp i ⟨false,.list h.ty⟩::dl,ol,g)
    |none=>(dl,ol,g)
   |some .nilp=>match zp4 rid tm.length (some i) ns with
    |some _=>(.npt i::dl,ol,g)
    |none=>(dl,ol,g)
   |some v=>match zHf cands v with
    |some vt=>(.tmp i vt::dl,ol,g)
    |none=>(dl,ol,g)
   |none=>(dl,ol,g)
abbrev GrT:=Nat×Nat×Nat×List Nat
def grT (rid ntm d:Nat):List GrT→List Nat
 |[]=>[]
 |h::r=>bif Nat.beq h.1 rid&&(Nat.beq h.2.1 ntm&&Nat.beq h.2.2.1 d) then h.2.2.2 else grT rid ntm d r
def zv4 (b:Nat):List SV→Nat→Option Nat
 |[],_=>none
 |v::r,i=>match v with
  |.ptr c o=>bif Nat.beq c b&&Nat.beq o 0 then some i else zv4 b r (i+1)
  |_=>zv4 b r (i+1)
def zGs (ns:List zp3) (rid:Nat) (tm:List SV) (b:Nat):Option zp3:=match zv4 b tm 0 with
 |some d=>match zp4 rid tm.length (some d) ns with
  |some h=>some h
  |none=>zp4 rid tm.length none ns
 |none=>zp4 rid tm.length none ns
def zCb (cands:List zmZ) (ns:List zp3) (gt:List GrT) (rid:Nat) (tm:List SV) (H:SH) (nx:Nat) (own:List Nat):List Nat→List DPl×List OPl×Nat→List DPl×List OPl×Nat
 |[],x=>x
 |b::r,x=>match zCb cands ns gt rid tm H nx own r x with
  |(dl,ol,g)=>match zk H b with
   |some (.vars [.own c])=>match zk H c with
    |some (.arr nn t _)=>match zGs ns rid tm b with
     |some ⟨_,_,some _,_,false⟩=>(.blk b (.list t)::dl,ol,g)
     |_=>(dl,.sblk b [.o (nx+g) nn t]::ol,g+1)
    |some (.fro _ t _)=>(.blk b (.list t)::dl,ol,g)
    |_=>(dl,ol,g)
   |some (.vars [.nils])=>match zGs ns rid tm b with
    |some h=>bif h.own then (dl,.sblk b [.o (nx+g) false h.ty]::ol,g+1) else (.blk b (.list h.ty)::dl,ol,g)
    |none=>(dl,ol,g)
   |some (.vars cs)=>match zEM cands cs with
    |some h=>match zxC H cs (match zv4 b tm 0 with
      |some d=>grT rid tm.length d gt
      |none=>h.gs) h.ty 0 (nx+g) with
     |(ks,c')=>bif ks.all (fun k=>match k with
       |.d _=>true
       |.o _ _ _=>false) then (.blk b h.ty::dl,ol,g) else (.frz b ks::dl,.sblk b ks::ol,c' - nx)
    |none=>match zD8 cs with
     |some t=>(.blk b t::dl,ol,g)
     |none=>(dl,ol,g)
   |some (.arr nn t _)=>bif xY own b then (dl,ol,g) else (dl,.arr b nn t::ol,g)
   |some (.mpb k ag t _)=>(dl,.mpl b k ag t::ol,g)
   |_=>(dl,ol,g)
def zAL:List SV→List Nat
 |[]=>[]
 |.own c::r=>c::zAL r
 |_::r=>zAL r
def zxD (tm:List SV) (H:SH) (bs:List Nat):List Nat→List Nat
 |[]=>bs.flatMap fun b=>match zk H b with
  |some (.vars cs)=>zAL cs
  |_=>[]
 |i::r=>match gl tm i with
  |some (.own b)=>b::zxD tm H bs r
  |_=>zxD tm H bs r
def zHg (l:List Operand):List Nat:=l.flatMap WM
def zjf (D:List Nat):List Nat→List Nat
 |[]=>[]
 |a::r=>bif xY D a then zjf D r else a::zjf D r
def zAM (D:List Nat):List Nat→List Nat
 |[]=>[]
 |a::r=>bif xY D a then a::zAM D r else zAM D r
def zEP:List Oper→List Nat→List Nat×List Nat
 |[],D=>([],D)
 |o::r,D=>match zEP r (o.dst.toList++D) with
  |(us,D')=>(zjf D (zHg o.op.operands.toList)++us,D')
def lvC:Code→List Nat→List Nat×List Nat
 |.region _ ops _,D=>zEP ops.toList D
 |.seq a b,D=>match lvC a D with
  |(ra,Da)=>match lvC b Da with
   |(rb,Db)=>(ra++rb,Db)
 |.cond c a b,D=>match lvC a D with
  |(ra,Da)=>match lvC b D with
   |(rb,Db)=>(zjf D (WM c)++(ra++rb),zAM Da Db)
 |.block _ c,D=>lvC c D
 |.loop c,D=>lvC c D
 |.scope c,D=>lvC c D
 |.rangeFunc g _ a b,D=>match lvC a D with
  |(ra,Da)=>match lvC b Da with
   |(rb,_)=>(zjf D (WM g)++(ra++rb),D)
 |_,D=>([],D)
def zxE:List Oper→List Nat
 |[]=>[]
 |o::r=>match o.op with
  |.assign _=>o.dst.toList++zxE r
  |_=>zxE r
def zm0:Code→List Nat
 |.region _ ops _=>zxE ops.toList
 |.seq a b=>zm0 a++zm0 b
 |.cond _ a b=>zm0 a++zm0 b
 |.block _ c=>zm0 c
 |.loop c=>zm0 c
 |.scope c=>zm0 c
 |_=>[]
def zd2:Code→Bool
 |.region _ ops _=>ops.toList.any fun o=>match o.op with
  |.call {callee:=.value _,..}=>true
  |_=>false
 |.seq a b=>zd2 a||zd2 b
 |.cond _ a b=>zd2 a||zd2 b
 |.block _ c=>zd2 c
 |.loop c=>zd2 c
 |.scope c=>zd2 c
 |.rangeFunc _ _ _ _=>true
 |_=>false
def zGt (tm:List SV):List Nat→Bool
 |[]=>false
 |i::r=>(match gl tm i with
  |some (.slv _ _)=>true
  |_=>false)||zGt tm r
def zT (cands:List zmZ) (un:List (Nat×Nat)) (ns:List zp3) (gt:List GrT:=[]) (pf:List Nat:=[]):qa:=fun c tm H nx=>match GS c with
 |some rid=>bif zAK rid tm.length un||zGt tm (lvC c []).1 then none else
  match zAM (zm0 c++(lvC c []).1) (zkz (asg c)) with
  |aq=>match reachS H 3 (zAJ tm (zkz (Ge pf c (Ge pf c [])))++(bif zd2 c then zEO pf H (qV H) else [])) with
   |bs=>some (zCb cands ns gt rid tm H nx (zxD tm H bs aq) bs (zCa cands ns rid tm H nx aq))
 |none=>none
def GU (i:Nat):Code→Bool
 |.exit j=>Nat.beq i j
 |.seq a b=>GU i a||GU i b
 |.cond _ a b=>GU i a||GU i b
 |.block _ c=>GU i c
 |.loop c=>GU i c
 |.scope c=>GU i c
 |.rangeFunc _ _ a b=>GU i a||GU i b
 |_=>false
def zkA:Code→Bool
 |.ret=>false
 |.exit _=>false
 |.goto _=>false
 |.seq a b=>zkA a&&zkA b
 |.cond _ a b=>zkA a||zkA b
 |.block i c=>zkA c||GU i c
 |.loop _=>false
 |_=>true
def zGu (ops:Array Oper):Bool:=ops.toList.any fun o=>o.guard.isSome
def zv5:Code→Bool
 |.skip=>true
 |.exit _=>true
 |.ret=>true
 |.goto _=>true
 |_=>false
def zEQ (g:Bool):Code→Bool
 |.cond _ a b=>(zkA a&&(zkA b&&!(zv5 a&&zv5 b)))||(g&&((zkA a||zkA b)&&!(zv5 a&&zv5 b)))
 |.seq (.region _ ops _) (.cond c a b)=>zEQ (g||zGu ops) (.cond c a b)
 |_=>false
def zL (ex:List (Nat×Nat)) (re:List (Nat×Nat):=[]) (c:Code) (ntm:Nat):Bool:=match c with
 |.scope (.loop b)=>(match GS b with
  |some rid=>zAK rid ntm re
  |none=>false)
 |_=>bif zEQ false c then (match GS c with
 |some rid=>!zAK rid ntm ex
 |none=>false) else false
end Go.Fz.Sy
namespace Go.Fz.Sy
variable {P:Program} {w:World}
open Go.RowKit Go.ChangeShapes Go.WideShapes
def alT:Ty→Nat
 |.unit=>1
 |.bool=>1
 |.int k=>k.bits / 8
 |.str=>8
 |.list _=>8
 |.pair a b=>max (alT a) (alT b)
def upT (o a:Nat):Nat:=(o+a - 1) / a*a
def zD9:Ty→Nat→Nat
 |.unit,o=>o
 |.bool,o=>o+1
 |.int k,o=>upT o (k.bits / 8)+k.bits / 8
 |.str,o=>upT o 8+16
 |.list _,o=>upT o 8+24
 |.pair a b,o=>zD9 b (zD9 a o)
def bsT (y:Ty):Nat:=upT (zD9 y 0) (alT y)
def wfT:(t:Ty)→T t→Prop
 |.unit,_=>True
 |.bool,_=>True
 |.int k,n=>k.min≤n∧n≤k.max
 |.str,s=>s.size≤maxLen
 |.list t,l=>(List.length (α:=T t) l≤maxLen∧List.length (α:=T t) l*bsT t≤reachBytes)∧∀x:T t,List.Mem x l→wfT t x
 |.pair a b,x=>wfT a x.1∧wfT b x.2
def VL (ft:TypeId→Ty→Bool) (cz:TypeId→Nat):List Field→Nat→Ty→Bool
 |[],_,.unit=>true
 |[f],off,y=>Nat.beq f.offset off&&(ft f.type y&&Nat.beq (sz y) (cz f.type))
 |f::g::fs,off,.pair a b=>Nat.beq f.offset off&&(ft f.type a&&(Nat.beq (sz a) (cz f.type)&&VL ft cz (g::fs) (off+sz a) b))
 |_,_,_=>false
def VM (ft:Ty→Bool) (cz:Nat):Nat→Ty→Bool
 |0,.unit=>true
 |1,y=>ft y&&Nat.beq (sz y) cz
 |n+2,.pair a b=>ft a&&(Nat.beq (sz a) cz&&VM ft cz (n+1) b)
 |_,_=>false
def zp5 (P:Program):Nat→TypeId→Ty→Bool
 |0,_,_=>false
 |n+1,t,y=>match P.underlying t,y with
  |some .bool,.bool=>true
  |some (.int k),.int k'=>decide (k=k')
  |some .string,.str=>true
  |some (.slice e),.list y=>zp5 P n e y&&(Nat.blt 0 (sz y)&&(Nat.beq (sz y) (P.cellsOf e)&&Nat.ble (bsT y) (P.bytesOf e)))
  |some (.struct fs),y=>VL (zp5 P n) P.cellsOf fs.toList 0 y&&Nat.beq (sz y) (P.cellsOf t)
  |some (.array m e),y=>VM (zp5 P n e) (P.cellsOf e) m y&&Nat.beq (sz y) (P.cellsOf t)
  |_,_=>false
def uQ (w:World):Ren:=fun n=>if FZ≤n then match w.heap[n - FZ]? with
 |some (.cells a _ _)=>some ⟨n - FZ,0,0,a⟩
 |_=>none else none
theorem zyO {b:Nat} {a:Array Value} {el:TypeId} {fr:Nat×Nat} (h:w.heap[b]?=some (.cells a el fr)):uQ w (FZ+b)=some ⟨b,0,0,a⟩:=by
 have h1:FZ≤FZ+b:=by omega
 have h2:FZ+b - FZ=b:=by omega
 simp only [uQ,h1,if_true,h2,h]
theorem zAN (w:World):zA (uQ w) [] (fun c=>c < w.heap.size) w:=by
 refine ⟨fun b k h=>by simp [Hp.get_nil] at h,fun b c k k' L L' h=>by simp [Hp.get_nil] at h,fun b k L h=>by simp [Hp.get_nil] at h,fun c hc=>hc,fun b L hL=>?_,fun b k L c M h=>by simp [Hp.get_nil] at h⟩
 have h1:FZ≤FZ+b:=by omega
 have h2:FZ+b - FZ=b:=by omega
 simp only [uQ,h1,if_true,h2] at hL
 split at hL
 ·rename_i a el fr ha
  cases hL
  exact ⟨rfl,rfl,a,el,fr,ha,fun j u h=>h⟩
 ·cases hL
theorem zyP (w:World) {n m:Nat} (hm:m≤FZ):vo (uQ w) n m:=⟨hm,fun b h1 h2=>by
 have:¬FZ≤b:=by omega
 simp only [uQ,this,if_false]⟩
theorem zAO {f:FuncId} {args:List Value} {H':Hp} {n':Nat} (hz:n'≤FZ) (hm:gD P f args [] 0 (.bool true) H' n') {us:List Value} (hl:zx (uQ w) args us) :
  Calls P f us.toArray w fun e w'=>e=.returned (.bool true)∧Below w.heap.size w w':=by
 refine Calls.mono (hm.2 (uQ w) w (fun c=>c < w.heap.size) us (zAN w) (zyP w hz) hl) ?_
 rintro e w' ⟨v',φ',rfl,x1,x2,x3,x4⟩
 cases x1
 exact ⟨rfl,zvb x4⟩
section
variable {H:Type} {enc:TypeId×Value→H} {base:Nat} {spare:Nat→Bool} {held:Bool}
theorem zp6 {φ:Ren}:∀{a b x y:List Value},zx φ a x→zx φ b y→zx φ (a++b) (x++y)
 |[],_,[],_,_,h=>h
 |_::_,_,_::_,_,h,k=>⟨h.1,zp6 h.2 k⟩
 |[],_,_::_,_,h,_=>h.elim
 |_::_,_,[],_,h,_=>h.elim
theorem zuW {α:Type} {Φ:Nat→α→Prop}:∀(n:Nat),(∀i,i < n→∃q,Φ i q)→∃l:List α,l.length=n∧∀i q,l[i]?=some q→Φ i q
 |0,_=>⟨[],rfl,fun i q h=>by simp at h⟩
 |n+1,h=>by
  obtain ⟨l,hl,hq⟩:=zuW n fun i hi=>h i (by omega)
  obtain ⟨q,hn⟩:=h n (by omega)
  refine ⟨l++[q],by simp [hl],fun i q' hi=>?_⟩
  by_cases hlt:i < l.length
  ·rw [List.getElem?_append_left hlt] at hi;exact hq i q' hi
  ·rw [List.getElem?_append_right (by omega)] at hi
   have:i - l.length=0:=by
    have:=(List.getElem?_eq_some_iff.1 hi).1
    simp at this;omega
   rw [this] at hi
   simp at hi
   subst hi
   have:i=n:=by omega
   rw [this];exact hn
def zgm (w:World) (y:Ty) (cs:List Value):Prop:=∃a:T y,wfT y a∧zx (uQ w) (qm y a) cs
theorem zxF {ft:TypeId→Ty→Bool} {cz:TypeId→Nat} {cs:List Value}:∀{fs:List Field} {off:Nat} {y:Ty},VL ft cz fs off y=true→
  (∀f∈fs,∀z,ft f.type z=true→zgm w z ((cs.drop f.offset).take (cz f.type)))→off+sz y=cs.length→zgm w y (cs.drop off)
 |[],off,.unit,h,hf,hl=>⟨(),trivial,by
   have:cs.drop off=[]:=by simp [sz] at hl ⊢;omega
   rw [this];trivial⟩
 |[f],off,y,h,hf,hl=>by
  simp only [VL,Bool.and_eq_true] at h
  obtain ⟨h1,h2,h3⟩:=h
  have h1:=Nat.eq_of_beq_eq_true h1
  have h3:=Nat.eq_of_beq_eq_true h3
  have:=hf f (by simp) y h2
  rw [h1,←h3,List.take_of_length_le (by simp;omega)] at this
  exact this
 |f::g::fs,off,.pair a b,h,hf,hl=>by
  simp only [VL,Bool.and_eq_true] at h
  obtain ⟨h1,h2,h3,h4⟩:=h
  have h1:=Nat.eq_of_beq_eq_true h1
  have h3:=Nat.eq_of_beq_eq_true h3
  obtain ⟨x,wx,rx⟩:=hf f (by simp) a h2
  simp only [sz] at hl
  obtain ⟨z,wz,rz⟩:=zxF (cs:=cs) h4 (fun q hq=>hf q (by simp only [List.mem_cons] at hq ⊢;exact .inr hq)) (by omega)
  refine ⟨(x,z),⟨wx,wz⟩,?_⟩
  rw [h1,←h3] at rx
  have e:cs.drop off=(cs.drop off).take (sz a)++cs.drop (off+sz a):=by
   rw [←List.drop_drop];exact (List.take_append_drop _ _).symm
  rw [e]
  exact zp6 rx rz
 |[],_,.bool,h,_,_=>by simp [VL] at h
 |[],_,.int _,h,_,_=>by simp [VL] at h
 |[],_,.str,h,_,_=>by simp [VL] at h
 |[],_,.list _,h,_,_=>by simp [VL] at h
 |[],_,.pair _ _,h,_,_=>by simp [VL] at h
 |_::_::_,_,.unit,h,_,_=>by simp [VL] at h
 |_::_::_,_,.bool,h,_,_=>by simp [VL] at h
 |_::_::_,_,.int _,h,_,_=>by simp [VL] at h
 |_::_::_,_,.str,h,_,_=>by simp [VL] at h
 |_::_::_,_,.list _,h,_,_=>by simp [VL] at h
theorem zxG {ft:Ty→Bool} {cz:Nat} {cs:List Value} {N:Nat} (hf:∀i,i < N→∀z,ft z=true→zgm w z ((cs.drop (i*cz)).take cz)):∀{m:Nat} {y:Ty} {i:Nat},VM ft cz m y=true→i+m=N→i*cz+sz y=cs.length→zgm w y (cs.drop (i*cz))
 |0,.unit,i,h,hN,hl=>⟨(),trivial,by
   have:cs.drop (i*cz)=[]:=by simp [sz] at hl ⊢;omega
   rw [this];trivial⟩
 |1,y,i,h,hN,hl=>by
  simp only [VM,Bool.and_eq_true] at h
  obtain ⟨h1,h2⟩:=h
  have h2:=Nat.eq_of_beq_eq_true h2
  have:=hf i (by omega) y h1
  rw [←h2,List.take_of_length_le (by simp;rw [←h2] at hl;omega)] at this
  rw [←h2];exact this
 |m+2,.pair a b,i,h,hN,hl=>by
  simp only [VM,Bool.and_eq_true] at h
  obtain ⟨h1,h2,h3⟩:=h
  have h2:=Nat.eq_of_beq_eq_true h2
  obtain ⟨x,wx,rx⟩:=hf i (by omega) a h1
  simp only [sz] at hl
  have e1:(i+1)*cz=i*cz+cz:=by rw [Nat.add_mul,Nat.one_mul]
  obtain ⟨z,wz,rz⟩:=zxG hf (m:=m+1) (i:=i+1) h3 (by omega) (by rw [e1];omega)
  refine ⟨(x,z),⟨wx,wz⟩,?_⟩
  have e:cs.drop (i*cz)=(cs.drop (i*cz)).take cz++cs.drop ((i+1)*cz):=by
   rw [e1,←List.drop_drop];exact (List.take_append_drop _ _).symm
  rw [e]
  exact zp6 rx rz
 |0,.bool,_,h,_,_=>by simp [VM] at h
 |0,.int _,_,h,_,_=>by simp [VM] at h
 |0,.str,_,h,_,_=>by simp [VM] at h
 |0,.list _,_,h,_,_=>by simp [VM] at h
 |0,.pair _ _,_,h,_,_=>by simp [VM] at h
 |_+2,.unit,_,h,_,_=>by simp [VM] at h
 |_+2,.bool,_,h,_,_=>by simp [VM] at h
 |_+2,.int _,_,h,_,_=>by simp [VM] at h
 |_+2,.str,_,h,_,_=>by simp [VM] at h
 |_+2,.list _,_,h,_,_=>by simp [VM] at h
theorem zio {e:TypeId} {d:DataW H}:∀{l:List (DataW H)},d∈l→∀n∈d.weights P e,n∈DataW.weightsAll P e l
 |a::l,h,n,hn=>by
  simp only [DataW.weightsAll,List.mem_append]
  rcases List.mem_cons.1 h with rfl | h
  ·exact .inl hn
  ·exact .inr (zio h n hn)
theorem zEa {e:TypeId} {y:Ty} {cs:List Value} {t:TypeId} {fuel:Nat} {x:DataW H×List MemPlace} (hu:P.underlying t=some (.slice e)) (h:DataW.trod enc P w base spare held fuel t cs=some x) (hw:∀n∈x.1.weights P t,n≤reachBytes)
  (ih:∀{fuel:Nat} {cs:List Value} {x:DataW H×List MemPlace},DataW.trod enc P w base spare held fuel e cs=some x→(∀n∈x.1.weights P e,n≤reachBytes)→zgm w y cs) (hs:0 < sz y) (hz:sz y=P.cellsOf e) (hbs:bsT y≤P.bytesOf e):zgm w (.list y) cs:=by
 rcases DataW.trod_slice hu h with ⟨rfl,_⟩ | ⟨a,len,cap,elems,rest,m,_,rfl,rfl,hb,hl,hm,hlen,hel,_,_⟩
 ·exact ⟨([]:List (T y)),⟨⟨Nat.zero_le _,by show 0*_≤_;rw [Nat.zero_mul];exact Nat.zero_le _⟩,fun x hx=>by cases hx⟩,by
   have:=zo.fz0 (φ:=uQ w) (sz y) none 0
   exact ⟨this,trivial⟩⟩
 ·have hw1:(elems.length+rest.length)*P.bytesOf e≤reachBytes:=by
   have:=hw ((elems.length+rest.length)*P.bytesOf e) (by simp [DataW.weights,hu])
   exact this
  have hw2:∀z∈elems,∀n∈z.1.weights P e,n≤reachBytes:=fun z hz n hn=>hw n (by
   simp only [DataW.weights,hu]
   exact List.mem_cons_of_mem _ (List.mem_append_left _ (zio (List.mem_map_of_mem hz) n hn)))
  have hall:∀i,i < len→∃q:T y,wfT y q∧∃us,zx (uQ w) (qm y q) us∧us.length=sz y∧∀j,j < sz y→w.cell? ((a.add (i*sz y)).add j)=us[j]?:=fun i hi=>by
   have h1:=hel i hi
   obtain ⟨z,hz2⟩:∃z,elems[i]?=some z:=⟨elems[i],List.getElem?_eq_getElem (by omega)⟩
   rw [hz2,Option.bind_eq_some_iff] at h1
   obtain ⟨us,h2,h3⟩:=h1
   obtain ⟨q,q1,q2⟩:=ih h3 (hw2 z (List.mem_of_getElem? hz2))
   obtain ⟨_,h4,h5⟩:=World.cells?_some h2
   rw [←hz] at h4 h5
   exact ⟨q,q1,us,q2,h4,h5⟩
  obtain ⟨l,hll,hl2⟩:=zuW len hall
  refine ⟨l,⟨⟨by show l.length≤maxLen;omega,Nat.le_trans (Nat.mul_le_mul (show l.length≤elems.length+rest.length by omega) hbs) hw1⟩,fun q hq=>?_⟩,?_⟩
  ·obtain ⟨i,hi⟩:=List.getElem?_of_mem hq
   exact (hl2 i q hi).1
  ·show zx (uQ w) [fzV (sz y) false (l.map fun x=>Value.agg (qm y x).toArray)] [Value.slice (some a) len cap]
   refine ⟨?_,trivial⟩
   by_cases h0:len=0
   ·subst h0
    obtain rfl:l=[]:=List.length_eq_zero_iff.1 hll
    exact zo.fz0 _ _ _
   ·
    obtain ⟨q0,hq0⟩:∃q,l[0]?=some q:=⟨l[0],List.getElem?_eq_getElem (by omega)⟩
    obtain ⟨_,us0,r0,l0,c0⟩:=hl2 0 q0 hq0
    have c00:=c0 0 hs
    have:∃v,us0[0]?=some v:=⟨us0[0],List.getElem?_eq_getElem (by omega)⟩
    obtain ⟨v0,hv0⟩:=this
    obtain ⟨b,o,sp⟩:=a
    have e0:((⟨b,o,sp⟩:Addr).add (0*sz y)).add 0=⟨b,o,sp⟩:=by simp [Addr.add]
    rw [e0,hv0] at c00
    unfold World.cell? at c00
    cases hh:w.heap[b]? with
    |none=>rw [hh] at c00;simp at c00
    |some ob=>
     rw [hh] at c00
     cases ob with
     |cells arr el fr=>
      have hsp:sp=none:=by
       cases sp with
       |none=>rfl
       |some s=>simp at c00
      subst hsp
      have hcell:∀k,w.cell? (⟨b,k,none⟩:Addr)=arr[k]?:=fun k=>by
       unfold World.cell?
       rw [hh];rfl
      have hat:∀i (q:T y),l[i]?=some q→∃us,zx (uQ w) (qm y q) us∧us.length=sz y∧∀j,j < sz y→arr[o+i*sz y+j]?=us[j]?:=fun i q hi=>by
       obtain ⟨_,us,r,hlu,hc⟩:=hl2 i q hi
       refine ⟨us,r,hlu,fun j hj=>?_⟩
       have:=hc j hj
       rw [Addr.add_none,Addr.add_none,hcell] at this
       exact this
      have hsz:∀(j:Nat) e,(l.map fun x=>Value.agg (qm y x).toArray).toArray[j]?=some e→e.cells.size=sz y:=fun j e he=>by
       simp only [List.getElem?_toArray,List.getElem?_map,Option.map_eq_some_iff] at he
       obtain ⟨q,_,rfl⟩:=he
       simp [Value.cells,wC]
      have hsize:(l.map fun x=>Value.agg (qm y x).toArray).toArray.size=len:=by simp [hll]
      have key:=zo.fz (φ:=uQ w) (sz y) (l.map fun x=>Value.agg (qm y x).toArray).toArray b o cap ⟨b,0,0,arr⟩ (zyO hh) (by rw [hsize];omega) (by
        rw [hsize]
        obtain ⟨q,hq⟩:∃q,l[len - 1]?=some q:=⟨l[len - 1],List.getElem?_eq_getElem (by omega)⟩
        obtain ⟨us,r,hlu,hc⟩:=hat (len - 1) q hq
        have h1:=hc (sz y - 1) (by omega)
        have:∃v,us[sz y - 1]?=some v:=⟨us[sz y - 1],List.getElem?_eq_getElem (by omega)⟩
        obtain ⟨v,hv⟩:=this
        rw [hv] at h1
        have h2:=(Array.getElem?_eq_some_iff.1 h1).1
        have h3:len*sz y=(len - 1)*sz y+sz y:=by
         have:len=(len - 1)+1:=by omega
         rw [this,Nat.add_mul,Nat.one_mul];simp
        show o+len*sz y≤arr.size
        omega) (by rw [hsize];omega) hsz (fun j k e u u' he hu hu'=>by
        simp only [List.getElem?_toArray,List.getElem?_map,Option.map_eq_some_iff] at he
        obtain ⟨q,hq,rfl⟩:=he
        obtain ⟨us,r,hlu,hc⟩:=hat j q hq
        simp only [Value.cells,List.getElem?_toArray] at hu
        have hk:k < sz y:=by
         have:=(List.getElem?_eq_some_iff.1 hu).1
         rw [wC] at this;exact this
        obtain ⟨v',hv',hr⟩:=r.get hu
        have:arr[o+j*sz y+k]?=some u':=hu'
        rw [hc k hk,hv'] at this
        cases this
        exact hr)
      rw [hsize] at key
      exact key
     |_=>simp at c00
theorem zrD:∀(n:Nat) {t:TypeId} {y:Ty} {fuel:Nat} {cs:List Value} {x:DataW H×List MemPlace},zp5 P n t y=true→DataW.trod enc P w base spare held fuel t cs=some x→(∀n∈x.1.weights P t,n≤reachBytes)→zgm w y cs
 |0,_,_,_,_,_,h,_,_=>by cases h
 |n+1,t,y,0,cs,x,_,h,_=>by cases h
 |n+1,t,y,fuel+1,cs,x,h,hx,hw=>by
  simp only [zp5] at h
  split at h
  ·rename_i hu
   simp only [DataW.trod,hu] at hx
   split at hx<;>first | (rename_i e1 e2;cases e1;done) | skip
   all_goals first | (exact ⟨_,trivial,.bool _,trivial⟩) | (simp_all;done) | cases hx
  ·rename_i k k' hu
   have hk:k=k':=of_decide_eq_true h
   subst hk
   obtain ⟨m,h1,h2,h3⟩:=DataW.trod_int hu hx
   subst h1
   simp only [Lit.wf,Bool.and_eq_true,decide_eq_true_eq] at h3
   exact ⟨m,h3,.int _ _,trivial⟩
  ·rename_i hu
   obtain ⟨s,h1,h2,h3⟩:=DataW.trod_string hu hx
   subst h1
   exact ⟨s,h3,.str _,trivial⟩
  ·rename_i e y' hu
   simp only [Bool.and_eq_true] at h
   obtain ⟨h1,h2,h3,h4⟩:=h
   exact zEa hu hx hw (fun hy hwy=>zrD n h1 hy hwy) (by simpa using h2) (Nat.eq_of_beq_eq_true h3) (Nat.le_of_ble_eq_true h4)
  ·rename_i fs hu
   simp only [Bool.and_eq_true] at h
   obtain ⟨h1,h2⟩:=h
   have h2:=Nat.eq_of_beq_eq_true h2
   obtain ⟨xs,m,_,rfl,hl,hlen,hf⟩:=DataW.trod_struct hu hx
   simp only [DataW.weights,hu] at hw
   have:=zxF (w:=w) (cs:=cs) h1 (fun f hf2 z hz=>by
    obtain ⟨i,hi⟩:=List.getElem?_of_mem hf2
    have h4:=hf i f (by simpa using hi)
    have hlt:i < xs.length:=by
     have:=(List.getElem?_eq_some_iff.1 hi).1
     rw [hlen];simpa using this
    rw [List.getElem?_eq_getElem hlt] at h4
    exact zrD n hz h4 fun k hk=>hw k (DataW.weights_mem_each (j:=i) (t:=f.type) (d:=xs[i].1) (by rw [List.getElem?_map,hi];rfl) (by rw [List.getElem?_map,List.getElem?_eq_getElem hlt];rfl) k hk)) (by rw [hl,h2,Nat.zero_add])
   simpa using this
  ·rename_i m e hu
   simp only [Bool.and_eq_true] at h
   obtain ⟨h1,h2⟩:=h
   have h2:=Nat.eq_of_beq_eq_true h2
   obtain ⟨xs,q,_,rfl,hl,hlen,hf⟩:=DataW.trod_array hu hx
   simp only [DataW.weights,hu] at hw
   have:=zxG (w:=w) (cs:=cs) (N:=m) (cz:=P.cellsOf e) (fun i hi z hz=>by
    have h4:=hf i hi
    have hlt:i < xs.length:=by omega
    rw [List.getElem?_eq_getElem hlt] at h4
    exact zrD n hz h4 fun k hk=>hw k (zio (List.mem_map_of_mem (List.getElem_mem hlt)) k hk)) (m:=m) (i:=0) h1 (by omega) (by rw [hl,h2];simp)
   simpa using this
  ·cases h
def zm1 (P:Program) (t:TypeId):Bool:=match P.underlying t with
 |some (.struct _)=>true
 |some (.array _ _)=>true
 |_=>false
def zdc (P:Program) (n:Nat):List TypeId→List VT→Bool
 |[],[]=>true
 |t::ts,v::vs=>zp5 P n t v.ty&&((bif zm1 P t then v.agg else !v.agg)&&zdc P n ts vs)
 |_,_=>false
theorem zEb {φ:Ren} {x v:Value} {a:List Value} (h:zx φ a [v]) (ha:a=[x]):zo φ x v:=by subst ha;exact h.1
theorem zG1 {n:Nat} {t:TypeId} {vt:VT} {r:Reach} {b0:Nat} {v:Value} {d:DataW H} {ps:List MemPlace} (hf:zp5 P n t vt.ty=true) (ha:(bif zm1 P t then vt.agg else !vt.agg)=true) (hv:Value.okWide P w r b0 t v) (hd:DataW.Trod enc P w base spare held t v d ps) (hw:∀n∈d.weights P t,n≤reachBytes) :
  ∃x:T vt.ty,wfT vt.ty x∧∀ρ,zo (uQ w) (den ρ (mkV vt x)) v:=by
 obtain ⟨ag,ty⟩:=vt
 obtain ⟨fuel,hd⟩:=hd
 obtain ⟨x,wx,rx⟩:=zrD n hf hd hw
 refine ⟨x,wx,fun ρ=>?_⟩
 cases ag with
 |true=>
  have hag:zm1 P t=true:=by
   cases h:zm1 P t with
   |true=>rfl
   |false=>rw [h] at ha;cases ha
  have:∃cs,v=.agg cs:=by
   unfold zm1 at hag
   unfold Value.okWide at hv
   split at hv
   ·obtain ⟨cs,h1,_⟩:=hv;exact ⟨cs,h1⟩
   ·obtain ⟨cs,h1,_⟩:=hv;exact ⟨cs,h1⟩
   ·rename_i h1 h2
    split at hag
    ·rename_i h3;exact absurd h3 (h1 _)
    ·rename_i h3;exact absurd h3 (h2 _ _)
    ·cases hag
  obtain ⟨cs,rfl⟩:=this
  simp only [mkV,cond_true,den]
  refine .agg' ?_
  rw [qz,yH]
  exact rx
 |false=>
  have hag:zm1 P t=false:=by
   cases h:zm1 P t with
   |true=>rw [h] at ha;cases ha
   |false=>rfl
  have hcell:v.cells.toList=[v]:=by
   unfold zm1 at hag
   unfold Value.okWide at hv
   split at hv
   ·rename_i h1;simp only [h1] at hag;cases hag
   ·rename_i h1;simp only [h1] at hag;cases hag
   ·cases v with
    |agg cs=>
     unfold Cell.okWide at hv
     split at hv<;>first | (exfalso;revert hv;unfold Cell.ok;split<;>simp_all;done) | (rename_i e1 e2;cases e2)
    |_=>rfl
  rw [hcell] at rx
  have hlen:=rx.length
  have h2:=yH ρ ty x
  simp only [mkV,cond_false]
  match he:wJ ty x with
  |[u]=>
   rw [he] at h2
   exact zEb rx h2.symm
  |[]=>rw [he] at h2;rw [←h2] at hlen;simp at hlen
  |_::_::_=>rw [he] at h2;rw [←h2] at hlen;simp at hlen
theorem zCc {n:Nat} {r:Reach} {b0:Nat}:∀{ts:List TypeId} {a:List VT} {us:List Value} {ds:List (DataW H)} {ps:List MemPlace},zdc P n ts a=true→
  (∀(j:Nat) t v,ts[j]?=some t→us[j]?=some v→Value.okWide P w r b0 t v)→DataW.TrodAll enc P w base spare held ts us ds ps→(∀n∈DataW.weightsEach P ts ds,n≤reachBytes)→
  ∃x:T (ql a),wfT (ql a) x∧∀ρ,zx (uQ w) (zq ρ (wa a x)) us
 |[],[],us,ds,ps,_,_,h,_=>by
  obtain ⟨rfl,_,_⟩:=trodAll_nil h
  exact ⟨(),trivial,fun ρ=>trivial⟩
 |t::ts,v::a,us,ds,ps,hf,hv,h,hw=>by
  simp only [zdc,Bool.and_eq_true] at hf
  obtain ⟨f1,f2,f3⟩:=hf
  obtain ⟨u,us',d,ds',p,q,rfl,rfl,rfl,h1,h2⟩:=trodAll_cons h
  obtain ⟨x,wx,rx⟩:=zG1 f1 f2 (hv 0 t u rfl rfl) h1 (fun n hn=>hw n (by simp only [DataW.weightsEach,List.mem_append];exact .inl hn))
  obtain ⟨y,wy,ry⟩:=zCc (ts:=ts) (a:=a) f3 (fun j t v ht hv2=>hv (j+1) t v (by simpa using ht) (by simpa using hv2)) h2 (fun n hn=>hw n (by simp only [DataW.weightsEach,List.mem_append];exact .inr hn))
  exact ⟨(x,y),⟨wx,wy⟩,fun ρ=>⟨rx ρ,ry ρ⟩⟩
 |[],_::_,_,_,_,hf,_,_,_=>by simp [zdc] at hf
 |_::_,[],_,_,_,hf,_,_,_=>by simp [zdc] at hf
theorem zpp:∀{ts:List TypeId} {us:List Value} {ds:List (DataW H)} {ps:List MemPlace},DataW.TrodAll enc P w base spare held ts us ds ps→ds.length=ts.length
 |[],_,_,_,h=>by
  obtain ⟨_,rfl,_⟩:=trodAll_nil h
  rfl
 |t::ts,us,ds,ps,h=>by
  obtain ⟨u,us',d,ds',p,q,rfl,rfl,rfl,h1,h2⟩:=trodAll_cons h
  rw [List.length_cons,List.length_cons,zpp h2]
theorem zCd {f:FuncId} {a:List VT} {G:T (ql a)→Option (T (ql [⟨false,.bool⟩]))} (hc:Con.Ok P f ⟨a,[⟨false,.bool⟩],G⟩) (hG:∀x,wfT (ql a) x→G x=some (true,())) {n:Nat} {r:Reach} {b0:Nat} {ts:List TypeId} {us:List Value} {ds:List (DataW H)} {ps:List MemPlace} (hf:zdc P n ts a=true)
  (hv:∀(j:Nat) t v,ts[j]?=some t→us[j]?=some v→Value.okWide P w r b0 t v) (h:DataW.TrodAll enc P w base spare held ts us ds ps) (hw:(DataW.weightsEach P ts ds).all (·≤reachBytes)=true) :
  Calls P f us.toArray w fun e w'=>e=.returned (.bool true)∧Below w.heap.size w w':=by
 obtain ⟨x,wx,rx⟩:=zCc hf hv h (fun n hn=>of_decide_eq_true (List.all_eq_true.1 hw n hn))
 obtain ⟨Hd,nx',hz,hcall⟩:=hc.2 x _ (hG x wx)
 exact zAO hz hcall (rx _)
end
def zrE:Ty→List Value
 |.unit=>[]
 |.bool=>[.bool false]
 |.int k=>[.int k 0]
 |.str=>[.string ByteArray.empty]
 |.list _=>[.slice none 0 0]
 |.pair a b=>zrE a++zrE b
def zHh (v:VT):Value:=bif v.agg then .agg (zrE v.ty).toArray else match zrE v.ty with
 |[u]=>u
 |_=>.nilFunc
def zG2 (a:List VT):Array Value:=(a.map zHh).toArray
theorem zi:zfJ P []:=fun x h=>by cases h
theorem zf {f:FuncId} {c:Con} {t:Tbl} (h:c.Ok P f) (ht:zfJ P t):zfJ P ((f,c)::t):=fun x hx=>by
 rcases List.mem_cons.1 hx with rfl | hx
 ·exact h
 ·exact ht x hx
end Go.Fz.Sy
namespace Go.Fz.Sy
def zts {α:Type} (f:α→α→Bool):List α→List α→Bool
 |[],[]=>true
 |x::l,y::r=>bif f x y then zts f l r else false
 |_,_=>false
theorem zzl {α:Type} {f:α→α→Bool} (hf:∀x y,f x y=true→x=y):∀l r:List α,zts f l r=true→l=r
 |[],[],_=>rfl
 |[],_::_,h=>by simp [zts] at h
 |_::_,[],h=>by simp [zts] at h
 |x::l,y::r,h=>by
  have h:(bif f x y then zts f l r else false)=true:=h
  cases hx:f x y with
  |false=>rw [hx] at h;cases h
  |true=>
   rw [hx] at h
   rw [hf x y hx,zzl hf l r h]
def eqT:(t:Ty)→T t→T t→Bool
 |.unit,_,_=>true
 |.bool,a,b=>bif (a:Bool) then b else !(b:Bool)
 |.int _,a,b=>zj a b
 |.str,a,b=>@decide ((a:ByteArray)=b) (inferInstanceAs (Decidable ((a:ByteArray)=b)))
 |.list t,a,b=>zts (eqT t) a b
 |.pair s t,x,y=>bif eqT s (p1 x) (p1 y) then eqT t (p2 x) (p2 y) else false
theorem zgn:∀(t:Ty) (x y:T t),eqT t x y=true→x=y
 |.unit,x,y,_=>by cases x;cases y;rfl
 |.bool,a,b,h=>by
  have h:(bif (a:Bool) then b else !(b:Bool))=true:=h
  cases a<;>cases b<;>first | rfl | cases h
 |.int _,a,b,h=>by
  have h:zj a b=true:=h
  rw [wo] at h;exact eq_of_beq h
 |.str,a,b,h=>by
  have h:@decide ((a:ByteArray)=b) (inferInstanceAs (Decidable ((a:ByteArray)=b)))=true:=h
  exact of_decide_eq_true h
 |.list t,a,b,h=>zzl (zgn t) a b h
 |.pair s t,x,y,h=>by
  have h:(bif eqT s (p1 x) (p1 y) then eqT t (p2 x) (p2 y) else false)=true:=h
  cases h1:eqT s (p1 x) (p1 y) with
  |false=>rw [h1] at h;cases h
  |true=>
   rw [h1] at h
   have e1:=zgn s _ _ h1
   have e2:=zgn t _ _ h
   exact Prod.ext e1 e2
def Ux {a b:List VT}:List (T (ql a)×T (ql b))→T (ql a)→Option (T (ql b))
 |[],_=>none
 |p::r,x=>bif eqT (ql a) x p.1 then some p.2 else Ux r x
theorem zuX {a b:List VT} {c:T (ql a)→Option (T (ql b))}:∀{l:List (T (ql a)×T (ql b))},(∀p∈l,c p.1=some p.2)→∀{x r},Ux l x=some r→c x=some r
 |[],_,_,_,h=>by cases h
 |p::l,hl,x,r,h=>by
  have h:(bif eqT (ql a) x p.1 then some p.2 else Ux l x)=some r:=h
  cases hx:eqT (ql a) x p.1 with
  |true=>
   rw [hx] at h
   cases h
   rw [zgn _ _ _ hx]
   exact hl p (by simp)
  |false=>
   rw [hx] at h
   exact zuX (fun q hq=>hl q (by simp [hq])) h
theorem Uy {P:Program} {f:FuncId} {a b:List VT} {c:T (ql a)→Option (T (ql b))} (h:Con.Ok P f ⟨a,b,c⟩) {l:List (T (ql a)×T (ql b))} (hl:∀p∈l,c p.1=some p.2):Con.Ok P f ⟨a,b,Ux l⟩:=
 ⟨h.1,fun x r hx=>h.2 x r (zuX hl hx)⟩
theorem zaB {a b:List VT} {c:T (ql a)→Option (T (ql b))}:∀p∈([]:List (T (ql a)×T (ql b))),c p.1=some p.2:=fun p hp=>by cases hp
theorem QC {a b:List VT} {c:T (ql a)→Option (T (ql b))} {x:T (ql a)} {r:T (ql b)} {l:List (T (ql a)×T (ql b))} (h:c x=some r) (hl:∀p∈l,c p.1=some p.2):∀p∈(x,r)::l,c p.1=some p.2:=fun p hp=>by
 rcases List.mem_cons.1 hp with rfl | hp
 ·exact h
 ·exact hl p hp
theorem qT {z:Int} (h1 : -9223372036854775808≤z) (h2:z≤9223372036854775807):wrF .i64 z=z:=by
 rw [zbs]
 have e:IntKind.i64.wrap z=if z % 18446744073709551616≥9223372036854775808 then z % 18446744073709551616 - 18446744073709551616 else z % 18446744073709551616:=by
  unfold IntKind.wrap
  show (if (true&&decide (z % 18446744073709551616≥9223372036854775808))=true then z % 18446744073709551616 - 18446744073709551616 else z % 18446744073709551616)=_
  simp only [Bool.true_and,decide_eq_true_eq]
 rw [e]
 split<;>omega
theorem zG {α R:Type} (a:α) (f:α→Option R):opt (some a) f=f a:=rfl
theorem zzm {α:Type} (l:List α) (n:Nat):atI l (n:Int)=l[n]?:=by
 show gl l n=_
 exact uT l n
theorem zGv {α:Type} {l:List α} {z:Int} (h0:0≤z) (h:z < l.length):∃x,atI l z=some x∧l[z.toNat]?=some x:=by
 obtain ⟨n,rfl⟩:=Int.eq_ofNat_of_zero_le h0
 have hn:n < l.length:=by omega
 exact ⟨l[n],by rw [zzm];simp [hn],by simp [hn]⟩
theorem ZU {α:Type} {l:List α} {n:Nat} {x:α} (h:l[n]?=some x):atI l (n:Int)=some x:=by rw [zzm];exact h
def qu {α:Type} (o:Option α) (Q:α→Prop):Prop:=∃r,o=some r∧Q r
theorem zd {α:Type} {a:α} {Q:α→Prop} (h:Q a):qu (some a) Q:=⟨a,rfl,h⟩
theorem zn {α R:Type} {x:Option α} {f:α→Option R} {Q:R→Prop} (h:qu x fun a=>qu (f a) Q):qu (opt x f) Q:=by
 obtain ⟨a,rfl,r,h1,h2⟩:=h
 exact ⟨r,h1,h2⟩
theorem zp {α R:Type} {x:Option α} {f:α→Option R} {J:α→Prop} {Q:R→Prop} (h:qu x J) (hf:∀a,J a→qu (f a) Q):qu (opt x f) Q:=by
 obtain ⟨a,rfl,ha⟩:=h
 exact hf a ha
theorem zr {α:Type} {b:Bool} {x y:Option α} {Q:α→Prop} (h1:b=true→qu x Q) (h2:b=false→qu y Q):qu (bif b then x else y) Q:=by
 cases b with
 |true=>exact h1 rfl
 |false=>exact h2 rfl
theorem zuY {α:Type} {o:Option α} {Q Q':α→Prop} (h:qu o Q) (hq:∀a,Q a→Q' a):qu o Q':=by
 obtain ⟨a,e,ha⟩:=h
 exact ⟨a,e,hq a ha⟩
theorem yN {α:Type} {o:Option α} {a:α} (h:qu o fun r=>r=a):o=some a:=by
 obtain ⟨r,e,rfl⟩:=h
 exact e
theorem zQ {α:Type} {l:List α} {n:Nat} {x:α} {Q:α→Prop} (h:l[n]?=some x) (hq:Q x):qu (atI l (n:Int)) Q:=⟨x,ZU h,hq⟩
end Go.Fz.Sy
namespace Go.Proofs.YtleloebnggepoaaGreat.sg
open Go Go.Fz Go.Fz.Sy
abbrev I:Ty:=.int .i64
theorem zm:vS Tryz.prog:=zws (by kernel_rfl)
abbrev qx:Ty:=(.pair I (.pair I (.pair I I)))
abbrev zuZ:Type:=(Int×(Int×(Int×Int)))
abbrev zY:Ty:=(.pair I (.pair (.list .bool) (.list qx)))
abbrev qi:Type:=(Int×((List Bool)×(List zuZ)))
abbrev ziq:Ty:=(.pair I (.pair I (.pair I I)))
abbrev zfK:Type:=(Int×(Int×(Int×Int)))
abbrev jt:Ty:=(.pair I I)
abbrev zfL:Type:=(Int×Int)
abbrev qo:Ty:=(.pair (.list jt) I)
abbrev jf:Type:=((List zfL)×Int)
abbrev qL:Ty:=(.pair zY (.pair ziq (.pair (.list qo) I)))
abbrev jI:Type:=(qi×(zfK×((List jf)×Int)))
abbrev zu:Ty:=(.pair I I)
abbrev jP:Type:=(Int×Int)
abbrev zE:Ty:=(.pair I (.pair I (.pair I (.pair I (.pair I (.pair I (.pair zu (.pair I (.list (.list I))))))))))
abbrev zz:Type:=(Int×(Int×(Int×(Int×(Int×(Int×(jP×(Int×(List (List Int))))))))))
abbrev wI:Ty:=(.pair I (.pair I (.pair I (.pair zE I))))
abbrev qE:Type:=(Int×(Int×(Int×(zz×Int))))
abbrev we:Ty:=(.pair I (.pair I (.pair I (.pair I (.list I)))))
abbrev qw:Type:=(Int×(Int×(Int×(Int×(List Int)))))
abbrev xE:Ty:=(.pair I (.pair I (.pair I .bool)))
abbrev xF:Type:=(Int×(Int×(Int×Bool)))
abbrev qM:Ty:=(.pair I (.pair I (.pair I (.pair I (.pair .bool (.pair zE I))))))
abbrev zJ:Type:=(Int×(Int×(Int×(Int×(Bool×(zz×Int))))))
abbrev ja:Ty:=(.pair qL (.pair (.list zE) (.pair (.list wI) (.pair (.list we) (.pair (.list xE) (.list qM))))))
abbrev qj:Type:=(jI×((List zz)×((List qE)×((List qw)×((List xF)×(List zJ))))))
abbrev ze:Ty:=ja
abbrev za:Type:=qj
abbrev Xq:Ty:=zY
abbrev Qv:Type:=qi
abbrev zpq:Ty:=(.pair I (.pair I I))
abbrev Gf:Ty:=(.pair qx I)
abbrev za7:Type:=(zuZ×Int)
abbrev wq:Ty:=(.pair I I)
abbrev JD:Ty:=(.pair I I)
abbrev vD:Type:=(Int×Int)
abbrev zpr:Ty:=(.pair zu (.pair JD (.pair I I)))
abbrev ztt:Ty:=(.pair zpr I)
abbrev Yy:Ty:=(.pair I (.pair I (.pair I zE)))
abbrev yL:Type:=(Int×(Int×(Int×zz)))
abbrev xG:Ty:=(.pair (.int .u8) (.pair (.int .u8) (.pair (.int .u8) (.pair .bool (.pair (.int .u16) (.pair (.int .u16) (.int .u16)))))))
abbrev qN:Type:=(Int×(Int×(Int×(Bool×(Int×(Int×Int))))))
end Go.Proofs.YtleloebnggepoaaGreat.sg
namespace Go.Proofs.YtleloebnggepoaaGreat.sg
open Go.Shelf
def zyQ:Go.Shelf.Ren:=⟨fun | 189=>140 | 125=>156 | 257=>155 | 128=>175 | 129=>176 | 294=>166 | 295=>167 | 296=>168 | 297=>169 | 298=>170 | 299=>171 | 216=>172 | 300=>173 | 301=>174 | 328=>180 | 329=>181 | 330=>182 | 331=>183 | 332=>184 | 215=>55 | 343=>187 | n=>n,fun | 28=>77 | 3=>3 | 46=>241 | 0=>0 | 51=>261 | 53=>246 | 4=>4 | 183=>254 | 182=>253 | 131=>106 | 5=>5 | 9=>9 | 218=>267 | 222=>271 | 228=>274 | 229=>275 | n=>n,fun | n=>n⟩
theorem zzn:Go.Proofs.Lays.n189 Tryz.prog zyQ:={
 mixed:=by kernel_rfl
 f125:=Tryz.func156.trans (congrArg some (by kernel_rfl))
 f128:=Tryz.func175.trans (congrArg some (by kernel_rfl))
 f129:=Tryz.func176.trans (congrArg some (by kernel_rfl))
 f189:=Tryz.func140.trans (congrArg some (by kernel_rfl))
 f215:=Tryz.func55.trans (congrArg some (by kernel_rfl))
 f216:=Tryz.func172.trans (congrArg some (by kernel_rfl))
 f257:=Tryz.func155.trans (congrArg some (by kernel_rfl))
 f294:=Tryz.func166.trans (congrArg some (by kernel_rfl))
 f295:=Tryz.func167.trans (congrArg some (by kernel_rfl))
 f296:=Tryz.func168.trans (congrArg some (by kernel_rfl))
 f297:=Tryz.func169.trans (congrArg some (by kernel_rfl))
 f298:=Tryz.func170.trans (congrArg some (by kernel_rfl))
 f299:=Tryz.func171.trans (congrArg some (by kernel_rfl))
 f300:=Tryz.func173.trans (congrArg some (by kernel_rfl))
 f301:=Tryz.func174.trans (congrArg some (by kernel_rfl))
 f328:=Tryz.func180.trans (congrArg some (by kernel_rfl))
 f329:=Tryz.func181.trans (congrArg some (by kernel_rfl))
 f330:=Tryz.func182.trans (congrArg some (by kernel_rfl))
 f331:=Tryz.func183.trans (congrArg some (by kernel_rfl))
 f332:=Tryz.func184.trans (congrArg some (by kernel_rfl))
 f343:=Tryz.func187.trans (congrArg some (by kernel_rfl))
 t0:=Tryz.underlying0
 a0:=Tryz.isAgg0
 z0:=Tryz.sizeOf0
 v0:=Tryz.zeroValue0
 t3:=Tryz.underlying3
 a3:=Tryz.isAgg3
 z3:=Tryz.sizeOf3
 v3:=Tryz.zeroValue3
 t4:=Tryz.underlying4
 a4:=Tryz.isAgg4
 z4:=Tryz.sizeOf4
 v4:=Tryz.zeroValue4
 t5:=Tryz.underlying5
 a5:=Tryz.isAgg5
 z5:=Tryz.sizeOf5
 v5:=Tryz.zeroValue5
 t9:=Tryz.underlying9
 a9:=Tryz.isAgg9
 z9:=Tryz.sizeOf9
 v9:=Tryz.zeroValue9
 t28:=Tryz.underlying77
 a28:=Tryz.isAgg77
 z28:=Tryz.sizeOf77
 v28:=Tryz.zeroValue77
 t46:=Tryz.underlying241
 a46:=Tryz.isAgg241
 z46:=Tryz.sizeOf241
 v46:=Tryz.zeroValue241
 t51:=Tryz.underlying261
 a51:=Tryz.isAgg261
 z51:=Tryz.sizeOf261
 v51:=Tryz.zeroValue261
 t53:=Tryz.underlying246
 a53:=Tryz.isAgg246
 z53:=Tryz.sizeOf246
 v53:=Tryz.zeroValue246
 t131:=Tryz.underlying106
 a131:=Tryz.isAgg106
 z131:=Tryz.sizeOf106
 v131:=Tryz.zeroValue106
 t182:=Tryz.underlying253
 a182:=Tryz.isAgg253
 z182:=Tryz.sizeOf253
 v182:=Tryz.zeroValue253
 t183:=Tryz.underlying254
 a183:=Tryz.isAgg254
 z183:=Tryz.sizeOf254
 v183:=Tryz.zeroValue254
 t218:=Tryz.underlying267
 a218:=Tryz.isAgg267
 z218:=Tryz.sizeOf267
 v218:=Tryz.zeroValue267
 t222:=Tryz.underlying271
 a222:=Tryz.isAgg271
 z222:=Tryz.sizeOf271
 v222:=Tryz.zeroValue271
 t228:=Tryz.underlying274
 a228:=Tryz.isAgg274
 z228:=Tryz.sizeOf274
 v228:=Tryz.zeroValue274
 t229:=Tryz.underlying275
 a229:=Tryz.isAgg275
 z229:=Tryz.sizeOf275
 v229:=Tryz.zeroValue275}
def zvd:Go.Shelf.Ren:=⟨fun | 20=>141 | n=>n,fun | 22=>77 | 3=>3 | 4=>4 | 0=>0 | n=>n,fun | n=>n⟩
theorem zu0:Go.Proofs.Lays2.n20 Tryz.prog zvd:={
 mixed:=by kernel_rfl
 f20:=Tryz.func141.trans (congrArg some (by kernel_rfl))
 t0:=Tryz.underlying0
 a0:=Tryz.isAgg0
 z0:=Tryz.sizeOf0
 v0:=Tryz.zeroValue0
 t3:=Tryz.underlying3
 a3:=Tryz.isAgg3
 z3:=Tryz.sizeOf3
 v3:=Tryz.zeroValue3
 t4:=Tryz.underlying4
 a4:=Tryz.isAgg4
 z4:=Tryz.sizeOf4
 v4:=Tryz.zeroValue4
 t22:=Tryz.underlying77
 a22:=Tryz.isAgg77
 z22:=Tryz.sizeOf77
 v22:=Tryz.zeroValue77
 i3:=by kernel_rfl}
end Go.Proofs.YtleloebnggepoaaGreat.sg
namespace Go.Proofs.YtleloebnggepoaaGreat.sg
open Go Go.Fz Go.Fz.Sy
theorem zGw:zja Tryz.prog 140 where
 fn:=⟨Tryz.f140,Tryz.func140,by kernel_rfl⟩
 run:=fun blk off cap L w hH hb hl=>Any.slices_Sort_int zzn blk off cap L w hH hb hl
 nil:=fun a cap w=>Any.slices_Sort_int_none zzn a cap w
theorem zGx:zjb Tryz.prog 141 where
 fn:=⟨Tryz.f141,Tryz.func141,by kernel_rfl⟩
 run:=fun blk off cap L w hH hl hc=>Any.slices_Compact_int zu0 blk off cap L w hH hl hc
 nil:=fun a cap w=>Any.slices_Compact_int_empty zu0 a cap w
theorem zG3:zhQ Tryz.prog [(140,true),(141,false)]:=zAG zGw (zAH zGx qy)
abbrev cdF (t:Ty):zmZ:=⟨t,zd1 t,[]⟩
abbrev YL:List VT:=[]
abbrev YM:List VT:=[⟨true,qL⟩]
def zxH:qa:=zT [⟨qL,zd1 qL,[7]⟩,cdF zY,cdF qx,cdF qo,cdF jt] [] [⟨4,25,none,qo,true⟩] [(4,25,1,[7])] []
def zir:Option (jI×Unit):=
 opt (qh (fun s0:((Unit×(Int×Unit))×(((Int×((List Bool)×(List (Int×(Int×(Int×Int))))))×((Int×(Int×(Int×Int)))×((List ((List (Int×Int))×Int))×(Int×Unit))))×Unit))=>
  bif zt s0.1.2.1 6 then bif (xj s0.2.1.2.2.1.length (((((127,100)::[]),100)::[]).length) 32) then some (.inr (((),((wrF .i64 (s0.1.2.1+1)),())),((s0.2.1.1,(s0.2.1.2.1,((s0.2.1.2.2.1++((((127,100)::[]),100)::[])),(s0.2.1.2.2.2.1,())))),())))
   else none
  else some (.inl (0,(((),(s0.1.2.1,())),((s0.2.1.1,(s0.2.1.2.1,(s0.2.1.2.2.1,(s0.2.1.2.2.2.1,())))),()))))) qD (((),(0,())),(((4,((true::(false::(false::(true::[])))),((0,(1,(8,5)))::((1,(2,(8,5)))::((2,(3,(8,5)))::[]))))),((100,(2,(10,8000))),([],(200,())))),()))) fun x1=>
 some ((x1.2.2.1.1,(x1.2.2.1.2.1,(x1.2.2.1.2.2.1,x1.2.2.1.2.2.2.1))),())
abbrev zis:Type:=(Unit)→Option (jI×Unit)
def zps:zis:=sF Tryz.prog [] zxH (zL []) 30 15 YL YM
theorem zyR:zps ()=zir:=by kernel_rfl
def Ku:zis:=zps
theorem ztu:Con.Ok Tryz.prog 15 ⟨YL,YM,Ku⟩:=zy zi zm (by kernel_rfl)
theorem ztv:Ku ()=zir:=zyR
abbrev Kv:List VT:=[⟨true,zY⟩,⟨false,I⟩]
abbrev Kw:List VT:=[⟨false,.bool⟩]
def zxI:qa:=zT [cdF zY,cdF qx] [] [] [] []
def zit (a0:qi) (a1:Int):Option (Bool×Unit):=
 bif !(zt a1 0) then some ((zt a1 a0.1),())
 else some (false,())
abbrev zdM:Type:=(qi×Int×Unit)→Option (Bool×Unit)
def zpt:zdM:=sF Tryz.prog [] zxI (zL []) 30 93 Kv Kw
theorem zyS (a0) (a1):zpt (a0,a1,())=zit a0 a1:=by kernel_rfl
def Kx:zdM:=zpt
theorem ztw:Con.Ok Tryz.prog 93 ⟨Kv,Kw,Kx⟩:=zy zi zm (by kernel_rfl)
theorem ztx (a0) (a1):Kx (a0,a1,())=zit  a0 a1:=zyS  a0 a1
abbrev Xr:List VT:=[⟨true,zY⟩]
abbrev Xt:List VT:=[⟨false,.bool⟩]
def zve:qa:=zT [cdF zY,cdF qx] [] [] [] [93]
def zgo (YT:zdM) (a0:qi):Option (Bool×Unit):=
 opt (qh (fun s0:((Bool×(Int×Unit))×Unit)=>
  bif (zt s0.1.2.1 ((a0.2.2.length:Nat):Int)) then opt (qh (fun s1:((Bool×(Int×Unit))×Unit)=>
    bif zt s1.1.2.1 4 then bif zj s1.1.2.1 0 then opt (atI a0.2.2 s0.1.2.1) fun x2=>
      opt (YT (a0,(x2.1,()))) fun x3=>
      bif x3.1 then opt (YT (a0,(x2.2.1,()))) fun x4=>
       bif x4.1 then bif (!(!(zj x2.1 x2.2.1))) then some (.inl (1,((false,(s1.1.2.1,())),())))
        else some (.inr ((s1.1.1,((wrF .i64 (s1.1.2.1+1)),())),()))
       else some (.inl (1,((false,(s1.1.2.1,())),())))
      else some (.inl (1,((false,(s1.1.2.1,())),())))
     else bif zj s1.1.2.1 1 then opt (atI a0.2.2 s0.1.2.1) fun x5=>
       opt (atI a0.2.1 x5.1) fun x6=>
       bif !x6 then some (.inr ((s1.1.1,((wrF .i64 (s1.1.2.1+1)),())),()))
       else opt (atI a0.2.1 x5.2.1) fun x7=>
        bif !(!x7) then some (.inl (1,((false,(s1.1.2.1,())),())))
        else some (.inr ((s1.1.1,((wrF .i64 (s1.1.2.1+1)),())),()))
      else bif zj s1.1.2.1 2 then opt (atI a0.2.2 s0.1.2.1) fun x8=>
        opt (ue a0.2.2 none (some s0.1.2.1) none) fun x9=>
        opt (qh (fun s10:((Bool×(Int×Unit))×Unit)=>
         bif (zt s10.1.2.1 ((x9.length:Nat):Int)) then opt (atI x9 s10.1.2.1) fun x11=>
          opt (bif zj x8.1 x11.1 then bif zj x8.2.1 x11.2.1 then some (1,((false,()),()))
            else bif zj x8.1 x11.2.1 then bif zj x8.2.1 x11.1 then some (1,((false,()),()))
              else some (0,((s10.1.1,()),()))
             else some (0,((s10.1.1,()),()))
           else bif zj x8.1 x11.2.1 then bif zj x8.2.1 x11.1 then some (1,((false,()),()))
             else some (0,((s10.1.1,()),()))
            else some (0,((s10.1.1,()),()))) fun x12=>
          bif Nat.beq x12.1 0 then some (.inr ((x12.2.1.1,((wrF .i64 (s10.1.2.1+1)),())),()))
          else some (.inl (1,((x12.2.1.1,(s10.1.2.1,())),())))
         else some (.inl (0,((s10.1.1,(s10.1.2.1,())),())))) qD ((false,(0,())),())) fun x13=>
        bif Nat.beq x13.1 0 then some (.inr ((s1.1.1,((wrF .i64 (s1.1.2.1+1)),())),()))
        else bif !x13.2.1.1 then some (.inl (1,((false,(s1.1.2.1,())),())))
         else some (.inr ((s1.1.1,((wrF .i64 (s1.1.2.1+1)),())),()))
       else bif zj s1.1.2.1 3 then opt (atI a0.2.2 s0.1.2.1) fun x14=>
         bif !(zt x14.2.2.1 1) then bif !(zt 1000 x14.2.2.1) then bif !(zt x14.2.2.2 0) then bif (!(!(zt 10000 x14.2.2.2))) then some (.inl (1,((false,(s1.1.2.1,())),())))
            else some (.inr ((s1.1.1,((wrF .i64 (s1.1.2.1+1)),())),()))
           else some (.inl (1,((false,(s1.1.2.1,())),())))
          else some (.inl (1,((false,(s1.1.2.1,())),())))
         else some (.inl (1,((false,(s1.1.2.1,())),())))
        else none
    else some (.inl (0,((s1.1.1,(s1.1.2.1,())),())))) qD ((s0.1.1,(0,())),())) fun x15=>
   bif Nat.beq x15.1 0 then some (.inr ((x15.2.1.1,((wrF .i64 (s0.1.2.1+1)),())),()))
   else some (.inl (1,((x15.2.1.1,(s0.1.2.1,())),())))
  else some (.inl (0,((s0.1.1,(s0.1.2.1,())),())))) qD ((false,(0,())),())) fun x16=>
 bif Nat.beq x16.1 0 then some (true,())
 else some (x16.2.1.1,())
abbrev zbH:Type:=(qi×Unit)→Option (Bool×Unit)
def zm2:zdM→zbH:=fun YT=>sF Tryz.prog [(93,⟨Kv,Kw,YT⟩)] zve (zL []) 30 59 Xr Xt
theorem zxJ (YT) (a0):zm2 YT (a0,())=zgo YT a0:=by kernel_rfl
def Xu:zbH:=zm2 Kx
theorem zrF:Con.Ok Tryz.prog 59 ⟨Xr,Xt,Xu⟩:=zy (zf ztw zi) zm (by kernel_rfl)
theorem zrG (a0):Xu (a0,())=zgo Kx a0:=zxJ Kx a0
abbrev Xv:List VT:=[⟨true,zY⟩,⟨false,I⟩,⟨true,(.pair .bool (.pair .bool (.pair .bool (.pair .bool (.pair .bool (.pair .bool (.pair .bool (.pair .bool (.pair .bool (.pair .bool (.pair .bool (.pair .bool (.pair .bool (.pair .bool (.pair .bool (.pair .bool (.pair .bool (.pair .bool (.pair .bool (.pair .bool (.pair .bool (.pair .bool (.pair .bool .bool)))))))))))))))))))))))⟩]
abbrev Xw:List VT:=[⟨false,(.list .bool)⟩]
def zvf:qa:=zT [⟨(.pair .bool (.pair .bool (.pair .bool (.pair .bool (.pair .bool (.pair .bool (.pair .bool (.pair .bool (.pair .bool (.pair .bool (.pair .bool (.pair .bool (.pair .bool (.pair .bool (.pair .bool (.pair .bool (.pair .bool (.pair .bool (.pair .bool (.pair .bool (.pair .bool (.pair .bool (.pair .bool .bool))))))))))))))))))))))),zd1 (.pair .bool (.pair .bool (.pair .bool (.pair .bool (.pair .bool (.pair .bool (.pair .bool (.pair .bool (.pair .bool (.pair .bool (.pair .bool (.pair .bool (.pair .bool (.pair .bool (.pair .bool (.pair .bool (.pair .bool (.pair .bool (.pair .bool (.pair .bool (.pair .bool (.pair .bool (.pair .bool .bool))))))))))))))))))))))),[]⟩,cdF zY,cdF qx] [] [⟨4,56,some 6,.bool,false⟩,⟨6,56,some 6,.bool,false⟩,⟨8,56,some 6,.bool,false⟩] [] []
def zgp (a0:qi) (a1:Int) (a2:(Bool×(Bool×(Bool×(Bool×(Bool×(Bool×(Bool×(Bool×(Bool×(Bool×(Bool×(Bool×(Bool×(Bool×(Bool×(Bool×(Bool×(Bool×(Bool×(Bool×(Bool×(Bool×(Bool×Bool)))))))))))))))))))))))):Option ((List Bool)×Unit):=
 bif zpU a0.1 a0.1 1 then opt (atI (List.replicate (Int.toNat a0.1) false) a1) fun x0=>
  opt (gl (List.replicate (Int.toNat a0.1) false) (Int.toNat a1)) fun x1=>
  opt (qh (fun s2:((Int×Unit)×((List Bool)×Unit))=>
   bif zt s2.1.1 a0.1 then opt (qh (fun s3:((Int×Unit)×((List Bool)×Unit))=>
     bif (zt s3.1.1 ((a0.2.2.length:Nat):Int)) then opt (atI a0.2.2 s3.1.1) fun x4=>
      opt (bif zj s3.1.1 0 then bif !a2.1 then opt (atI s3.2.1 x4.1) fun x5=>
         opt (gl s3.2.1 (Int.toNat x4.1)) fun x6=>
         opt (atI s3.2.1 x4.2.1) fun x7=>
         opt (gl s3.2.1 (Int.toNat x4.2.1)) fun x8=>
         bif !(x6 == x8) then opt (atI s3.2.1 x4.1) fun x9=>
          opt (gl s3.2.1 (Int.toNat x4.1)) fun x10=>
          opt (atI (s3.2.1.set (Int.toNat x4.1) true) x4.2.1) fun x11=>
          opt (gl (s3.2.1.set (Int.toNat x4.1) true) (Int.toNat x4.2.1)) fun x12=>
          some (0,((),(((s3.2.1.set (Int.toNat x4.1) true).set (Int.toNat x4.2.1) true),())))
         else some (0,((),(s3.2.1,())))
        else some (0,((),(s3.2.1,())))
       else bif zj s3.1.1 1 then bif !a2.2.1 then opt (atI s3.2.1 x4.1) fun x13=>
          opt (gl s3.2.1 (Int.toNat x4.1)) fun x14=>
          opt (atI s3.2.1 x4.2.1) fun x15=>
          opt (gl s3.2.1 (Int.toNat x4.2.1)) fun x16=>
          bif !(x14 == x16) then opt (atI s3.2.1 x4.1) fun x17=>
           opt (gl s3.2.1 (Int.toNat x4.1)) fun x18=>
           opt (atI (s3.2.1.set (Int.toNat x4.1) true) x4.2.1) fun x19=>
           opt (gl (s3.2.1.set (Int.toNat x4.1) true) (Int.toNat x4.2.1)) fun x20=>
           some (0,((),(((s3.2.1.set (Int.toNat x4.1) true).set (Int.toNat x4.2.1) true),())))
          else some (0,((),(s3.2.1,())))
         else some (0,((),(s3.2.1,())))
        else bif zj s3.1.1 2 then bif !a2.2.2.1 then opt (atI s3.2.1 x4.1) fun x21=>
           opt (gl s3.2.1 (Int.toNat x4.1)) fun x22=>
           opt (atI s3.2.1 x4.2.1) fun x23=>
           opt (gl s3.2.1 (Int.toNat x4.2.1)) fun x24=>
           bif !(x22 == x24) then opt (atI s3.2.1 x4.1) fun x25=>
            opt (gl s3.2.1 (Int.toNat x4.1)) fun x26=>
            opt (atI (s3.2.1.set (Int.toNat x4.1) true) x4.2.1) fun x27=>
            opt (gl (s3.2.1.set (Int.toNat x4.1) true) (Int.toNat x4.2.1)) fun x28=>
            some (0,((),(((s3.2.1.set (Int.toNat x4.1) true).set (Int.toNat x4.2.1) true),())))
           else some (0,((),(s3.2.1,())))
          else some (0,((),(s3.2.1,())))
         else bif zj s3.1.1 3 then bif !a2.2.2.2.1 then opt (atI s3.2.1 x4.1) fun x29=>
            opt (gl s3.2.1 (Int.toNat x4.1)) fun x30=>
            opt (atI s3.2.1 x4.2.1) fun x31=>
            opt (gl s3.2.1 (Int.toNat x4.2.1)) fun x32=>
            bif !(x30 == x32) then opt (atI s3.2.1 x4.1) fun x33=>
             opt (gl s3.2.1 (Int.toNat x4.1)) fun x34=>
             opt (atI (s3.2.1.set (Int.toNat x4.1) true) x4.2.1) fun x35=>
             opt (gl (s3.2.1.set (Int.toNat x4.1) true) (Int.toNat x4.2.1)) fun x36=>
             some (0,((),(((s3.2.1.set (Int.toNat x4.1) true).set (Int.toNat x4.2.1) true),())))
            else some (0,((),(s3.2.1,())))
           else some (0,((),(s3.2.1,())))
          else bif zj s3.1.1 4 then bif !a2.2.2.2.2.1 then opt (atI s3.2.1 x4.1) fun x37=>
             opt (gl s3.2.1 (Int.toNat x4.1)) fun x38=>
             opt (atI s3.2.1 x4.2.1) fun x39=>
             opt (gl s3.2.1 (Int.toNat x4.2.1)) fun x40=>
             bif !(x38 == x40) then opt (atI s3.2.1 x4.1) fun x41=>
              opt (gl s3.2.1 (Int.toNat x4.1)) fun x42=>
              opt (atI (s3.2.1.set (Int.toNat x4.1) true) x4.2.1) fun x43=>
              opt (gl (s3.2.1.set (Int.toNat x4.1) true) (Int.toNat x4.2.1)) fun x44=>
              some (0,((),(((s3.2.1.set (Int.toNat x4.1) true).set (Int.toNat x4.2.1) true),())))
             else some (0,((),(s3.2.1,())))
            else some (0,((),(s3.2.1,())))
           else bif zj s3.1.1 5 then bif !a2.2.2.2.2.2.1 then opt (atI s3.2.1 x4.1) fun x45=>
              opt (gl s3.2.1 (Int.toNat x4.1)) fun x46=>
              opt (atI s3.2.1 x4.2.1) fun x47=>
              opt (gl s3.2.1 (Int.toNat x4.2.1)) fun x48=>
              bif !(x46 == x48) then opt (atI s3.2.1 x4.1) fun x49=>
               opt (gl s3.2.1 (Int.toNat x4.1)) fun x50=>
               opt (atI (s3.2.1.set (Int.toNat x4.1) true) x4.2.1) fun x51=>
               opt (gl (s3.2.1.set (Int.toNat x4.1) true) (Int.toNat x4.2.1)) fun x52=>
               some (0,((),(((s3.2.1.set (Int.toNat x4.1) true).set (Int.toNat x4.2.1) true),())))
              else some (0,((),(s3.2.1,())))
             else some (0,((),(s3.2.1,())))
            else bif zj s3.1.1 6 then bif !a2.2.2.2.2.2.2.1 then opt (atI s3.2.1 x4.1) fun x53=>
               opt (gl s3.2.1 (Int.toNat x4.1)) fun x54=>
               opt (atI s3.2.1 x4.2.1) fun x55=>
               opt (gl s3.2.1 (Int.toNat x4.2.1)) fun x56=>
               bif !(x54 == x56) then opt (atI s3.2.1 x4.1) fun x57=>
                opt (gl s3.2.1 (Int.toNat x4.1)) fun x58=>
                opt (atI (s3.2.1.set (Int.toNat x4.1) true) x4.2.1) fun x59=>
                opt (gl (s3.2.1.set (Int.toNat x4.1) true) (Int.toNat x4.2.1)) fun x60=>
                some (0,((),(((s3.2.1.set (Int.toNat x4.1) true).set (Int.toNat x4.2.1) true),())))
               else some (0,((),(s3.2.1,())))
              else some (0,((),(s3.2.1,())))
             else bif zj s3.1.1 7 then bif !a2.2.2.2.2.2.2.2.1 then opt (atI s3.2.1 x4.1) fun x61=>
                opt (gl s3.2.1 (Int.toNat x4.1)) fun x62=>
                opt (atI s3.2.1 x4.2.1) fun x63=>
                opt (gl s3.2.1 (Int.toNat x4.2.1)) fun x64=>
                bif !(x62 == x64) then opt (atI s3.2.1 x4.1) fun x65=>
                 opt (gl s3.2.1 (Int.toNat x4.1)) fun x66=>
                 opt (atI (s3.2.1.set (Int.toNat x4.1) true) x4.2.1) fun x67=>
                 opt (gl (s3.2.1.set (Int.toNat x4.1) true) (Int.toNat x4.2.1)) fun x68=>
                 some (0,((),(((s3.2.1.set (Int.toNat x4.1) true).set (Int.toNat x4.2.1) true),())))
                else some (0,((),(s3.2.1,())))
               else some (0,((),(s3.2.1,())))
              else bif zj s3.1.1 8 then bif !a2.2.2.2.2.2.2.2.2.1 then opt (atI s3.2.1 x4.1) fun x69=>
                 opt (gl s3.2.1 (Int.toNat x4.1)) fun x70=>
                 opt (atI s3.2.1 x4.2.1) fun x71=>
                 opt (gl s3.2.1 (Int.toNat x4.2.1)) fun x72=>
                 bif !(x70 == x72) then opt (atI s3.2.1 x4.1) fun x73=>
                  opt (gl s3.2.1 (Int.toNat x4.1)) fun x74=>
                  opt (atI (s3.2.1.set (Int.toNat x4.1) true) x4.2.1) fun x75=>
                  opt (gl (s3.2.1.set (Int.toNat x4.1) true) (Int.toNat x4.2.1)) fun x76=>
                  some (0,((),(((s3.2.1.set (Int.toNat x4.1) true).set (Int.toNat x4.2.1) true),())))
                 else some (0,((),(s3.2.1,())))
                else some (0,((),(s3.2.1,())))
               else bif zj s3.1.1 9 then bif !a2.2.2.2.2.2.2.2.2.2.1 then opt (atI s3.2.1 x4.1) fun x77=>
                  opt (gl s3.2.1 (Int.toNat x4.1)) fun x78=>
                  opt (atI s3.2.1 x4.2.1) fun x79=>
                  opt (gl s3.2.1 (Int.toNat x4.2.1)) fun x80=>
                  bif !(x78 == x80) then opt (atI s3.2.1 x4.1) fun x81=>
                   opt (gl s3.2.1 (Int.toNat x4.1)) fun x82=>
                   opt (atI (s3.2.1.set (Int.toNat x4.1) true) x4.2.1) fun x83=>
                   opt (gl (s3.2.1.set (Int.toNat x4.1) true) (Int.toNat x4.2.1)) fun x84=>
                   some (0,((),(((s3.2.1.set (Int.toNat x4.1) true).set (Int.toNat x4.2.1) true),())))
                  else some (0,((),(s3.2.1,())))
                 else some (0,((),(s3.2.1,())))
                else bif zj s3.1.1 10 then bif !a2.2.2.2.2.2.2.2.2.2.2.1 then opt (atI s3.2.1 x4.1) fun x85=>
                   opt (gl s3.2.1 (Int.toNat x4.1)) fun x86=>
                   opt (atI s3.2.1 x4.2.1) fun x87=>
                   opt (gl s3.2.1 (Int.toNat x4.2.1)) fun x88=>
                   bif !(x86 == x88) then opt (atI s3.2.1 x4.1) fun x89=>
                    opt (gl s3.2.1 (Int.toNat x4.1)) fun x90=>
                    opt (atI (s3.2.1.set (Int.toNat x4.1) true) x4.2.1) fun x91=>
                    opt (gl (s3.2.1.set (Int.toNat x4.1) true) (Int.toNat x4.2.1)) fun x92=>
                    some (0,((),(((s3.2.1.set (Int.toNat x4.1) true).set (Int.toNat x4.2.1) true),())))
                   else some (0,((),(s3.2.1,())))
                  else some (0,((),(s3.2.1,())))
                 else bif zj s3.1.1 11 then bif !a2.2.2.2.2.2.2.2.2.2.2.2.1 then opt (atI s3.2.1 x4.1) fun x93=>
                    opt (gl s3.2.1 (Int.toNat x4.1)) fun x94=>
                    opt (atI s3.2.1 x4.2.1) fun x95=>
                    opt (gl s3.2.1 (Int.toNat x4.2.1)) fun x96=>
                    bif !(x94 == x96) then opt (atI s3.2.1 x4.1) fun x97=>
                     opt (gl s3.2.1 (Int.toNat x4.1)) fun x98=>
                     opt (atI (s3.2.1.set (Int.toNat x4.1) true) x4.2.1) fun x99=>
                     opt (gl (s3.2.1.set (Int.toNat x4.1) true) (Int.toNat x4.2.1)) fun x100=>
                     some (0,((),(((s3.2.1.set (Int.toNat x4.1) true).set (Int.toNat x4.2.1) true),())))
                    else some (0,((),(s3.2.1,())))
                   else some (0,((),(s3.2.1,())))
                  else bif zj s3.1.1 12 then bif !a2.2.2.2.2.2.2.2.2.2.2.2.2.1 then opt (atI s3.2.1 x4.1) fun x101=>
                     opt (gl s3.2.1 (Int.toNat x4.1)) fun x102=>
                     opt (atI s3.2.1 x4.2.1) fun x103=>
                     opt (gl s3.2.1 (Int.toNat x4.2.1)) fun x104=>
                     bif !(x102 == x104) then opt (atI s3.2.1 x4.1) fun x105=>
                      opt (gl s3.2.1 (Int.toNat x4.1)) fun x106=>
                      opt (atI (s3.2.1.set (Int.toNat x4.1) true) x4.2.1) fun x107=>
                      opt (gl (s3.2.1.set (Int.toNat x4.1) true) (Int.toNat x4.2.1)) fun x108=>
                      some (0,((),(((s3.2.1.set (Int.toNat x4.1) true).set (Int.toNat x4.2.1) true),())))
                     else some (0,((),(s3.2.1,())))
                    else some (0,((),(s3.2.1,())))
                   else bif zj s3.1.1 13 then bif !a2.2.2.2.2.2.2.2.2.2.2.2.2.2.1 then opt (atI s3.2.1 x4.1) fun x109=>
                      opt (gl s3.2.1 (Int.toNat x4.1)) fun x110=>
                      opt (atI s3.2.1 x4.2.1) fun x111=>
                      opt (gl s3.2.1 (Int.toNat x4.2.1)) fun x112=>
                      bif !(x110 == x112) then opt (atI s3.2.1 x4.1) fun x113=>
                       opt (gl s3.2.1 (Int.toNat x4.1)) fun x114=>
                       opt (atI (s3.2.1.set (Int.toNat x4.1) true) x4.2.1) fun x115=>
                       opt (gl (s3.2.1.set (Int.toNat x4.1) true) (Int.toNat x4.2.1)) fun x116=>
                       some (0,((),(((s3.2.1.set (Int.toNat x4.1) true).set (Int.toNat x4.2.1) true),())))
                      else some (0,((),(s3.2.1,())))
                     else some (0,((),(s3.2.1,())))
                    else bif zj s3.1.1 14 then bif !a2.2.2.2.2.2.2.2.2.2.2.2.2.2.2.1 then opt (atI s3.2.1 x4.1) fun x117=>
                       opt (gl s3.2.1 (Int.toNat x4.1)) fun x118=>
                       opt (atI s3.2.1 x4.2.1) fun x119=>
                       opt (gl s3.2.1 (Int.toNat x4.2.1)) fun x120=>
                       bif !(x118 == x120) then opt (atI s3.2.1 x4.1) fun x121=>
                        opt (gl s3.2.1 (Int.toNat x4.1)) fun x122=>
                        opt (atI (s3.2.1.set (Int.toNat x4.1) true) x4.2.1) fun x123=>
                        opt (gl (s3.2.1.set (Int.toNat x4.1) true) (Int.toNat x4.2.1)) fun x124=>
                        some (0,((),(((s3.2.1.set (Int.toNat x4.1) true).set (Int.toNat x4.2.1) true),())))
                       else some (0,((),(s3.2.1,())))
                      else some (0,((),(s3.2.1,())))
                     else bif zj s3.1.1 15 then bif !a2.2.2.2.2.2.2.2.2.2.2.2.2.2.2.2.1 then opt (atI s3.2.1 x4.1) fun x125=>
                        opt (gl s3.2.1 (Int.toNat x4.1)) fun x126=>
                        opt (atI s3.2.1 x4.2.1) fun x127=>
                        opt (gl s3.2.1 (Int.toNat x4.2.1)) fun x128=>
                        bif !(x126 == x128) then opt (atI s3.2.1 x4.1) fun x129=>
                         opt (gl s3.2.1 (Int.toNat x4.1)) fun x130=>
                         opt (atI (s3.2.1.set (Int.toNat x4.1) true) x4.2.1) fun x131=>
                         opt (gl (s3.2.1.set (Int.toNat x4.1) true) (Int.toNat x4.2.1)) fun x132=>
                         some (0,((),(((s3.2.1.set (Int.toNat x4.1) true).set (Int.toNat x4.2.1) true),())))
                        else some (0,((),(s3.2.1,())))
                       else some (0,((),(s3.2.1,())))
                      else bif zj s3.1.1 16 then bif !a2.2.2.2.2.2.2.2.2.2.2.2.2.2.2.2.2.1 then opt (atI s3.2.1 x4.1) fun x133=>
                         opt (gl s3.2.1 (Int.toNat x4.1)) fun x134=>
                         opt (atI s3.2.1 x4.2.1) fun x135=>
                         opt (gl s3.2.1 (Int.toNat x4.2.1)) fun x136=>
                         bif !(x134 == x136) then opt (atI s3.2.1 x4.1) fun x137=>
                          opt (gl s3.2.1 (Int.toNat x4.1)) fun x138=>
                          opt (atI (s3.2.1.set (Int.toNat x4.1) true) x4.2.1) fun x139=>
                          opt (gl (s3.2.1.set (Int.toNat x4.1) true) (Int.toNat x4.2.1)) fun x140=>
                          some (0,((),(((s3.2.1.set (Int.toNat x4.1) true).set (Int.toNat x4.2.1) true),())))
                         else some (0,((),(s3.2.1,())))
                        else some (0,((),(s3.2.1,())))
                       else bif zj s3.1.1 17 then bif !a2.2.2.2.2.2.2.2.2.2.2.2.2.2.2.2.2.2.1 then opt (atI s3.2.1 x4.1) fun x141=>
                          opt (gl s3.2.1 (Int.toNat x4.1)) fun x142=>
                          opt (atI s3.2.1 x4.2.1) fun x143=>
                          opt (gl s3.2.1 (Int.toNat x4.2.1)) fun x144=>
                          bif !(x142 == x144) then opt (atI s3.2.1 x4.1) fun x145=>
                           opt (gl s3.2.1 (Int.toNat x4.1)) fun x146=>
                           opt (atI (s3.2.1.set (Int.toNat x4.1) true) x4.2.1) fun x147=>
                           opt (gl (s3.2.1.set (Int.toNat x4.1) true) (Int.toNat x4.2.1)) fun x148=>
                           some (0,((),(((s3.2.1.set (Int.toNat x4.1) true).set (Int.toNat x4.2.1) true),())))
                          else some (0,((),(s3.2.1,())))
                         else some (0,((),(s3.2.1,())))
                        else bif zj s3.1.1 18 then bif !a2.2.2.2.2.2.2.2.2.2.2.2.2.2.2.2.2.2.2.1 then opt (atI s3.2.1 x4.1) fun x149=>
                           opt (gl s3.2.1 (Int.toNat x4.1)) fun x150=>
                           opt (atI s3.2.1 x4.2.1) fun x151=>
                           opt (gl s3.2.1 (Int.toNat x4.2.1)) fun x152=>
                           bif !(x150 == x152) then opt (atI s3.2.1 x4.1) fun x153=>
                            opt (gl s3.2.1 (Int.toNat x4.1)) fun x154=>
                            opt (atI (s3.2.1.set (Int.toNat x4.1) true) x4.2.1) fun x155=>
                            opt (gl (s3.2.1.set (Int.toNat x4.1) true) (Int.toNat x4.2.1)) fun x156=>
                            some (0,((),(((s3.2.1.set (Int.toNat x4.1) true).set (Int.toNat x4.2.1) true),())))
                           else some (0,((),(s3.2.1,())))
                          else some (0,((),(s3.2.1,())))
                         else bif zj s3.1.1 19 then bif !a2.2.2.2.2.2.2.2.2.2.2.2.2.2.2.2.2.2.2.2.1 then opt (atI s3.2.1 x4.1) fun x157=>
                            opt (gl s3.2.1 (Int.toNat x4.1)) fun x158=>
                            opt (atI s3.2.1 x4.2.1) fun x159=>
                            opt (gl s3.2.1 (Int.toNat x4.2.1)) fun x160=>
                            bif !(x158 == x160) then opt (atI s3.2.1 x4.1) fun x161=>
                             opt (gl s3.2.1 (Int.toNat x4.1)) fun x162=>
                             opt (atI (s3.2.1.set (Int.toNat x4.1) true) x4.2.1) fun x163=>
                             opt (gl (s3.2.1.set (Int.toNat x4.1) true) (Int.toNat x4.2.1)) fun x164=>
                             some (0,((),(((s3.2.1.set (Int.toNat x4.1) true).set (Int.toNat x4.2.1) true),())))
                            else some (0,((),(s3.2.1,())))
                           else some (0,((),(s3.2.1,())))
                          else bif zj s3.1.1 20 then bif !a2.2.2.2.2.2.2.2.2.2.2.2.2.2.2.2.2.2.2.2.2.1 then opt (atI s3.2.1 x4.1) fun x165=>
                             opt (gl s3.2.1 (Int.toNat x4.1)) fun x166=>
                             opt (atI s3.2.1 x4.2.1) fun x167=>
                             opt (gl s3.2.1 (Int.toNat x4.2.1)) fun x168=>
                             bif !(x166 == x168) then opt (atI s3.2.1 x4.1) fun x169=>
                              opt (gl s3.2.1 (Int.toNat x4.1)) fun x170=>
                              opt (atI (s3.2.1.set (Int.toNat x4.1) true) x4.2.1) fun x171=>
                              opt (gl (s3.2.1.set (Int.toNat x4.1) true) (Int.toNat x4.2.1)) fun x172=>
                              some (0,((),(((s3.2.1.set (Int.toNat x4.1) true).set (Int.toNat x4.2.1) true),())))
                             else some (0,((),(s3.2.1,())))
                            else some (0,((),(s3.2.1,())))
                           else bif zj s3.1.1 21 then bif !a2.2.2.2.2.2.2.2.2.2.2.2.2.2.2.2.2.2.2.2.2.2.1 then opt (atI s3.2.1 x4.1) fun x173=>
                              opt (gl s3.2.1 (Int.toNat x4.1)) fun x174=>
                              opt (atI s3.2.1 x4.2.1) fun x175=>
                              opt (gl s3.2.1 (Int.toNat x4.2.1)) fun x176=>
                              bif !(x174 == x176) then opt (atI s3.2.1 x4.1) fun x177=>
                               opt (gl s3.2.1 (Int.toNat x4.1)) fun x178=>
                               opt (atI (s3.2.1.set (Int.toNat x4.1) true) x4.2.1) fun x179=>
                               opt (gl (s3.2.1.set (Int.toNat x4.1) true) (Int.toNat x4.2.1)) fun x180=>
                               some (0,((),(((s3.2.1.set (Int.toNat x4.1) true).set (Int.toNat x4.2.1) true),())))
                              else some (0,((),(s3.2.1,())))
                             else some (0,((),(s3.2.1,())))
                            else bif zj s3.1.1 22 then bif !a2.2.2.2.2.2.2.2.2.2.2.2.2.2.2.2.2.2.2.2.2.2.2.1 then opt (atI s3.2.1 x4.1) fun x181=>
                               opt (gl s3.2.1 (Int.toNat x4.1)) fun x182=>
                               opt (atI s3.2.1 x4.2.1) fun x183=>
                               opt (gl s3.2.1 (Int.toNat x4.2.1)) fun x184=>
                               bif !(x182 == x184) then opt (atI s3.2.1 x4.1) fun x185=>
                                opt (gl s3.2.1 (Int.toNat x4.1)) fun x186=>
                                opt (atI (s3.2.1.set (Int.toNat x4.1) true) x4.2.1) fun x187=>
                                opt (gl (s3.2.1.set (Int.toNat x4.1) true) (Int.toNat x4.2.1)) fun x188=>
                                some (0,((),(((s3.2.1.set (Int.toNat x4.1) true).set (Int.toNat x4.2.1) true),())))
                               else some (0,((),(s3.2.1,())))
                              else some (0,((),(s3.2.1,())))
                             else bif zj s3.1.1 23 then bif !a2.2.2.2.2.2.2.2.2.2.2.2.2.2.2.2.2.2.2.2.2.2.2.2 then opt (atI s3.2.1 x4.1) fun x189=>
                                opt (gl s3.2.1 (Int.toNat x4.1)) fun x190=>
                                opt (atI s3.2.1 x4.2.1) fun x191=>
                                opt (gl s3.2.1 (Int.toNat x4.2.1)) fun x192=>
                                bif !(x190 == x192) then opt (atI s3.2.1 x4.1) fun x193=>
                                 opt (gl s3.2.1 (Int.toNat x4.1)) fun x194=>
                                 opt (atI (s3.2.1.set (Int.toNat x4.1) true) x4.2.1) fun x195=>
                                 opt (gl (s3.2.1.set (Int.toNat x4.1) true) (Int.toNat x4.2.1)) fun x196=>
                                 some (0,((),(((s3.2.1.set (Int.toNat x4.1) true).set (Int.toNat x4.2.1) true),())))
                                else some (0,((),(s3.2.1,())))
                               else some (0,((),(s3.2.1,())))
                              else none) fun x197=>
      some (.inr (((wrF .i64 (s3.1.1+1)),()),(x197.2.2.1,())))
     else some (.inl (0,((s3.1.1,()),(s3.2.1,()))))) qD ((0,()),(s2.2.1,()))) fun x198=>
    some (.inr (((wrF .i64 (s2.1.1+1)),()),(x198.2.2.1,())))
   else some (.inl (0,((s2.1.1,()),(s2.2.1,()))))) qD ((0,()),(((List.replicate (Int.toNat a0.1) false).set (Int.toNat a1) true),()))) fun x199=>
  some (x199.2.2.1,())
 else none
abbrev zbI:Type:=(qi×Int×(Bool×(Bool×(Bool×(Bool×(Bool×(Bool×(Bool×(Bool×(Bool×(Bool×(Bool×(Bool×(Bool×(Bool×(Bool×(Bool×(Bool×(Bool×(Bool×(Bool×(Bool×(Bool×(Bool×Bool)))))))))))))))))))))))×Unit)→Option ((List Bool)×Unit)
def zm3:zbI:=sF Tryz.prog [] zvf (zL []) 30 61 Xv Xw
theorem zxK (a0) (a1) (a2):zm3 (a0,a1,a2,())=zgp a0 a1 a2:=by kernel_rfl
def Wa:zbI:=zm3
theorem zrH:Con.Ok Tryz.prog 61 ⟨Xv,Xw,Wa⟩:=zy zi zm (by kernel_rfl)
theorem zrI (a0) (a1) (a2):Wa (a0,a1,a2,())=zgp  a0 a1 a2:=zxK  a0 a1 a2
abbrev xn:List VT:=[⟨false,(.list .bool)⟩,⟨false,.bool⟩]
abbrev xp:List VT:=[⟨false,I⟩]
def zd3:qa:=zT [] [] [] [] []
def Jq (a0:(List Bool)) (a1:Bool):Option (Int×Unit):=
 opt (qh (fun s0:((Int×(Int×Unit))×Unit)=>
  bif (zt s0.1.2.1 ((a0.length:Nat):Int)) then opt (atI a0 s0.1.2.1) fun x1=>
   bif a1 == x1 then some (.inl (1,((s0.1.2.1,(s0.1.2.1,())),())))
   else some (.inr ((s0.1.1,((wrF .i64 (s0.1.2.1+1)),())),()))
  else some (.inl (0,((s0.1.1,(s0.1.2.1,())),())))) qD ((0,(0,())),())) fun x2=>
 bif Nat.beq x2.1 0 then some ((-1),())
 else some (x2.2.1.1,())
abbrev kx:Type:=((List Bool)×Bool×Unit)→Option (Int×Unit)
def Kh:kx:=sF Tryz.prog [] zd3 (zL []) 30 97 xn xp
theorem zeA (a0) (a1):Kh (a0,a1,())=Jq a0 a1:=by kernel_rfl
def xr:kx:=Kh
theorem zcu:Con.Ok Tryz.prog 97 ⟨xn,xp,xr⟩:=zy zi zm (by kernel_rfl)
theorem zcv (a0) (a1):xr (a0,a1,())=Jq  a0 a1:=zeA  a0 a1
abbrev yD:List VT:=[⟨false,(.list .bool)⟩,⟨false,.bool⟩]
abbrev yE:List VT:=[⟨false,.bool⟩]
def zbJ:qa:=zT [] [] [] [] [97]
def ZJ (xz:kx) (a0:(List Bool)) (a1:Bool):Option (Bool×Unit):=
 opt (xz (a0,(a1,()))) fun x0=>
 some ((!(zt x0.1 0)),())
abbrev uk:Type:=((List Bool)×Bool×Unit)→Option (Bool×Unit)
def YU:kx→uk:=fun xz=>sF Tryz.prog [(97,⟨xn,xp,xz⟩)] zbJ (zL []) 30 60 yD yE
theorem zcw (xz) (a0) (a1):YU xz (a0,a1,())=ZJ xz a0 a1:=by kernel_rfl
def yF:uk:=YU xr
theorem zaC:Con.Ok Tryz.prog 60 ⟨yD,yE,yF⟩:=zy (zf zcu zi) zm (by kernel_rfl)
theorem zaD (a0) (a1):yF (a0,a1,())=ZJ xr a0 a1:=zcw xr a0 a1
abbrev wL:List VT:=[⟨true,zY⟩]
abbrev wM:List VT:=[⟨false,I⟩]
def zvg:qa:=zT [⟨(.pair .bool (.pair .bool (.pair .bool (.pair .bool (.pair .bool (.pair .bool (.pair .bool (.pair .bool (.pair .bool (.pair .bool (.pair .bool (.pair .bool (.pair .bool (.pair .bool (.pair .bool (.pair .bool (.pair .bool (.pair .bool (.pair .bool (.pair .bool (.pair .bool (.pair .bool (.pair .bool .bool))))))))))))))))))))))),zd1 (.pair .bool (.pair .bool (.pair .bool (.pair .bool (.pair .bool (.pair .bool (.pair .bool (.pair .bool (.pair .bool (.pair .bool (.pair .bool (.pair .bool (.pair .bool (.pair .bool (.pair .bool (.pair .bool (.pair .bool (.pair .bool (.pair .bool (.pair .bool (.pair .bool (.pair .bool (.pair .bool .bool))))))))))))))))))))))),[]⟩,cdF zY,cdF qx] [] [] [] [59,60]
def zgq (Vi:zbH) (Vj:zbI) (yG:uk) (a0:qi):Option (Int×Unit):=
 opt (bif zt a0.1 2 then some (1,((260,()),()))
  else bif zt 12 a0.1 then some (1,((260,()),()))
   else bif (!(zj ((a0.2.1.length:Nat):Int) a0.1)) then some (1,((260,()),()))
    else some (0,((0,()),()))) fun x0=>
 bif Nat.beq x0.1 0 then opt (bif (zt 24 ((a0.2.2.length:Nat):Int)) then some (1,((260,()),()))
   else opt (Vi (a0,())) fun x1=>
    bif !x1.1 then some (1,((260,()),()))
    else some (0,((x0.2.1.1,()),()))) fun x2=>
  bif Nat.beq x2.1 0 then bif zpU a0.1 a0.1 8 then opt (qh (fun s3:((Int×Unit)×((List Int)×Unit))=>
     bif (zt s3.1.1 ((a0.2.2.length:Nat):Int)) then opt (atI a0.2.2 s3.1.1) fun x4=>
      opt (atI s3.2.1 x4.1) fun x5=>
      opt (gl s3.2.1 (Int.toNat x4.1)) fun x6=>
      opt (atI s3.2.1 x4.1) fun x7=>
      opt (gl s3.2.1 (Int.toNat x4.1)) fun x8=>
      opt (atI (s3.2.1.set (Int.toNat x4.1) (wrF .i64 (x6+1))) x4.2.1) fun x9=>
      opt (gl (s3.2.1.set (Int.toNat x4.1) (wrF .i64 (x6+1))) (Int.toNat x4.2.1)) fun x10=>
      opt (atI (s3.2.1.set (Int.toNat x4.1) (wrF .i64 (x6+1))) x4.2.1) fun x11=>
      opt (gl (s3.2.1.set (Int.toNat x4.1) (wrF .i64 (x6+1))) (Int.toNat x4.2.1)) fun x12=>
      some (.inr (((wrF .i64 (s3.1.1+1)),()),(((s3.2.1.set (Int.toNat x4.1) (wrF .i64 (x6+1))).set (Int.toNat x4.2.1) (wrF .i64 (x10+1))),())))
     else some (.inl (0,((s3.1.1,()),(s3.2.1,()))))) qD ((0,()),((List.replicate (Int.toNat a0.1) 0),()))) fun x13=>
    opt (qh (fun s14:((Int×(Int×Unit))×Unit)=>
     bif (zt s14.1.2.1 ((a0.2.1.length:Nat):Int)) then opt (atI a0.2.1 s14.1.2.1) fun x15=>
      opt (bif x15 then opt (atI x13.2.2.1 s14.1.2.1) fun x16=>
        opt (gl x13.2.2.1 (Int.toNat s14.1.2.1)) fun x17=>
        bif zt x17 1 then some (1,((260,()),()))
        else opt (atI x13.2.2.1 s14.1.2.1) fun x18=>
         opt (gl x13.2.2.1 (Int.toNat s14.1.2.1)) fun x19=>
         bif zt 2 x19 then some (1,((260,()),()))
         else some (0,((s14.1.1,()),()))
       else some (0,((s14.1.1,()),()))) fun x20=>
      bif Nat.beq x20.1 0 then some (.inr ((x20.2.1.1,((wrF .i64 (s14.1.2.1+1)),())),()))
      else some (.inl (1,((x20.2.1.1,(s14.1.2.1,())),())))
     else some (.inl (0,((s14.1.1,(s14.1.2.1,())),())))) qD ((x2.2.1.1,(0,())),())) fun x21=>
    bif Nat.beq x21.1 0 then opt (Vj (a0,(0,((false,(false,(false,(false,(false,(false,(false,(false,(false,(false,(false,(false,(false,(false,(false,(false,(false,(false,(false,(false,(false,(false,(false,false))))))))))))))))))))))),())))) fun x22=>
     opt (yG (x22.1,(false,()))) fun x23=>
     bif x23.1 then some (260,())
     else some (0,())
    else some (x21.2.1.1,())
   else none
  else some (x2.2.1.1,())
 else some (x0.2.1.1,())
abbrev xH:Type:=(qi×Unit)→Option (Int×Unit)
def zm4:zbH→zbI→uk→xH:=fun Vi Vj yG=>sF Tryz.prog [(59,⟨Xr,Xt,Vi⟩),(61,⟨Xv,Xw,Vj⟩),(60,⟨yD,yE,yG⟩)] zvg (zL []) 30 41 wL wM
theorem zxL (Vi) (Vj) (yG) (a0):zm4 Vi Vj yG (a0,())=zgq Vi Vj yG a0:=by kernel_rfl
def jJ:xH:=zm4 Xu Wa yF
theorem QR:Con.Ok Tryz.prog 41 ⟨wL,wM,jJ⟩:=zy (zf zrF (zf zrH (zf zaC zi))) zm (by kernel_rfl)
theorem zrJ (a0):jJ (a0,())=zgq Xu Wa yF a0:=zxL Xu Wa yF a0
abbrev xP:List VT:=[⟨false,I⟩,⟨false,I⟩,⟨false,I⟩]
abbrev xQ:List VT:=[⟨false,.bool⟩]
def zoC:qa:=zT [] [] [] [] []
def zaE (a0:Int) (a1:Int) (a2:Int):Option (Bool×Unit):=
 bif !(zt a0 a1) then some ((!(zt a2 a0)),())
 else some (false,())
abbrev uv:Type:=(Int×Int×Int×Unit)→Option (Bool×Unit)
def zgr:uv:=sF Tryz.prog [] zoC (zL []) 30 63 xP xQ
theorem zp7 (a0) (a1) (a2):zgr (a0,a1,a2,())=zaE a0 a1 a2:=by kernel_rfl
def yv:uv:=zgr
theorem KG:Con.Ok Tryz.prog 63 ⟨xP,xQ,yv⟩:=zy zi zm (by kernel_rfl)
theorem zlF (a0) (a1) (a2):yv (a0,a1,a2,())=zaE  a0 a1 a2:=zp7  a0 a1 a2
abbrev ka:List VT:=[⟨true,ziq⟩]
abbrev ke:List VT:=[⟨false,I⟩]
def zkB:qa:=zT [cdF ziq] [] [] [] [63]
def KH (qc:uv) (a0:zfK):Option (Int×Unit):=
 opt (opt (qc (a0.1,(1,(10000,())))) fun x0=>
  bif !x0.1 then some (1,((320,()),()))
  else opt (qc (a0.2.1,(0,(1000,())))) fun x1=>
   bif !x1.1 then some (1,((320,()),()))
   else some (0,((0,()),()))) fun x2=>
 bif Nat.beq x2.1 0 then opt (opt (qc (a0.2.2.1,(0,(10000,())))) fun x3=>
   bif !x3.1 then some (1,((320,()),()))
   else opt (qc (a0.2.2.2,(1542,(65536,())))) fun x4=>
    bif !x4.1 then some (1,((320,()),()))
    else some (0,((x2.2.1.1,()),()))) fun x5=>
  bif Nat.beq x5.1 0 then some (0,())
  else some (x5.2.1.1,())
 else some (x2.2.1.1,())
abbrev WA:Type:=(zfK×Unit)→Option (Int×Unit)
def zcG:uv→WA:=fun qc=>sF Tryz.prog [(63,⟨xP,xQ,qc⟩)] zkB (zL []) 30 45 ka ke
theorem zlG (qc) (a0):zcG qc (a0,())=KH qc a0:=by kernel_rfl
def kf:WA:=zcG yv
theorem ziu:Con.Ok Tryz.prog 45 ⟨ka,ke,kf⟩:=zy (zf KG zi) zm (by kernel_rfl)
theorem ziv (a0):kf (a0,())=KH yv a0:=zlG yv a0
abbrev uE:List VT:=[⟨true,qo⟩]
abbrev uF:List VT:=[⟨false,I⟩]
def zty:qa:=zT [cdF qo,cdF jt] [] [] [] []
def zeB (a0:jf):Option (Int×Unit):=
 opt (bif (zt ((a0.1.length:Nat):Int) 1) then some (1,((370,()),()))
  else bif (zt 128 ((a0.1.length:Nat):Int)) then some (1,((370,()),()))
   else some (0,((0,()),()))) fun x0=>
 bif Nat.beq x0.1 0 then opt (qh (fun s1:((Int×(Int×(Int×Unit)))×Unit)=>
   bif (zt s1.1.2.2.1 ((a0.1.length:Nat):Int)) then opt (atI a0.1 s1.1.2.2.1) fun x2=>
    opt (bif zt x2.1 0 then some (1,((370,()),()))
     else bif zt 255 x2.1 then some (1,((370,()),()))
      else bif zt x2.2 1 then some (1,((370,()),()))
       else bif zt 9600000 x2.2 then some (1,((370,()),()))
        else some (0,((s1.1.1,()),()))) fun x3=>
    bif Nat.beq x3.1 0 then some (.inr ((x3.2.1.1,((wrF .i64 (s1.1.2.1+x2.2)),((wrF .i64 (s1.1.2.2.1+1)),()))),()))
    else some (.inl (1,((x3.2.1.1,(s1.1.2.1,(s1.1.2.2.1,()))),())))
   else some (.inl (0,((s1.1.1,(s1.1.2.1,(s1.1.2.2.1,()))),())))) qD ((x0.2.1.1,(0,(0,()))),())) fun x4=>
  bif Nat.beq x4.1 0 then opt (bif !(zj x4.2.1.2.1 a0.2) then some (1,((370,()),()))
    else bif zt 9600000 x4.2.1.2.1 then some (1,((370,()),()))
     else some (0,((x4.2.1.1,()),()))) fun x5=>
   bif Nat.beq x5.1 0 then some (0,())
   else some (x5.2.1.1,())
  else some (x4.2.1.1,())
 else some (x0.2.1.1,())
abbrev Zz:Type:=(jf×Unit)→Option (Int×Unit)
def zlh:Zz:=sF Tryz.prog [] zty (zL []) 30 46 uE uF
theorem zvh (a0):zlh (a0,())=zeB a0:=by kernel_rfl
def xV:Zz:=zlh
theorem zaF:Con.Ok Tryz.prog 46 ⟨uE,uF,xV⟩:=zy zi zm (by kernel_rfl)
theorem zp8 (a0):xV (a0,())=zeB  a0:=zvh  a0
abbrev yq:List VT:=[⟨true,qL⟩]
abbrev yr:List VT:=[⟨false,I⟩]
def zkC:qa:=zT [cdF qL,cdF zY,cdF qx,cdF qo,cdF jt] [] [] [] [41,45,46]
def KI (zX:xH) (ko:WA) (jA:Zz) (a0:jI):Option (Int×Unit):=
 opt (zX (a0.1,())) fun x0=>
 bif !(zj x0.1 0) then some (x0.1,())
 else opt (ko (a0.2.1,())) fun x1=>
  bif !(zj x1.1 0) then some (x1.1,())
  else opt (qh (fun s2:((Int×(Int×Unit))×Unit)=>
    bif (zt s2.1.2.1 ((a0.2.2.1.length:Nat):Int)) then opt (atI a0.2.2.1 s2.1.2.1) fun x3=>
     opt (jA (x3,())) fun x4=>
     bif !(zj x4.1 0) then some (.inl (1,((x4.1,(s2.1.2.1,())),())))
     else some (.inr ((s2.1.1,((wrF .i64 (s2.1.2.1+1)),())),()))
    else some (.inl (0,((s2.1.1,(s2.1.2.1,())),())))) qD ((0,(0,())),())) fun x5=>
   bif Nat.beq x5.1 0 then opt (bif (!(zj ((a0.2.2.1.length:Nat):Int) (wrF .i64 (2*((a0.1.2.2.length:Nat):Int))))) then some (1,((410,()),()))
     else bif zt a0.2.2.2 84 then some (1,((410,()),()))
      else bif zt 1542 a0.2.2.2 then some (1,((410,()),()))
       else some (0,((x5.2.1.1,()),()))) fun x6=>
    bif Nat.beq x6.1 0 then some (0,())
    else some (x6.2.1.1,())
   else some (x5.2.1.1,())
abbrev kg:Type:=(jI×Unit)→Option (Int×Unit)
def zcH:xH→WA→Zz→kg:=fun zX ko jA=>sF Tryz.prog [(41,⟨wL,wM,zX⟩),(45,⟨ka,ke,ko⟩),(46,⟨uE,uF,jA⟩)] zkC (zL []) 30 29 yq yr
theorem zlH (zX) (ko) (jA) (a0):zcH zX ko jA (a0,())=KI zX ko jA a0:=by kernel_rfl
def yX:kg:=zcH jJ kf xV
theorem GV:Con.Ok Tryz.prog 29 ⟨yq,yr,yX⟩:=zy (zf QR (zf ziu (zf zaF zi))) zm (by kernel_rfl)
theorem ziw (a0):yX (a0,())=KI jJ kf xV a0:=zlH jJ kf xV a0
abbrev Wb:List VT:=[⟨true,qL⟩]
abbrev Wc:List VT:=[⟨true,ja⟩,⟨false,I⟩]
def zvi:qa:=zT [cdF ja,cdF qM,cdF qL,cdF wI,cdF zE,cdF zY,cdF we,cdF xE,cdF qx,cdF qo,cdF jt] [] [] [] [29]
def zgs (jH:kg) (a0:jI):Option (qj×Int×Unit):=
 opt (jH (a0,())) fun x0=>
 bif !(zj x0.1 0) then some ((((0,([],[])),((0,(0,(0,0))),([],0))),([],([],([],([],[]))))),(x0.1,()))
 else some ((a0,([],([],([],([],[]))))),(0,()))
abbrev zgt:Type:=(jI×Unit)→Option (qj×Int×Unit)
def zm5:kg→zgt:=fun jH=>sF Tryz.prog [(29,⟨yq,yr,jH⟩)] zvi (zL []) 30 14 Wb Wc
theorem zxM (jH) (a0):zm5 jH (a0,())=zgs jH a0:=by kernel_rfl
def Xx:zgt:=zm5 yX
theorem zrK:Con.Ok Tryz.prog 14 ⟨Wb,Wc,Xx⟩:=zy (zf GV zi) zm (by kernel_rfl)
theorem zrL (a0):Xx (a0,())=zgs yX a0:=zxM yX a0
abbrev zbK:List VT:=[]
abbrev zbL:List VT:=[⟨true,zE⟩]
abbrev QS:List VT:=[⟨false,I⟩]
abbrev QT:List VT:=[⟨false,.bool⟩]
def zp9:qa:=zT [] [] [] [] []
def zbM (a0:Int):Option (Bool×Unit):=
 some ((!(zj a0 a0)),())
abbrev KT:Type:=(Int×Unit)→Option (Bool×Unit)
def zhV:KT:=sF Tryz.prog [] zp9 (zL []) 30 55 QS QT
theorem zrM (a0):zhV (a0,())=zbM a0:=by kernel_rfl
def Yz:KT:=zhV
theorem zm6:Con.Ok Tryz.prog 55 ⟨QS,QT,Yz⟩:=zy zi zm (by kernel_rfl)
theorem zd4 (a0):Yz (a0,())=zbM  a0:=zrM  a0
abbrev wu:List VT:=[⟨false,I⟩,⟨false,I⟩]
abbrev wv:List VT:=[⟨false,I⟩]
def zm7:qa:=zT [] [] [] [] [55]
def Gw (gO:KT) (a0:Int) (a1:Int):Option (Int×Unit):=
 opt (gO (a0,())) fun x0=>
 opt (gO (a1,())) fun x1=>
 bif x0.1 then bif x1.1 then some (0,())
  else some ((-1),())
 else bif x1.1 then some (1,())
  else bif zt a0 a1 then some ((-1),())
   else bif zt a1 a0 then some (1,())
    else some (0,())
abbrev Jx:Type:=(Int×Int×Unit)→Option (Int×Unit)
def ze9:KT→Jx:=fun gO=>sF Tryz.prog [(55,⟨QS,QT,gO⟩)] zm7 (zL []) 30 37 wu wv
theorem zoD (gO) (a0) (a1):ze9 gO (a0,a1,())=Gw gO a0 a1:=by kernel_rfl
def jh:Jx:=ze9 Yz
theorem VO:Con.Ok Tryz.prog 37 ⟨wu,wv,jh⟩:=zy (zf zm6 zi) zm (by kernel_rfl)
theorem zkD (a0) (a1):jh (a0,a1,())=Gw Yz a0 a1:=zoD Yz a0 a1
abbrev qI:List VT:=[⟨false,I⟩]
abbrev qJ:List VT:=[⟨false,I⟩,⟨true,wI⟩,⟨false,.bool⟩]
def Gp:qa:=zT [cdF ze,cdF wI,cdF zE,cdF zu] [] [] [] [37]
def YN (jB:Jx) (s:za) (a0:Int):Option (za×(Int×qE×Bool×Unit)):=
 opt (qh (fun s0:((Int×(Int×(Bool×(Int×Unit))))×Unit)=>
  bif (zt s0.1.2.2.2.1 ((s.2.2.1.length:Nat):Int)) then opt (atI s.2.2.1 s0.1.2.2.2.1) fun x1=>
   opt (jB (x1.1,(s0.1.1,()))) fun x2=>
   bif !(zt x2.1 0) then some (.inl (1,((s0.1.1,(s0.1.2.2.2.1,((zj x2.1 0),(s0.1.2.2.2.1,())))),())))
   else some (.inr ((s0.1.1,(s0.1.2.1,(s0.1.2.2.1,((wrF .i64 (s0.1.2.2.2.1+1)),())))),()))
  else some (.inl (0,((s0.1.1,(s0.1.2.1,(s0.1.2.2.1,(s0.1.2.2.2.1,())))),())))) qD ((a0,(0,(false,(0,())))),())) fun x3=>
 bif Nat.beq x3.1 0 then some (s,(((s.2.2.1.length:Nat):Int),((x3.2.1.1,(0,(0,((0,(0,(0,(0,(0,(0,((0,0),(0,[])))))))),0)))),(false,()))))
 else bif !x3.2.1.2.2.1 then some (s,(x3.2.1.2.1,((x3.2.1.1,(0,(0,((0,(0,(0,(0,(0,(0,((0,0),(0,[])))))))),0)))),(false,()))))
  else opt (atI s.2.2.1 x3.2.1.2.1) fun x4=>
   some (s,(x3.2.1.2.1,(x4,(true,()))))
theorem zix (jB:(Int×Int×Unit)→Option (Int×Unit)) (s:za) (a0:Int):sP Tryz.prog ⟨[],[]⟩ [(37,⟨wu,wv,jB⟩)] Gp (zL []) 30 24 ze qI qJ s (a0,())=YN jB s a0:=by kernel_rfl
def qZ:za→(Int×Unit)→Option (za×(Int×qE×Bool×Unit)):=sP Tryz.prog ⟨[],[]⟩ [(37,⟨wu,wv,jh⟩)] Gp (zL []) 30 24 ze qI qJ
theorem Jy:yJ.Ok Tryz.prog 24 ⟨ze,qI,qJ,qZ⟩:=xk ⟨qy,js⟩ (zf VO zi) zm (by kernel_rfl)
theorem zfM (s:za) (a0:Int):qZ s (a0,())=YN jh s a0:=zix jh s a0
abbrev jb:List VT:=[⟨false,(.list wI)⟩,⟨false,I⟩,⟨false,.bool⟩,⟨true,wI⟩]
abbrev jc:List VT:=[⟨false,(.list wI)⟩]
def ziy:qa:=zT [cdF wI,cdF zE,cdF zu] [] [⟨2,27,some 8,wI,true⟩] [] []
def Xy (a0:(List qE)) (a1:Int) (a2:Bool) (a3:qE):Option ((List qE)×Unit):=
 opt (ue a0 (some a1) none none) fun x0=>
 opt (bif a2 then opt (ue a0 (some (wrF .i64 (a1+1))) none none) fun x1=>
   some (0,((x1,()),()))
  else some (0,((x0,()),()))) fun x2=>
 opt (ue a0 none (some a1) (some a1)) fun x3=>
 bif (xj x3.length ((a3::[]).length) 128) then bif (xj ((x3++(a3::[])).length) x2.2.1.1.length 128) then some (((x3++(a3::[]))++x2.2.1.1),())
  else none
 else none
abbrev kT:Type:=((List qE)×Int×Bool×qE×Unit)→Option ((List qE)×Unit)
def za8:kT:=sF Tryz.prog [] ziy (zL []) 30 75 jb jc
theorem zjg (a0) (a1) (a2) (a3):za8 (a0,a1,a2,a3,())=Xy a0 a1 a2 a3:=by kernel_rfl
def qF:kT:=za8
theorem Wd:Con.Ok Tryz.prog 75 ⟨jb,jc,qF⟩:=zy zi zm (by kernel_rfl)
theorem zgu (a0) (a1) (a2) (a3):qF (a0,a1,a2,a3,())=Xy  a0 a1 a2 a3:=zjg  a0 a1 a2 a3
abbrev qe:List VT:=[⟨true,qM⟩]
abbrev qf:List VT:=[]
def Gq:qa:=zT [⟨ze,zd1 ze,[13]⟩,cdF qM,cdF zE,cdF zu] [] [⟨2,28,none,qM,true⟩] [] []
def YO (s:za) (a0:zJ):Option (za×(Unit)):=
 opt (bif (zt ((s.2.2.2.2.2.length:Nat):Int) 1024) then opt (ue s.2.2.2.2.2 none (some ((s.2.2.2.2.2.length:Nat):Int)) (some ((s.2.2.2.2.2.length:Nat):Int))) fun x0=>
   bif (xj x0.length ((a0::[]).length) 144) then some (0,(((s.1,(s.2.1,(s.2.2.1,(s.2.2.2.1,(s.2.2.2.2.1,(x0++(a0::[]))))))),()),()))
   else none
  else some (0,((s,()),()))) fun x1=>
 some (x1.2.1.1,())
theorem ziz  (s:za) (a0:zJ):sP Tryz.prog ⟨[],[]⟩ [] Gq (zL []) 30 52 ze qe qf s (a0,())=YO  s a0:=by kernel_rfl
def qk:za→(zJ×Unit)→Option (za×(Unit)):=sP Tryz.prog ⟨[],[]⟩ [] Gq (zL []) 30 52 ze qe qf
theorem vW:yJ.Ok Tryz.prog 52 ⟨ze,qe,qf,qk⟩:=xk ⟨qy,js⟩ zi zm (by kernel_rfl)
theorem zfN (s:za) (a0:zJ):qk s (a0,())=YO  s a0:=ziz  s a0
abbrev qA:List VT:=[⟨true,wI⟩]
abbrev qB:List VT:=[]
def Ki:qa:=zT [cdF ze,cdF qM,cdF wI,cdF zE,cdF zu] [] [] [] [52]
def Jz (zK:za→(zJ×Unit)→Option (za×(Unit))) (s:za) (a0:qE):Option (za×(Unit)):=
 bif zj a0.2.2.1 1 then opt (zK s ((1,(a0.1,(a0.2.1,(0,(true,(a0.2.2.2.1,0)))))),())) fun x0=>
  some (x0.1,())
 else bif zj a0.2.2.1 4 then opt (zK s ((1,(a0.1,(a0.2.1,(0,(false,((0,(0,(0,(0,(0,(0,((0,0),(0,[])))))))),0)))))),())) fun x1=>
   some (x1.1,())
  else some (s,())
theorem zfO (zK:za→(zJ×Unit)→Option (za×(Unit))) (s:za) (a0:qE):sP Tryz.prog ⟨[],[(52,⟨ze,qe,qf,zK⟩)]⟩ [] Ki (fun _ _=>false) 30 33 ze qA qB s (a0,())=Jz zK s a0:=by kernel_rfl
def qK:za→(qE×Unit)→Option (za×(Unit)):=sP Tryz.prog ⟨[],[(52,⟨ze,qe,qf,qk⟩)]⟩ [] Ki (fun _ _=>false) 30 33 ze qA qB
theorem ZV:yJ.Ok Tryz.prog 33 ⟨ze,qA,qB,qK⟩:=xk ⟨qy,(zV vW js)⟩ zi zm (by kernel_rfl)
theorem zdd (s:za) (a0:qE):qK s (a0,())=Jz qk s a0:=zfO qk s a0
abbrev yZ:List VT:=[⟨true,zE⟩]
abbrev xa:List VT:=[⟨false,I⟩]
def GW:qa:=zT [cdF ze,cdF wI,cdF zE,cdF zu] [] [] [] [33]
def Xz (qS:za→(Int×Unit)→Option (za×(Int×qE×Bool×Unit))) (qU:kT) (qC:za→(qE×Unit)→Option (za×(Unit))) (s:za) (a0:zz):Option (za×(Int×Unit)):=
 opt (bif zt a0.1 1 then some (1,((2,()),()))
  else bif zt 4095 a0.1 then some (1,((2,()),()))
   else some (0,((0,()),()))) fun x0=>
 bif Nat.beq x0.1 0 then opt (qS s (a0.1,())) fun x1=>
  opt (bif x1.2.2.2.1 then bif zj x1.2.2.1.2.2.1 1 then some (1,((322,()),()))
    else bif zj x1.2.2.1.2.2.1 2 then some (1,((322,()),()))
     else bif zj x1.2.2.1.2.2.1 4 then some (1,((322,()),()))
      else some (0,((x0.2.1.1,()),()))
   else some (0,((x0.2.1.1,()),()))) fun x2=>
  bif Nat.beq x2.1 0 then opt (bif !x1.2.2.2.1 then bif (!(zt ((x1.1.2.2.1.length:Nat):Int) 24)) then some (1,((7,()),()))
     else some (0,((x2.2.1.1,()),()))
    else some (0,((x2.2.1.1,()),()))) fun x3=>
   bif Nat.beq x3.1 0 then opt (qU (x1.1.2.2.1,(x1.2.1,(x1.2.2.2.1,((a0.1,((wrF .i64 (x1.2.2.1.2.1+1)),(1,(a0,0)))),()))))) fun x4=>
    opt (qC (x1.1.1,(x1.1.2.1,(x4.1,x1.1.2.2.2))) ((a0.1,((wrF .i64 (x1.2.2.1.2.1+1)),(1,(a0,0)))),())) fun x5=>
    some (x5.1,(0,()))
   else some (x1.1,(x3.2.1.1,()))
  else some (x1.1,(x2.2.1.1,()))
 else some (s,(x0.2.1.1,()))
theorem zjh (qS:za→(Int×Unit)→Option (za×(Int×qE×Bool×Unit))) (qU:((List qE)×Int×Bool×qE×Unit)→Option ((List qE)×Unit)) (qC:za→(qE×Unit)→Option (za×(Unit))) (s:za) (a0:zz):sP Tryz.prog ⟨[],[(24,⟨ze,qI,qJ,qS⟩),(33,⟨ze,qA,qB,qC⟩)]⟩ [(75,⟨jb,jc,qU⟩)] GW (zL []) 30 43 ze yZ xa s (a0,())=Xz qS qU qC s a0:=by kernel_rfl
def ug:za→(zz×Unit)→Option (za×(Int×Unit)):=sP Tryz.prog ⟨[],[(24,⟨ze,qI,qJ,qZ⟩),(33,⟨ze,qA,qB,qK⟩)]⟩ [(75,⟨jb,jc,qF⟩)] GW (zL []) 30 43 ze yZ xa
theorem zgv:yJ.Ok Tryz.prog 43 ⟨ze,yZ,xa,ug⟩:=xk ⟨qy,(zV Jy (zV ZV js))⟩ (zf Wd zi) zm (by kernel_rfl)
theorem zgw (s:za) (a0:zz):ug s (a0,())=Xz qZ qF qK s a0:=zjh qZ qF qK s a0
abbrev wZ:List VT:=[⟨false,I⟩]
abbrev ya:List VT:=[⟨false,I⟩]
def KU:qa:=zT [cdF ze,cdF wI,cdF zE,cdF zu] [] [] [] [33]
def We (qS:za→(Int×Unit)→Option (za×(Int×qE×Bool×Unit))) (qU:kT) (qC:za→(qE×Unit)→Option (za×(Unit))) (s:za) (a0:Int):Option (za×(Int×Unit)):=
 opt (qS s (a0,())) fun x0=>
 opt (bif !x0.2.2.2.1 then some (1,((4,()),()))
  else bif !(zj x0.2.2.1.2.2.1 2) then some (1,((4,()),()))
   else some (0,((0,()),()))) fun x1=>
 bif Nat.beq x1.1 0 then opt (qU (x0.1.2.2.1,(x0.2.1,(true,((x0.2.2.1.1,((wrF .i64 (x0.2.2.1.2.1+1)),(4,x0.2.2.1.2.2.2))),()))))) fun x2=>
  opt (qC (x0.1.1,(x0.1.2.1,(x2.1,x0.1.2.2.2))) ((x0.2.2.1.1,((wrF .i64 (x0.2.2.1.2.1+1)),(4,x0.2.2.1.2.2.2))),())) fun x3=>
  some (x3.1,(0,()))
 else some (x0.1,(x1.2.1.1,()))
theorem zgx (qS:za→(Int×Unit)→Option (za×(Int×qE×Bool×Unit))) (qU:((List qE)×Int×Bool×qE×Unit)→Option ((List qE)×Unit)) (qC:za→(qE×Unit)→Option (za×(Unit))) (s:za) (a0:Int):sP Tryz.prog ⟨[],[(24,⟨ze,qI,qJ,qS⟩),(33,⟨ze,qA,qB,qC⟩)]⟩ [(75,⟨jb,jc,qU⟩)] KU (zL []) 30 44 ze wZ ya s (a0,())=We qS qU qC s a0:=by kernel_rfl
def ve:za→(Int×Unit)→Option (za×(Int×Unit)):=sP Tryz.prog ⟨[],[(24,⟨ze,qI,qJ,qZ⟩),(33,⟨ze,qA,qB,qK⟩)]⟩ [(75,⟨jb,jc,qF⟩)] KU (zL []) 30 44 ze wZ ya
theorem zd5:yJ.Ok Tryz.prog 44 ⟨ze,wZ,ya,ve⟩:=xk ⟨qy,(zV Jy (zV ZV js))⟩ (zf Wd zi) zm (by kernel_rfl)
theorem zd6 (s:za) (a0:Int):ve s (a0,())=We qZ qF qK s a0:=zgx qZ qF qK s a0
abbrev yb:List VT:=[⟨false,(.list qM)⟩,⟨false,I⟩]
abbrev yc:List VT:=[⟨false,(.list qM)⟩]
def zde:qa:=zT [] [] [] [] []
def QD (a0:(List zJ)) (a1:Int):Option ((List zJ)×Unit):=
 opt (ue a0 none (some a1) (some a1)) fun x0=>
 opt (ue a0 (some (wrF .i64 (a1+1))) none none) fun x1=>
 bif xj x0.length x1.length 144 then some ((x0++x1),())
 else none
abbrev QE:Type:=((List zJ)×Int×Unit)→Option ((List zJ)×Unit)
def Vr:QE:=sF Tryz.prog [] zde (zL []) 30 53 yb yc
theorem zd7 (a0) (a1):Vr (a0,a1,())=QD a0 a1:=by kernel_rfl
def yd:QE:=Vr
theorem zbN:Con.Ok Tryz.prog 53 ⟨yb,yc,yd⟩:=zy zi zm (by kernel_rfl)
theorem zbO (a0) (a1):yd (a0,a1,())=QD  a0 a1:=zd7  a0 a1
abbrev jj:List VT:=[⟨false,I⟩]
abbrev jk:List VT:=[⟨false,I⟩,⟨true,we⟩,⟨false,.bool⟩]
def KV:qa:=zT [cdF ze,cdF we] [] [] [] [37]
def Wf (jB:Jx) (s:za) (a0:Int):Option (za×(Int×qw×Bool×Unit)):=
 opt (qh (fun s0:((Int×(Int×(Bool×(Int×Unit))))×Unit)=>
  bif (zt s0.1.2.2.2.1 ((s.2.2.2.1.length:Nat):Int)) then opt (atI s.2.2.2.1 s0.1.2.2.2.1) fun x1=>
   opt (jB (x1.1,(s0.1.1,()))) fun x2=>
   bif !(zt x2.1 0) then some (.inl (1,((s0.1.1,(s0.1.2.2.2.1,((zj x2.1 0),(s0.1.2.2.2.1,())))),())))
   else some (.inr ((s0.1.1,(s0.1.2.1,(s0.1.2.2.1,((wrF .i64 (s0.1.2.2.2.1+1)),())))),()))
  else some (.inl (0,((s0.1.1,(s0.1.2.1,(s0.1.2.2.1,(s0.1.2.2.2.1,())))),())))) qD ((a0,(0,(false,(0,())))),())) fun x3=>
 bif Nat.beq x3.1 0 then some (s,(((s.2.2.2.1.length:Nat):Int),((x3.2.1.1,(0,(0,(0,[])))),(false,()))))
 else bif !x3.2.1.2.2.1 then some (s,(x3.2.1.2.1,((x3.2.1.1,(0,(0,(0,[])))),(false,()))))
  else opt (atI s.2.2.2.1 x3.2.1.2.1) fun x4=>
   some (s,(x3.2.1.2.1,(x4,(true,()))))
theorem zgy (jB:(Int×Int×Unit)→Option (Int×Unit)) (s:za) (a0:Int):sP Tryz.prog ⟨[],[]⟩ [(37,⟨wu,wv,jB⟩)] KV (zL []) 30 107 ze jj jk s (a0,())=Wf jB s a0:=by kernel_rfl
def jK:za→(Int×Unit)→Option (za×(Int×qw×Bool×Unit)):=sP Tryz.prog ⟨[],[]⟩ [(37,⟨wu,wv,jh⟩)] KV (zL []) 30 107 ze jj jk
theorem Vs:yJ.Ok Tryz.prog 107 ⟨ze,jj,jk,jK⟩:=xk ⟨qy,js⟩ (zf VO zi) zm (by kernel_rfl)
theorem zd8 (s:za) (a0:Int):jK s (a0,())=Wf jh s a0:=zgy jh s a0
abbrev jl:List VT:=[⟨true,we⟩]
abbrev jm:List VT:=[]
def KW:qa:=zT [cdF ze,cdF qM,cdF zE,cdF we,cdF zu] [] [] [] [52]
def Wg (zK:za→(zJ×Unit)→Option (za×(Unit))) (s:za) (a0:qw):Option (za×(Unit)):=
 bif zj a0.2.2.1 2 then opt (zK s ((5,(a0.1,(a0.2.1,(0,(false,((0,(0,(0,(0,(0,(0,((0,0),(0,[])))))))),0)))))),())) fun x0=>
  some (x0.1,())
 else bif zj a0.2.2.1 3 then opt (zK s ((6,(a0.1,(a0.2.1,(0,(false,((0,(0,(0,(0,(0,(0,((0,0),(0,[])))))))),a0.2.2.2.1)))))),())) fun x1=>
   some (x1.1,())
  else bif zj a0.2.2.1 5 then opt (zK s ((7,(a0.1,(a0.2.1,(0,(false,((0,(0,(0,(0,(0,(0,((0,0),(0,[])))))))),0)))))),())) fun x2=>
    some (x2.1,())
   else some (s,())
theorem zgz (zK:za→(zJ×Unit)→Option (za×(Unit))) (s:za) (a0:qw):sP Tryz.prog ⟨[],[(52,⟨ze,qe,qf,zK⟩)]⟩ [] KW (fun _ _=>false) 30 108 ze jl jm s (a0,())=Wg zK s a0:=by kernel_rfl
def jn:za→(qw×Unit)→Option (za×(Unit)):=sP Tryz.prog ⟨[],[(52,⟨ze,qe,qf,qk⟩)]⟩ [] KW (fun _ _=>false) 30 108 ze jl jm
theorem Vt:yJ.Ok Tryz.prog 108 ⟨ze,jl,jm,jn⟩:=xk ⟨qy,(zV vW js)⟩ zi zm (by kernel_rfl)
theorem zd9 (s:za) (a0:qw):jn s (a0,())=Wg qk s a0:=zgz qk s a0
abbrev ZW:List VT:=[⟨true,zY⟩,⟨false,I⟩]
abbrev ZX:List VT:=[⟨false,.bool⟩]
def zoE:qa:=zT [cdF zY,cdF qx] [] [] [] [63]
def zaG (qc:uv) (a0:qi) (a1:Int):Option (Bool×Unit):=
 opt (qc (a1,(0,((wrF .i64 (a0.1 - 1)),())))) fun x0=>
 bif x0.1 then opt (atI a0.2.1 a1) fun x1=>
  some (x1,())
 else some (false,())
abbrev VP:Type:=(qi×Int×Unit)→Option (Bool×Unit)
def zgA:uv→VP:=fun qc=>sF Tryz.prog [(63,⟨xP,xQ,qc⟩)] zoE (zL []) 30 65 ZW ZX
theorem zqa (qc) (a0) (a1):zgA qc (a0,a1,())=zaG qc a0 a1:=by kernel_rfl
def ZY:VP:=zgA yv
theorem zlI:Con.Ok Tryz.prog 65 ⟨ZW,ZX,ZY⟩:=zy (zf KG zi) zm (by kernel_rfl)
theorem zlJ (a0) (a1):ZY (a0,a1,())=zaG yv a0 a1:=zqa yv a0 a1
abbrev kh:List VT:=[⟨false,I⟩,⟨false,I⟩,⟨false,I⟩]
abbrev kj:List VT:=[⟨false,.bool⟩]
def zkE:qa:=zT [] [] [] [] []
def KJ (a0:Int) (a1:Int) (a2:Int):Option (Bool×Unit):=
 bif !(zt a0 a1) then some ((!(zt a2 a0)),())
 else some (false,())
abbrev WB:Type:=(Int×Int×Int×Unit)→Option (Bool×Unit)
def zcI:WB:=sF Tryz.prog [] zkE (zL []) 30 98 kh kj
theorem zlK (a0) (a1) (a2):zcI (a0,a1,a2,())=KJ a0 a1 a2:=by kernel_rfl
def km:WB:=zcI
theorem ziA:Con.Ok Tryz.prog 98 ⟨kh,kj,km⟩:=zy zi zm (by kernel_rfl)
theorem ziB (a0) (a1) (a2):km (a0,a1,a2,())=KJ  a0 a1 a2:=zlK  a0 a1 a2
abbrev xt:List VT:=[⟨true,zu⟩]
abbrev xu:List VT:=[⟨false,I⟩]
def zrN:qa:=zT [cdF zu] [] [] [] [98]
def zdf (vT:WB) (a0:jP):Option (Int×Unit):=
 opt (opt (vT (a0.1,(1,(1048576,())))) fun x0=>
  bif !x0.1 then some (1,((130,()),()))
  else opt (vT (a0.2,(1,(2097152,())))) fun x1=>
   bif !x1.1 then some (1,((130,()),()))
   else some (0,((0,()),()))) fun x2=>
 bif Nat.beq x2.1 0 then some (0,())
 else some (x2.2.1.1,())
abbrev vP:Type:=(jP×Unit)→Option (Int×Unit)
def zji:WB→vP:=fun vT=>sF Tryz.prog [(98,⟨kh,kj,vT⟩)] zrN (zL []) 30 69 xt xu
theorem ztz (vT) (a0):zji vT (a0,())=zdf vT a0:=by kernel_rfl
def wQ:vP:=zji km
theorem YY:Con.Ok Tryz.prog 69 ⟨xt,xu,wQ⟩:=zy (zf ziA zi) zm (by kernel_rfl)
theorem zoF (a0):wQ (a0,())=zdf km a0:=ztz km a0
abbrev vr:List VT:=[⟨true,Xq⟩,⟨false,(.list I)⟩]
abbrev vu:List VT:=[⟨false,(.list I)⟩]
def zlL:qa:=zT [cdF Xq,cdF qx,cdF zpq] [] [⟨5,30,some 4,I,false⟩,⟨5,30,none,I,true⟩,⟨5,30,some 5,I,true⟩,⟨1,54,none,I,true⟩,⟨3,54,none,I,true⟩,⟨6,54,none,I,true⟩,⟨8,54,none,I,true⟩,⟨0,54,none,I,true⟩] [(5,30,5,[0])] []
def Uz (a0:Qv) (a1:(List Int)):Option ((List Int)×Unit):=
 bif (zpU 0 (wrF .i64 (((a1.length:Nat):Int)+1)) 8) then opt (qh (fun s0:((Int×Unit)×(((List Int)×Unit)×(Unit×(Unit×Unit))))=>
   bif (zt s0.1.1 ((a1.length:Nat):Int)) then opt (atI a1 s0.1.1) fun x1=>
    bif zt x1 0 then some (.inl (0,((s0.1.1,()),((s0.2.1.1,()),((),((),()))))))
    else bif (!(zt x1 (wrF .i64 (2*((a0.2.2.length:Nat):Int))))) then some (.inl (0,((s0.1.1,()),((s0.2.1.1,()),((),((),()))))))
     else opt (atI a0.2.2 (wrF .i64 (Int.tdiv x1 2))) fun x2=>
      opt (bif zj (Int.tmod x1 2) 1 then some (0,(((x1,(x2.2.1,x2.1)),()),((),((),()))))
       else some (0,(((x1,(x2.1,x2.2.1)),()),((),((),()))))) fun x3=>
      opt (bif zj s0.1.1 0 then bif (xj s0.2.1.1.length ((x3.2.1.1.2.1::[]).length) 8) then some (0,((),(((s0.2.1.1++(x3.2.1.1.2.1::[])),()),((),()))))
        else none
       else some (0,((),((s0.2.1.1,()),((),()))))) fun x4=>
      bif (xj x4.2.2.1.1.length ((x3.2.1.1.2.2::[]).length) 8) then some (.inr (((wrF .i64 (s0.1.1+1)),()),(((x4.2.2.1.1++(x3.2.1.1.2.2::[])),()),((),((),())))))
      else none
   else some (.inl (0,((s0.1.1,()),((s0.2.1.1,()),((),((),()))))))) qD ((0,()),(((List.replicate (Int.toNat 0) 0),()),((),((),()))))) fun x5=>
  some (x5.2.2.1.1,())
 else none
abbrev kU:Type:=(Qv×(List Int)×Unit)→Option ((List Int)×Unit)
def zea:kU:=sF Tryz.prog [] zlL (zL []) 30 78 vr vu
theorem zm8 (a0) (a1):zea (a0,a1,())=Uz a0 a1:=by kernel_rfl
def xI:kU:=zea
theorem za9:Con.Ok Tryz.prog 78 ⟨vr,vu,xI⟩:=zy zi zm (by kernel_rfl)
theorem zjj (a0) (a1):xI (a0,a1,())=Uz  a0 a1:=zm8  a0 a1
abbrev vv:List VT:=[⟨true,Xq⟩,⟨false,(.list I)⟩]
abbrev vy:List VT:=[⟨false,.bool⟩]
def zlM:qa:=zT [⟨(.pair .bool (.pair .bool (.pair .bool (.pair .bool (.pair .bool (.pair .bool (.pair .bool (.pair .bool (.pair .bool (.pair .bool (.pair .bool .bool))))))))))),zd1 (.pair .bool (.pair .bool (.pair .bool (.pair .bool (.pair .bool (.pair .bool (.pair .bool (.pair .bool (.pair .bool (.pair .bool (.pair .bool .bool))))))))))),[]⟩,cdF Xq,cdF qx,cdF zpq] [] [] [] []
def UA (a0:Qv) (a1:(List Int)):Option (Bool×Unit):=
 opt (bif (zt ((a1.length:Nat):Int) 1) then some (1,((false,()),()))
  else bif (zt 8 ((a1.length:Nat):Int)) then some (1,((false,()),()))
   else some (0,((false,()),()))) fun x0=>
 bif Nat.beq x0.1 0 then opt (qh (fun s1:((Int×(Int×(Int×Unit)))×((List Bool)×(Unit×(Unit×Unit))))=>
   bif (zt s1.1.2.2.1 ((a1.length:Nat):Int)) then opt (atI a1 s1.1.2.2.1) fun x2=>
    bif zt x2 0 then some (.inl (0,((s1.1.1,(s1.1.2.1,(s1.1.2.2.1,()))),(s1.2.1,((),((),()))))))
    else bif (!(zt x2 (wrF .i64 (2*((a0.2.2.length:Nat):Int))))) then some (.inl (0,((s1.1.1,(s1.1.2.1,(s1.1.2.2.1,()))),(s1.2.1,((),((),()))))))
     else opt (atI a0.2.2 (wrF .i64 (Int.tdiv x2 2))) fun x3=>
      opt (bif zj (Int.tmod x2 2) 1 then some (0,(((x2,(x3.2.1,x3.1)),()),((),((),()))))
       else some (0,(((x2,(x3.1,x3.2.1)),()),((),((),()))))) fun x4=>
      bif Nat.beq x4.1 0 then opt (bif zj s1.1.2.2.1 0 then bif zt x4.2.1.1.2.1 12 then opt (atI s1.2.1 x4.2.1.1.2.1) fun x5=>
          opt (gl s1.2.1 (Int.toNat x4.2.1.1.2.1)) fun x6=>
          some (0,((),((s1.2.1.set (Int.toNat x4.2.1.1.2.1) true),((),()))))
         else none
        else bif !(zj x4.2.1.1.2.1 s1.1.1) then some (1,((),(s1.2.1,((),()))))
         else opt (atI a0.2.1 s1.1.1) fun x7=>
          bif x7 then some (1,((),(s1.2.1,((),()))))
          else some (0,((),(s1.2.1,((),()))))) fun x8=>
       bif Nat.beq x8.1 0 then bif zt x4.2.1.1.2.2 12 then opt (atI x8.2.2.1 x4.2.1.1.2.2) fun x9=>
         opt (gl x8.2.2.1 (Int.toNat x4.2.1.1.2.2)) fun x10=>
         bif x10 then some (.inl (1,((s1.1.1,(s1.1.2.1,(s1.1.2.2.1,()))),(x8.2.2.1,((),((),()))))))
         else bif zt x4.2.1.1.2.2 12 then opt (atI x8.2.2.1 x4.2.1.1.2.2) fun x11=>
           opt (gl x8.2.2.1 (Int.toNat x4.2.1.1.2.2)) fun x12=>
           some (.inr ((x4.2.1.1.2.2,((wrF .i64 (s1.1.2.1+1)),((wrF .i64 (s1.1.2.2.1+1)),()))),((x8.2.2.1.set (Int.toNat x4.2.1.1.2.2) true),((),((),())))))
          else none
        else none
       else some (.inl (1,((s1.1.1,(s1.1.2.1,(s1.1.2.2.1,()))),(x8.2.2.1,((),((),()))))))
      else none
   else some (.inl (0,((s1.1.1,(s1.1.2.1,(s1.1.2.2.1,()))),(s1.2.1,((),((),()))))))) qD ((0,(0,(0,()))),((List.replicate 12 false),((),((),()))))) fun x13=>
  bif Nat.beq x13.1 0 then some ((zj x13.2.1.2.1 ((a1.length:Nat):Int)),())
  else some ((zj x13.2.1.2.1 ((a1.length:Nat):Int)),())
 else some (x0.2.1.1,())
abbrev kV:Type:=(Qv×(List Int)×Unit)→Option (Bool×Unit)
def zeb:kV:=sF Tryz.prog [] zlM (zL []) 30 102 vv vy
theorem zm9 (a0) (a1):zeb (a0,a1,())=UA a0 a1:=by kernel_rfl
def xJ:kV:=zeb
theorem zba:Con.Ok Tryz.prog 102 ⟨vv,vy,xJ⟩:=zy zi zm (by kernel_rfl)
theorem zjk (a0) (a1):xJ (a0,a1,())=UA  a0 a1:=zm9  a0 a1
abbrev ZA:List VT:=[⟨true,zY⟩,⟨false,(.list I)⟩]
abbrev ZB:List VT:=[⟨false,I⟩]
def ztA:qa:=zT [cdF zY,cdF qx] [] [] [] [41,102]
def zeC (zX:xH) (jU:kV) (a0:qi) (a1:(List Int)):Option (Int×Unit):=
 opt (zX (a0,())) fun x0=>
 bif !(zj x0.1 0) then some (x0.1,())
 else opt (jU (a0,(a1,()))) fun x1=>
  bif !x1.1 then some (310,())
  else some (0,())
abbrev WR:Type:=(qi×(List Int)×Unit)→Option (Int×Unit)
def zli:xH→kV→WR:=fun zX jU=>sF Tryz.prog [(41,⟨wL,wM,zX⟩),(102,⟨vv,vy,jU⟩)] ztA (zL []) 30 105 ZA ZB
theorem zvj (zX) (jU) (a0) (a1):zli zX jU (a0,a1,())=zeC zX jU a0 a1:=by kernel_rfl
def ky:WR:=zli jJ xJ
theorem zgB:Con.Ok Tryz.prog 105 ⟨ZA,ZB,ky⟩:=zy (zf QR (zf zba zi)) zm (by kernel_rfl)
theorem zqb (a0) (a1):ky (a0,a1,())=zeC jJ xJ a0 a1:=zvj jJ xJ a0 a1
abbrev kz:List VT:=[⟨true,zY⟩,⟨false,(.list I)⟩]
abbrev kA:List VT:=[⟨false,(.list I)⟩,⟨false,I⟩]
def ztB:qa:=zT [cdF zY,cdF qx] [] [⟨3,23,some 6,I,false⟩,⟨3,23,some 8,I,false⟩] [] [105]
def zeD (jF:kU) (xA:WR) (a0:qi) (a1:(List Int)):Option ((List Int)×Int×Unit):=
 opt (xA (a0,(a1,()))) fun x0=>
 bif !(zj x0.1 0) then some ([],(x0.1,()))
 else opt (jF (a0,(a1,()))) fun x1=>
  some (x1.1,(0,()))
abbrev Jr:Type:=(qi×(List Int)×Unit)→Option ((List Int)×Int×Unit)
def zlj:kU→WR→Jr:=fun jF xA=>sF Tryz.prog [(78,⟨vr,vu,jF⟩),(105,⟨ZA,ZB,xA⟩)] ztB (zL []) 30 49 kz kA
theorem zvk (jF) (xA) (a0) (a1):zlj jF xA (a0,a1,())=zeD jF xA a0 a1:=by kernel_rfl
def yw:Jr:=zlj xI ky
theorem zaH:Con.Ok Tryz.prog 49 ⟨kz,kA,yw⟩:=zy (zf za9 (zf zgB zi)) zm (by kernel_rfl)
theorem zqc (a0) (a1):yw (a0,a1,())=zeD xI ky a0 a1:=zvk xI ky a0 a1
abbrev XA:List VT:=[⟨true,zY⟩,⟨false,(.list I)⟩]
abbrev XB:List VT:=[⟨false,I⟩,⟨false,I⟩,⟨false,I⟩]
def zvl:qa:=zT [cdF zY,cdF qx] [] [] [] []
def zgC (jZ:Jr) (a0:qi) (a1:(List Int)):Option (Int×Int×Int×Unit):=
 opt (jZ (a0,(a1,()))) fun x0=>
 bif !(zj x0.2.1 0) then some (0,(0,(x0.2.1,())))
 else opt (atI x0.1 0) fun x1=>
  opt (atI x0.1 (wrF .i64 (((x0.1.length:Nat):Int) - 1))) fun x2=>
  some (x1,(x2,(0,())))
abbrev zbP:Type:=(qi×(List Int)×Unit)→Option (Int×Int×Int×Unit)
def zna:Jr→zbP:=fun jZ=>sF Tryz.prog [(49,⟨kz,kA,jZ⟩)] zvl (zL []) 30 99 XA XB
theorem zxN (jZ) (a0) (a1):zna jZ (a0,a1,())=zgC jZ a0 a1:=by kernel_rfl
def XC:zbP:=zna yw
theorem zrO:Con.Ok Tryz.prog 99 ⟨XA,XB,XC⟩:=zy (zf zaH zi) zm (by kernel_rfl)
theorem zrP (a0) (a1):XC (a0,a1,())=zgC yw a0 a1:=zxN yw a0 a1
abbrev JF:List VT:=[⟨true,zY⟩,⟨false,(.list I)⟩,⟨false,I⟩,⟨false,I⟩]
abbrev JG:List VT:=[⟨false,.bool⟩]
def zrQ:qa:=zT [cdF zY,cdF qx] [] [] [] [99]
def zdg (Vk:zbP) (a0:qi) (a1:(List Int)) (a2:Int) (a3:Int):Option (Bool×Unit):=
 opt (Vk (a0,(a1,()))) fun x0=>
 bif zj x0.2.2.1 0 then bif zj x0.1 a2 then some ((zj x0.2.1 a3),())
  else some (false,())
 else some (false,())
abbrev Gg:Type:=(qi×(List Int)×Int×Int×Unit)→Option (Bool×Unit)
def zjl:zbP→Gg:=fun Vk=>sF Tryz.prog [(99,⟨XA,XB,Vk⟩)] zrQ (zL []) 30 72 JF JG
theorem ztC (Vk) (a0) (a1) (a2) (a3):zjl Vk (a0,a1,a2,a3,())=zdg Vk a0 a1 a2 a3:=by kernel_rfl
def ZZ:Gg:=zjl XC
theorem zoG:Con.Ok Tryz.prog 72 ⟨JF,JG,ZZ⟩:=zy (zf zrO zi) zm (by kernel_rfl)
theorem zoH (a0) (a1) (a2) (a3):ZZ (a0,a1,a2,a3,())=zdg XC a0 a1 a2 a3:=ztC XC a0 a1 a2 a3
abbrev JH:List VT:=[⟨false,(.list I)⟩,⟨false,(.list I)⟩]
abbrev JI:List VT:=[⟨false,.bool⟩]
def zrR:qa:=zT [] [] [] [] []
def zdh (a0:(List Int)) (a1:(List Int)):Option (Bool×Unit):=
 opt (qh (fun s0:((Bool×(Int×Unit))×Unit)=>
  bif (zt s0.1.2.1 ((a0.length:Nat):Int)) then opt (atI a0 s0.1.2.1) fun x1=>
   opt (qh (fun s2:((Bool×(Int×Unit))×Unit)=>
    bif (zt s2.1.2.1 ((a1.length:Nat):Int)) then opt (atI a1 s2.1.2.1) fun x3=>
     bif (zj (wrF .i64 (Int.tdiv x1 2)) (wrF .i64 (Int.tdiv x3 2))) then some (.inl (1,((true,(s2.1.2.1,())),())))
     else some (.inr ((s2.1.1,((wrF .i64 (s2.1.2.1+1)),())),()))
    else some (.inl (0,((s2.1.1,(s2.1.2.1,())),())))) qD ((s0.1.1,(0,())),())) fun x4=>
   bif Nat.beq x4.1 0 then some (.inr ((x4.2.1.1,((wrF .i64 (s0.1.2.1+1)),())),()))
   else some (.inl (1,((x4.2.1.1,(s0.1.2.1,())),())))
  else some (.inl (0,((s0.1.1,(s0.1.2.1,())),())))) qD ((false,(0,())),())) fun x5=>
 bif Nat.beq x5.1 0 then some (false,())
 else some (x5.2.1.1,())
abbrev Gh:Type:=((List Int)×(List Int)×Unit)→Option (Bool×Unit)
def zjm:Gh:=sF Tryz.prog [] zrR (zL []) 30 103 JH JI
theorem ztD (a0) (a1):zjm (a0,a1,())=zdh a0 a1:=by kernel_rfl
def JJ:Gh:=zjm
theorem zoI:Con.Ok Tryz.prog 103 ⟨JH,JI,JJ⟩:=zy zi zm (by kernel_rfl)
theorem zoJ (a0) (a1):JJ (a0,a1,())=zdh  a0 a1:=ztD  a0 a1
abbrev wi:List VT:=[⟨false,(.list I)⟩,⟨false,I⟩]
abbrev wj:List VT:=[⟨false,I⟩]
def zfP:qa:=zT [] [] [] [] []
def gJ (a0:(List Int)) (a1:Int):Option (Int×Unit):=
 opt (qh (fun s0:((Int×(Int×Unit))×Unit)=>
  bif (zt s0.1.2.1 ((a0.length:Nat):Int)) then opt (atI a0 s0.1.2.1) fun x1=>
   bif zj a1 x1 then some (.inl (1,((s0.1.2.1,(s0.1.2.1,())),())))
   else some (.inr ((s0.1.1,((wrF .i64 (s0.1.2.1+1)),())),()))
  else some (.inl (0,((s0.1.1,(s0.1.2.1,())),())))) qD ((0,(0,())),())) fun x2=>
 bif Nat.beq x2.1 0 then some ((-1),())
 else some (x2.2.1.1,())
abbrev uw:Type:=((List Int)×Int×Unit)→Option (Int×Unit)
def UB:uw:=sF Tryz.prog [] zfP (zL []) 30 114 wi wj
theorem zgD (a0) (a1):UB (a0,a1,())=gJ a0 a1:=by kernel_rfl
def qQ:uw:=UB
theorem Vu:Con.Ok Tryz.prog 114 ⟨wi,wj,qQ⟩:=zy zi zm (by kernel_rfl)
theorem Vv (a0) (a1):qQ (a0,a1,())=gJ  a0 a1:=zgD  a0 a1
abbrev xb:List VT:=[⟨false,(.list I)⟩,⟨false,I⟩]
abbrev xc:List VT:=[⟨false,.bool⟩]
def zdi:qa:=zT [] [] [] [] [114]
def QF (qY:uw) (a0:(List Int)) (a1:Int):Option (Bool×Unit):=
 opt (qY (a0,(a1,()))) fun x0=>
 some ((!(zt x0.1 0)),())
abbrev uV:Type:=((List Int)×Int×Unit)→Option (Bool×Unit)
def Vw:uw→uV:=fun qY=>sF Tryz.prog [(114,⟨wi,wj,qY⟩)] zdi (zL []) 30 136 xb xc
theorem zec (qY) (a0) (a1):Vw qY (a0,a1,())=QF qY a0 a1:=by kernel_rfl
def xd:uV:=Vw qQ
theorem zbQ:Con.Ok Tryz.prog 136 ⟨xb,xc,xd⟩:=zy (zf Vu zi) zm (by kernel_rfl)
theorem zbR (a0) (a1):xd (a0,a1,())=QF qQ a0 a1:=zec qQ a0 a1
abbrev kW:List VT:=[⟨true,Xq⟩,⟨false,(.list I)⟩,⟨false,(.list I)⟩]
abbrev kX:List VT:=[⟨false,.bool⟩]
def zlN:qa:=zT [cdF Xq] [] [] [] [136]
def UC (jF:kU) (xg:uV) (a0:Qv) (a1:(List Int)) (a2:(List Int)):Option (Bool×Unit):=
 opt (jF (a0,(a1,()))) fun x0=>
 opt (jF (a0,(a2,()))) fun x1=>
 opt (ue x0.1 (some 1) (some (wrF .i64 (((x0.1.length:Nat):Int) - 1))) (some (wrF .i64 (((x0.1.length:Nat):Int) - 1)))) fun x2=>
 opt (qh (fun s3:((Bool×(Int×Unit))×Unit)=>
  bif (zt s3.1.2.1 ((x2.length:Nat):Int)) then opt (atI x2 s3.1.2.1) fun x4=>
   opt (xg (x1.1,(x4,()))) fun x5=>
   bif x5.1 then some (.inl (1,((true,(s3.1.2.1,())),())))
   else some (.inr ((s3.1.1,((wrF .i64 (s3.1.2.1+1)),())),()))
  else some (.inl (0,((s3.1.1,(s3.1.2.1,())),())))) qD ((false,(0,())),())) fun x6=>
 bif Nat.beq x6.1 0 then some (false,())
 else some (x6.2.1.1,())
abbrev YA:Type:=(Qv×(List Int)×(List Int)×Unit)→Option (Bool×Unit)
def zed:kU→uV→YA:=fun jF xg=>sF Tryz.prog [(78,⟨vr,vu,jF⟩),(136,⟨xb,xc,xg⟩)] zlN (zL []) 30 104 kW kX
theorem znb (jF) (xg) (a0) (a1) (a2):zed jF xg (a0,a1,a2,())=UC jF xg a0 a1 a2:=by kernel_rfl
def kY:YA:=zed xI xd
theorem zjn:Con.Ok Tryz.prog 104 ⟨kW,kX,kY⟩:=zy (zf za9 (zf zbQ zi)) zm (by kernel_rfl)
theorem zjo (a0) (a1) (a2):kY (a0,a1,a2,())=UC xI xd a0 a1 a2:=znb xI xd a0 a1 a2
abbrev WS:List VT:=[⟨true,zY⟩,⟨false,(.list I)⟩,⟨false,(.list I)⟩]
abbrev WT:List VT:=[⟨false,.bool⟩,⟨false,I⟩]
def ztE:qa:=zT [cdF zY,cdF qx] [] [] [] [102,103,104,105]
def zeE (jU:kV) (JQ:Gh) (uD:YA) (xA:WR) (a0:qi) (a1:(List Int)) (a2:(List Int)):Option (Bool×Int×Unit):=
 opt (xA (a0,(a1,()))) fun x0=>
 bif !(zj x0.1 0) then some (false,(x0.1,()))
 else opt (jU (a0,(a2,()))) fun x1=>
  bif !x1.1 then some (false,(310,()))
  else opt (JQ (a1,(a2,()))) fun x2=>
   bif !x2.1 then opt (uD (a0,(a1,(a2,())))) fun x3=>
    bif !x3.1 then opt (uD (a0,(a2,(a1,())))) fun x4=>
     some ((!x4.1),(0,()))
    else some (false,(0,()))
   else some (false,(0,()))
abbrev zaf:Type:=(qi×(List Int)×(List Int)×Unit)→Option (Bool×Int×Unit)
def zlk:kV→Gh→YA→WR→zaf:=fun jU JQ uD xA=>sF Tryz.prog [(102,⟨vv,vy,jU⟩),(103,⟨JH,JI,JQ⟩),(104,⟨kW,kX,uD⟩),(105,⟨ZA,ZB,xA⟩)] ztE (zL []) 30 74 WS WT
theorem zvm (jU) (JQ) (uD) (xA) (a0) (a1) (a2):zlk jU JQ uD xA (a0,a1,a2,())=zeE jU JQ uD xA a0 a1 a2:=by kernel_rfl
def ZC:zaf:=zlk xJ JJ kY ky
theorem zqd:Con.Ok Tryz.prog 74 ⟨WS,WT,ZC⟩:=zy (zf zba (zf zoI (zf zjn (zf zgB zi)))) zm (by kernel_rfl)
theorem zqe (a0) (a1) (a2):ZC (a0,a1,a2,())=zeE xJ JJ kY ky a0 a1 a2:=zvm xJ JJ kY ky a0 a1 a2
abbrev kZ:List VT:=[⟨true,zY⟩,⟨true,zE⟩]
abbrev gb:List VT:=[⟨false,.bool⟩]
def zrS:qa:=zT [cdF zE,cdF zY,cdF qx,cdF zu] [] [] [] [63,65,69,72,74]
def zdj (qc:uv) (kQ:VP) (qp:vP) (Qq:Gg) (kJ:zaf) (a0:qi) (a1:zz):Option (Bool×Unit):=
 opt (qc (a1.1,(1,(4095,())))) fun x0=>
 bif !x0.1 then some (false,())
 else opt (kQ (a0,(a1.2.1,()))) fun x1=>
  bif x1.1 then opt (kQ (a0,(a1.2.2.1,()))) fun x2=>
   bif x2.1 then bif (!(!(zj a1.2.1 a1.2.2.1))) then some (false,())
    else opt (qc (a1.2.2.2.2.1,(84,(1542,())))) fun x3=>
     bif !x3.1 then some (false,())
     else opt (qc (a1.2.2.2.2.2.2.2.1,(1,(1099511627776,())))) fun x4=>
      bif !x4.1 then some (false,())
      else bif zj a1.2.2.2.1 7 then opt (qc (a1.2.2.2.2.2.1,(1,(240,())))) fun x5=>
        bif x5.1 then bif (!((zj a1.2.2.2.2.2.2.1.1 0)&&((zj a1.2.2.2.2.2.2.1.2 0)&&true))) then some (false,())
         else opt (qc (((a1.2.2.2.2.2.2.2.2.length:Nat):Int),(1,(2,())))) fun x6=>
          bif !x6.1 then some (false,())
          else opt (qh (fun s7:((Bool×(Int×Unit))×Unit)=>
            bif (zt s7.1.2.1 ((a1.2.2.2.2.2.2.2.2.length:Nat):Int)) then opt (atI a1.2.2.2.2.2.2.2.2 s7.1.2.1) fun x8=>
             opt (Qq (a0,(x8,(a1.2.1,(a1.2.2.1,()))))) fun x9=>
             bif !x9.1 then some (.inl (1,((false,(s7.1.2.1,())),())))
             else some (.inr ((s7.1.1,((wrF .i64 (s7.1.2.1+1)),())),()))
            else some (.inl (0,((s7.1.1,(s7.1.2.1,())),())))) qD ((false,(0,())),())) fun x10=>
           bif Nat.beq x10.1 0 then bif (zt ((a1.2.2.2.2.2.2.2.2.length:Nat):Int) 2) then some (true,())
            else opt (atI a1.2.2.2.2.2.2.2.2 0) fun x11=>
             opt (atI a1.2.2.2.2.2.2.2.2 1) fun x12=>
             opt (kJ (a0,(x11,(x12,())))) fun x13=>
             bif zj x13.2.1 0 then bif !x13.1 then some (false,())
              else some (true,())
             else some (false,())
           else bif !x10.2.1.1 then some (false,())
            else bif (zt ((a1.2.2.2.2.2.2.2.2.length:Nat):Int) 2) then some (true,())
             else opt (atI a1.2.2.2.2.2.2.2.2 0) fun x14=>
              opt (atI a1.2.2.2.2.2.2.2.2 1) fun x15=>
              opt (kJ (a0,(x14,(x15,())))) fun x16=>
              bif zj x16.2.1 0 then bif !x16.1 then some (false,())
               else some (true,())
              else some (false,())
        else some (false,())
       else bif zj a1.2.2.2.1 6 then bif zj a1.2.2.2.2.2.1 0 then opt (qp (a1.2.2.2.2.2.2.1,())) fun x17=>
          bif zj x17.1 0 then bif (!(!(zt a1.2.2.2.2.2.2.1.1 a1.2.2.2.2.1))) then some (false,())
           else opt (qc (((a1.2.2.2.2.2.2.2.2.length:Nat):Int),(1,(2,())))) fun x18=>
            bif !x18.1 then some (false,())
            else opt (qh (fun s19:((Bool×(Int×Unit))×Unit)=>
              bif (zt s19.1.2.1 ((a1.2.2.2.2.2.2.2.2.length:Nat):Int)) then opt (atI a1.2.2.2.2.2.2.2.2 s19.1.2.1) fun x20=>
               opt (Qq (a0,(x20,(a1.2.1,(a1.2.2.1,()))))) fun x21=>
               bif !x21.1 then some (.inl (1,((false,(s19.1.2.1,())),())))
               else some (.inr ((s19.1.1,((wrF .i64 (s19.1.2.1+1)),())),()))
              else some (.inl (0,((s19.1.1,(s19.1.2.1,())),())))) qD ((false,(0,())),())) fun x22=>
             bif Nat.beq x22.1 0 then bif (zt ((a1.2.2.2.2.2.2.2.2.length:Nat):Int) 2) then some (true,())
              else opt (atI a1.2.2.2.2.2.2.2.2 0) fun x23=>
               opt (atI a1.2.2.2.2.2.2.2.2 1) fun x24=>
               opt (kJ (a0,(x23,(x24,())))) fun x25=>
               bif zj x25.2.1 0 then bif !x25.1 then some (false,())
                else some (true,())
               else some (false,())
             else bif !x22.2.1.1 then some (false,())
              else bif (zt ((a1.2.2.2.2.2.2.2.2.length:Nat):Int) 2) then some (true,())
               else opt (atI a1.2.2.2.2.2.2.2.2 0) fun x26=>
                opt (atI a1.2.2.2.2.2.2.2.2 1) fun x27=>
                opt (kJ (a0,(x26,(x27,())))) fun x28=>
                bif zj x28.2.1 0 then bif !x28.1 then some (false,())
                 else some (true,())
                else some (false,())
          else some (false,())
         else some (false,())
        else some (false,())
   else some (false,())
  else some (false,())
abbrev JK:Type:=(qi×zz×Unit)→Option (Bool×Unit)
def zjp:uv→VP→vP→Gg→zaf→JK:=fun qc kQ qp Qq kJ=>sF Tryz.prog [(63,⟨xP,xQ,qc⟩),(65,⟨ZW,ZX,kQ⟩),(69,⟨xt,xu,qp⟩),(72,⟨JF,JG,Qq⟩),(74,⟨WS,WT,kJ⟩)] zrS (zL []) 30 42 kZ gb
theorem ztF (qc) (kQ) (qp) (Qq) (kJ) (a0) (a1):zjp qc kQ qp Qq kJ (a0,a1,())=zdj qc kQ qp Qq kJ a0 a1:=by kernel_rfl
def uI:JK:=zjp yv ZY wQ ZZ ZC
theorem zfa:Con.Ok Tryz.prog 42 ⟨kZ,gb,uI⟩:=zy (zf KG (zf zlI (zf YY (zf zoG (zf zqd zi))))) zm (by kernel_rfl)
theorem zoK (a0) (a1):uI (a0,a1,())=zdj yv ZY wQ ZZ ZC a0 a1:=ztF yv ZY wQ ZZ ZC a0 a1
abbrev gX:List VT:=[⟨true,zY⟩,⟨false,(.list zE)⟩]
abbrev gY:List VT:=[⟨false,I⟩]
def znc:qa:=zT [cdF zE,cdF zY,cdF qx,cdF zu] [] [] [] [41,42]
def Gx (zX:xH) (yR:JK) (a0:qi) (a1:(List zz)):Option (Int×Unit):=
 opt (zX (a0,())) fun x0=>
 bif !(zj x0.1 0) then some (x0.1,())
 else bif (zt 12 ((a1.length:Nat):Int)) then some (3,())
  else opt (qh (fun s1:((Int×(Int×Unit))×Unit)=>
    bif (zt s1.1.2.1 ((a1.length:Nat):Int)) then opt (atI a1 s1.1.2.1) fun x2=>
     opt (yR (a0,(x2,()))) fun x3=>
     bif !x3.1 then some (.inl (1,((321,(s1.1.2.1,())),())))
     else some (.inr ((s1.1.1,((wrF .i64 (s1.1.2.1+1)),())),()))
    else some (.inl (0,((s1.1.1,(s1.1.2.1,())),())))) qD ((0,(0,())),())) fun x4=>
   bif Nat.beq x4.1 0 then opt (qh (fun s5:((Int×(Int×Unit))×((List (Int×Bool))×Unit))=>
     bif (zt s5.1.2.1 ((a1.length:Nat):Int)) then opt (atI a1 s5.1.2.1) fun x6=>
      bif mpD (α:=Bool) s5.2.1 x6.1 false then some (.inl (1,((322,(s5.1.2.1,())),(s5.2.1,()))))
      else some (.inr ((s5.1.1,((wrF .i64 (s5.1.2.1+1)),())),((mpP (α:=Bool) s5.2.1 x6.1 true),())))
     else some (.inl (0,((s5.1.1,(s5.1.2.1,())),(s5.2.1,()))))) qD ((x4.2.1.1,(0,())),([],()))) fun x7=>
    bif Nat.beq x7.1 0 then some (0,())
    else some (x7.2.1.1,())
   else some (x4.2.1.1,())
abbrev YZ:Type:=(qi×(List zz)×Unit)→Option (Int×Unit)
def zfb:xH→JK→YZ:=fun zX yR=>sF Tryz.prog [(41,⟨wL,wM,zX⟩),(42,⟨kZ,gb,yR⟩)] znc (zL []) 30 56 gX gY
theorem zoL (zX) (yR) (a0) (a1):zfb zX yR (a0,a1,())=Gx zX yR a0 a1:=by kernel_rfl
def gZ:YZ:=zfb jJ uI
theorem zkF:Con.Ok Tryz.prog 56 ⟨gX,gY,gZ⟩:=zy (zf QR (zf zfa zi)) zm (by kernel_rfl)
theorem zkG (a0) (a1):gZ (a0,a1,())=Gx jJ uI a0 a1:=zoL jJ uI a0 a1
abbrev yO:List VT:=[⟨false,(.list I)⟩,⟨false,I⟩]
abbrev yP:List VT:=[⟨false,I⟩]
def zcx:qa:=zT [] [] [] [] []
def Qa (a0:(List Int)) (a1:Int):Option (Int×Unit):=
 opt (qh (fun s0:((Int×(Int×Unit))×Unit)=>
  bif (zt s0.1.2.1 ((a0.length:Nat):Int)) then opt (atI a0 s0.1.2.1) fun x1=>
   bif zj a1 x1 then some (.inl (1,((s0.1.2.1,(s0.1.2.1,())),())))
   else some (.inr ((s0.1.1,((wrF .i64 (s0.1.2.1+1)),())),()))
  else some (.inl (0,((s0.1.1,(s0.1.2.1,())),())))) qD ((0,(0,())),())) fun x2=>
 bif Nat.beq x2.1 0 then some ((-1),())
 else some (x2.2.1.1,())
abbrev uJ:Type:=((List Int)×Int×Unit)→Option (Int×Unit)
def XD:uJ:=sF Tryz.prog [] zcx (zL []) 30 145 yO yP
theorem zdk (a0) (a1):XD (a0,a1,())=Qa a0 a1:=by kernel_rfl
def yQ:uJ:=XD
theorem zbl:Con.Ok Tryz.prog 145 ⟨yO,yP,yQ⟩:=zy zi zm (by kernel_rfl)
theorem zbm (a0) (a1):yQ (a0,a1,())=Qa  a0 a1:=zdk  a0 a1
abbrev wX:List VT:=[⟨false,(.list I)⟩,⟨false,I⟩]
abbrev wY:List VT:=[⟨false,.bool⟩]
def zaI:qa:=zT [] [] [] [] [145]
def gv (yS:uJ) (a0:(List Int)) (a1:Int):Option (Bool×Unit):=
 opt (yS (a0,(a1,()))) fun x0=>
 some ((!(zt x0.1 0)),())
abbrev vL:Type:=((List Int)×Int×Unit)→Option (Bool×Unit)
def WE:uJ→vL:=fun yS=>sF Tryz.prog [(145,⟨yO,yP,yS⟩)] zaI (zL []) 30 119 wX wY
theorem zbn (yS) (a0) (a1):WE yS (a0,a1,())=gv yS a0 a1:=by kernel_rfl
def jx:vL:=WE yQ
theorem Gy:Con.Ok Tryz.prog 119 ⟨wX,wY,jx⟩:=zy (zf zbl zi) zm (by kernel_rfl)
theorem Gz (a0) (a1):jx (a0,a1,())=gv yQ a0 a1:=zbn yQ a0 a1
abbrev JL:List VT:=[⟨true,Gf⟩]
abbrev JM:List VT:=[⟨false,I⟩]
def zrT:qa:=zT [cdF Gf,cdF qx] [] [] [] []
def zdl (a0:za7):Option (Int×Unit):=
 some (a0.1.2.2.1,())
abbrev Gi:Type:=(za7×Unit)→Option (Int×Unit)
def zjq:Gi:=sF Tryz.prog [] zrT (zL []) 30 121 JL JM
theorem ztG (a0):zjq (a0,())=zdl a0:=by kernel_rfl
def XE:Gi:=zjq
theorem zoM:Con.Ok Tryz.prog 121 ⟨JL,JM,XE⟩:=zy zi zm (by kernel_rfl)
theorem zoN (a0):XE (a0,())=zdl  a0:=ztG  a0
abbrev Gj:List VT:=[⟨true,zY⟩,⟨false,I⟩]
abbrev Gk:List VT:=[⟨false,I⟩,⟨false,I⟩]
def zyT:qa:=zT [cdF zY,cdF Gf,cdF qx] [] [] [] [41,121]
def zkH (zX:xH) (JR:Gi) (a0:qi) (a1:Int):Option (Int×Int×Unit):=
 opt (zX (a0,())) fun x0=>
 bif !(zj x0.1 0) then some (0,(x0.1,()))
 else opt (bif zt a1 0 then some (1,((0,(2,())),()))
   else bif (!(zt a1 (wrF .i64 (2*((a0.2.2.length:Nat):Int))))) then some (1,((0,(2,())),()))
    else some (0,((0,(0,())),()))) fun x1=>
  bif Nat.beq x1.1 0 then opt (atI a0.2.2 (wrF .i64 (Int.tdiv a1 2))) fun x2=>
   opt (JR ((x2,a1),())) fun x3=>
   some (x3.1,(0,()))
  else some (x1.2.1.1,(x1.2.1.2.1,()))
abbrev zfQ:Type:=(qi×Int×Unit)→Option (Int×Int×Unit)
def zrU:xH→Gi→zfQ:=fun zX JR=>sF Tryz.prog [(41,⟨wL,wM,zX⟩),(121,⟨JL,JM,JR⟩)] zyT (zL []) 30 85 Gj Gk
theorem zAP (zX) (JR) (a0) (a1):zrU zX JR (a0,a1,())=zkH zX JR a0 a1:=by kernel_rfl
def gK:zfQ:=zrU jJ XE
theorem zvn:Con.Ok Tryz.prog 85 ⟨Gj,Gk,gK⟩:=zy (zf QR (zf zoM zi)) zm (by kernel_rfl)
theorem zvo (a0) (a1):gK (a0,a1,())=zkH jJ XE a0 a1:=zAP jJ XE a0 a1
abbrev QU:List VT:=[⟨true,qo⟩,⟨false,I⟩,⟨false,I⟩]
abbrev QV:List VT:=[⟨false,I⟩]
def zqf:qa:=zT [cdF qo,cdF jt] [] [] [] [46]
def zbS (jA:Zz) (a0:jf) (a1:Int) (a2:Int):Option (Int×Unit):=
 opt (jA (a0,())) fun x0=>
 bif !(zj x0.1 0) then some (x0.1,())
 else opt (bif zt a1 1 then some (1,((2,()),()))
   else bif zt 1000 a1 then some (1,((2,()),()))
    else bif zt a2 84 then some (1,((2,()),()))
     else bif zt 1542 a2 then some (1,((2,()),()))
      else some (0,((0,()),()))) fun x1=>
  bif Nat.beq x1.1 0 then some (0,())
  else some (x1.2.1.1,())
abbrev KY:Type:=(jf×Int×Int×Unit)→Option (Int×Unit)
def zhW:Zz→KY:=fun jA=>sF Tryz.prog [(46,⟨uE,uF,jA⟩)] zqf (zL []) 30 122 QU QV
theorem zrV (jA) (a0) (a1) (a2):zhW jA (a0,a1,a2,())=zbS jA a0 a1 a2:=by kernel_rfl
def QW:KY:=zhW xV
theorem znd:Con.Ok Tryz.prog 122 ⟨QU,QV,QW⟩:=zy (zf zaF zi) zm (by kernel_rfl)
theorem zne (a0) (a1) (a2):QW (a0,a1,a2,())=zbS xV a0 a1 a2:=zrV xV a0 a1 a2
abbrev WU:List VT:=[⟨true,qo⟩,⟨false,I⟩,⟨false,I⟩,⟨false,I⟩]
abbrev WV:List VT:=[⟨false,I⟩]
def ztH:qa:=zT [cdF qo,cdF jt] [] [] [] [46]
def zeF (jA:Zz) (a0:jf) (a1:Int) (a2:Int) (a3:Int):Option (Int×Unit):=
 opt (jA (a0,())) fun x0=>
 bif !(zj x0.1 0) then some (x0.1,())
 else opt (bif zt a1 0 then some (1,((2,()),()))
   else bif !(zt a1 8) then some (1,((2,()),()))
    else bif zt a2 (-1099511627776) then some (1,((2,()),()))
     else bif zt 1099511627776 a2 then some (1,((2,()),()))
      else bif zt a3 0 then some (1,((2,()),()))
       else bif zt 1099511627776 a3 then some (1,((2,()),()))
        else some (0,((0,()),()))) fun x1=>
  bif Nat.beq x1.1 0 then some (0,())
  else some (x1.2.1.1,())
abbrev zag:Type:=(jf×Int×Int×Int×Unit)→Option (Int×Unit)
def zll:Zz→zag:=fun jA=>sF Tryz.prog [(46,⟨uE,uF,jA⟩)] ztH (zL []) 30 177 WU WV
theorem zvp (jA) (a0) (a1) (a2) (a3):zll jA (a0,a1,a2,a3,())=zeF jA a0 a1 a2 a3:=by kernel_rfl
def WW:zag:=zll xV
theorem zqg:Con.Ok Tryz.prog 177 ⟨WU,WV,WW⟩:=zy (zf zaF zi) zm (by kernel_rfl)
theorem zqh (a0) (a1) (a2) (a3):WW (a0,a1,a2,a3,())=zeF xV a0 a1 a2 a3:=zvp xV a0 a1 a2 a3
abbrev XF:List VT:=[⟨true,qo⟩,⟨false,I⟩]
abbrev XG:List VT:=[⟨false,I⟩,⟨false,I⟩]
def zvq:qa:=zT [cdF qo,cdF jt] [] [] [] []
def zgE (a0:jf) (a1:Int):Option (Int×Int×Unit):=
 bif zj a0.2 0 then none
 else bif zj a0.2 0 then none
  else opt (atI a0.1 0) fun x0=>
   bif (!(zt (Int.tmod (wrF .i64 ((Int.tmod a1 a0.2)+a0.2)) a0.2) x0.2)) then opt (atI a0.1 0) fun x1=>
    opt (qh (fun s2:((Int×(Int×(Int×Unit)))×Unit)=>
     opt (atI a0.1 s2.1.2.1) fun x3=>
     bif !(zt s2.1.1 x3.2) then opt (atI a0.1 s2.1.2.1) fun x4=>
      some (.inr (((wrF .i64 (s2.1.1 - x4.2)),((wrF .i64 (s2.1.2.1+1)),(s2.1.2.2.1,()))),()))
     else opt (atI a0.1 s2.1.2.1) fun x5=>
      some (.inl (0,((s2.1.1,(s2.1.2.1,((wrF .i64 (x5.2 - s2.1.1)),()))),())))) qD (((wrF .i64 ((Int.tmod (wrF .i64 ((Int.tmod a1 a0.2)+a0.2)) a0.2) - x1.2)),(1,(0,()))),())) fun x6=>
    some (x6.2.1.2.1,(x6.2.1.2.2.1,()))
   else opt (atI a0.1 0) fun x7=>
    some (0,((wrF .i64 (x7.2 - (Int.tmod (wrF .i64 ((Int.tmod a1 a0.2)+a0.2)) a0.2))),()))
abbrev zbT:Type:=(jf×Int×Unit)→Option (Int×Int×Unit)
def znf:zbT:=sF Tryz.prog [] zvq (zL []) 30 188 XF XG
theorem zxO (a0) (a1):znf (a0,a1,())=zgE a0 a1:=by kernel_rfl
def XH:zbT:=znf
theorem zrW:Con.Ok Tryz.prog 188 ⟨XF,XG,XH⟩:=zy zi zm (by kernel_rfl)
theorem zrX (a0) (a1):XH (a0,a1,())=zgE  a0 a1:=zxO  a0 a1
abbrev XI:List VT:=[⟨true,qo⟩,⟨false,I⟩,⟨false,I⟩]
abbrev XJ:List VT:=[⟨false,I⟩]
def zvr:qa:=zT [cdF qo,cdF jt] [] [] [] [188]
def zgF (Vl:zbT) (a0:jf) (a1:Int) (a2:Int):Option (Int×Unit):=
 opt (Vl (a0,(a2,()))) fun x0=>
 opt (qh (fun s1:((Int×(((List (Int×Int))×Int)×(Int×(Int×(Int×(Int×(Int×Unit)))))))×Unit)=>
  bif (zt s1.1.2.2.2.2.2.2.1 (wrF .i64 (((a0.1.length:Nat):Int)+1))) then opt (atI s1.1.2.1.1 s1.1.2.2.2.2.1) fun x2=>
   bif zt s1.1.1 0 then none
   else bif (!(zj (gG .and .i64 (yu .i64 x2.1 s1.1.1) 1) 1)) then some (.inl (1,((s1.1.1,(s1.1.2.1,(s1.1.2.2.2.1,(s1.1.2.2.2.1,(s1.1.2.2.2.2.1,(s1.1.2.2.2.2.2.1,(s1.1.2.2.2.2.2.2.1,()))))))),())))
    else bif (zj ((s1.1.2.1.1.length:Nat):Int) 0) then none
     else opt (atI s1.1.2.1.1 (Int.tmod (wrF .i64 (s1.1.2.2.2.2.1+1)) ((s1.1.2.1.1.length:Nat):Int))) fun x3=>
      some (.inr ((s1.1.1,(s1.1.2.1,(s1.1.2.2.1,((wrF .i64 (s1.1.2.2.2.1+s1.1.2.2.2.2.2.1)),((Int.tmod (wrF .i64 (s1.1.2.2.2.2.1+1)) ((s1.1.2.1.1.length:Nat):Int)),(x3.2,((wrF .i64 (s1.1.2.2.2.2.2.2.1+1)),()))))))),()))
  else some (.inl (0,((s1.1.1,(s1.1.2.1,(s1.1.2.2.1,(s1.1.2.2.2.1,(s1.1.2.2.2.2.1,(s1.1.2.2.2.2.2.1,(s1.1.2.2.2.2.2.2.1,()))))))),())))) qD ((a1,(a0,(0,(0,(x0.1,(x0.2.1,(0,()))))))),())) fun x4=>
 bif Nat.beq x4.1 0 then bif zj x4.2.1.2.1.2 a0.2 then some (1099511627776,())
  else some (x4.2.1.2.1.2,())
 else bif zj x4.2.1.2.2.1 a0.2 then some (1099511627776,())
  else some (x4.2.1.2.2.1,())
abbrev zbU:Type:=(jf×Int×Int×Unit)→Option (Int×Unit)
def zng:zbT→zbU:=fun Vl=>sF Tryz.prog [(188,⟨XF,XG,Vl⟩)] zvr (zL []) 30 178 XI XJ
theorem zxP (Vl) (a0) (a1) (a2):zng Vl (a0,a1,a2,())=zgF Vl a0 a1 a2:=by kernel_rfl
def XK:zbU:=zng XH
theorem zrY:Con.Ok Tryz.prog 178 ⟨XI,XJ,XK⟩:=zy (zf zrW zi) zm (by kernel_rfl)
theorem zrZ (a0) (a1) (a2):XK (a0,a1,a2,())=zgF XH a0 a1 a2:=zxP XH a0 a1 a2
abbrev XL:List VT:=[⟨true,qo⟩,⟨false,I⟩,⟨false,I⟩]
abbrev XM:List VT:=[⟨false,I⟩,⟨false,I⟩]
def zvs:qa:=zT [cdF qo,cdF jt] [] [] [] [177,178]
def zgG (Yj:zag) (Vm:zbU) (a0:jf) (a1:Int) (a2:Int):Option (Int×Int×Unit):=
 opt (Yj (a0,(a1,(a2,(0,()))))) fun x0=>
 bif !(zj x0.1 0) then some (0,(x0.1,()))
 else opt (Vm (a0,(a1,(a2,())))) fun x1=>
  some (x1.1,(0,()))
abbrev zbV:Type:=(jf×Int×Int×Unit)→Option (Int×Int×Unit)
def znh:zag→zbU→zbV:=fun Yj Vm=>sF Tryz.prog [(177,⟨WU,WV,Yj⟩),(178,⟨XI,XJ,Vm⟩)] zvs (zL []) 30 157 XL XM
theorem zxQ (Yj) (Vm) (a0) (a1) (a2):znh Yj Vm (a0,a1,a2,())=zgG Yj Vm a0 a1 a2:=by kernel_rfl
def XN:zbV:=znh WW XK
theorem zr0:Con.Ok Tryz.prog 157 ⟨XL,XM,XN⟩:=zy (zf zqg (zf zrY zi)) zm (by kernel_rfl)
theorem zr1 (a0) (a1) (a2):XN (a0,a1,a2,())=zgG WW XK a0 a1 a2:=zxQ WW XK a0 a1 a2
abbrev Qb:List VT:=[⟨true,qo⟩]
abbrev Qc:List VT:=[⟨false,.bool⟩]
def zoO:qa:=zT [cdF qo,cdF jt] [] [] [] [157]
def zaJ (Vn:zbV) (a0:jf):Option (Bool×Unit):=
 opt (Vn (a0,(6,(0,())))) fun x0=>
 bif zj x0.2.1 0 then some ((zj x0.1 1099511627776),())
 else some (false,())
abbrev VQ:Type:=(jf×Unit)→Option (Bool×Unit)
def zgH:zbV→VQ:=fun Vn=>sF Tryz.prog [(157,⟨XL,XM,Vn⟩)] zoO (zL []) 30 147 Qb Qc
theorem zqi (Vn) (a0):zgH Vn (a0,())=zaJ Vn a0:=by kernel_rfl
def Qd:VQ:=zgH XN
theorem zlO:Con.Ok Tryz.prog 147 ⟨Qb,Qc,Qd⟩:=zy (zf zr0 zi) zm (by kernel_rfl)
theorem zlP (a0):Qd (a0,())=zaJ XN a0:=zqi XN a0
abbrev ux:List VT:=[⟨true,jt⟩]
abbrev uz:List VT:=[⟨false,.bool⟩]
def zoP:qa:=zT [cdF jt] [] [] [] []
def VR (a0:zfL):Option (Bool×Unit):=
 some ((zj (gG .and .i64 (yu .i64 a0.1 6) 1) 1),())
abbrev Qe:Type:=(zfL×Unit)→Option (Bool×Unit)
def zgI:Qe:=sF Tryz.prog [] zoP (zL []) 30 159 ux uz
theorem zqj (a0):zgI (a0,())=VR a0:=by kernel_rfl
def vE:Qe:=zgI
theorem zcJ:Con.Ok Tryz.prog 159 ⟨ux,uz,vE⟩:=zy zi zm (by kernel_rfl)
theorem zcK (a0):vE (a0,())=VR  a0:=zqj  a0
abbrev Za:List VT:=[⟨true,qo⟩,⟨false,I⟩]
abbrev Zb:List VT:=[⟨false,I⟩]
def zni:qa:=zT [cdF qo,cdF jt] [] [] [] [147,159]
def Xa (Qr:VQ) (jO:Qe) (a0:jf) (a1:Int):Option (Int×Unit):=
 opt (Qr (a0,())) fun x0=>
 bif x0.1 then some (a0.2,())
 else opt (qh (fun s1:((Int×(Int×(Int×Unit)))×(Unit×(Unit×Unit)))=>
   bif (zt s1.1.2.2.1 ((a0.1.length:Nat):Int)) then opt (atI a0.1 s1.1.2.2.1) fun x2=>
    opt (jO (x2,())) fun x3=>
    bif x3.1 then opt (atI a0.1 s1.1.2.2.1) fun x4=>
     some (.inr ((s1.1.1,((wrF .i64 (s1.1.2.1+x4.2)),((wrF .i64 (s1.1.2.2.1+1)),()))),((),((),()))))
    else some (.inl (0,((s1.1.1,(s1.1.2.1,(s1.1.2.2.1,()))),((),((),())))))
   else some (.inl (0,((s1.1.1,(s1.1.2.1,(s1.1.2.2.1,()))),((),((),())))))) qD ((0,(0,(0,()))),((),((),())))) fun x5=>
  bif (zj x5.2.1.2.2.1 ((a0.1.length:Nat):Int)) then some (x5.2.1.1,())
  else opt (atI a0.1 x5.2.1.2.2.1) fun x6=>
   opt (qh (fun s7:(((Int×Int)×(Int×(Int×(Int×Unit))))×(Unit×(Unit×Unit)))=>
    bif (zt s7.1.2.2.2.1 ((a0.1.length:Nat):Int)) then bif (zj ((a0.1.length:Nat):Int) 0) then none
     else opt (atI a0.1 (Int.tmod (wrF .i64 ((wrF .i64 (x5.2.1.2.2.1+1))+s7.1.2.2.2.1)) ((a0.1.length:Nat):Int))) fun x8=>
      opt (jO (x8,())) fun x9=>
      bif x9.1 then opt (bif zj s7.1.1.2 0 then some (0,(((s7.1.2.2.1,s7.1.1.2),()),((),((),()))))
        else some (0,((s7.1.1,()),((),((),()))))) fun x10=>
       some (.inr (((x10.2.1.1.1,(wrF .i64 (x10.2.1.1.2+x8.2))),(s7.1.2.1,((wrF .i64 (s7.1.2.2.1+x8.2)),((wrF .i64 (s7.1.2.2.2.1+1)),())))),((),((),()))))
      else bif zt 0 s7.1.1.2 then some (.inr (((0,0),((wrF .i64 (s7.1.2.1+(WK 0 (wrF .i64 (s7.1.1.2 - a1))))),((wrF .i64 (s7.1.2.2.1+x8.2)),((wrF .i64 (s7.1.2.2.2.1+1)),())))),((),((),()))))
       else some (.inr (((0,0),(s7.1.2.1,((wrF .i64 (s7.1.2.2.1+x8.2)),((wrF .i64 (s7.1.2.2.2.1+1)),())))),((),((),()))))
    else some (.inl (0,((s7.1.1,(s7.1.2.1,(s7.1.2.2.1,(s7.1.2.2.2.1,())))),((),((),())))))) qD (((0,0),(x5.2.1.1,((wrF .i64 (x5.2.1.2.1+x6.2)),(0,())))),((),((),())))) fun x11=>
   bif Nat.beq x11.1 0 then some (x11.2.1.2.1,())
   else some (x11.2.1.2.1,())
abbrev Xb:Type:=(jf×Int×Unit)→Option (Int×Unit)
def zfc:VQ→Qe→Xb:=fun Qr jO=>sF Tryz.prog [(147,⟨Qb,Qc,Qr⟩),(159,⟨ux,uz,jO⟩)] zni (zL []) 30 123 Za Zb
theorem zoQ (Qr) (jO) (a0) (a1):zfc Qr jO (a0,a1,())=Xa Qr jO a0 a1:=by kernel_rfl
def uR:Xb:=zfc Qd vE
theorem zkI:Con.Ok Tryz.prog 123 ⟨Za,Zb,uR⟩:=zy (zf zlO (zf zcJ zi)) zm (by kernel_rfl)
theorem zbW (a0) (a1):uR (a0,a1,())=Xa Qd vE a0 a1:=zoQ Qd vE a0 a1
abbrev WX:List VT:=[⟨false,I⟩,⟨false,I⟩]
abbrev WY:List VT:=[⟨false,I⟩]
def ztI:qa:=zT [] [] [] [] []
def zeG (a0:Int) (a1:Int):Option (Int×Unit):=
 bif zj a1 0 then none
 else bif zj a1 0 then none
  else some ((Int.tmod (wrF .i64 ((Int.tmod a0 a1)+a1)) a1),())
abbrev zah:Type:=(Int×Int×Unit)→Option (Int×Unit)
def zlm:zah:=sF Tryz.prog [] ztI (zL []) 30 149 WX WY
theorem zvt (a0) (a1):zlm (a0,a1,())=zeG a0 a1:=by kernel_rfl
def WZ:zah:=zlm
theorem zqk:Con.Ok Tryz.prog 149 ⟨WX,WY,WZ⟩:=zy zi zm (by kernel_rfl)
theorem zql (a0) (a1):WZ (a0,a1,())=zeG  a0 a1:=zvt  a0 a1
abbrev gf:List VT:=[⟨false,I⟩,⟨false,I⟩]
abbrev gg:List VT:=[⟨false,I⟩]
def zlQ:qa:=zT [] [] [] [] [149]
def UD (Yk:zah) (a0:Int) (a1:Int):Option (Int×Unit):=
 opt (Yk (a0,(a1,()))) fun x0=>
 bif zj a1 0 then none
 else some ((wrF .i64 (Int.tdiv (wrF .i64 (a0 - x0.1)) a1)),())
abbrev YB:Type:=(Int×Int×Unit)→Option (Int×Unit)
def zee:zah→YB:=fun Yk=>sF Tryz.prog [(149,⟨WX,WY,Yk⟩)] zlQ (zL []) 30 125 gf gg
theorem znj (Yk) (a0) (a1):zee Yk (a0,a1,())=UD Yk a0 a1:=by kernel_rfl
def uA:YB:=zee WZ
theorem zjr:Con.Ok Tryz.prog 125 ⟨gf,gg,uA⟩:=zy (zf zqk zi) zm (by kernel_rfl)
theorem zjs (a0) (a1):uA (a0,a1,())=UD WZ a0 a1:=znj WZ a0 a1
abbrev QG:List VT:=[⟨true,qo⟩,⟨false,I⟩,⟨false,I⟩]
abbrev QH:List VT:=[⟨true,JD⟩,⟨false,I⟩]
def zvu:qa:=zT [cdF qo,cdF jt] [] [⟨7,87,none,wq,true⟩,⟨12,87,none,wq,true⟩,⟨7,87,some 6,wq,false⟩,⟨12,87,some 6,wq,false⟩,⟨2,48,none,wq,true⟩,⟨6,48,none,wq,true⟩,⟨2,90,none,wq,true⟩,⟨5,90,none,wq,true⟩,⟨9,90,none,wq,true⟩,⟨12,90,none,wq,true⟩,⟨13,90,none,wq,true⟩,⟨18,90,none,wq,true⟩,⟨8,90,none,wq,true⟩] [] [122,123,125,159]
def UE (Jh:KY) (Zp:Xb) (xM:YB) (jO:Qe) (a0:jf) (a1:Int) (a2:Int):Option (vD×Int×Unit):=
 opt (Jh (a0,(a1,(a2,())))) fun x0=>
 bif !(zj x0.1 0) then some ((0,0),(x0.1,()))
 else opt (Zp (a0,((wrF .i64 (a2*a1)),()))) fun x1=>
  bif (zj (wrF .i64 (a0.2*a1)) 0) then none
  else bif (zt (wrF .i64 (Int.tdiv (wrF .i64 (x1.1*1048576)) (wrF .i64 (a0.2*a1)))) 1) then some ((0,0),(4,()))
   else opt (xM ((wrF .i64 ((wrF .i64 ((-127)*a1))*1048576)),((wrF .i64 ((wrF .i64 (Int.tdiv (wrF .i64 (x1.1*1048576)) (wrF .i64 (a0.2*a1))))*a1)),()))) fun x2=>
    opt (qh (fun s3:((Int×(Int×Unit))×(((List (Int×Int))×Unit)×(Unit×(Unit×Unit))))=>
     bif (zt s3.1.2.1 ((a0.1.length:Nat):Int)) then opt (atI a0.1 s3.1.2.1) fun x4=>
      opt (jO (x4,())) fun x5=>
      bif x5.1 then opt (atI a0.1 s3.1.2.1) fun x6=>
       some (.inr (((wrF .i64 (s3.1.1+x6.2)),((wrF .i64 (s3.1.2.1+1)),())),((s3.2.1.1,()),((),((),())))))
      else some (.inl (0,((s3.1.1,(s3.1.2.1,())),((s3.2.1.1,()),((),((),()))))))
     else some (.inl (0,((s3.1.1,(s3.1.2.1,())),((s3.2.1.1,()),((),((),()))))))) qD ((0,(0,())),(([],()),((),((),()))))) fun x7=>
    bif (zj x7.2.1.2.1 ((a0.1.length:Nat):Int)) then opt (qh (fun s8:((Int×(Int×(Int×(Int×Unit))))×(Unit×Unit))=>
      bif (zt s8.1.2.2.2.1 ((x7.2.2.1.1.length:Nat):Int)) then opt (atI x7.2.2.1.1 s8.1.2.2.2.1) fun x9=>
       opt (gl x7.2.2.1.1 (Int.toNat s8.1.2.2.2.1)) fun x10=>
       opt (qh (fun s11:((Int×(Int×(Int×(Int×(Int×Unit)))))×(Unit×Unit))=>
        bif (zt s11.1.2.2.2.2.1 ((x7.2.2.1.1.length:Nat):Int)) then bif (zj ((x7.2.2.1.1.length:Nat):Int) 0) then none
         else opt (atI x7.2.2.1.1 (Int.tmod (wrF .i64 ((wrF .i64 (s8.1.2.2.2.1+1))+s11.1.2.2.2.2.1)) ((x7.2.2.1.1.length:Nat):Int))) fun x12=>
          opt (gl x7.2.2.1.1 (Int.toNat (Int.tmod (wrF .i64 ((wrF .i64 (s8.1.2.2.2.1+1))+s11.1.2.2.2.2.1)) ((x7.2.2.1.1.length:Nat):Int)))) fun x13=>
          bif (zj ((x7.2.2.1.1.length:Nat):Int) 0) then none
          else opt (xM ((wrF .i64 ((wrF .i64 (s11.1.2.2.2.1 - (wrF .i64 (127*s11.1.2.2.1))))*1048576)),((wrF .i64 (s11.1.2.1*s11.1.2.2.1)),()))) fun x14=>
           some (.inr (((WK s11.1.1 (wrF .i64 ((wrF .i64 ((wrF .i64 ((wrF .i64 (x13.1+(wrF .i64 ((wrF .i64 (Int.tdiv (wrF .i64 ((wrF .i64 (s8.1.2.2.2.1+1))+s11.1.2.2.2.2.1)) ((x7.2.2.1.1.length:Nat):Int)))*a0.2))))+(VI (wrF .i64 (a2*a1)) x13.2))) - (wrF .i64 ((wrF .i64 (x10.1+x10.2)) - (VI (wrF .i64 (a2*a1)) x10.2))))) - x14.1))),(s11.1.2.1,(s11.1.2.2.1,((wrF .i64 (s11.1.2.2.2.1+(WK 0 (wrF .i64 (x13.2 - (wrF .i64 (a2*a1))))))),((wrF .i64 (s11.1.2.2.2.2.1+1)),()))))),((),())))
        else some (.inl (0,((s11.1.1,(s11.1.2.1,(s11.1.2.2.1,(s11.1.2.2.2.1,(s11.1.2.2.2.2.1,()))))),((),()))))) qD ((s8.1.1,(s8.1.2.1,(s8.1.2.2.1,(0,(0,()))))),((),()))) fun x15=>
       some (.inr ((x15.2.1.1,(x15.2.1.2.1,(x15.2.1.2.2.1,((wrF .i64 (s8.1.2.2.2.1+1)),())))),((),())))
      else some (.inl (0,((s8.1.1,(s8.1.2.1,(s8.1.2.2.1,(s8.1.2.2.2.1,())))),((),()))))) qD (((WK 0 (wrF .i64 (0 - x2.1))),((wrF .i64 (Int.tdiv (wrF .i64 (x1.1*1048576)) (wrF .i64 (a0.2*a1)))),(a1,(0,())))),((),()))) fun x16=>
     some ((x16.2.1.2.1,x16.2.1.1),(0,()))
    else opt (atI a0.1 x7.2.1.2.1) fun x17=>
     opt (qh (fun s18:(((Int×Int)×(Int×(Int×Unit)))×(((List (Int×Int))×Unit)×(Unit×(Unit×Unit))))=>
      bif (zt s18.1.2.2.1 ((a0.1.length:Nat):Int)) then bif (zj ((a0.1.length:Nat):Int) 0) then none
       else opt (atI a0.1 (Int.tmod (wrF .i64 ((wrF .i64 (x7.2.1.2.1+1))+s18.1.2.2.1)) ((a0.1.length:Nat):Int))) fun x19=>
        opt (jO (x19,())) fun x20=>
        bif x20.1 then opt (bif zj s18.1.1.2 0 then some (0,(((s18.1.2.1,s18.1.1.2),()),((),((),()))))
          else some (0,((s18.1.1,()),((),((),()))))) fun x21=>
         some (.inr (((x21.2.1.1.1,(wrF .i64 (x21.2.1.1.2+x19.2))),((wrF .i64 (s18.1.2.1+x19.2)),((wrF .i64 (s18.1.2.2.1+1)),()))),((s18.2.1.1,()),((),((),())))))
        else bif zt 0 s18.1.1.2 then bif (xj s18.2.1.1.length ((s18.1.1::[]).length) 16) then some (.inr (((0,0),((wrF .i64 (s18.1.2.1+x19.2)),((wrF .i64 (s18.1.2.2.1+1)),()))),(((s18.2.1.1++(s18.1.1::[])),()),((),((),())))))
          else none
         else some (.inr (((0,0),((wrF .i64 (s18.1.2.1+x19.2)),((wrF .i64 (s18.1.2.2.1+1)),()))),((s18.2.1.1,()),((),((),())))))
      else some (.inl (0,((s18.1.1,(s18.1.2.1,(s18.1.2.2.1,()))),((s18.2.1.1,()),((),((),()))))))) qD (((0,0),((wrF .i64 (x7.2.1.1+x17.2)),(0,()))),((x7.2.2.1.1,()),((),((),()))))) fun x22=>
     bif Nat.beq x22.1 0 then opt (qh (fun s23:((Int×(Int×(Int×(Int×Unit))))×(Unit×Unit))=>
       bif (zt s23.1.2.2.2.1 ((x22.2.2.1.1.length:Nat):Int)) then opt (atI x22.2.2.1.1 s23.1.2.2.2.1) fun x24=>
        opt (gl x22.2.2.1.1 (Int.toNat s23.1.2.2.2.1)) fun x25=>
        opt (qh (fun s26:((Int×(Int×(Int×(Int×(Int×Unit)))))×(Unit×Unit))=>
         bif (zt s26.1.2.2.2.2.1 ((x22.2.2.1.1.length:Nat):Int)) then bif (zj ((x22.2.2.1.1.length:Nat):Int) 0) then none
          else opt (atI x22.2.2.1.1 (Int.tmod (wrF .i64 ((wrF .i64 (s23.1.2.2.2.1+1))+s26.1.2.2.2.2.1)) ((x22.2.2.1.1.length:Nat):Int))) fun x27=>
           opt (gl x22.2.2.1.1 (Int.toNat (Int.tmod (wrF .i64 ((wrF .i64 (s23.1.2.2.2.1+1))+s26.1.2.2.2.2.1)) ((x22.2.2.1.1.length:Nat):Int)))) fun x28=>
           bif (zj ((x22.2.2.1.1.length:Nat):Int) 0) then none
           else opt (xM ((wrF .i64 ((wrF .i64 (s26.1.2.2.2.1 - (wrF .i64 (127*s26.1.2.2.1))))*1048576)),((wrF .i64 (s26.1.2.1*s26.1.2.2.1)),()))) fun x29=>
            some (.inr (((WK s26.1.1 (wrF .i64 ((wrF .i64 ((wrF .i64 ((wrF .i64 (x28.1+(wrF .i64 ((wrF .i64 (Int.tdiv (wrF .i64 ((wrF .i64 (s23.1.2.2.2.1+1))+s26.1.2.2.2.2.1)) ((x22.2.2.1.1.length:Nat):Int)))*a0.2))))+(VI (wrF .i64 (a2*a1)) x28.2))) - (wrF .i64 ((wrF .i64 (x25.1+x25.2)) - (VI (wrF .i64 (a2*a1)) x25.2))))) - x29.1))),(s26.1.2.1,(s26.1.2.2.1,((wrF .i64 (s26.1.2.2.2.1+(WK 0 (wrF .i64 (x28.2 - (wrF .i64 (a2*a1))))))),((wrF .i64 (s26.1.2.2.2.2.1+1)),()))))),((),())))
         else some (.inl (0,((s26.1.1,(s26.1.2.1,(s26.1.2.2.1,(s26.1.2.2.2.1,(s26.1.2.2.2.2.1,()))))),((),()))))) qD ((s23.1.1,(s23.1.2.1,(s23.1.2.2.1,(0,(0,()))))),((),()))) fun x30=>
        some (.inr ((x30.2.1.1,(x30.2.1.2.1,(x30.2.1.2.2.1,((wrF .i64 (s23.1.2.2.2.1+1)),())))),((),())))
       else some (.inl (0,((s23.1.1,(s23.1.2.1,(s23.1.2.2.1,(s23.1.2.2.2.1,())))),((),()))))) qD (((WK 0 (wrF .i64 (0 - x2.1))),((wrF .i64 (Int.tdiv (wrF .i64 (x1.1*1048576)) (wrF .i64 (a0.2*a1)))),(a1,(0,())))),((),()))) fun x31=>
      some ((x31.2.1.2.1,x31.2.1.1),(0,()))
     else opt (qh (fun s32:((Int×(Int×(Int×(Int×Unit))))×(Unit×Unit))=>
       bif (zt s32.1.2.2.2.1 ((x22.2.2.1.1.length:Nat):Int)) then opt (atI x22.2.2.1.1 s32.1.2.2.2.1) fun x33=>
        opt (gl x22.2.2.1.1 (Int.toNat s32.1.2.2.2.1)) fun x34=>
        opt (qh (fun s35:((Int×(Int×(Int×(Int×(Int×Unit)))))×(Unit×Unit))=>
         bif (zt s35.1.2.2.2.2.1 ((x22.2.2.1.1.length:Nat):Int)) then bif (zj ((x22.2.2.1.1.length:Nat):Int) 0) then none
          else opt (atI x22.2.2.1.1 (Int.tmod (wrF .i64 ((wrF .i64 (s32.1.2.2.2.1+1))+s35.1.2.2.2.2.1)) ((x22.2.2.1.1.length:Nat):Int))) fun x36=>
           opt (gl x22.2.2.1.1 (Int.toNat (Int.tmod (wrF .i64 ((wrF .i64 (s32.1.2.2.2.1+1))+s35.1.2.2.2.2.1)) ((x22.2.2.1.1.length:Nat):Int)))) fun x37=>
           bif (zj ((x22.2.2.1.1.length:Nat):Int) 0) then none
           else opt (xM ((wrF .i64 ((wrF .i64 (s35.1.2.2.2.1 - (wrF .i64 (127*s35.1.2.2.1))))*1048576)),((wrF .i64 (s35.1.2.1*s35.1.2.2.1)),()))) fun x38=>
            some (.inr (((WK s35.1.1 (wrF .i64 ((wrF .i64 ((wrF .i64 ((wrF .i64 (x37.1+(wrF .i64 ((wrF .i64 (Int.tdiv (wrF .i64 ((wrF .i64 (s32.1.2.2.2.1+1))+s35.1.2.2.2.2.1)) ((x22.2.2.1.1.length:Nat):Int)))*a0.2))))+(VI (wrF .i64 (a2*a1)) x37.2))) - (wrF .i64 ((wrF .i64 (x34.1+x34.2)) - (VI (wrF .i64 (a2*a1)) x34.2))))) - x38.1))),(s35.1.2.1,(s35.1.2.2.1,((wrF .i64 (s35.1.2.2.2.1+(WK 0 (wrF .i64 (x37.2 - (wrF .i64 (a2*a1))))))),((wrF .i64 (s35.1.2.2.2.2.1+1)),()))))),((),())))
         else some (.inl (0,((s35.1.1,(s35.1.2.1,(s35.1.2.2.1,(s35.1.2.2.2.1,(s35.1.2.2.2.2.1,()))))),((),()))))) qD ((s32.1.1,(s32.1.2.1,(s32.1.2.2.1,(0,(0,()))))),((),()))) fun x39=>
        some (.inr ((x39.2.1.1,(x39.2.1.2.1,(x39.2.1.2.2.1,((wrF .i64 (s32.1.2.2.2.1+1)),())))),((),())))
       else some (.inl (0,((s32.1.1,(s32.1.2.1,(s32.1.2.2.1,(s32.1.2.2.2.1,())))),((),()))))) qD (((WK 0 (wrF .i64 (0 - x2.1))),((wrF .i64 (Int.tdiv (wrF .i64 (x1.1*1048576)) (wrF .i64 (a0.2*a1)))),(a1,(0,())))),((),()))) fun x40=>
      some ((x40.2.1.2.1,x40.2.1.1),(0,()))
abbrev zbX:Type:=(jf×Int×Int×Unit)→Option (vD×Int×Unit)
def znk:KY→Xb→YB→Qe→zbX:=fun Jh Zp xM jO=>sF Tryz.prog [(122,⟨QU,QV,Jh⟩),(123,⟨Za,Zb,Zp⟩),(125,⟨gf,gg,xM⟩),(159,⟨ux,uz,jO⟩)] zvu (zL []) 30 86 QG QH
theorem zxR (Jh) (Zp) (xM) (jO) (a0) (a1) (a2):znk Jh Zp xM jO (a0,a1,a2,())=UE Jh Zp xM jO a0 a1 a2:=by kernel_rfl
def xK:zbX:=znk QW uR uA vE
theorem zr2:Con.Ok Tryz.prog 86 ⟨QG,QH,xK⟩:=zy (zf znd (zf zkI (zf zjr (zf zcJ zi)))) zm (by kernel_rfl)
theorem zbY (a0) (a1) (a2):xK (a0,a1,a2,())=UE QW uR uA vE a0 a1 a2:=zxR QW uR uA vE a0 a1 a2
abbrev XO:List VT:=[⟨false,(.list zu)⟩]
abbrev XP:List VT:=[⟨true,zu⟩,⟨false,I⟩]
def zvv:qa:=zT [cdF zu] [] [] [] [69]
def zgJ (qp:vP) (a0:(List jP)):Option (jP×Int×Unit):=
 bif (zj ((a0.length:Nat):Int) 0) then some ((0,0),(2,()))
 else bif (zt 12 ((a0.length:Nat):Int)) then some ((0,0),(3,()))
  else opt (qh (fun s0:(((Int×Int)×((Int×Int)×(Int×(Int×Unit))))×Unit)=>
    bif (zt s0.1.2.2.2.1 ((a0.length:Nat):Int)) then opt (atI a0 s0.1.2.2.2.1) fun x1=>
     opt (qp (x1,())) fun x2=>
     bif !(zj x2.1 0) then some (.inl (1,(((0,0),(s0.1.2.1,(x2.1,(s0.1.2.2.2.1,())))),())))
     else some (.inr ((s0.1.1,(((wrF .i64 (s0.1.2.1.1+x1.1)),(wrF .i64 (s0.1.2.1.2+x1.2))),(s0.1.2.2.1,((wrF .i64 (s0.1.2.2.2.1+1)),())))),()))
    else some (.inl (0,((s0.1.1,(s0.1.2.1,(s0.1.2.2.1,(s0.1.2.2.2.1,())))),())))) qD (((0,0),((0,0),(0,(0,())))),())) fun x3=>
   bif Nat.beq x3.1 0 then opt (qp (x3.2.1.2.1,())) fun x4=>
    bif !(zj x4.1 0) then some ((0,0),(6,()))
    else some (x3.2.1.2.1,(0,()))
   else some (x3.2.1.1,(x3.2.1.2.2.1,()))
abbrev zbZ:Type:=((List jP)×Unit)→Option (jP×Int×Unit)
def znl:vP→zbZ:=fun qp=>sF Tryz.prog [(69,⟨xt,xu,qp⟩)] zvv (zL []) 30 87 XO XP
theorem zxS (qp) (a0):znl qp (a0,())=zgJ qp a0:=by kernel_rfl
def uB:zbZ:=znl wQ
theorem zr3:Con.Ok Tryz.prog 87 ⟨XO,XP,uB⟩:=zy (zf YY zi) zm (by kernel_rfl)
theorem zr4 (a0):uB (a0,())=zgJ wQ a0:=zxS wQ a0
abbrev ZD:List VT:=[⟨true,JD⟩]
abbrev ZE:List VT:=[⟨false,I⟩]
def ztJ:qa:=zT [cdF JD] [] [] [] []
def zeH (a0:vD):Option (Int×Unit):=
 opt (bif zt a0.1 1 then some (1,((140,()),()))
  else bif zt 2097152 a0.1 then some (1,((140,()),()))
   else bif zt a0.2 0 then some (1,((140,()),()))
    else bif zt 268435456 a0.2 then some (1,((140,()),()))
     else some (0,((0,()),()))) fun x0=>
 bif Nat.beq x0.1 0 then some (0,())
 else some (x0.2.1.1,())
abbrev Ya:Type:=(vD×Unit)→Option (Int×Unit)
def zln:Ya:=sF Tryz.prog [] ztJ (zL []) 30 132 ZD ZE
theorem zvw (a0):zln (a0,())=zeH a0:=by kernel_rfl
def kB:Ya:=zln
theorem zgK:Con.Ok Tryz.prog 132 ⟨ZD,ZE,kB⟩:=zy zi zm (by kernel_rfl)
theorem zqm (a0):kB (a0,())=zeH  a0:=zvw  a0
abbrev ZF:List VT:=[⟨false,(.list I)⟩]
abbrev ZG:List VT:=[⟨false,.bool⟩]
def ztK:qa:=zT [] [] [] [] []
def zeI (a0:(List Int)):Option (Bool×Unit):=
 opt (qh (fun s0:((Bool×(Int×Unit))×Unit)=>
  bif (zt s0.1.2.1 ((a0.length:Nat):Int)) then opt (atI a0 s0.1.2.1) fun x1=>
   opt (bif zt x1 (-1125899906842624) then some (1,((false,()),()))
    else bif zt 1125899906842624 x1 then some (1,((false,()),()))
     else some (0,((s0.1.1,()),()))) fun x2=>
   bif Nat.beq x2.1 0 then some (.inr ((x2.2.1.1,((wrF .i64 (s0.1.2.1+1)),())),()))
   else some (.inl (1,((x2.2.1.1,(s0.1.2.1,())),())))
  else some (.inl (0,((s0.1.1,(s0.1.2.1,())),())))) qD ((false,(0,())),())) fun x3=>
 bif Nat.beq x3.1 0 then some (true,())
 else some (x3.2.1.1,())
abbrev Yb:Type:=((List Int)×Unit)→Option (Bool×Unit)
def zlo:Yb:=sF Tryz.prog [] ztK (zL []) 30 161 ZF ZG
theorem zvx (a0):zlo (a0,())=zeI a0:=by kernel_rfl
def kC:Yb:=zlo
theorem zgL:Con.Ok Tryz.prog 161 ⟨ZF,ZG,kC⟩:=zy zi zm (by kernel_rfl)
theorem zqn (a0):kC (a0,())=zeI  a0:=zvx  a0
abbrev QX:List VT:=[⟨false,I⟩]
abbrev QY:List VT:=[⟨false,(.int .u64)⟩]
def zqo:qa:=zT [] [] [] [] []
def KZ (a0:Int):Option (Int×Unit):=
 bif zt a0 0 then some ((wrF .u64 (wrF .i64 (0 - a0))),())
 else some ((wrF .u64 a0),())
abbrev Ua:Type:=(Int×Unit)→Option (Int×Unit)
def zhX:Ua:=sF Tryz.prog [] zqo (zL []) 30 163 QX QY
theorem zr5 (a0):zhX (a0,())=KZ a0:=by kernel_rfl
def gL:Ua:=zhX
theorem znm:Con.Ok Tryz.prog 163 ⟨QX,QY,gL⟩:=zy zi zm (by kernel_rfl)
theorem zef (a0):gL (a0,())=KZ  a0:=zr5  a0
abbrev Zc:List VT:=[⟨false,(.int .u64)⟩,⟨false,(.int .u64)⟩]
abbrev Zd:List VT:=[⟨false,(.int .u64)⟩,⟨false,(.int .u64)⟩]
def znn:qa:=zT [] [] [] [] []
def GA (a0:Int) (a1:Int):Option (Int×Int×Unit):=
 some ((wrF .u64 ((wrF .u64 ((wrF .u64 ((yu .u64 a0 32)*(yu .u64 a1 32)))+(yu .u64 (wrF .u64 ((wrF .u64 ((yu .u64 a0 32)*(gG .and .u64 a1 4294967295)))+(yu .u64 (wrF .u64 ((gG .and .u64 a0 4294967295)*(gG .and .u64 a1 4294967295))) 32))) 32)))+(yu .u64 (wrF .u64 ((gG .and .u64 (wrF .u64 ((wrF .u64 ((yu .u64 a0 32)*(gG .and .u64 a1 4294967295)))+(yu .u64 (wrF .u64 ((gG .and .u64 a0 4294967295)*(gG .and .u64 a1 4294967295))) 32))) 4294967295)+(wrF .u64 ((gG .and .u64 a0 4294967295)*(yu .u64 a1 32))))) 32))),((wrF .u64 (a0*a1)),()))
abbrev Xc:Type:=(Int×Int×Unit)→Option (Int×Int×Unit)
def zfd:Xc:=sF Tryz.prog [] znn (zL []) 30 162 Zc Zd
theorem zoR (a0) (a1):zfd (a0,a1,())=GA a0 a1:=by kernel_rfl
def Ze:Xc:=zfd
theorem zkJ:Con.Ok Tryz.prog 162 ⟨Zc,Zd,Ze⟩:=zy zi zm (by kernel_rfl)
theorem zkK (a0) (a1):Ze (a0,a1,())=GA  a0 a1:=zoR  a0 a1
abbrev Zf:List VT:=[⟨false,(.int .u64)⟩]
abbrev Zg:List VT:=[⟨false,I⟩]
def zno:qa:=zT [] [] [] [] []
def zfe:(Int×Unit)→Option (Int×Unit):=sF Tryz.prog [] zno (zL []) 30 176 Zf Zg
theorem zkL:Con.Ok Tryz.prog 176 ⟨Zf,Zg,zfe⟩:=zy zi zm (by kernel_rfl)
abbrev xw:List VT:=[⟨false,(.int .u64)⟩]
abbrev xx:List VT:=[⟨false,I⟩]
def zeg:qa:=zT [] [] [] [] [176]
def kD:(Int×Unit)→Option (Int×Unit):=sF Tryz.prog [(176,⟨Zf,Zg,zfe⟩)] zeg (zL []) 30 179 xw xx
theorem zcy:Con.Ok Tryz.prog 179 ⟨xw,xx,kD⟩:=zy (zf zkL zi) zm (by kernel_rfl)
abbrev Zh:List VT:=[⟨false,(.int .u64)⟩,⟨false,(.int .u64)⟩,⟨false,(.int .u64)⟩]
abbrev Zi:List VT:=[⟨false,(.int .u64)⟩,⟨false,(.int .u64)⟩]
def znp:qa:=zT [] [] [] [] [179]
def GB (xB:(Int×Unit)→Option (Int×Unit)) (a0:Int) (a1:Int) (a2:Int):Option (Int×Int×Unit):=
 opt (bif zj a2 0 then none
  else some (0,((),()))) fun x0=>
 opt (bif !(zt a0 a2) then none
  else some (0,((),()))) fun x1=>
 bif zj a0 0 then bif zj a2 0 then none
  else bif zj a2 0 then none
   else some ((wrF .u64 (Int.tdiv a1 a2)),((Int.tmod a1 a2),()))
 else opt (xB (a2,())) fun x2=>
  bif zt (wrF .u64 x2.1) 0 then none
  else bif zt (wrF .u64 x2.1) 0 then none
   else bif (zt (wrF .u64 (64 - (wrF .u64 x2.1))) 0) then none
    else bif zt (wrF .u64 x2.1) 0 then none
     else bif (zj (yu .u64 (xO .u64 a2 (wrF .u64 x2.1)) 32) 0) then none
      else opt (qh (fun s3:((Int×(Int×Unit))×Unit)=>
        bif !(zt s3.1.1 4294967296) then bif (!(zt (wrF .u64 (s3.1.2.1+(yu .u64 (xO .u64 a2 (wrF .u64 x2.1)) 32))) 4294967296)) then some (.inl (0,(((wrF .u64 (s3.1.1 - 1)),((wrF .u64 (s3.1.2.1+(yu .u64 (xO .u64 a2 (wrF .u64 x2.1)) 32))),())),())))
         else some (.inr (((wrF .u64 (s3.1.1 - 1)),((wrF .u64 (s3.1.2.1+(yu .u64 (xO .u64 a2 (wrF .u64 x2.1)) 32))),())),()))
        else bif (zt (wrF .u64 ((wrF .u64 (4294967296*s3.1.2.1))+(yu .u64 (xO .u64 a1 (wrF .u64 x2.1)) 32))) (wrF .u64 (s3.1.1*(gG .and .u64 (xO .u64 a2 (wrF .u64 x2.1)) 4294967295)))) then bif (!(zt (wrF .u64 (s3.1.2.1+(yu .u64 (xO .u64 a2 (wrF .u64 x2.1)) 32))) 4294967296)) then some (.inl (0,(((wrF .u64 (s3.1.1 - 1)),((wrF .u64 (s3.1.2.1+(yu .u64 (xO .u64 a2 (wrF .u64 x2.1)) 32))),())),())))
          else some (.inr (((wrF .u64 (s3.1.1 - 1)),((wrF .u64 (s3.1.2.1+(yu .u64 (xO .u64 a2 (wrF .u64 x2.1)) 32))),())),()))
         else some (.inl (0,((s3.1.1,(s3.1.2.1,())),())))) qD (((wrF .u64 (Int.tdiv (gG .or .u64 (xO .u64 a0 (wrF .u64 x2.1)) (yu .u64 a1 (wrF .u64 (64 - (wrF .u64 x2.1))))) (yu .u64 (xO .u64 a2 (wrF .u64 x2.1)) 32))),((wrF .u64 ((gG .or .u64 (xO .u64 a0 (wrF .u64 x2.1)) (yu .u64 a1 (wrF .u64 (64 - (wrF .u64 x2.1))))) - (wrF .u64 ((wrF .u64 (Int.tdiv (gG .or .u64 (xO .u64 a0 (wrF .u64 x2.1)) (yu .u64 a1 (wrF .u64 (64 - (wrF .u64 x2.1))))) (yu .u64 (xO .u64 a2 (wrF .u64 x2.1)) 32)))*(yu .u64 (xO .u64 a2 (wrF .u64 x2.1)) 32))))),())),())) fun x4=>
       bif (zj (yu .u64 (xO .u64 a2 (wrF .u64 x2.1)) 32) 0) then none
       else opt (qh (fun s5:((Int×(Int×Unit))×Unit)=>
         bif !(zt s5.1.1 4294967296) then bif (!(zt (wrF .u64 (s5.1.2.1+(yu .u64 (xO .u64 a2 (wrF .u64 x2.1)) 32))) 4294967296)) then some (.inl (0,(((wrF .u64 (s5.1.1 - 1)),((wrF .u64 (s5.1.2.1+(yu .u64 (xO .u64 a2 (wrF .u64 x2.1)) 32))),())),())))
          else some (.inr (((wrF .u64 (s5.1.1 - 1)),((wrF .u64 (s5.1.2.1+(yu .u64 (xO .u64 a2 (wrF .u64 x2.1)) 32))),())),()))
         else bif (zt (wrF .u64 ((wrF .u64 (4294967296*s5.1.2.1))+(gG .and .u64 (xO .u64 a1 (wrF .u64 x2.1)) 4294967295))) (wrF .u64 (s5.1.1*(gG .and .u64 (xO .u64 a2 (wrF .u64 x2.1)) 4294967295)))) then bif (!(zt (wrF .u64 (s5.1.2.1+(yu .u64 (xO .u64 a2 (wrF .u64 x2.1)) 32))) 4294967296)) then some (.inl (0,(((wrF .u64 (s5.1.1 - 1)),((wrF .u64 (s5.1.2.1+(yu .u64 (xO .u64 a2 (wrF .u64 x2.1)) 32))),())),())))
           else some (.inr (((wrF .u64 (s5.1.1 - 1)),((wrF .u64 (s5.1.2.1+(yu .u64 (xO .u64 a2 (wrF .u64 x2.1)) 32))),())),()))
          else some (.inl (0,((s5.1.1,(s5.1.2.1,())),())))) qD (((wrF .u64 (Int.tdiv (wrF .u64 ((wrF .u64 ((wrF .u64 ((gG .or .u64 (xO .u64 a0 (wrF .u64 x2.1)) (yu .u64 a1 (wrF .u64 (64 - (wrF .u64 x2.1)))))*4294967296))+(yu .u64 (xO .u64 a1 (wrF .u64 x2.1)) 32))) - (wrF .u64 (x4.2.1.1*(xO .u64 a2 (wrF .u64 x2.1)))))) (yu .u64 (xO .u64 a2 (wrF .u64 x2.1)) 32))),((wrF .u64 ((wrF .u64 ((wrF .u64 ((wrF .u64 ((gG .or .u64 (xO .u64 a0 (wrF .u64 x2.1)) (yu .u64 a1 (wrF .u64 (64 - (wrF .u64 x2.1)))))*4294967296))+(yu .u64 (xO .u64 a1 (wrF .u64 x2.1)) 32))) - (wrF .u64 (x4.2.1.1*(xO .u64 a2 (wrF .u64 x2.1)))))) - (wrF .u64 ((wrF .u64 (Int.tdiv (wrF .u64 ((wrF .u64 ((wrF .u64 ((gG .or .u64 (xO .u64 a0 (wrF .u64 x2.1)) (yu .u64 a1 (wrF .u64 (64 - (wrF .u64 x2.1)))))*4294967296))+(yu .u64 (xO .u64 a1 (wrF .u64 x2.1)) 32))) - (wrF .u64 (x4.2.1.1*(xO .u64 a2 (wrF .u64 x2.1)))))) (yu .u64 (xO .u64 a2 (wrF .u64 x2.1)) 32)))*(yu .u64 (xO .u64 a2 (wrF .u64 x2.1)) 32))))),())),())) fun x6=>
        bif zt (wrF .u64 x2.1) 0 then none
        else some ((wrF .u64 ((wrF .u64 (x4.2.1.1*4294967296))+x6.2.1.1)),((yu .u64 (wrF .u64 ((wrF .u64 ((wrF .u64 ((wrF .u64 ((wrF .u64 ((wrF .u64 ((gG .or .u64 (xO .u64 a0 (wrF .u64 x2.1)) (yu .u64 a1 (wrF .u64 (64 - (wrF .u64 x2.1)))))*4294967296))+(yu .u64 (xO .u64 a1 (wrF .u64 x2.1)) 32))) - (wrF .u64 (x4.2.1.1*(xO .u64 a2 (wrF .u64 x2.1))))))*4294967296))+(gG .and .u64 (xO .u64 a1 (wrF .u64 x2.1)) 4294967295))) - (wrF .u64 (x6.2.1.1*(xO .u64 a2 (wrF .u64 x2.1)))))) (wrF .u64 x2.1)),()))
abbrev Xd:Type:=(Int×Int×Int×Unit)→Option (Int×Int×Unit)
def zff:((Int×Unit)→Option (Int×Unit))→Xd:=fun xB=>sF Tryz.prog [(179,⟨xw,xx,xB⟩)] znp (zL []) 30 164 Zh Zi
theorem zoS (xB) (a0) (a1) (a2):zff xB (a0,a1,a2,())=GB xB a0 a1 a2:=by kernel_rfl
def Zj:Xd:=zff kD
theorem zkM:Con.Ok Tryz.prog 164 ⟨Zh,Zi,Zj⟩:=zy (zf zcy zi) zm (by kernel_rfl)
theorem zkN (a0) (a1) (a2):Zj (a0,a1,a2,())=GB kD a0 a1 a2:=zoS kD a0 a1 a2
abbrev Yc:List VT:=[⟨false,I⟩]
abbrev Yd:List VT:=[⟨false,I⟩,⟨false,.bool⟩]
def ztL:qa:=zT [] [] [] [] [161]
def zeJ (xC:Yb) (a0:Int):Option (Int×Bool×Unit):=
 opt (xC ((a0::[]),())) fun x0=>
 bif !x0.1 then some (0,(false,()))
 else some (a0,(true,()))
abbrev zai:Type:=(Int×Unit)→Option (Int×Bool×Unit)
def zlp:Yb→zai:=fun xC=>sF Tryz.prog [(161,⟨ZF,ZG,xC⟩)] ztL (zL []) 30 165 Yc Yd
theorem zvy (xC) (a0):zlp xC (a0,())=zeJ xC a0:=by kernel_rfl
def Ye:zai:=zlp kC
theorem zqp:Con.Ok Tryz.prog 165 ⟨Yc,Yd,Ye⟩:=zy (zf zgL zi) zm (by kernel_rfl)
theorem zqq (a0):Ye (a0,())=zeJ kC a0:=zvy kC a0
abbrev XQ:List VT:=[⟨false,I⟩,⟨false,I⟩,⟨false,I⟩]
abbrev XR:List VT:=[⟨false,I⟩,⟨false,.bool⟩]
def zvz:qa:=zT [] [] [] [] [161,163,162,164,165]
def zgM (xC:Yb) (gP:Ua) (Zq:Xc) (Zr:Xd) (Yl:zai) (a0:Int) (a1:Int) (a2:Int):Option (Int×Bool×Unit):=
 opt (opt (xC ((a0::(a1::(a2::[]))),())) fun x0=>
  bif !x0.1 then some (1,((0,(false,())),()))
  else bif zt a2 1 then some (1,((0,(false,())),()))
   else some (0,((0,(false,())),()))) fun x1=>
 bif Nat.beq x1.1 0 then opt (gP (a0,())) fun x2=>
  opt (gP (a1,())) fun x3=>
  opt (Zq (x2.1,(x3.1,()))) fun x4=>
  bif (!(zt x4.1 (wrF .u64 a2))) then some (0,(false,()))
  else opt (Zr (x4.1,(x4.2.1,((wrF .u64 a2),())))) fun x5=>
   bif zt 1125899906842624 x5.1 then some (0,(false,()))
   else opt (bif (!((zt a0 0) == (zt a1 0))) then opt (bif !(zj x5.2.1 0) then some (0,(((wrF .i64 ((wrF .i64 (0 - (wrF .i64 x5.1))) - 1)),()),()))
       else some (0,(((wrF .i64 (0 - (wrF .i64 x5.1))),()),()))) fun x6=>
      some (0,((x6.2.1.1,()),()))
     else some (0,(((wrF .i64 x5.1),()),()))) fun x7=>
    opt (Yl (x7.2.1.1,())) fun x8=>
    some (x8.1,(x8.2.1,()))
 else some (x1.2.1.1,(x1.2.1.2.1,()))
abbrev zb0:Type:=(Int×Int×Int×Unit)→Option (Int×Bool×Unit)
def znq:Yb→Ua→Xc→Xd→zai→zb0:=fun xC gP Zq Zr Yl=>sF Tryz.prog [(161,⟨ZF,ZG,xC⟩),(163,⟨QX,QY,gP⟩),(162,⟨Zc,Zd,Zq⟩),(164,⟨Zh,Zi,Zr⟩),(165,⟨Yc,Yd,Yl⟩)] zvz (zL []) 30 154 XQ XR
theorem zxT (xC) (gP) (Zq) (Zr) (Yl) (a0) (a1) (a2):znq xC gP Zq Zr Yl (a0,a1,a2,())=zgM xC gP Zq Zr Yl a0 a1 a2:=by kernel_rfl
def XS:zb0:=znq kC gL Ze Zj Ye
theorem zr6:Con.Ok Tryz.prog 154 ⟨XQ,XR,XS⟩:=zy (zf zgL (zf znm (zf zkJ (zf zkM (zf zqp zi))))) zm (by kernel_rfl)
theorem zr7 (a0) (a1) (a2):XS (a0,a1,a2,())=zgM kC gL Ze Zj Ye a0 a1 a2:=zxT kC gL Ze Zj Ye a0 a1 a2
abbrev QI:List VT:=[⟨false,I⟩,⟨false,I⟩,⟨false,I⟩]
abbrev QJ:List VT:=[⟨false,I⟩]
def zvA:qa:=zT [] [] [] [] [154]
def zgN (Vo:zb0) (a0:Int) (a1:Int) (a2:Int):Option (Int×Unit):=
 opt (Vo ((wrF .i64 (0 - a0)),(a1,(a2,())))) fun x0=>
 some ((wrF .i64 (0 - x0.1)),())
abbrev XT:Type:=(Int×Int×Int×Unit)→Option (Int×Unit)
def znr:zb0→XT:=fun Vo=>sF Tryz.prog [(154,⟨XQ,XR,Vo⟩)] zvA (zL []) 30 135 QI QJ
theorem zxU (Vo) (a0) (a1) (a2):znr Vo (a0,a1,a2,())=zgN Vo a0 a1 a2:=by kernel_rfl
def kq:XT:=znr XS
theorem zhY:Con.Ok Tryz.prog 135 ⟨QI,QJ,kq⟩:=zy (zf zr6 zi) zm (by kernel_rfl)
theorem zr8 (a0) (a1) (a2):kq (a0,a1,a2,())=zgN XS a0 a1 a2:=zxU XS a0 a1 a2
abbrev Qf:List VT:=[⟨false,(.list zu)⟩,⟨false,I⟩]
abbrev Qg:List VT:=[⟨false,I⟩,⟨false,.bool⟩]
def zoT:qa:=zT [cdF zu] [] [] [] [135]
def zaK (xN:XT) (a0:(List jP)) (a1:Int):Option (Int×Bool×Unit):=
 opt (qh (fun s0:((Int×(Bool×(Int×Unit)))×(Unit×(Unit×Unit)))=>
  bif (zt s0.1.2.2.1 ((a0.length:Nat):Int)) then opt (atI a0 s0.1.2.2.1) fun x1=>
   bif zt a1 x1.2 then some (.inr ((s0.1.1,(s0.1.2.1,((wrF .i64 (s0.1.2.2.1+1)),()))),((),((),()))))
   else opt (xN (x1.1,(1048576,(a1,())))) fun x2=>
    opt (bif !s0.1.2.1 then some (0,((x2.1,(true,())),((),())))
     else bif zt x2.1 s0.1.1 then some (0,((x2.1,(true,())),((),())))
      else some (0,((s0.1.1,(s0.1.2.1,())),((),())))) fun x3=>
    opt (qh (fun s4:((Int×(Bool×(Int×Unit)))×(Unit×(Unit×Unit)))=>
     bif (zt s4.1.2.2.1 ((a0.length:Nat):Int)) then opt (atI a0 s4.1.2.2.1) fun x5=>
      bif !(zt a1 x5.2) then some (.inr ((s4.1.1,(s4.1.2.1,((wrF .i64 (s4.1.2.2.1+1)),()))),((),((),()))))
      else bif !(zt x5.1 x1.1) then some (.inr ((s4.1.1,(s4.1.2.1,((wrF .i64 (s4.1.2.2.1+1)),()))),((),((),()))))
       else opt (xN ((wrF .i64 ((wrF .i64 ((wrF .i64 (x5.2 - a1))*x1.1))+(wrF .i64 ((wrF .i64 (a1 - x1.2))*x5.1)))),(1048576,((wrF .i64 (a1*(wrF .i64 (x5.2 - x1.2)))),())))) fun x6=>
        opt (bif !s4.1.2.1 then some (0,((x6.1,(true,())),((),())))
         else bif zt x6.1 s4.1.1 then some (0,((x6.1,(true,())),((),())))
          else some (0,((s4.1.1,(s4.1.2.1,())),((),())))) fun x7=>
        some (.inr ((x7.2.1.1,(x7.2.1.2.1,((wrF .i64 (s4.1.2.2.1+1)),()))),((),((),()))))
     else some (.inl (0,((s4.1.1,(s4.1.2.1,(s4.1.2.2.1,()))),((),((),())))))) qD ((x3.2.1.1,(x3.2.1.2.1,(0,()))),((),((),())))) fun x8=>
    bif Nat.beq x8.1 0 then some (.inr ((x8.2.1.1,(x8.2.1.2.1,((wrF .i64 (s0.1.2.2.1+1)),()))),((),((),()))))
    else some (.inl (1,((x8.2.1.1,(x8.2.1.2.1,(s0.1.2.2.1,()))),((),((),())))))
  else some (.inl (0,((s0.1.1,(s0.1.2.1,(s0.1.2.2.1,()))),((),((),())))))) qD ((0,(false,(0,()))),((),((),())))) fun x9=>
 bif Nat.beq x9.1 0 then some (x9.2.1.1,(x9.2.1.2.1,()))
 else some (x9.2.1.1,(x9.2.1.2.1,()))
abbrev VS:Type:=((List jP)×Int×Unit)→Option (Int×Bool×Unit)
def zgO:XT→VS:=fun xN=>sF Tryz.prog [(135,⟨QI,QJ,xN⟩)] zoT (zL []) 30 133 Qf Qg
theorem zqr (xN) (a0) (a1):zgO xN (a0,a1,())=zaK xN a0 a1:=by kernel_rfl
def Qh:VS:=zgO kq
theorem zlR:Con.Ok Tryz.prog 133 ⟨Qf,Qg,Qh⟩:=zy (zf zhY zi) zm (by kernel_rfl)
theorem zlS (a0) (a1):Qh (a0,a1,())=zaK kq a0 a1:=zqr kq a0 a1
abbrev Yf:List VT:=[⟨false,(.list zu)⟩,⟨true,JD⟩]
abbrev Yg:List VT:=[⟨false,I⟩,⟨false,I⟩]
def ztM:qa:=zT [cdF JD] [] [⟨2,30,some 2,zu,false⟩,⟨5,30,some 2,zu,false⟩] [] [69,132,133]
def zeK (qp:vP) (yT:Ya) (xS:VS) (a0:(List jP)) (a1:vD):Option (Int×Int×Unit):=
 bif (zj ((a0.length:Nat):Int) 0) then some (0,(2,()))
 else bif (zt 12 ((a0.length:Nat):Int)) then some (0,(3,()))
  else opt (qh (fun s0:((Int×(Int×Unit))×Unit)=>
    bif (zt s0.1.2.1 ((a0.length:Nat):Int)) then opt (atI a0 s0.1.2.1) fun x1=>
     opt (qp (x1,())) fun x2=>
     bif !(zj x2.1 0) then some (.inl (1,((x2.1,(s0.1.2.1,())),())))
     else some (.inr ((s0.1.1,((wrF .i64 (s0.1.2.1+1)),())),()))
    else some (.inl (0,((s0.1.1,(s0.1.2.1,())),())))) qD ((0,(0,())),())) fun x3=>
   bif Nat.beq x3.1 0 then opt (yT (a1,())) fun x4=>
    bif !(zj x4.1 0) then bif !(zj x4.1 0) then some (0,(x4.1,()))
     else opt (xS (a0,(a1.1,()))) fun x5=>
      bif !x5.2.1 then some (0,(141,()))
      else some ((wrF .i64 (a1.2+x5.1)),(0,()))
    else opt (xS (a0,(a1.1,()))) fun x6=>
     bif !x6.2.1 then some (0,(141,()))
     else some ((wrF .i64 (a1.2+x6.1)),(0,()))
   else bif !(zj x3.2.1.1 0) then bif !(zj x3.2.1.1 0) then some (0,(x3.2.1.1,()))
     else opt (xS (a0,(a1.1,()))) fun x7=>
      bif !x7.2.1 then some (0,(141,()))
      else some ((wrF .i64 (a1.2+x7.1)),(0,()))
    else opt (yT (a1,())) fun x8=>
     bif !(zj x8.1 0) then bif !(zj x8.1 0) then some (0,(x8.1,()))
      else opt (xS (a0,(a1.1,()))) fun x9=>
       bif !x9.2.1 then some (0,(141,()))
       else some ((wrF .i64 (a1.2+x9.1)),(0,()))
     else opt (xS (a0,(a1.1,()))) fun x10=>
      bif !x10.2.1 then some (0,(141,()))
      else some ((wrF .i64 (a1.2+x10.1)),(0,()))
abbrev zaj:Type:=((List jP)×vD×Unit)→Option (Int×Int×Unit)
def zlq:vP→Ya→VS→zaj:=fun qp yT xS=>sF Tryz.prog [(69,⟨xt,xu,qp⟩),(132,⟨ZD,ZE,yT⟩),(133,⟨Qf,Qg,xS⟩)] ztM (zL []) 30 88 Yf Yg
theorem zvB (qp) (yT) (xS) (a0) (a1):zlq qp yT xS (a0,a1,())=zeK qp yT xS a0 a1:=by kernel_rfl
def vI:zaj:=zlq wQ kB Qh
theorem zqs:Con.Ok Tryz.prog 88 ⟨Yf,Yg,vI⟩:=zy (zf YY (zf zgK (zf zlR zi))) zm (by kernel_rfl)
theorem zqt (a0) (a1):vI (a0,a1,())=zeK wQ kB Qh a0 a1:=zvB wQ kB Qh a0 a1
abbrev Zk:List VT:=[⟨true,zu⟩,⟨true,JD⟩]
abbrev Zl:List VT:=[⟨false,I⟩]
def zns:qa:=zT [cdF zu] [] [] [] [69,132]
def GC (qp:vP) (yT:Ya) (a0:jP) (a1:vD):Option (Int×Unit):=
 opt (qp (a0,())) fun x0=>
 bif !(zj x0.1 0) then some (x0.1,())
 else opt (yT (a1,())) fun x1=>
  bif !(zj x1.1 0) then some (x1.1,())
  else bif zt a1.1 a0.2 then some (141,())
   else some (0,())
abbrev Xe:Type:=(jP×vD×Unit)→Option (Int×Unit)
def zfg:vP→Ya→Xe:=fun qp yT=>sF Tryz.prog [(69,⟨xt,xu,qp⟩),(132,⟨ZD,ZE,yT⟩)] zns (zL []) 30 134 Zk Zl
theorem zoU (qp) (yT) (a0) (a1):zfg qp yT (a0,a1,())=GC qp yT a0 a1:=by kernel_rfl
def Zm:Xe:=zfg wQ kB
theorem zkO:Con.Ok Tryz.prog 134 ⟨Zk,Zl,Zm⟩:=zy (zf YY (zf zgK zi)) zm (by kernel_rfl)
theorem zkP (a0) (a1):Zm (a0,a1,())=GC wQ kB a0 a1:=zoU wQ kB a0 a1
abbrev QZ:List VT:=[⟨true,zu⟩,⟨true,JD⟩]
abbrev Ja:List VT:=[⟨false,I⟩,⟨false,I⟩]
def zqu:qa:=zT [cdF zu] [] [] [] [134,135]
def zb1 (Zs:Xe) (xN:XT) (a0:jP) (a1:vD):Option (Int×Int×Unit):=
 opt (Zs (a0,(a1,()))) fun x0=>
 bif !(zj x0.1 0) then some (0,(x0.1,()))
 else opt (xN (a0.2,(a1.2,(1048576,())))) fun x1=>
  some ((wrF .i64 (a0.1+x1.1)),(0,()))
abbrev Ub:Type:=(jP×vD×Unit)→Option (Int×Int×Unit)
def zhZ:Xe→XT→Ub:=fun Zs xN=>sF Tryz.prog [(134,⟨Zk,Zl,Zs⟩),(135,⟨QI,QJ,xN⟩)] zqu (zL []) 30 89 QZ Ja
theorem zr9 (Zs) (xN) (a0) (a1):zhZ Zs xN (a0,a1,())=zb1 Zs xN a0 a1:=by kernel_rfl
def xL:Ub:=zhZ Zm kq
theorem znt:Con.Ok Tryz.prog 89 ⟨QZ,Ja,xL⟩:=zy (zf zkO (zf zhY zi)) zm (by kernel_rfl)
theorem znu (a0) (a1):xL (a0,a1,())=zb1 Zm kq a0 a1:=zr9 Zm kq a0 a1
abbrev Qi:List VT:=[⟨true,Gf⟩]
abbrev Qj:List VT:=[⟨false,I⟩]
def zoV:qa:=zT [cdF Gf,cdF qx] [] [] [] []
def zaL (a0:za7):Option (Int×Unit):=
 some (a0.1.2.2.2,())
abbrev VU:Type:=(za7×Unit)→Option (Int×Unit)
def zgP:VU:=sF Tryz.prog [] zoV (zL []) 30 91 Qi Qj
theorem zqv (a0):zgP (a0,())=zaL a0:=by kernel_rfl
def Wh:VU:=zgP
theorem zlT:Con.Ok Tryz.prog 91 ⟨Qi,Qj,Wh⟩:=zy zi zm (by kernel_rfl)
theorem zlU (a0):Wh (a0,())=zaL  a0:=zqv  a0
abbrev XU:List VT:=[⟨true,zY⟩,⟨false,I⟩]
abbrev XV:List VT:=[⟨false,I⟩,⟨false,I⟩]
def zvC:qa:=zT [cdF zY,cdF Gf,cdF qx] [] [] [] [41,91]
def zgQ (zX:xH) (Qs:VU) (a0:qi) (a1:Int):Option (Int×Int×Unit):=
 opt (zX (a0,())) fun x0=>
 bif !(zj x0.1 0) then some (0,(x0.1,()))
 else opt (bif zt a1 0 then some (1,((0,(2,())),()))
   else bif (!(zt a1 (wrF .i64 (2*((a0.2.2.length:Nat):Int))))) then some (1,((0,(2,())),()))
    else some (0,((0,(0,())),()))) fun x1=>
  bif Nat.beq x1.1 0 then opt (atI a0.2.2 (wrF .i64 (Int.tdiv a1 2))) fun x2=>
   opt (Qs ((x2,a1),())) fun x3=>
   some (x3.1,(0,()))
  else some (x1.2.1.1,(x1.2.1.2.1,()))
abbrev zb2:Type:=(qi×Int×Unit)→Option (Int×Int×Unit)
def znv:xH→VU→zb2:=fun zX Qs=>sF Tryz.prog [(41,⟨wL,wM,zX⟩),(91,⟨Qi,Qj,Qs⟩)] zvC (zL []) 30 58 XU XV
theorem zxV (zX) (Qs) (a0) (a1):znv zX Qs (a0,a1,())=zgQ zX Qs a0 a1:=by kernel_rfl
def Wj:zb2:=znv jJ Wh
theorem zsa:Con.Ok Tryz.prog 58 ⟨XU,XV,Wj⟩:=zy (zf QR (zf zlT zi)) zm (by kernel_rfl)
theorem zsb (a0) (a1):Wj (a0,a1,())=zgQ jJ Wh a0 a1:=zxV jJ Wh a0 a1
abbrev vJ:List VT:=[⟨true,qL⟩,⟨false,(.list zE)⟩]
abbrev vK:List VT:=[⟨false,I⟩]
def ztN:qa:=zT [cdF qL,cdF zE,cdF ztt,cdF zpr,cdF zY,cdF qx,cdF qo,cdF jt] [] [⟨8,44,some 4,.unit,true⟩,⟨10,44,some 4,.unit,true⟩,⟨5,98,none,zu,true⟩,⟨8,98,none,zu,true⟩,⟨12,98,none,zu,true⟩,⟨15,98,none,zu,true⟩,⟨18,98,none,zu,true⟩,⟨21,98,none,zu,true⟩,⟨5,98,some 6,zu,false⟩,⟨8,98,some 6,zu,false⟩,⟨12,98,some 6,zu,false⟩,⟨15,98,some 6,zu,false⟩,⟨18,98,some 6,zu,false⟩,⟨21,98,some 6,zu,false⟩,⟨2,90,none,zu,true⟩,⟨6,90,none,zu,true⟩,⟨9,90,none,zu,true⟩,⟨10,90,none,zu,true⟩,⟨12,90,none,zu,true⟩,⟨15,90,none,zu,true⟩,⟨18,90,none,zu,true⟩,⟨21,90,none,zu,true⟩,⟨24,90,none,zu,true⟩,⟨26,90,none,zu,true⟩,⟨5,90,none,zu,true⟩,⟨2,44,none,zu,true⟩,⟨5,44,none,zu,true⟩,⟨8,44,none,zu,true⟩,⟨10,44,none,zu,true⟩,⟨2,37,none,zu,true⟩,⟨1,28,none,zu,true⟩,⟨4,28,none,zu,true⟩,⟨2,19,none,zu,true⟩,⟨4,19,none,zu,true⟩,⟨3,55,none,zu,true⟩,⟨6,55,none,zu,true⟩,⟨9,55,none,zu,true⟩] [] [29,56,119,85,86,87,88,89,58]
def zeL (jH:kg) (Zt:YZ) (jY:vL) (JA:zfQ) (gQ:zbX) (gR:zbZ) (kK:zaj) (ud:Ub) (Vp:zb2) (a0:jI) (a1:(List zz)):Option (Int×Unit):=
 opt (jH (a0,())) fun x0=>
 bif !(zj x0.1 0) then bif !(zj x0.1 0) then some (x0.1,())
  else none
 else opt (Zt (a0.1,(a1,()))) fun x1=>
  bif !(zj x1.1 0) then bif !(zj x1.1 0) then some (x1.1,())
   else none
  else opt (qh (fun s2:((Unit×(Int×(Int×Unit)))×Unit)=>
    bif (zt s2.1.2.2.1 ((a1.length:Nat):Int)) then opt (atI a1 s2.1.2.2.1) fun x3=>
     opt (bif !(zj x3.2.2.2.1 6) then some (1,(((),(2,())),()))
      else bif zt a0.2.2.2 x3.2.2.2.2.1 then some (1,(((),(2,())),()))
       else some (0,(((),(s2.1.2.1,())),()))) fun x4=>
     bif Nat.beq x4.1 0 then some (.inr (((),(x4.2.1.2.1,((wrF .i64 (s2.1.2.2.1+1)),()))),()))
     else some (.inl (1,(((),(x4.2.1.2.1,(s2.1.2.2.1,()))),())))
    else some (.inl (0,(((),(s2.1.2.1,(s2.1.2.2.1,()))),())))) qD (((),(0,(0,()))),())) fun x5=>
   bif Nat.beq x5.1 0 then opt (qh (fun s6:((Int×(Int×Unit))×((List (Int×(((Int×Int)×((Int×Int)×(Int×Int)))×Int)))×Unit))=>
     bif (zt s6.1.2.1 ((a0.2.2.1.length:Nat):Int)) then opt (bif (!(mpH (α:=(((Int×Int)×((Int×Int)×(Int×Int)))×Int)) s6.2.1 s6.1.2.1)) then opt (qh (fun s7:((Int×Unit)×(((List (Int×Int))×Unit)×(Unit×(Unit×Unit))))=>
         bif (zt s7.1.1 ((a1.length:Nat):Int)) then opt (atI a1 s7.1.1) fun x8=>
          opt (qh (fun s9:((Int×(Int×Unit))×(((List (Int×Int))×Unit)×(Unit×(Unit×Unit))))=>
           bif (zt s9.1.2.1 ((x8.2.2.2.2.2.2.2.2.length:Nat):Int)) then opt (atI x8.2.2.2.2.2.2.2.2 s9.1.2.1) fun x10=>
            opt (jY (x10,(s6.1.2.1,()))) fun x11=>
            bif x11.1 then some (.inl (1,((s9.1.2.1,(s9.1.2.1,())),((s9.2.1.1,()),((),((),()))))))
            else some (.inr ((s9.1.1,((wrF .i64 (s9.1.2.1+1)),())),((s9.2.1.1,()),((),((),())))))
           else some (.inl (0,((s9.1.1,(s9.1.2.1,())),((s9.2.1.1,()),((),((),()))))))) qD ((0,(0,())),((s7.2.1.1,()),((),((),()))))) fun x12=>
          bif Nat.beq x12.1 0 then some (.inr (((wrF .i64 (s7.1.1+1)),()),((x12.2.2.1.1,()),((),((),())))))
          else bif !(zt x12.2.1.1 0) then bif (xj x12.2.2.1.1.length ((x8.2.2.2.2.2.2.1::[]).length) 16) then some (.inr (((wrF .i64 (s7.1.1+1)),()),(((x12.2.2.1.1++(x8.2.2.2.2.2.2.1::[])),()),((),((),())))))
            else none
           else some (.inr (((wrF .i64 (s7.1.1+1)),()),((x12.2.2.1.1,()),((),((),())))))
         else some (.inl (0,((s7.1.1,()),((s7.2.1.1,()),((),((),()))))))) qD ((0,()),(([],()),((),((),()))))) fun x13=>
        bif Nat.beq x13.1 0 then bif (zj ((x13.2.2.1.1.length:Nat):Int) 0) then some (0,(((((0,0),((0,0),(0,0))),4),()),((mpP (α:=(((Int×Int)×((Int×Int)×(Int×Int)))×Int)) s6.2.1 s6.1.2.1 (((0,0),((0,0),(0,0))),4)),())))
         else opt (JA (a0.1,(s6.1.2.1,()))) fun x14=>
          bif !(zj x14.2.1 0) then some (0,(((((0,0),((0,0),(0,0))),x14.2.1),()),((mpP (α:=(((Int×Int)×((Int×Int)×(Int×Int)))×Int)) s6.2.1 s6.1.2.1 (((0,0),((0,0),(0,0))),x14.2.1)),())))
          else opt (atI a0.2.2.1 s6.1.2.1) fun x15=>
           opt (gQ (x15,(x14.1,(a0.2.2.2,())))) fun x16=>
           bif !(zj x16.2.1 0) then some (0,(((((0,0),((0,0),(0,0))),411),()),((mpP (α:=(((Int×Int)×((Int×Int)×(Int×Int)))×Int)) s6.2.1 s6.1.2.1 (((0,0),((0,0),(0,0))),411)),())))
           else opt (gR (x13.2.2.1.1,())) fun x17=>
            bif !(zj x17.2.1 0) then some (0,(((((0,0),((0,0),(0,0))),x17.2.1),()),((mpP (α:=(((Int×Int)×((Int×Int)×(Int×Int)))×Int)) s6.2.1 s6.1.2.1 (((0,0),((0,0),(0,0))),x17.2.1)),())))
            else opt (kK ((x17.1::[]),(x16.1,()))) fun x18=>
             bif !(zj x18.2.1 0) then some (0,(((((0,0),((0,0),(0,0))),x18.2.1),()),((mpP (α:=(((Int×Int)×((Int×Int)×(Int×Int)))×Int)) s6.2.1 s6.1.2.1 (((0,0),((0,0),(0,0))),x18.2.1)),())))
             else opt (ud (x17.1,(x16.1,()))) fun x19=>
              bif !(zj x19.2.1 0) then some (0,(((((0,0),((0,0),(0,0))),x19.2.1),()),((mpP (α:=(((Int×Int)×((Int×Int)×(Int×Int)))×Int)) s6.2.1 s6.1.2.1 (((0,0),((0,0),(0,0))),x19.2.1)),())))
              else some (0,((((x17.1,(x16.1,(x18.1,x19.1))),0),()),((mpP (α:=(((Int×Int)×((Int×Int)×(Int×Int)))×Int)) s6.2.1 s6.1.2.1 ((x17.1,(x16.1,(x18.1,x19.1))),0)),())))
        else bif (zj ((x13.2.2.1.1.length:Nat):Int) 0) then some (0,(((((0,0),((0,0),(0,0))),4),()),((mpP (α:=(((Int×Int)×((Int×Int)×(Int×Int)))×Int)) s6.2.1 s6.1.2.1 (((0,0),((0,0),(0,0))),4)),())))
         else opt (JA (a0.1,(s6.1.2.1,()))) fun x20=>
          bif !(zj x20.2.1 0) then some (0,(((((0,0),((0,0),(0,0))),x20.2.1),()),((mpP (α:=(((Int×Int)×((Int×Int)×(Int×Int)))×Int)) s6.2.1 s6.1.2.1 (((0,0),((0,0),(0,0))),x20.2.1)),())))
          else opt (atI a0.2.2.1 s6.1.2.1) fun x21=>
           opt (gQ (x21,(x20.1,(a0.2.2.2,())))) fun x22=>
           bif !(zj x22.2.1 0) then some (0,(((((0,0),((0,0),(0,0))),411),()),((mpP (α:=(((Int×Int)×((Int×Int)×(Int×Int)))×Int)) s6.2.1 s6.1.2.1 (((0,0),((0,0),(0,0))),411)),())))
           else opt (gR (x13.2.2.1.1,())) fun x23=>
            bif !(zj x23.2.1 0) then some (0,(((((0,0),((0,0),(0,0))),x23.2.1),()),((mpP (α:=(((Int×Int)×((Int×Int)×(Int×Int)))×Int)) s6.2.1 s6.1.2.1 (((0,0),((0,0),(0,0))),x23.2.1)),())))
            else opt (kK ((x23.1::[]),(x22.1,()))) fun x24=>
             bif !(zj x24.2.1 0) then some (0,(((((0,0),((0,0),(0,0))),x24.2.1),()),((mpP (α:=(((Int×Int)×((Int×Int)×(Int×Int)))×Int)) s6.2.1 s6.1.2.1 (((0,0),((0,0),(0,0))),x24.2.1)),())))
             else opt (ud (x23.1,(x22.1,()))) fun x25=>
              bif !(zj x25.2.1 0) then some (0,(((((0,0),((0,0),(0,0))),x25.2.1),()),((mpP (α:=(((Int×Int)×((Int×Int)×(Int×Int)))×Int)) s6.2.1 s6.1.2.1 (((0,0),((0,0),(0,0))),x25.2.1)),())))
              else some (0,((((x23.1,(x22.1,(x24.1,x25.1))),0),()),((mpP (α:=(((Int×Int)×((Int×Int)×(Int×Int)))×Int)) s6.2.1 s6.1.2.1 ((x23.1,(x22.1,(x24.1,x25.1))),0)),())))
       else some (0,(((mpD (α:=(((Int×Int)×((Int×Int)×(Int×Int)))×Int)) s6.2.1 s6.1.2.1 (((0,0),((0,0),(0,0))),0)),()),(s6.2.1,())))) fun x26=>
      bif zj x26.2.1.1.2 4 then some (.inr ((s6.1.1,((wrF .i64 (s6.1.2.1+1)),())),(x26.2.2.1,())))
      else bif !(zj x26.2.1.1.2 0) then some (.inl (0,((x26.2.1.1.2,(s6.1.2.1,())),(x26.2.2.1,()))))
       else bif zt a0.2.1.2.2.2 x26.2.1.1.1.2.2.2 then some (.inl (0,((7,(s6.1.2.1,())),(x26.2.2.1,()))))
        else some (.inr ((s6.1.1,((wrF .i64 (s6.1.2.1+1)),())),(x26.2.2.1,())))
     else some (.inl (0,((s6.1.1,(s6.1.2.1,())),(s6.2.1,()))))) qD ((0,(0,())),([],()))) fun x27=>
    bif !(zj x27.2.1.1 0) then some (x27.2.1.1,())
    else opt (qh (fun s28:((Int×(Int×Unit))×((List (Int×(((Int×Int)×((Int×Int)×(Int×Int)))×Int)))×Unit))=>
      bif (zt s28.1.2.1 ((a1.length:Nat):Int)) then opt (atI a1 s28.1.2.1) fun x29=>
       opt (qh (fun s30:((Int×(Int×Unit))×((List (Int×(((Int×Int)×((Int×Int)×(Int×Int)))×Int)))×Unit))=>
        bif (zt s30.1.2.1 ((x29.2.2.2.2.2.2.2.2.length:Nat):Int)) then opt (atI x29.2.2.2.2.2.2.2.2 s30.1.2.1) fun x31=>
         opt (qh (fun s32:((Int×(Int×(Int×(Int×Unit))))×((List (Int×(((Int×Int)×((Int×Int)×(Int×Int)))×Int)))×Unit))=>
          bif (zt s32.1.2.2.2.1 ((x31.length:Nat):Int)) then opt (atI x31 s32.1.2.2.2.1) fun x33=>
           opt (bif (!(mpH (α:=(((Int×Int)×((Int×Int)×(Int×Int)))×Int)) s32.2.1 x33)) then opt (qh (fun s34:((Int×Unit)×(((List (Int×Int))×Unit)×(Unit×(Unit×Unit))))=>
              bif (zt s34.1.1 ((a1.length:Nat):Int)) then opt (atI a1 s34.1.1) fun x35=>
               opt (qh (fun s36:((Int×(Int×Unit))×(((List (Int×Int))×Unit)×(Unit×(Unit×Unit))))=>
                bif (zt s36.1.2.1 ((x35.2.2.2.2.2.2.2.2.length:Nat):Int)) then opt (atI x35.2.2.2.2.2.2.2.2 s36.1.2.1) fun x37=>
                 opt (jY (x37,(x33,()))) fun x38=>
                 bif x38.1 then some (.inl (1,((s36.1.2.1,(s36.1.2.1,())),((s36.2.1.1,()),((),((),()))))))
                 else some (.inr ((s36.1.1,((wrF .i64 (s36.1.2.1+1)),())),((s36.2.1.1,()),((),((),())))))
                else some (.inl (0,((s36.1.1,(s36.1.2.1,())),((s36.2.1.1,()),((),((),()))))))) qD ((0,(0,())),((s34.2.1.1,()),((),((),()))))) fun x39=>
               bif Nat.beq x39.1 0 then some (.inr (((wrF .i64 (s34.1.1+1)),()),((x39.2.2.1.1,()),((),((),())))))
               else bif !(zt x39.2.1.1 0) then bif (xj x39.2.2.1.1.length ((x35.2.2.2.2.2.2.1::[]).length) 16) then some (.inr (((wrF .i64 (s34.1.1+1)),()),(((x39.2.2.1.1++(x35.2.2.2.2.2.2.1::[])),()),((),((),())))))
                 else none
                else some (.inr (((wrF .i64 (s34.1.1+1)),()),((x39.2.2.1.1,()),((),((),())))))
              else some (.inl (0,((s34.1.1,()),((s34.2.1.1,()),((),((),()))))))) qD ((0,()),(([],()),((),((),()))))) fun x40=>
             bif Nat.beq x40.1 0 then bif (zj ((x40.2.2.1.1.length:Nat):Int) 0) then some (0,(((((0,0),((0,0),(0,0))),4),()),((mpP (α:=(((Int×Int)×((Int×Int)×(Int×Int)))×Int)) s32.2.1 x33 (((0,0),((0,0),(0,0))),4)),())))
              else opt (JA (a0.1,(x33,()))) fun x41=>
               bif !(zj x41.2.1 0) then some (0,(((((0,0),((0,0),(0,0))),x41.2.1),()),((mpP (α:=(((Int×Int)×((Int×Int)×(Int×Int)))×Int)) s32.2.1 x33 (((0,0),((0,0),(0,0))),x41.2.1)),())))
               else opt (atI a0.2.2.1 x33) fun x42=>
                opt (gQ (x42,(x41.1,(a0.2.2.2,())))) fun x43=>
                bif !(zj x43.2.1 0) then some (0,(((((0,0),((0,0),(0,0))),411),()),((mpP (α:=(((Int×Int)×((Int×Int)×(Int×Int)))×Int)) s32.2.1 x33 (((0,0),((0,0),(0,0))),411)),())))
                else opt (gR (x40.2.2.1.1,())) fun x44=>
                 bif !(zj x44.2.1 0) then some (0,(((((0,0),((0,0),(0,0))),x44.2.1),()),((mpP (α:=(((Int×Int)×((Int×Int)×(Int×Int)))×Int)) s32.2.1 x33 (((0,0),((0,0),(0,0))),x44.2.1)),())))
                 else opt (kK ((x44.1::[]),(x43.1,()))) fun x45=>
                  bif !(zj x45.2.1 0) then some (0,(((((0,0),((0,0),(0,0))),x45.2.1),()),((mpP (α:=(((Int×Int)×((Int×Int)×(Int×Int)))×Int)) s32.2.1 x33 (((0,0),((0,0),(0,0))),x45.2.1)),())))
                  else opt (ud (x44.1,(x43.1,()))) fun x46=>
                   bif !(zj x46.2.1 0) then some (0,(((((0,0),((0,0),(0,0))),x46.2.1),()),((mpP (α:=(((Int×Int)×((Int×Int)×(Int×Int)))×Int)) s32.2.1 x33 (((0,0),((0,0),(0,0))),x46.2.1)),())))
                   else some (0,((((x44.1,(x43.1,(x45.1,x46.1))),0),()),((mpP (α:=(((Int×Int)×((Int×Int)×(Int×Int)))×Int)) s32.2.1 x33 ((x44.1,(x43.1,(x45.1,x46.1))),0)),())))
             else bif (zj ((x40.2.2.1.1.length:Nat):Int) 0) then some (0,(((((0,0),((0,0),(0,0))),4),()),((mpP (α:=(((Int×Int)×((Int×Int)×(Int×Int)))×Int)) s32.2.1 x33 (((0,0),((0,0),(0,0))),4)),())))
              else opt (JA (a0.1,(x33,()))) fun x47=>
               bif !(zj x47.2.1 0) then some (0,(((((0,0),((0,0),(0,0))),x47.2.1),()),((mpP (α:=(((Int×Int)×((Int×Int)×(Int×Int)))×Int)) s32.2.1 x33 (((0,0),((0,0),(0,0))),x47.2.1)),())))
               else opt (atI a0.2.2.1 x33) fun x48=>
                opt (gQ (x48,(x47.1,(a0.2.2.2,())))) fun x49=>
                bif !(zj x49.2.1 0) then some (0,(((((0,0),((0,0),(0,0))),411),()),((mpP (α:=(((Int×Int)×((Int×Int)×(Int×Int)))×Int)) s32.2.1 x33 (((0,0),((0,0),(0,0))),411)),())))
                else opt (gR (x40.2.2.1.1,())) fun x50=>
                 bif !(zj x50.2.1 0) then some (0,(((((0,0),((0,0),(0,0))),x50.2.1),()),((mpP (α:=(((Int×Int)×((Int×Int)×(Int×Int)))×Int)) s32.2.1 x33 (((0,0),((0,0),(0,0))),x50.2.1)),())))
                 else opt (kK ((x50.1::[]),(x49.1,()))) fun x51=>
                  bif !(zj x51.2.1 0) then some (0,(((((0,0),((0,0),(0,0))),x51.2.1),()),((mpP (α:=(((Int×Int)×((Int×Int)×(Int×Int)))×Int)) s32.2.1 x33 (((0,0),((0,0),(0,0))),x51.2.1)),())))
                  else opt (ud (x50.1,(x49.1,()))) fun x52=>
                   bif !(zj x52.2.1 0) then some (0,(((((0,0),((0,0),(0,0))),x52.2.1),()),((mpP (α:=(((Int×Int)×((Int×Int)×(Int×Int)))×Int)) s32.2.1 x33 (((0,0),((0,0),(0,0))),x52.2.1)),())))
                   else some (0,((((x50.1,(x49.1,(x51.1,x52.1))),0),()),((mpP (α:=(((Int×Int)×((Int×Int)×(Int×Int)))×Int)) s32.2.1 x33 ((x50.1,(x49.1,(x51.1,x52.1))),0)),())))
            else some (0,(((mpD (α:=(((Int×Int)×((Int×Int)×(Int×Int)))×Int)) s32.2.1 x33 (((0,0),((0,0),(0,0))),0)),()),(s32.2.1,())))) fun x53=>
           bif !(zj x53.2.1.1.2 0) then some (.inl (1,((0,(x53.2.1.1.2,(s32.1.2.2.1,(s32.1.2.2.2.1,())))),(x53.2.2.1,()))))
           else opt (Vp (a0.1,(x33,()))) fun x54=>
            bif !(zj x54.2.1 0) then some (.inl (1,((0,(x54.2.1,(s32.1.2.2.1,(s32.1.2.2.2.1,())))),(x53.2.2.1,()))))
            else some (.inr ((s32.1.1,(s32.1.2.1,((wrF .i64 (s32.1.2.2.1+(wrF .i64 ((wrF .i64 (x53.2.1.1.1.2.2.1+x54.1))+a0.2.1.2.2.1)))),((wrF .i64 (s32.1.2.2.2.1+1)),())))),(x53.2.2.1,())))
          else some (.inl (0,((s32.1.1,(s32.1.2.1,(s32.1.2.2.1,(s32.1.2.2.2.1,())))),(s32.2.1,()))))) qD ((0,(0,(0,(0,())))),(s30.2.1,()))) fun x55=>
         bif Nat.beq x55.1 0 then bif zt x29.2.2.2.2.2.2.2.1 x55.2.1.2.2.1 then some (.inl (1,((412,(s30.1.2.1,())),(x55.2.2.1,()))))
          else some (.inr ((s30.1.1,((wrF .i64 (s30.1.2.1+1)),())),(x55.2.2.1,())))
         else bif !(zj x55.2.1.2.1 0) then some (.inl (1,((x55.2.1.2.1,(s30.1.2.1,())),(x55.2.2.1,()))))
          else bif zt x29.2.2.2.2.2.2.2.1 x55.2.1.1 then some (.inl (1,((412,(s30.1.2.1,())),(x55.2.2.1,()))))
           else some (.inr ((s30.1.1,((wrF .i64 (s30.1.2.1+1)),())),(x55.2.2.1,())))
        else some (.inl (0,((s30.1.1,(s30.1.2.1,())),(s30.2.1,()))))) qD ((s28.1.1,(0,())),(s28.2.1,()))) fun x56=>
       bif Nat.beq x56.1 0 then some (.inr ((x56.2.1.1,((wrF .i64 (s28.1.2.1+1)),())),(x56.2.2.1,())))
       else some (.inl (1,((x56.2.1.1,(s28.1.2.1,())),(x56.2.2.1,()))))
      else some (.inl (0,((s28.1.1,(s28.1.2.1,())),(s28.2.1,()))))) qD ((0,(0,())),(x27.2.2.1,()))) fun x57=>
     bif Nat.beq x57.1 0 then some (0,())
     else some (x57.2.1.1,())
   else bif !(zj x5.2.1.2.1 0) then some (x5.2.1.2.1,())
    else none
abbrev ZH:Type:=(jI×(List zz)×Unit)→Option (Int×Unit)
def zlr:kg→YZ→vL→zfQ→zbX→zbZ→zaj→Ub→zb2→ZH:=fun jH Zt jY JA gQ gR kK ud Vp=>sF Tryz.prog [(29,⟨yq,yr,jH⟩),(56,⟨gX,gY,Zt⟩),(119,⟨wX,wY,jY⟩),(85,⟨Gj,Gk,JA⟩),(86,⟨QG,QH,gQ⟩),(87,⟨XO,XP,gR⟩),(88,⟨Yf,Yg,kK⟩),(89,⟨QZ,Ja,ud⟩),(58,⟨XU,XV,Vp⟩)] ztN (zL []) 30 25 vJ vK
theorem zvD (jH) (Zt) (jY) (JA) (gQ) (gR) (kK) (ud) (Vp) (a0) (a1):zlr jH Zt jY JA gQ gR kK ud Vp (a0,a1,())=zeL jH Zt jY JA gQ gR kK ud Vp a0 a1:=by kernel_rfl
def xW:ZH:=zlr yX gZ jx gK xK uB vI xL Wj
theorem zaM:Con.Ok Tryz.prog 25 ⟨vJ,vK,xW⟩:=zy (zf GV (zf zkF (zf Gy (zf zvn (zf zr2 (zf zr3 (zf zqs (zf znt (zf zsa zi))))))))) zm (by kernel_rfl)
theorem zqw (a0) (a1):xW (a0,a1,())=zeL yX gZ jx gK xK uB vI xL Wj a0 a1:=zvD yX gZ jx gK xK uB vI xL Wj a0 a1
abbrev gi:List VT:=[⟨true,zY⟩,⟨true,zE⟩]
abbrev gk:List VT:=[⟨false,I⟩]
def zsc:qa:=zT [cdF zE,cdF zY,cdF qx,cdF zu] [] [] [] [41,42]
def zdm (zX:xH) (yR:JK) (a0:qi) (a1:zz):Option (Int×Unit):=
 opt (zX (a0,())) fun x0=>
 bif !(zj x0.1 0) then some (x0.1,())
 else opt (yR (a0,(a1,()))) fun x1=>
  bif !x1.1 then some (321,())
  else some (0,())
abbrev Gl:Type:=(qi×zz×Unit)→Option (Int×Unit)
def zjt:xH→JK→Gl:=fun zX yR=>sF Tryz.prog [(41,⟨wL,wM,zX⟩),(42,⟨kZ,gb,yR⟩)] zsc (zL []) 30 26 gi gk
theorem ztO (zX) (yR) (a0) (a1):zjt zX yR (a0,a1,())=zdm zX yR a0 a1:=by kernel_rfl
def JN:Gl:=zjt jJ uI
theorem zoW:Con.Ok Tryz.prog 26 ⟨gi,gk,JN⟩:=zy (zf QR (zf zfa zi)) zm (by kernel_rfl)
theorem zoX (a0) (a1):JN (a0,a1,())=zdm jJ uI a0 a1:=ztO jJ uI a0 a1
abbrev kF:List VT:=[⟨true,qL⟩,⟨false,(.list zE)⟩,⟨true,zE⟩]
abbrev kG:List VT:=[⟨false,(.list zE)⟩,⟨false,I⟩]
def ztP:qa:=zT [cdF qL,cdF zE,cdF zY,cdF qx,cdF qo,cdF jt] [] [⟨2,41,some 6,zE,false⟩,⟨5,41,some 6,zE,false⟩,⟨9,41,some 6,zE,false⟩] [] [25,26]
def zeM (jv:ZH) (JS:Gl) (a0:jI) (a1:(List zz)) (a2:zz):Option ((List zz)×Int×Unit):=
 opt (jv (a0,(a1,()))) fun x0=>
 bif !(zj x0.1 0) then some ([],(x0.1,()))
 else opt (JS (a0.1,(a2,()))) fun x1=>
  bif !(zj x1.1 0) then some ([],(x1.1,()))
  else opt (ue a1 none (some ((a1.length:Nat):Int)) (some ((a1.length:Nat):Int))) fun x2=>
   bif (xj x2.length ((a2::[]).length) 96) then opt (jv (a0,((x2++(a2::[])),()))) fun x3=>
    bif !(zj x3.1 0) then some ([],(x3.1,()))
    else some ((x2++(a2::[])),(0,()))
   else none
abbrev zeN:Type:=(jI×(List zz)×zz×Unit)→Option ((List zz)×Int×Unit)
def zls:ZH→Gl→zeN:=fun jv JS=>sF Tryz.prog [(25,⟨vJ,vK,jv⟩),(26,⟨gi,gk,JS⟩)] ztP (zL []) 30 11 kF kG
theorem zvE (jv) (JS) (a0) (a1) (a2):zls jv JS (a0,a1,a2,())=zeM jv JS a0 a1 a2:=by kernel_rfl
def Yh:zeN:=zls xW JN
theorem zqx:Con.Ok Tryz.prog 11 ⟨kF,kG,Yh⟩:=zy (zf zaM (zf zoW zi)) zm (by kernel_rfl)
theorem zqy (a0) (a1) (a2):Yh (a0,a1,a2,())=zeM xW JN a0 a1 a2:=zvE xW JN a0 a1 a2
abbrev xl:List VT:=[⟨true,zE⟩]
abbrev xm:List VT:=[⟨false,(.list I)⟩]
def UF:qa:=zT [cdF ze,cdF qL,cdF zE,cdF zY,cdF qx,cdF qo,cdF zu] [] [⟨3,38,some 4,I,false⟩,⟨3,38,some 5,I,true⟩,⟨6,38,some 4,I,false⟩,⟨6,38,some 5,I,true⟩,⟨1,61,some 2,I,false⟩,⟨4,61,some 2,I,false⟩,⟨6,61,some 2,I,false⟩,⟨9,61,some 2,I,false⟩,⟨11,61,some 2,I,false⟩] [] []
def WN (jZ:Jr) (s:za) (a0:zz):Option (za×((List Int)×Unit)):=
 opt (qh (fun s0:(((((Int×((List Bool)×(List (Int×(Int×(Int×Int))))))×((Int×(Int×(Int×Int)))×((List ((List (Int×Int))×Int))×Int)))×((List (Int×(Int×(Int×(Int×(Int×(Int×((Int×Int)×(Int×(List (List Int)))))))))))×((List (Int×(Int×(Int×((Int×(Int×(Int×(Int×(Int×(Int×((Int×Int)×(Int×(List (List Int))))))))))×Int)))))×((List (Int×(Int×(Int×(Int×(List Int))))))×((List (Int×(Int×(Int×Bool))))×(List (Int×(Int×(Int×(Int×(Bool×((Int×(Int×(Int×(Int×(Int×(Int×((Int×Int)×(Int×(List (List Int))))))))))×Int))))))))))))×(Int×Unit))×((List Int)×Unit))=>
  bif (zt s0.1.2.1 ((a0.2.2.2.2.2.2.2.2.length:Nat):Int)) then opt (atI a0.2.2.2.2.2.2.2.2 s0.1.2.1) fun x1=>
   opt (jZ (s0.1.1.1.1,(x1,()))) fun x2=>
   opt (bif zj x2.2.1 0 then bif xj s0.2.1.length x2.1.length 8 then some (0,((),((s0.2.1++x2.1),())))
     else none
    else some (0,((),(s0.2.1,())))) fun x3=>
   some (.inr ((s0.1.1,((wrF .i64 (s0.1.2.1+1)),())),(x3.2.2.1,())))
  else some (.inl (0,((s0.1.1,(s0.1.2.1,())),(s0.2.1,()))))) qD ((s,(0,())),([],()))) fun x4=>
 bif zp1 x4.2.2.1 then bif zp1 (YK x4.2.2.1) then some (x4.2.1.1,((zmQ (YK x4.2.2.1)),()))
  else none
 else none
theorem zhs (jZ:(qi×(List Int)×Unit)→Option ((List Int)×Int×Unit)) (s:za) (a0:zz):sP Tryz.prog ⟨[(140,true),(141,false)],[]⟩ [(49,⟨kz,kA,jZ⟩)] UF (zL []) 30 109 ze xl xm s (a0,())=WN jZ s a0:=by kernel_rfl
def yz:za→(zz×Unit)→Option (za×((List Int)×Unit)):=sP Tryz.prog ⟨[(140,true),(141,false)],[]⟩ [(49,⟨kz,kA,yw⟩)] UF (zL []) 30 109 ze xl xm
theorem Kj:yJ.Ok Tryz.prog 109 ⟨ze,xl,xm,yz⟩:=xk ⟨zG3,js⟩ (zf zaH zi) zm (by kernel_rfl)
theorem zeO (s:za) (a0:zz):yz s (a0,())=WN yw s a0:=zhs yw s a0
abbrev uK:List VT:=[⟨false,(.list zE)⟩,⟨false,I⟩]
abbrev uL:List VT:=[⟨false,I⟩,⟨false,I⟩]
def zsd:qa:=zT [cdF zE,cdF zu] [] [] [] []
def zdn (a0:(List zz)) (a1:Int):Option (Int×Int×Unit):=
 opt (qh (fun s0:((Int×(Int×(Int×Unit)))×Unit)=>
  bif (zt s0.1.2.2.1 ((a0.length:Nat):Int)) then opt (atI a0 s0.1.2.2.1) fun x1=>
   bif zj x1.1 a1 then some (.inl (1,((s0.1.2.2.1,(0,(s0.1.2.2.1,()))),())))
   else some (.inr ((s0.1.1,(s0.1.2.1,((wrF .i64 (s0.1.2.2.1+1)),()))),()))
  else some (.inl (0,((s0.1.1,(s0.1.2.1,(s0.1.2.2.1,()))),())))) qD ((0,(0,(0,()))),())) fun x2=>
 bif Nat.beq x2.1 0 then some (0,(4,()))
 else some (x2.2.1.1,(x2.2.1.2.1,()))
abbrev XW:Type:=((List zz)×Int×Unit)→Option (Int×Int×Unit)
def zju:XW:=sF Tryz.prog [] zsd (zL []) 30 110 uK uL
theorem ztQ (a0) (a1):zju (a0,a1,())=zdn a0 a1:=by kernel_rfl
def xy:XW:=zju
theorem zfh:Con.Ok Tryz.prog 110 ⟨uK,uL,xy⟩:=zy zi zm (by kernel_rfl)
theorem zoY (a0) (a1):xy (a0,a1,())=zdn  a0 a1:=ztQ  a0 a1
abbrev wD:List VT:=[⟨false,(.list we)⟩,⟨false,I⟩,⟨false,.bool⟩,⟨true,we⟩]
abbrev wF:List VT:=[⟨false,(.list we)⟩]
def ziC:qa:=zT [cdF we] [] [⟨2,27,some 8,we,true⟩] [] []
def XX (a0:(List qw)) (a1:Int) (a2:Bool) (a3:qw):Option ((List qw)×Unit):=
 opt (ue a0 (some a1) none none) fun x0=>
 opt (bif a2 then opt (ue a0 (some (wrF .i64 (a1+1))) none none) fun x1=>
   some (0,((x1,()),()))
  else some (0,((x0,()),()))) fun x2=>
 opt (ue a0 none (some a1) (some a1)) fun x3=>
 bif (xj x3.length ((a3::[]).length) 56) then bif (xj ((x3++(a3::[])).length) x2.2.1.1.length 56) then some (((x3++(a3::[]))++x2.2.1.1),())
  else none
 else none
abbrev Jb:Type:=((List qw)×Int×Bool×qw×Unit)→Option ((List qw)×Unit)
def zbb:Jb:=sF Tryz.prog [] ziC (zL []) 30 111 wD wF
theorem zjv (a0) (a1) (a2) (a3):zbb (a0,a1,a2,a3,())=XX a0 a1 a2 a3:=by kernel_rfl
def jT:Jb:=zbb
theorem UG:Con.Ok Tryz.prog 111 ⟨wD,wF,jT⟩:=zy zi zm (by kernel_rfl)
theorem zgR (a0) (a1) (a2) (a3):jT (a0,a1,a2,a3,())=XX  a0 a1 a2 a3:=zjv  a0 a1 a2 a3
abbrev qW:List VT:=[⟨true,we⟩]
abbrev qX:List VT:=[]
def Vx:qa:=zT [cdF ze,cdF qM,cdF zE,cdF we,cdF zu] [] [] [] [52]
def Js (zK:za→(zJ×Unit)→Option (za×(Unit))) (s:za) (a0:qw):Option (za×(Unit)):=
 opt (bif zj a0.2.2.1 1 then some (0,(((2,(a0.1,(a0.2.1,(0,(false,((0,(0,(0,(0,(0,(0,((0,0),(0,[])))))))),0)))))),()),()))
  else bif zj a0.2.2.1 4 then some (0,(((3,(a0.1,(a0.2.1,(0,(false,((0,(0,(0,(0,(0,(0,((0,0),(0,[])))))))),0)))))),()),()))
   else some (1,(((0,(a0.1,(a0.2.1,(0,(false,((0,(0,(0,(0,(0,(0,((0,0),(0,[])))))))),0)))))),()),()))) fun x0=>
 bif Nat.beq x0.1 0 then opt (qh (fun s1:(((Int×(Int×(Int×(Int×(Bool×((Int×(Int×(Int×(Int×(Int×(Int×((Int×Int)×(Int×(List (List Int))))))))))×Int))))))×((((Int×((List Bool)×(List (Int×(Int×(Int×Int))))))×((Int×(Int×(Int×Int)))×((List ((List (Int×Int))×Int))×Int)))×((List (Int×(Int×(Int×(Int×(Int×(Int×((Int×Int)×(Int×(List (List Int)))))))))))×((List (Int×(Int×(Int×((Int×(Int×(Int×(Int×(Int×(Int×((Int×Int)×(Int×(List (List Int))))))))))×Int)))))×((List (Int×(Int×(Int×(Int×(List Int))))))×((List (Int×(Int×(Int×Bool))))×(List (Int×(Int×(Int×(Int×(Bool×((Int×(Int×(Int×(Int×(Int×(Int×((Int×Int)×(Int×(List (List Int))))))))))×Int))))))))))))×(Int×Unit)))×Unit)=>
   bif (zt s1.1.2.2.1 ((a0.2.2.2.2.length:Nat):Int)) then opt (atI a0.2.2.2.2 s1.1.2.2.1) fun x2=>
    opt (zK s1.1.2.1 ((s1.1.1.1,(s1.1.1.2.1,(s1.1.1.2.2.1,(x2,s1.1.1.2.2.2.2)))),())) fun x3=>
    some (.inr (((s1.1.1.1,(s1.1.1.2.1,(s1.1.1.2.2.1,(x2,s1.1.1.2.2.2.2)))),(x3.1,((wrF .i64 (s1.1.2.2.1+1)),()))),()))
   else some (.inl (0,((s1.1.1,(s1.1.2.1,(s1.1.2.2.1,()))),())))) qD ((x0.2.1.1,(s,(0,()))),())) fun x4=>
  some (x4.2.1.2.1,())
 else some (s,())
theorem zeP (zK:za→(zJ×Unit)→Option (za×(Unit))) (s:za) (a0:qw):sP Tryz.prog ⟨[],[(52,⟨ze,qe,qf,zK⟩)]⟩ [] Vx (zL []) 30 34 ze qW qX s (a0,())=Js zK s a0:=by kernel_rfl
def ju:za→(qw×Unit)→Option (za×(Unit)):=sP Tryz.prog ⟨[],[(52,⟨ze,qe,qf,qk⟩)]⟩ [] Vx (zL []) 30 34 ze qW qX
theorem YV:yJ.Ok Tryz.prog 34 ⟨ze,qW,qX,ju⟩:=xk ⟨qy,(zV vW js)⟩ zi zm (by kernel_rfl)
theorem zcz (s:za) (a0:qw):ju s (a0,())=Js qk s a0:=zeP qk s a0
end Go.Proofs.YtleloebnggepoaaGreat.sg
end
