/- Parts of a proof, joined. -/
import Derived.ChangeArms
import Derived.ChangeSlices
import Derived.DataReads
import Derived.Ground.Names2Prog
import Derived.KernelRfl
import Derived.OpenShut
import Derived.Shelf.Slices.CompactI
import Derived.Shelf.Slices.In.SortNone
import Derived.Shelf.Sort.Plain
import Derived.SizedLaws
import Derived.Test.YtleloebnggepoaaGreatProg
import Derived.Test.YtleloebnggepoaaGreatS24
set_option linter.unusedSectionVars false
set_option linter.unusedVariables false
set_option linter.unusedSimpArgs false
set_option maxHeartbeats 0
set_option maxRecDepth 100000
noncomputable section
namespace Go.Fz.Sy
def zE9:List SV→Option Ty
 |[]=>some .unit
 |v
   ::r=>match (match v with
   |.bool _=>some .bool
   |.int k _=>some (.int k)
   |.str _=>some .str
   |.lst t _ _=>some (.list t)
   |_=>none),zE9 r with
  |some a,some b=>some (match r with
   |[]=>a
   |_=>.pair a b)
  |_,_=>none
def zeF:Ty→List Ty
 |.unit=>[]
 |.pair a b=>zeF a++zeF b
 |t=>[t]
def zH1:SV→Ty→Bool
 |.bool _,.bool=>true
 |.int k _,.int k'=>WD k k'
 |.str _,.str=>true
 |.lst _ _ _,.list _=>true
 |.nils,.list _=>true
 |.own _,.list _=>true
 |_,_=>false
def lstTy:SV→Option Ty
 |.lst t _ _=>some t
 |_=>none
def tyQ:Ty→Ty→Bool
 |.unit,.unit=>true
 |.bool,.bool=>true
 |.int k,.int k'=>WD k k'
 |.str,.str=>true
 |.list a,.list b=>tyQ a b
 |.pair a b,.pair c d=>tyQ a c&&tyQ b d
 |_,_=>false
def zym:List SV→List Ty→Bool
 |[],[]=>true
 |v::r,t::s=>(zH1 v t&&(match v,t with
  |.lst a _ _,.list b=>tyQ a b
  |_,_=>true))&&zym r s
 |_,_=>false
structure znE where
 ty:Ty
 fl:List Ty
 gs:List Nat:=[]
def zFR (cands:List znE) (cs:List SV):Option znE:=match cands with
 |[]=>none
 |h::r=>bif zym cs h.fl then some h else zFR r cs
def zH2 (gs:List Nat) (lo hi:Nat):Bool:=gs.any fun g=>Nat.ble lo g&&Nat.blt g hi
def zyn (H:SH) (cs:List SV) (gs:List Nat):Ty→Nat→Nat→List CK×Nat
 |.pair a b,i,c=>bif zH2 gs i (i+sz (.pair a b)) then match zyn H cs gs a i c with
   |(k1,c1)=>match zyn H cs gs b (i+sz a) c1 with
    |(k2,c2)=>(k1++k2,c2)
  else ([.d (.pair a b)],c)
 |.list e,i,c=>bif vv gs i then (match gl cs i with
   |some (.own b)=>match zk H b with
    |some (.arr nn _ _)=>([.o c nn e],c+1)
    |_=>([.d (.list e)],c)
   |some .nils=>([.o c false e],c+1)
   |_=>([.d (.list e)],c))
  else ([.d (.list e)],c)
 |t,_,c=>([.d t],c)
def zC5 (cands:List znE) (cs:List SV):Option Ty:=match cands with
 |[]=>zE9 cs
 |h::r=>bif zym cs h.fl then some h.ty else zC5 r cs
def zIg (cands:List znE):SV→Option VT
 |.bool _=>some ⟨false,.bool⟩
 |.int k _=>some ⟨false,.int k⟩
 |.str _=>some ⟨false,.str⟩
 |.lst t _ _=>some ⟨false,.list t⟩
 |.agg cs=>match zC5 cands cs with
  |some t=>some ⟨true,t⟩
  |none=>none
 |_=>none
def zle:List Nat→List Nat
 |[]=>[]
 |a::r=>bif vv r a then zle r else a::zle r
def Yv:Operand→List Nat
 |.tmp t=>[t]
 |_=>[]
def zwQ:Nat:=1000000
def zHu (l:List Nat):List Nat:=l.map (·+zwQ)
def zHv (i:Nat):Nat:=bif Nat.ble zwQ i then i - zwQ else i
def zBA (W:List Nat) (d:Nat) (l:List Nat):List Nat:=bif vv W d then l++W else bif vv W (d+zwQ) then zHu l++W else W
def wOp (pf:List Nat) (W:List Nat) (o:Oper):List Nat:=
 match o.op with
 |.store _ a _=>Yv a++W
 |.lookup _ m _ _=>Yv m++W
 |.mapUpdate _ m _ _=>Yv m++W
 |.insert _ m _ _=>Yv m++W
 |.call c=>match c.callee with
  |.value (.func f)=>bif vv pf f then zHu (c.args.toList.flatMap Yv)++W else c.args.toList.flatMap Yv++W
  |.value f=>Yv f++(c.args.toList.flatMap Yv++W)
  |.builtin .copy=>c.args.toList.flatMap Yv++W
  |.builtin .append=>match o.dst with
   |some d=>c.args.toList.flatMap Yv++W
   |none=>W
  |_=>W
 |.fieldAddr _ x _=>match o.dst with
  |some d=>bif vv W d then Yv x++W else W
  |none=>W
 |.indexAddr _ x _=>match o.dst with
  |some d=>bif vv W d then Yv x++W else W
  |none=>W
 |.load _ x=>match o.dst with
  |some d=>bif vv W d then Yv x++W else W
  |none=>W
 |.move x=>match o.dst with
  |some d=>zBA W d (Yv x)
  |none=>W
 |.nilCheck x=>match o.dst with
  |some d=>bif vv W d then Yv x++W else W
  |none=>W
 |.pick _ x y=>match o.dst with
  |some d=>zBA W d (Yv x++Yv y)
  |none=>W
 |.assign x=>match o.dst with
  |some d=>zBA W d (Yv x)
  |none=>W
 |_=>W
def zHw (pf:List Nat):List Oper→List Nat→List Nat
 |[],W=>W
 |o::r,W=>wOp pf (zHw pf r W) o
def GS (pf:List Nat):Code→List Nat→List Nat
 |.region _ ops _,W=>zHw pf ops.toList W
 |.seq a b,W=>GS pf a (GS pf b W)
 |.cond _ a b,W=>GS pf a (GS pf b W)
 |.block _ c,W=>GS pf c W
 |.loop c,W=>GS pf c W
 |.scope c,W=>GS pf c W
 |.rangeFunc g _ a b,W=>Yv g++GS pf a (GS pf b W)
 |_,W=>W
mutual
def zFS:SV→List Nat
 |.ptr b _=>[b]
 |.own b=>[b]
 |.mp b=>[b]
 |.slv b _=>[b]
 |.agg cs=>zpc cs
 |.fn _ fs cs=>zpc fs++zpc cs
 |_=>[]
def zpc:List SV→List Nat
 |[]=>[]
 |v::r=>zFS v++zpc r
end
def zBB (tm:List SV):List Nat→List Nat
 |[]=>[]
 |i::r=>(match gl tm (zHv i) with
  |some v=>zFS v
  |none=>[])++zBB tm r
def reachS (H:SH):Nat→List Nat→List Nat
 |0,l=>zle l
 |n+1,l=>match zle l with
  |l=>reachS H n (l++l.flatMap fun b=>match zk H b with
   |some (.vars cs)=>zpc cs
   |some (.ro cs)=>zpc cs
   |_=>[])
def zFT (pf:List Nat) (H:SH):List Nat→List Nat
 |[]=>[]
 |l::r=>(match zk H l with
  |some (.loop L)=>zBB L.tm (zle (GS pf L.assign (GS pf L.body [])))
  |_=>[])++zFT pf H r
structure zqN where
 rid:Nat
 ntm:Nat
 tmp:Option Nat
 ty:Ty
 own:Bool:=true
def zqO (rid ntm:Nat) (i:Option Nat):List zqN→Option zqN
 |[]=>none
 |h::r=>bif Nat.beq h.rid rid&&(Nat.beq h.ntm ntm&&(match h.tmp,i with
  |some a,some b=>Nat.beq a b
  |none,none=>true
  |_,_=>false)) then some h else zqO rid ntm i r
def zBC (rid ntm:Nat):List (Nat×Nat)→Bool
 |[]=>false
 |p::r=>bif Nat.beq p.1 rid&&Nat.beq p.2 ntm then true else zBC rid ntm r
def zC6 (cands:List znE) (ns:List zqN) (rid:Nat) (tm:List SV) (H:SH) (nx:Nat):List Nat→List DPl×List OPl×Nat
 |[]=>([],[],0)
 |i::r=>match zC6 cands ns rid tm H nx r with
  |(dl,ol,g)=>match gl tm i with
   |some (.own b)=>match zk H b with
    |some (.arr nn t _)=>match zqO rid tm.length (some i) ns with
     |some ⟨_,_,_,_,false⟩=>(.tmp i ⟨false,.list t⟩::dl,ol,g)
     |_=>(dl,.otmp i (nx+g) nn t::ol,g+1)
    |some (.fro _ t _)=>(.tmp i ⟨false,.list t⟩::dl,ol,g)
    |_=>(dl,ol,g)
   |some .nils=>match zqO rid tm.length (some i) ns with
    |some h=>bif h.own then (dl,.otmp i (nx+g) false h.ty::ol,g+1) else (.tmp i ⟨false,.list h.ty⟩::dl,ol,g)
    |none=>(dl,ol,g)
   |some .nilp=>match zqO rid tm.length (some i) ns with
    |some _=>(.npt i::dl,ol,g)
    |none=>(dl,ol,g)
   |some v=>match zIg cands v with
    |some vt=>(.tmp i vt::dl,ol,g)
    |none=>(dl,ol,g)
   |none=>(dl,ol,g)
abbrev GrT:=Nat×Nat×Nat×List Nat
def grT (rid ntm d:Nat):List GrT→List Nat
 |[]=>[]
 |h::r=>bif Nat.beq h.1 rid&&(Nat.beq h.2.1 ntm&&Nat.beq h.2.2.1 d) then h.2.2.2 else grT rid ntm d r
def zwR (b:Nat):List SV→Nat→Option Nat
 |[],_=>none
 |v::r,i=>match v with
  |.ptr c o=>bif Nat.beq c b&&Nat.beq o 0 then some i else zwR b r (i+1)
  |_=>zwR b r (i+1)
def zHx (ns:List zqN) (rid:Nat) (tm:List SV) (b:Nat):Option zqN:=match zwR b tm 0 with
 |some d=>match zqO rid tm.length (some d) ns with
  |some h=>some h
  |none=>zqO rid tm.length none ns
 |none=>zqO rid tm.length none ns
def zC7 (cands:List znE) (ns:List zqN) (gt:List GrT) (rid:Nat) (tm:List SV) (H:SH) (nx:Nat) (own:List Nat):List Nat→List DPl×List OPl×Nat→List DPl×List OPl×Nat
 |[],x=>x
 |b::r,x=>match zC7 cands ns gt rid tm H nx own r x with
  |(dl,ol,g)=>match zk H b with
   |some (.vars [.own c])=>match zk H c with
    |some (.arr nn t _)=>match zHx ns rid tm b with
     |some ⟨_,_,some _,_,false⟩=>(.blk b (.list t)::dl,ol,g)
     |_=>(dl,.sblk b [.o (nx+g) nn t]::ol,g+1)
    |some (.fro _ t _)=>(.blk b (.list t)::dl,ol,g)
    |_=>(dl,ol,g)
   |some (.vars [.nils])=>match zHx ns rid tm b with
    |some h=>bif h.own then (dl,.sblk b [.o (nx+g) false h.ty]::ol,g+1) else (.blk b (.list h.ty)::dl,ol,g)
    |none=>(dl,ol,g)
   |some (.vars cs)=>match zFR cands cs with
    |some h=>match zyn H cs (match zwR b tm 0 with
      |some d=>grT rid tm.length d gt
      |none=>h.gs) h.ty 0 (nx+g) with
     |(ks,c')=>bif ks.all (fun k=>match k with
       |.d _=>true
       |.o _ _ _=>false) then (.blk b h.ty::dl,ol,g) else (.frz b ks::dl,.sblk b ks::ol,c' - nx)
    |none=>match zE9 cs with
     |some t=>(.blk b t::dl,ol,g)
     |none=>(dl,ol,g)
   |some (.arr nn t _)=>bif vv own b then (dl,ol,g) else (dl,.arr b nn t::ol,g)
   |some (.mpb k ag t _)=>(dl,.mpl b k ag t::ol,g)
   |_=>(dl,ol,g)
def zBD:List SV→List Nat
 |[]=>[]
 |.own c::r=>c::zBD r
 |_::r=>zBD r
def zyo (tm:List SV) (H:SH) (bs:List Nat):List Nat→List Nat
 |[]=>bs.flatMap fun b=>match zk H b with
  |some (.vars cs)=>zBD cs
  |_=>[]
 |i::r=>match gl tm i with
  |some (.own b)=>b::zyo tm H bs r
  |_=>zyo tm H bs r
def zIh (l:List Operand):List Nat:=l.flatMap Yv
def zjT (D:List Nat):List Nat→List Nat
 |[]=>[]
 |a::r=>bif vv D a then zjT D r else a::zjT D r
def zBE (D:List Nat):List Nat→List Nat
 |[]=>[]
 |a::r=>bif vv D a then a::zBE D r else zBE D r
def zFU:List Oper→List Nat→List Nat×List Nat
 |[],D=>([],D)
 |o::r,D=>match zFU r (o.dst.toList++D) with
  |(us,D')=>(zjT D (zIh o.op.operands.toList)++us,D')
def lvC:Code→List Nat→List Nat×List Nat
 |.region _ ops _,D=>zFU ops.toList D
 |.seq a b,D=>match lvC a D with
  |(ra,Da)=>match lvC b Da with
   |(rb,Db)=>(ra++rb,Db)
 |.cond c a b,D=>match lvC a D with
  |(ra,Da)=>match lvC b D with
   |(rb,Db)=>(zjT D (Yv c)++(ra++rb),zBE Da Db)
 |.block _ c,D=>lvC c D
 |.loop c,D=>lvC c D
 |.scope c,D=>lvC c D
 |.rangeFunc g _ a b,D=>match lvC a D with
  |(ra,Da)=>match lvC b Da with
   |(rb,_)=>(zjT D (Yv g)++(ra++rb),D)
 |_,D=>([],D)
def zyp:List Oper→List Nat
 |[]=>[]
 |o::r=>match o.op with
  |.assign _=>o.dst.toList++zyp r
  |_=>zyp r
def znF:Code→List Nat
 |.region _ ops _=>zyp ops.toList
 |.seq a b=>znF a++znF b
 |.cond _ a b=>znF a++znF b
 |.block _ c=>znF c
 |.loop c=>znF c
 |.scope c=>znF c
 |_=>[]
def zeG:Code→Bool
 |.region _ ops _=>ops.toList.any fun o=>match o.op with
  |.call {callee:=.value _,..}=>true
  |_=>false
 |.seq a b=>zeG a||zeG b
 |.cond _ a b=>zeG a||zeG b
 |.block _ c=>zeG c
 |.loop c=>zeG c
 |.scope c=>zeG c
 |.rangeFunc _ _ _ _=>true
 |_=>false
def zHy (tm:List SV):List Nat→Bool
 |[]=>false
 |i::r=>(match gl tm i with
  |some (.slv _ _)=>true
  |_=>false)||zHy tm r
def zT (cands:List znE) (un:List (Nat×Nat)) (ns:List zqN) (gt:List GrT:=[]) (pf:List Nat:=[]):qb:=fun c tm H nx=>match zaF c with
 |some rid=>bif zBC rid tm.length un||zHy tm (lvC c []).1 then none else
  match zBE (znF c++(lvC c []).1) (zle (asg c)) with
  |aq=>match reachS H 3 (zBB tm (zle (GS pf c (GS pf c [])))++(bif zeG c then zFT pf H (ja H) else [])) with
   |bs=>some (zC7 cands ns gt rid tm H nx (zyo tm H bs aq) bs (zC6 cands ns rid tm H nx aq))
 |none=>none
def zaG (i:Nat):Code→Bool
 |.exit j=>Nat.beq i j
 |.seq a b=>zaG i a||zaG i b
 |.cond _ a b=>zaG i a||zaG i b
 |.block _ c=>zaG i c
 |.loop c=>zaG i c
 |.scope c=>zaG i c
 |.rangeFunc _ _ a b=>zaG i a||zaG i b
 |_=>false
def zlf:Code→Bool
 |.ret=>false
 |.exit _=>false
 |.goto _=>false
 |.seq a b=>zlf a&&zlf b
 |.cond _ a b=>zlf a||zlf b
 |.block i c=>zlf c||zaG i c
 |.loop _=>false
 |_=>true
def zHz (ops:Array Oper):Bool:=ops.toList.any fun o=>o.guard.isSome
def zwS:Code→Bool
 |.skip=>true
 |.exit _=>true
 |.ret=>true
 |.goto _=>true
 |_=>false
def zFV (g:Bool):Code→Bool
 |.cond _ a b=>(zlf a&&(zlf b&&!(zwS a&&zwS b)))||(g&&((zlf a||zlf b)&&!(zwS a&&zwS b)))
 |.seq (.region _ ops _) (.cond c a b)=>zFV (g||zHz ops) (.cond c a b)
 |_=>false
def zM (ex:List (Nat×Nat)) (re:List (Nat×Nat):=[]) (c:Code) (ntm:Nat):Bool:=match c with
 |.scope (.loop b)=>(match zaF b with
  |some rid=>zBC rid ntm re
  |none=>false)
 |_=>bif zFV false c then (match zaF c with
 |some rid=>!zBC rid ntm ex
 |none=>false) else false
end Go.Fz.Sy
namespace Go.Fz.Sy
variable {P:Program} {w:World}
open Go.RowKit Go.ChangeShapes Go.WideShapes
def alT:Ty→Nat
 |.unit=>1
 |.bool=>1
 |.int k=>k.bits / 8
 |.str=>8
 |.list _=>8
 |.pair a b=>max (alT a) (alT b)
def upT (o a:Nat):Nat:=(o+a - 1) / a*a
def zFa:Ty→Nat→Nat
 |.unit,o=>o
 |.bool,o=>o+1
 |.int k,o=>upT o (k.bits / 8)+k.bits / 8
 |.str,o=>upT o 8+16
 |.list _,o=>upT o 8+24
 |.pair a b,o=>zFa b (zFa a o)
def bsT (y:Ty):Nat:=upT (zFa y 0) (alT y)
def wfT:(t:Ty)→T t→Prop
 |.unit,_=>True
 |.bool,_=>True
 |.int k,n=>k.min≤n∧n≤k.max
 |.str,s=>s.size≤maxLen
 |.list t,l=>(List.length (α:=T t) l≤maxLen∧List.length (α:=T t) l*bsT t≤reachBytes)∧∀x:T t,List.Mem x l→wfT t x
 |.pair a b,x=>wfT a x.1∧wfT b x.2
def Kw (ft:TypeId→Ty→Bool) (cz:TypeId→Nat):List Field→Nat→Ty→Bool
 |[],_,.unit=>true
 |[f],off,y=>Nat.beq f.offset off&&(ft f.type y&&Nat.beq (sz y) (cz f.type))
 |f::g::fs,off,.pair a b=>Nat.beq f.offset off&&(ft f.type a&&(Nat.beq (sz a) (cz f.type)&&Kw ft cz (g::fs) (off+sz a) b))
 |_,_,_=>false
def Kx (ft:Ty→Bool) (cz:Nat):Nat→Ty→Bool
 |0,.unit=>true
 |1,y=>ft y&&Nat.beq (sz y) cz
 |n+2,.pair a b=>ft a&&(Nat.beq (sz a) cz&&Kx ft cz (n+1) b)
 |_,_=>false
def zqP (P:Program):Nat→TypeId→Ty→Bool
 |0,_,_=>false
 |n+1,t,y=>match P.underlying t,y with
  |some .bool,.bool=>true
  |some (.int k),.int k'=>decide (k=k')
  |some .string,.str=>true
  |some (.slice e),.list y=>zqP P n e y&&(Nat.blt 0 (sz y)&&(Nat.beq (sz y) (P.cellsOf e)&&Nat.ble (bsT y) (P.bytesOf e)))
  |some (.struct fs),y=>Kw (zqP P n) P.cellsOf fs.toList 0 y&&Nat.beq (sz y) (P.cellsOf t)
  |some (.array m e),y=>Kx (zqP P n e) (P.cellsOf e) m y&&Nat.beq (sz y) (P.cellsOf t)
  |_,_=>false
def km (w:World):Ren:=fun n=>if FZ≤n then match w.heap[n - FZ]? with
 |some (.cells a _ _)=>some ⟨n - FZ,0,0,a⟩
 |_=>none else none
theorem zzy {b:Nat} {a:Array Value} {el:TypeId} {fr:Nat×Nat} (h:w.heap[b]?=some (.cells a el fr)):km w (FZ+b)=some ⟨b,0,0,a⟩:=by
 have h1:FZ≤FZ+b:=by omega
 have h2:FZ+b - FZ=b:=by omega
 simp only [km,h1,if_true,h2,h]
theorem zBF (w:World):zD (km w) [] (fun c=>c < w.heap.size) w:=by
 refine ⟨fun b k h=>by simp [Hp.get_nil] at h,fun b c k k' L L' h=>by simp [Hp.get_nil] at h,fun b k L h=>by simp [Hp.get_nil] at h,fun c hc=>hc,fun b L hL=>?_,fun b k L c M h=>by simp [Hp.get_nil] at h⟩
 have h1:FZ≤FZ+b:=by omega
 have h2:FZ+b - FZ=b:=by omega
 simp only [km,h1,if_true,h2] at hL
 split at hL
 ·rename_i a el fr ha
  cases hL
  exact ⟨rfl,rfl,a,el,fr,ha,fun j u h=>h⟩
 ·cases hL
theorem zzz (w:World) {n m:Nat} (hm:m≤FZ):vH (km w) n m:=⟨hm,fun b h1 h2=>by
 have:¬FZ≤b:=by omega
 simp only [km,this,if_false]⟩
theorem zBG {f:FuncId} {args:List Value} {H':Hp} {n':Nat} (hz:n'≤FZ) (hm:Zc P f args [] 0 (.bool true) H' n') {us:List Value} (hl:zy (km w) args us) :
  Calls P f us.toArray w fun e w'=>e=.returned (.bool true)∧Below w.heap.size w w':=by
 refine Calls.mono (hm.2 (km w) w (fun c=>c < w.heap.size) us (zBF w) (zzz w hz) hl) ?_
 rintro e w' ⟨v',φ',rfl,x1,x2,x3,x4⟩
 cases x1
 exact ⟨rfl,zvY x4⟩
section
variable {H:Type} {enc:TypeId×Value→H} {base:Nat} {spare:Nat→Bool} {held:Bool}
theorem zqQ {φ:Ren}:∀{a b x y:List Value},zy φ a x→zy φ b y→zy φ (a++b) (x++y)
 |[],_,[],_,_,h=>h
 |_::_,_,_::_,_,h,k=>⟨h.1,zqQ h.2 k⟩
 |[],_,_::_,_,h,_=>h.elim
 |_::_,_,[],_,h,_=>h.elim
theorem zvG {α:Type} {Φ:Nat→α→Prop}:∀(n:Nat),(∀i,i < n→∃q,Φ i q)→∃l:List α,l.length=n∧∀i q,l[i]?=some q→Φ i q
 |0,_=>⟨[],rfl,fun i q h=>by simp at h⟩
 |n+1,h=>by
  obtain ⟨l,hl,hq⟩:=zvG n fun i hi=>h i (by omega)
  obtain ⟨q,hn⟩:=h n (by omega)
  refine ⟨l++[q],by simp [hl],fun i q' hi=>?_⟩
  by_cases hlt:i < l.length
  ·rw [List.getElem?_append_left hlt] at hi;exact hq i q' hi
  ·rw [List.getElem?_append_right (by omega)] at hi
   have:i - l.length=0:=by
    have:=(List.getElem?_eq_some_iff.1 hi).1
    simp at this;omega
   rw [this] at hi
   simp at hi
   subst hi
   have:i=n:=by omega
   rw [this];exact hn
def zg1 (w:World) (y:Ty) (cs:List Value):Prop:=∃a:T y,wfT y a∧zy (km w) (qo y a) cs
theorem zyq {ft:TypeId→Ty→Bool} {cz:TypeId→Nat} {cs:List Value}:∀{fs:List Field} {off:Nat} {y:Ty},Kw ft cz fs off y=true→
  (∀f∈fs,∀z,ft f.type z=true→zg1 w z ((cs.drop f.offset).take (cz f.type)))→off+sz y=cs.length→zg1 w y (cs.drop off)
 |[],off,.unit,h,hf,hl=>⟨(),trivial,by
   have:cs.drop off=[]:=by simp [sz] at hl ⊢;omega
   rw [this];trivial⟩
 |[f],off,y,h,hf,hl=>by
  simp only [Kw,Bool.and_eq_true] at h
  obtain ⟨h1,h2,h3⟩:=h
  have h1:=Nat.eq_of_beq_eq_true h1
  have h3:=Nat.eq_of_beq_eq_true h3
  have:=hf f (by simp) y h2
  rw [h1,←h3,List.take_of_length_le (by simp;omega)] at this
  exact this
 |f::g::fs,off,.pair a b,h,hf,hl=>by
  simp only [Kw,Bool.and_eq_true] at h
  obtain ⟨h1,h2,h3,h4⟩:=h
  have h1:=Nat.eq_of_beq_eq_true h1
  have h3:=Nat.eq_of_beq_eq_true h3
  obtain ⟨x,wx,rx⟩:=hf f (by simp) a h2
  simp only [sz] at hl
  obtain ⟨z,wz,rz⟩:=zyq (cs:=cs) h4 (fun q hq=>hf q (by simp only [List.mem_cons] at hq ⊢;exact .inr hq)) (by omega)
  refine ⟨(x,z),⟨wx,wz⟩,?_⟩
  rw [h1,←h3] at rx
  have e:cs.drop off=(cs.drop off).take (sz a)++cs.drop (off+sz a):=by
   rw [←List.drop_drop];exact (List.take_append_drop _ _).symm
  rw [e]
  exact zqQ rx rz
 |[],_,.bool,h,_,_=>by simp [Kw] at h
 |[],_,.int _,h,_,_=>by simp [Kw] at h
 |[],_,.str,h,_,_=>by simp [Kw] at h
 |[],_,.list _,h,_,_=>by simp [Kw] at h
 |[],_,.pair _ _,h,_,_=>by simp [Kw] at h
 |_::_::_,_,.unit,h,_,_=>by simp [Kw] at h
 |_::_::_,_,.bool,h,_,_=>by simp [Kw] at h
 |_::_::_,_,.int _,h,_,_=>by simp [Kw] at h
 |_::_::_,_,.str,h,_,_=>by simp [Kw] at h
 |_::_::_,_,.list _,h,_,_=>by simp [Kw] at h
theorem zyr {ft:Ty→Bool} {cz:Nat} {cs:List Value} {N:Nat} (hf:∀i,i < N→∀z,ft z=true→zg1 w z ((cs.drop (i*cz)).take cz)):∀{m:Nat} {y:Ty} {i:Nat},Kx ft cz m y=true→i+m=N→i*cz+sz y=cs.length→zg1 w y (cs.drop (i*cz))
 |0,.unit,i,h,hN,hl=>⟨(),trivial,by
   have:cs.drop (i*cz)=[]:=by simp [sz] at hl ⊢;omega
   rw [this];trivial⟩
 |1,y,i,h,hN,hl=>by
  simp only [Kx,Bool.and_eq_true] at h
  obtain ⟨h1,h2⟩:=h
  have h2:=Nat.eq_of_beq_eq_true h2
  have:=hf i (by omega) y h1
  rw [←h2,List.take_of_length_le (by simp;rw [←h2] at hl;omega)] at this
  rw [←h2];exact this
 |m+2,.pair a b,i,h,hN,hl=>by
  simp only [Kx,Bool.and_eq_true] at h
  obtain ⟨h1,h2,h3⟩:=h
  have h2:=Nat.eq_of_beq_eq_true h2
  obtain ⟨x,wx,rx⟩:=hf i (by omega) a h1
  simp only [sz] at hl
  have e1:(i+1)*cz=i*cz+cz:=by rw [Nat.add_mul,Nat.one_mul]
  obtain ⟨z,wz,rz⟩:=zyr hf (m:=m+1) (i:=i+1) h3 (by omega) (by rw [e1];omega)
  refine ⟨(x,z),⟨wx,wz⟩,?_⟩
  have e:cs.drop (i*cz)=(cs.drop (i*cz)).take cz++cs.drop ((i+1)*cz):=by
   rw [e1,←List.drop_drop];exact (List.take_append_drop _ _).symm
  rw [e]
  exact zqQ rx rz
 |0,.bool,_,h,_,_=>by simp [Kx] at h
 |0,.int _,_,h,_,_=>by simp [Kx] at h
 |0,.str,_,h,_,_=>by simp [Kx] at h
 |0,.list _,_,h,_,_=>by simp [Kx] at h
 |0,.pair _ _,_,h,_,_=>by simp [Kx] at h
 |_+2,.unit,_,h,_,_=>by simp [Kx] at h
 |_+2,.bool,_,h,_,_=>by simp [Kx] at h
 |_+2,.int _,_,h,_,_=>by simp [Kx] at h
 |_+2,.str,_,h,_,_=>by simp [Kx] at h
 |_+2,.list _,_,h,_,_=>by simp [Kx] at h
theorem zi5 {e:TypeId} {d:DataW H}:∀{l:List (DataW H)},d∈l→∀n∈d.weights P e,n∈DataW.weightsAll P e l
 |a::l,h,n,hn=>by
  simp only [DataW.weightsAll,List.mem_append]
  rcases List.mem_cons.1 h with rfl | h
  ·exact .inl hn
  ·exact .inr (zi5 h n hn)
theorem zFb {e:TypeId} {y:Ty} {cs:List Value} {t:TypeId} {fuel:Nat} {x:DataW H×List MemPlace} (hu:P.underlying t=some (.slice e)) (h:DataW.trod enc P w base spare held fuel t cs=some x) (hw:∀n∈x.1.weights P t,n≤reachBytes)
  (ih:∀{fuel:Nat} {cs:List Value} {x:DataW H×List MemPlace},DataW.trod enc P w base spare held fuel e cs=some x→(∀n∈x.1.weights P e,n≤reachBytes)→zg1 w y cs) (hs:0 < sz y) (hz:sz y=P.cellsOf e) (hbs:bsT y≤P.bytesOf e):zg1 w (.list y) cs:=by
 rcases DataW.trod_slice hu h with ⟨rfl,_⟩ | ⟨a,len,cap,elems,rest,m,_,rfl,rfl,hb,hl,hm,hlen,hel,_,_⟩
 ·exact ⟨([]:List (T y)),⟨⟨Nat.zero_le _,by show 0*_≤_;rw [Nat.zero_mul];exact Nat.zero_le _⟩,fun x hx=>by cases hx⟩,by
   have:=zp.fz0 (φ:=km w) (sz y) none 0
   exact ⟨this,trivial⟩⟩
 ·have hw1:(elems.length+rest.length)*P.bytesOf e≤reachBytes:=by
   have:=hw ((elems.length+rest.length)*P.bytesOf e) (by simp [DataW.weights,hu])
   exact this
  have hw2:∀z∈elems,∀n∈z.1.weights P e,n≤reachBytes:=fun z hz n hn=>hw n (by
   simp only [DataW.weights,hu]
   exact List.mem_cons_of_mem _ (List.mem_append_left _ (zi5 (List.mem_map_of_mem hz) n hn)))
  have hall:∀i,i < len→∃q:T y,wfT y q∧∃us,zy (km w) (qo y q) us∧us.length=sz y∧∀j,j < sz y→w.cell? ((a.add (i*sz y)).add j)=us[j]?:=fun i hi=>by
   have h1:=hel i hi
   obtain ⟨z,hz2⟩:∃z,elems[i]?=some z:=⟨elems[i],List.getElem?_eq_getElem (by omega)⟩
   rw [hz2,Option.bind_eq_some_iff] at h1
   obtain ⟨us,h2,h3⟩:=h1
   obtain ⟨q,q1,q2⟩:=ih h3 (hw2 z (List.mem_of_getElem? hz2))
   obtain ⟨_,h4,h5⟩:=World.cells?_some h2
   rw [←hz] at h4 h5
   exact ⟨q,q1,us,q2,h4,h5⟩
  obtain ⟨l,hll,hl2⟩:=zvG len hall
  refine ⟨l,⟨⟨by show l.length≤maxLen;omega,Nat.le_trans (Nat.mul_le_mul (show l.length≤elems.length+rest.length by omega) hbs) hw1⟩,fun q hq=>?_⟩,?_⟩
  ·obtain ⟨i,hi⟩:=List.getElem?_of_mem hq
   exact (hl2 i q hi).1
  ·show zy (km w) [fzV (sz y) false (l.map fun x=>Value.agg (qo y x).toArray)] [Value.slice (some a) len cap]
   refine ⟨?_,trivial⟩
   by_cases h0:len=0
   ·subst h0
    obtain rfl:l=[]:=List.length_eq_zero_iff.1 hll
    exact zp.fz0 _ _ _
   ·
    obtain ⟨q0,hq0⟩:∃q,l[0]?=some q:=⟨l[0],List.getElem?_eq_getElem (by omega)⟩
    obtain ⟨_,us0,r0,l0,c0⟩:=hl2 0 q0 hq0
    have c00:=c0 0 hs
    have:∃v,us0[0]?=some v:=⟨us0[0],List.getElem?_eq_getElem (by omega)⟩
    obtain ⟨v0,hv0⟩:=this
    obtain ⟨b,o,sp⟩:=a
    have e0:((⟨b,o,sp⟩:Addr).add (0*sz y)).add 0=⟨b,o,sp⟩:=by simp [Addr.add]
    rw [e0,hv0] at c00
    unfold World.cell? at c00
    cases hh:w.heap[b]? with
    |none=>rw [hh] at c00;simp at c00
    |some ob=>
     rw [hh] at c00
     cases ob with
     |cells arr el fr=>
      have hsp:sp=none:=by
       cases sp with
       |none=>rfl
       |some s=>simp at c00
      subst hsp
      have hcell:∀k,w.cell? (⟨b,k,none⟩:Addr)=arr[k]?:=fun k=>by
       unfold World.cell?
       rw [hh];rfl
      have hat:∀i (q:T y),l[i]?=some q→∃us,zy (km w) (qo y q) us∧us.length=sz y∧∀j,j < sz y→arr[o+i*sz y+j]?=us[j]?:=fun i q hi=>by
       obtain ⟨_,us,r,hlu,hc⟩:=hl2 i q hi
       refine ⟨us,r,hlu,fun j hj=>?_⟩
       have:=hc j hj
       rw [Addr.add_none,Addr.add_none,hcell] at this
       exact this
      have hsz:∀(j:Nat) e,(l.map fun x=>Value.agg (qo y x).toArray).toArray[j]?=some e→e.cells.size=sz y:=fun j e he=>by
       simp only [List.getElem?_toArray,List.getElem?_map,Option.map_eq_some_iff] at he
       obtain ⟨q,_,rfl⟩:=he
       simp [Value.cells,wT]
      have hsize:(l.map fun x=>Value.agg (qo y x).toArray).toArray.size=len:=by simp [hll]
      have key:=zp.fz (φ:=km w) (sz y) (l.map fun x=>Value.agg (qo y x).toArray).toArray b o cap ⟨b,0,0,arr⟩ (zzy hh) (by rw [hsize];omega) (by
        rw [hsize]
        obtain ⟨q,hq⟩:∃q,l[len - 1]?=some q:=⟨l[len - 1],List.getElem?_eq_getElem (by omega)⟩
        obtain ⟨us,r,hlu,hc⟩:=hat (len - 1) q hq
        have h1:=hc (sz y - 1) (by omega)
        have:∃v,us[sz y - 1]?=some v:=⟨us[sz y - 1],List.getElem?_eq_getElem (by omega)⟩
        obtain ⟨v,hv⟩:=this
        rw [hv] at h1
        have h2:=(Array.getElem?_eq_some_iff.1 h1).1
        have h3:len*sz y=(len - 1)*sz y+sz y:=by
         have:len=(len - 1)+1:=by omega
         rw [this,Nat.add_mul,Nat.one_mul];simp
        show o+len*sz y≤arr.size
        omega) (by rw [hsize];omega) hsz (fun j k e u u' he hu hu'=>by
        simp only [List.getElem?_toArray,List.getElem?_map,Option.map_eq_some_iff] at he
        obtain ⟨q,hq,rfl⟩:=he
        obtain ⟨us,r,hlu,hc⟩:=hat j q hq
        simp only [Value.cells,List.getElem?_toArray] at hu
        have hk:k < sz y:=by
         have:=(List.getElem?_eq_some_iff.1 hu).1
         rw [wT] at this;exact this
        obtain ⟨v',hv',hr⟩:=r.get hu
        have:arr[o+j*sz y+k]?=some u':=hu'
        rw [hc k hk,hv'] at this
        cases this
        exact hr)
      rw [hsize] at key
      exact key
     |_=>simp at c00
theorem zsn:∀(n:Nat) {t:TypeId} {y:Ty} {fuel:Nat} {cs:List Value} {x:DataW H×List MemPlace},zqP P n t y=true→DataW.trod enc P w base spare held fuel t cs=some x→(∀n∈x.1.weights P t,n≤reachBytes)→zg1 w y cs
 |0,_,_,_,_,_,h,_,_=>by cases h
 |n+1,t,y,0,cs,x,_,h,_=>by cases h
 |n+1,t,y,fuel+1,cs,x,h,hx,hw=>by
  simp only [zqP] at h
  split at h
  ·rename_i hu
   simp only [DataW.trod,hu] at hx
   split at hx<;>first | (rename_i e1 e2;cases e1;done) | skip
   all_goals first | (exact ⟨_,trivial,.bool _,trivial⟩) | (simp_all;done) | cases hx
  ·rename_i k k' hu
   have hk:k=k':=of_decide_eq_true h
   subst hk
   obtain ⟨m,h1,h2,h3⟩:=DataW.trod_int hu hx
   subst h1
   simp only [Lit.wf,Bool.and_eq_true,decide_eq_true_eq] at h3
   exact ⟨m,h3,.int _ _,trivial⟩
  ·rename_i hu
   obtain ⟨s,h1,h2,h3⟩:=DataW.trod_string hu hx
   subst h1
   exact ⟨s,h3,.str _,trivial⟩
  ·rename_i e y' hu
   simp only [Bool.and_eq_true] at h
   obtain ⟨h1,h2,h3,h4⟩:=h
   exact zFb hu hx hw (fun hy hwy=>zsn n h1 hy hwy) (by simpa using h2) (Nat.eq_of_beq_eq_true h3) (Nat.le_of_ble_eq_true h4)
  ·rename_i fs hu
   simp only [Bool.and_eq_true] at h
   obtain ⟨h1,h2⟩:=h
   have h2:=Nat.eq_of_beq_eq_true h2
   obtain ⟨xs,m,_,rfl,hl,hlen,hf⟩:=DataW.trod_struct hu hx
   simp only [DataW.weights,hu] at hw
   have:=zyq (w:=w) (cs:=cs) h1 (fun f hf2 z hz=>by
    obtain ⟨i,hi⟩:=List.getElem?_of_mem hf2
    have h4:=hf i f (by simpa using hi)
    have hlt:i < xs.length:=by
     have:=(List.getElem?_eq_some_iff.1 hi).1
     rw [hlen];simpa using this
    rw [List.getElem?_eq_getElem hlt] at h4
    exact zsn n hz h4 fun k hk=>hw k (DataW.weights_mem_each (j:=i) (t:=f.type) (d:=xs[i].1) (by rw [List.getElem?_map,hi];rfl) (by rw [List.getElem?_map,List.getElem?_eq_getElem hlt];rfl) k hk)) (by rw [hl,h2,Nat.zero_add])
   simpa using this
  ·rename_i m e hu
   simp only [Bool.and_eq_true] at h
   obtain ⟨h1,h2⟩:=h
   have h2:=Nat.eq_of_beq_eq_true h2
   obtain ⟨xs,q,_,rfl,hl,hlen,hf⟩:=DataW.trod_array hu hx
   simp only [DataW.weights,hu] at hw
   have:=zyr (w:=w) (cs:=cs) (N:=m) (cz:=P.cellsOf e) (fun i hi z hz=>by
    have h4:=hf i hi
    have hlt:i < xs.length:=by omega
    rw [List.getElem?_eq_getElem hlt] at h4
    exact zsn n hz h4 fun k hk=>hw k (zi5 (List.mem_map_of_mem (List.getElem_mem hlt)) k hk)) (m:=m) (i:=0) h1 (by omega) (by rw [hl,h2];simp)
   simpa using this
  ·cases h
def znG (P:Program) (t:TypeId):Bool:=match P.underlying t with
 |some (.struct _)=>true
 |some (.array _ _)=>true
 |_=>false
def zdP (P:Program) (n:Nat):List TypeId→List VT→Bool
 |[],[]=>true
 |t::ts,v::vs=>zqP P n t v.ty&&((bif znG P t then v.agg else !v.agg)&&zdP P n ts vs)
 |_,_=>false
theorem zFc {φ:Ren} {x v:Value} {a:List Value} (h:zy φ a [v]) (ha:a=[x]):zp φ x v:=by subst ha;exact h.1
theorem zH3 {n:Nat} {t:TypeId} {vt:VT} {r:Reach} {b0:Nat} {v:Value} {d:DataW H} {ps:List MemPlace} (hf:zqP P n t vt.ty=true) (ha:(bif znG P t then vt.agg else !vt.agg)=true) (hv:Value.okWide P w r b0 t v) (hd:DataW.Trod enc P w base spare held t v d ps) (hw:∀n∈d.weights P t,n≤reachBytes) :
  ∃x:T vt.ty,wfT vt.ty x∧∀ρ,zp (km w) (den ρ (mkV vt x)) v:=by
 obtain ⟨ag,ty⟩:=vt
 obtain ⟨fuel,hd⟩:=hd
 obtain ⟨x,wx,rx⟩:=zsn n hf hd hw
 refine ⟨x,wx,fun ρ=>?_⟩
 cases ag with
 |true=>
  have hag:znG P t=true:=by
   cases h:znG P t with
   |true=>rfl
   |false=>rw [h] at ha;cases ha
  have:∃cs,v=.agg cs:=by
   unfold znG at hag
   unfold Value.okWide at hv
   split at hv
   ·obtain ⟨cs,h1,_⟩:=hv;exact ⟨cs,h1⟩
   ·obtain ⟨cs,h1,_⟩:=hv;exact ⟨cs,h1⟩
   ·rename_i h1 h2
    split at hag
    ·rename_i h3;exact absurd h3 (h1 _)
    ·rename_i h3;exact absurd h3 (h2 _ _)
    ·cases hag
  obtain ⟨cs,rfl⟩:=this
  simp only [mkV,cond_true,den]
  refine .agg' ?_
  rw [qF,yY]
  exact rx
 |false=>
  have hag:znG P t=false:=by
   cases h:znG P t with
   |true=>rw [h] at ha;cases ha
   |false=>rfl
  have hcell:v.cells.toList=[v]:=by
   unfold znG at hag
   unfold Value.okWide at hv
   split at hv
   ·rename_i h1;simp only [h1] at hag;cases hag
   ·rename_i h1;simp only [h1] at hag;cases hag
   ·cases v with
    |agg cs=>
     unfold Cell.okWide at hv
     split at hv<;>first | (exfalso;revert hv;unfold Cell.ok;split<;>simp_all;done) | (rename_i e1 e2;cases e2)
    |_=>rfl
  rw [hcell] at rx
  have hlen:=rx.length
  have h2:=yY ρ ty x
  simp only [mkV,cond_false]
  match he:wZ ty x with
  |[u]=>
   rw [he] at h2
   exact zFc rx h2.symm
  |[]=>rw [he] at h2;rw [←h2] at hlen;simp at hlen
  |_::_::_=>rw [he] at h2;rw [←h2] at hlen;simp at hlen
theorem zC8 {n:Nat} {r:Reach} {b0:Nat}:∀{ts:List TypeId} {a:List VT} {us:List Value} {ds:List (DataW H)} {ps:List MemPlace},zdP P n ts a=true→
  (∀(j:Nat) t v,ts[j]?=some t→us[j]?=some v→Value.okWide P w r b0 t v)→DataW.TrodAll enc P w base spare held ts us ds ps→(∀n∈DataW.weightsEach P ts ds,n≤reachBytes)→
  ∃x:T (qn a),wfT (qn a) x∧∀ρ,zy (km w) (zr ρ (wD a x)) us
 |[],[],us,ds,ps,_,_,h,_=>by
  obtain ⟨rfl,_,_⟩:=trodAll_nil h
  exact ⟨(),trivial,fun ρ=>trivial⟩
 |t::ts,v::a,us,ds,ps,hf,hv,h,hw=>by
  simp only [zdP,Bool.and_eq_true] at hf
  obtain ⟨f1,f2,f3⟩:=hf
  obtain ⟨u,us',d,ds',p,q,rfl,rfl,rfl,h1,h2⟩:=trodAll_cons h
  obtain ⟨x,wx,rx⟩:=zH3 f1 f2 (hv 0 t u rfl rfl) h1 (fun n hn=>hw n (by simp only [DataW.weightsEach,List.mem_append];exact .inl hn))
  obtain ⟨y,wy,ry⟩:=zC8 (ts:=ts) (a:=a) f3 (fun j t v ht hv2=>hv (j+1) t v (by simpa using ht) (by simpa using hv2)) h2 (fun n hn=>hw n (by simp only [DataW.weightsEach,List.mem_append];exact .inr hn))
  exact ⟨(x,y),⟨wx,wy⟩,fun ρ=>⟨rx ρ,ry ρ⟩⟩
 |[],_::_,_,_,_,hf,_,_,_=>by simp [zdP] at hf
 |_::_,[],_,_,_,hf,_,_,_=>by simp [zdP] at hf
theorem zp9:∀{ts:List TypeId} {us:List Value} {ds:List (DataW H)} {ps:List MemPlace},DataW.TrodAll enc P w base spare held ts us ds ps→ds.length=ts.length
 |[],_,_,_,h=>by
  obtain ⟨_,rfl,_⟩:=trodAll_nil h
  rfl
 |t::ts,us,ds,ps,h=>by
  obtain ⟨u,us',d,ds',p,q,rfl,rfl,rfl,h1,h2⟩:=trodAll_cons h
  rw [List.length_cons,List.length_cons,zp9 h2]
theorem zC9 {f:FuncId} {a:List VT} {G:T (qn a)→Option (T (qn [⟨false,.bool⟩]))} (hc:Con.Ok P f ⟨a,[⟨false,.bool⟩],G⟩) (hG:∀x,wfT (qn a) x→G x=some (true,())) {n:Nat} {r:Reach} {b0:Nat} {ts:List TypeId} {us:List Value} {ds:List (DataW H)} {ps:List MemPlace} (hf:zdP P n ts a=true)
  (hv:∀(j:Nat) t v,ts[j]?=some t→us[j]?=some v→Value.okWide P w r b0 t v) (h:DataW.TrodAll enc P w base spare held ts us ds ps) (hw:(DataW.weightsEach P ts ds).all (·≤reachBytes)=true) :
  Calls P f us.toArray w fun e w'=>e=.returned (.bool true)∧Below w.heap.size w w':=by
 obtain ⟨x,wx,rx⟩:=zC8 hf hv h (fun n hn=>of_decide_eq_true (List.all_eq_true.1 hw n hn))
 obtain ⟨Hd,nx',hz,hcall⟩:=hc.2 x _ (hG x wx)
 exact zBG hz hcall (rx _)
end
def zso:Ty→List Value
 |.unit=>[]
 |.bool=>[.bool false]
 |.int k=>[.int k 0]
 |.str=>[.string ByteArray.empty]
 |.list _=>[.slice none 0 0]
 |.pair a b=>zso a++zso b
def zIi (v:VT):Value:=bif v.agg then .agg (zso v.ty).toArray else match zso v.ty with
 |[u]=>u
 |_=>.nilFunc
def zH4 (a:List VT):Array Value:=(a.map zIi).toArray
theorem zi:zgn P []:=fun x h=>by cases h
theorem zf {f:FuncId} {c:Con} {t:Tbl} (h:c.Ok P f) (ht:zgn P t):zgn P ((f,c)::t):=fun x hx=>by
 rcases List.mem_cons.1 hx with rfl | hx
 ·exact h
 ·exact ht x hx
end Go.Fz.Sy
namespace Go.Fz.Sy
def zud {α:Type} (f:α→α→Bool):List α→List α→Bool
 |[],[]=>true
 |x::l,y::r=>bif f x y then zud f l r else false
 |_,_=>false
theorem zz8 {α:Type} {f:α→α→Bool} (hf:∀x y,f x y=true→x=y):∀l r:List α,zud f l r=true→l=r
 |[],[],_=>rfl
 |[],_::_,h=>by simp [zud] at h
 |_::_,[],h=>by simp [zud] at h
 |x::l,y::r,h=>by
  have h:(bif f x y then zud f l r else false)=true:=h
  cases hx:f x y with
  |false=>rw [hx] at h;cases h
  |true=>
   rw [hx] at h
   rw [hf x y hx,zz8 hf l r h]
def eqT:(t:Ty)→T t→T t→Bool
 |.unit,_,_=>true
 |.bool,a,b=>bif (a:Bool) then b else !(b:Bool)
 |.int _,a,b=>zj a b
 |.str,a,b=>@decide ((a:ByteArray)=b) (inferInstanceAs (Decidable ((a:ByteArray)=b)))
 |.list t,a,b=>zud (eqT t) a b
 |.pair s t,x,y=>bif eqT s (p1 x) (p1 y) then eqT t (p2 x) (p2 y) else false
theorem zg2:∀(t:Ty) (x y:T t),eqT t x y=true→x=y
 |.unit,x,y,_=>by cases x;cases y;rfl
 |.bool,a,b,h=>by
  have h:(bif (a:Bool) then b else !(b:Bool))=true:=h
  cases a<;>cases b<;>first | rfl | cases h
 |.int _,a,b,h=>by
  have h:zj a b=true:=h
  rw [wM] at h;exact eq_of_beq h
 |.str,a,b,h=>by
  have h:@decide ((a:ByteArray)=b) (inferInstanceAs (Decidable ((a:ByteArray)=b)))=true:=h
  exact of_decide_eq_true h
 |.list t,a,b,h=>zz8 (zg2 t) a b h
 |.pair s t,x,y,h=>by
  have h:(bif eqT s (p1 x) (p1 y) then eqT t (p2 x) (p2 y) else false)=true:=h
  cases h1:eqT s (p1 x) (p1 y) with
  |false=>rw [h1] at h;cases h
  |true=>
   rw [h1] at h
   have e1:=zg2 s _ _ h1
   have e2:=zg2 t _ _ h
   exact Prod.ext e1 e2
def Gm {a b:List VT}:List (T (qn a)×T (qn b))→T (qn a)→Option (T (qn b))
 |[],_=>none
 |p::r,x=>bif eqT (qn a) x p.1 then some p.2 else Gm r x
theorem zvH {a b:List VT} {c:T (qn a)→Option (T (qn b))}:∀{l:List (T (qn a)×T (qn b))},(∀p∈l,c p.1=some p.2)→∀{x r},Gm l x=some r→c x=some r
 |[],_,_,_,h=>by cases h
 |p::l,hl,x,r,h=>by
  have h:(bif eqT (qn a) x p.1 then some p.2 else Gm l x)=some r:=h
  cases hx:eqT (qn a) x p.1 with
  |true=>
   rw [hx] at h
   cases h
   rw [zg2 _ _ _ hx]
   exact hl p (by simp)
  |false=>
   rw [hx] at h
   exact zvH (fun q hq=>hl q (by simp [hq])) h
theorem Gn {P:Program} {f:FuncId} {a b:List VT} {c:T (qn a)→Option (T (qn b))} (h:Con.Ok P f ⟨a,b,c⟩) {l:List (T (qn a)×T (qn b))} (hl:∀p∈l,c p.1=some p.2):Con.Ok P f ⟨a,b,Gm l⟩:=
 ⟨h.1,fun x r hx=>h.2 x r (zvH hl hx)⟩
theorem zbg {a b:List VT} {c:T (qn a)→Option (T (qn b))}:∀p∈([]:List (T (qn a)×T (qn b))),c p.1=some p.2:=fun p hp=>by cases hp
theorem Je {a b:List VT} {c:T (qn a)→Option (T (qn b))} {x:T (qn a)} {r:T (qn b)} {l:List (T (qn a)×T (qn b))} (h:c x=some r) (hl:∀p∈l,c p.1=some p.2):∀p∈(x,r)::l,c p.1=some p.2:=fun p hp=>by
 rcases List.mem_cons.1 hp with rfl | hp
 ·exact h
 ·exact hl p hp
theorem qU {z:Int} (h1 : -9223372036854775808≤z) (h2:z≤9223372036854775807):wrF .i64 z=z:=by
 rw [zca]
 have e:IntKind.i64.wrap z=if z % 18446744073709551616≥9223372036854775808 then z % 18446744073709551616 - 18446744073709551616 else z % 18446744073709551616:=by
  unfold IntKind.wrap
  show (if (true&&decide (z % 18446744073709551616≥9223372036854775808))=true then z % 18446744073709551616 - 18446744073709551616 else z % 18446744073709551616)=_
  simp only [Bool.true_and,decide_eq_true_eq]
 rw [e]
 split<;>omega
theorem zF {α R:Type} (a:α) (f:α→Option R):opt (some a) f=f a:=rfl
theorem zz9 {α:Type} (l:List α) (n:Nat):atI l (n:Int)=l[n]?:=by
 show gl l n=_
 exact kp l n
theorem zHA {α:Type} {l:List α} {z:Int} (h0:0≤z) (h:z < l.length):∃x,atI l z=some x∧l[z.toNat]?=some x:=by
 obtain ⟨n,rfl⟩:=Int.eq_ofNat_of_zero_le h0
 have hn:n < l.length:=by omega
 exact ⟨l[n],by rw [zz9];simp [hn],by simp [hn]⟩
theorem Qx {α:Type} {l:List α} {n:Nat} {x:α} (h:l[n]?=some x):atI l (n:Int)=some x:=by rw [zz9];exact h
theorem zvI {X S:Type} {B:S→Option (X ⊕ S)} {I:S→Prop} {J:X→Prop} {m:S→Nat} (h:∀s,I s→(∃x,B s=some (.inl x)∧J x)∨(∃s',B s=some (.inr s')∧I s'∧m s' < m s)) :
  ∀(N:Nat) (s:S),I s→m s < N→∃x,qd B N s=some x∧J x
 |0,s,_,hm=>by omega
 |N+1,s,hI,hm=>by
  rw [Ku]
  rcases h s hI with ⟨x,hx,hJ⟩ | ⟨s',hs,hI',hlt⟩
  ·exact ⟨x,by rw [hx],hJ⟩
  ·rw [hs]
   exact zvI h N s' hI' (by omega)
theorem zFd {X S:Type} {B:S→Option (X ⊕ S)} (I:S→Prop) (J:X→Prop) (m:S→Nat) (h:∀s,I s→(∃x,B s=some (.inl x)∧J x)∨(∃s',B s=some (.inr s')∧I s'∧m s' < m s)) {s:S} (hI:I s) (hm:m s < 1180591620717411303424) :
  ∃x,qd B qC s=some x∧J x:=zvI h qC s hI (Nat.lt_of_lt_of_le hm zz7)
def qp {α:Type} (o:Option α) (Q:α→Prop):Prop:=∃r,o=some r∧Q r
theorem zd {α:Type} {a:α} {Q:α→Prop} (h:Q a):qp (some a) Q:=⟨a,rfl,h⟩
theorem zo {α R:Type} {x:Option α} {f:α→Option R} {Q:R→Prop} (h:qp x fun a=>qp (f a) Q):qp (opt x f) Q:=by
 obtain ⟨a,rfl,r,h1,h2⟩:=h
 exact ⟨r,h1,h2⟩
theorem zn {α R:Type} {x:Option α} {f:α→Option R} {J:α→Prop} {Q:R→Prop} (h:qp x J) (hf:∀a,J a→qp (f a) Q):qp (opt x f) Q:=by
 obtain ⟨a,rfl,ha⟩:=h
 exact hf a ha
theorem zq {α:Type} {b:Bool} {x y:Option α} {Q:α→Prop} (h1:b=true→qp x Q) (h2:b=false→qp y Q):qp (bif b then x else y) Q:=by
 cases b with
 |true=>exact h1 rfl
 |false=>exact h2 rfl
theorem zvJ {α:Type} {o:Option α} {Q Q':α→Prop} (h:qp o Q) (hq:∀a,Q a→Q' a):qp o Q':=by
 obtain ⟨a,e,ha⟩:=h
 exact ⟨a,e,hq a ha⟩
theorem xd {α:Type} {o:Option α} {a:α} (h:qp o fun r=>r=a):o=some a:=by
 obtain ⟨r,e,rfl⟩:=h
 exact e
def zBH {X S:Type} (I:S→Prop) (J:X→Prop) (m:S→Nat) (s:S) (r:X ⊕ S):Prop:=(∀x,r=.inl x→J x)∧∀s',r=.inr s'→I s'∧m s' < m s
theorem zDa {X S:Type} {I:S→Prop} {J:X→Prop} {m:S→Nat} {s:S} {x:X} (h:J x):zBH I J m s (.inl x):=⟨fun y e=>by cases e;exact h,fun s' e=>by cases e⟩
theorem zFe {X S:Type} {I:S→Prop} {J:X→Prop} {m:S→Nat} {s s':S} (h:I s') (hm:m s' < m s):zBH I J m s (.inr s'):=⟨(fun y e=>by cases e),fun s'' e=>by cases e;exact ⟨h,hm⟩⟩
theorem zDb {X S:Type} {B:S→Option (X ⊕ S)} {s:S} (I:S→Prop) (J:X→Prop) (m:S→Nat) (hI:I s) (hm:m s < 1180591620717411303424) (h:∀s,I s→qp (B s) (zBH I J m s)):qp (qd B qC s) J:=by
 obtain ⟨x,h1,h2⟩:=zFd (B:=B) I J m (fun s hs=>by
  obtain ⟨r,e,h3,h4⟩:=h s hs
  cases r with
  |inl x=>exact .inl ⟨x,e,h3 x rfl⟩
  |inr s'=>exact .inr ⟨s',e,h4 s' rfl⟩) hI hm
 exact ⟨x,h1,h2⟩
theorem zP {α:Type} {l:List α} {n:Nat} {x:α} {Q:α→Prop} (h:l[n]?=some x) (hq:Q x):qp (atI l (n:Int)) Q:=⟨x,Qx h,hq⟩
end Go.Fz.Sy
namespace Go.Proofs.YtleloebnggepoaaGreat.sg
open Go Go.Fz Go.Fz.Sy
abbrev I:Ty:=.int .i64
theorem zm:um Tryz.prog:=zxd (by kernel_rfl)
abbrev qy:Ty:=(.pair I (.pair I (.pair I I)))
abbrev zvK:Type:=(Int×(Int×(Int×Int)))
abbrev zV:Ty:=(.pair I (.pair (.list .bool) (.list qy)))
abbrev qk:Type:=(Int×((List Bool)×(List zvK)))
abbrev zi6:Ty:=(.pair I (.pair I (.pair I I)))
abbrev zgo:Type:=(Int×(Int×(Int×Int)))
abbrev jf:Ty:=(.pair I I)
abbrev zgp:Type:=(Int×Int)
abbrev qq:Ty:=(.pair (.list jf) I)
abbrev jo:Type:=((List zgp)×Int)
abbrev qK:Ty:=(.pair zV (.pair zi6 (.pair (.list qq) I)))
abbrev jJ:Type:=(qk×(zgo×((List jo)×Int)))
abbrev zu:Ty:=(.pair I I)
abbrev wb:Type:=(Int×Int)
abbrev zA:Ty:=(.pair I (.pair I (.pair I (.pair I (.pair I (.pair I (.pair zu (.pair I (.list (.list I))))))))))
abbrev zv:Type:=(Int×(Int×(Int×(Int×(Int×(Int×(wb×(Int×(List (List Int))))))))))
abbrev wq:Ty:=(.pair I (.pair I (.pair I (.pair zA I))))
abbrev qD:Type:=(Int×(Int×(Int×(zv×Int))))
abbrev jW:Ty:=(.pair I (.pair I (.pair I (.pair I (.list I)))))
abbrev qE:Type:=(Int×(Int×(Int×(Int×(List Int)))))
abbrev xa:Ty:=(.pair I (.pair I (.pair I .bool)))
abbrev xU:Type:=(Int×(Int×(Int×Bool)))
abbrev qL:Ty:=(.pair I (.pair I (.pair I (.pair I (.pair .bool (.pair zA I))))))
abbrev zJ:Type:=(Int×(Int×(Int×(Int×(Bool×(zv×Int))))))
abbrev qV:Ty:=(.pair qK (.pair (.list zA) (.pair (.list wq) (.pair (.list jW) (.pair (.list xa) (.list qL))))))
abbrev zK:Type:=(jJ×((List zv)×((List qD)×((List qE)×((List xU)×(List zJ))))))
abbrev ze:Ty:=qV
abbrev za:Type:=zK
abbrev XZ:Ty:=zV
abbrev QY:Type:=qk
abbrev zqa:Ty:=(.pair I (.pair I I))
abbrev GU:Ty:=(.pair qy I)
abbrev zbM:Type:=(zvK×Int)
abbrev wN:Ty:=(.pair I I)
abbrev Wm:Ty:=(.pair I I)
abbrev vR:Type:=(Int×Int)
abbrev zqb:Ty:=(.pair zu (.pair Wm (.pair I I)))
abbrev zue:Ty:=(.pair zqb I)
abbrev Wf:Ty:=(.pair I (.pair I (.pair I zA)))
abbrev yn:Type:=(Int×(Int×(Int×zv)))
abbrev yk:Ty:=(.pair (.int .u8) (.pair (.int .u8) (.pair (.int .u8) (.pair .bool (.pair (.int .u16) (.pair (.int .u16) (.int .u16)))))))
abbrev qt:Type:=(Int×(Int×(Int×(Bool×(Int×(Int×Int))))))
end Go.Proofs.YtleloebnggepoaaGreat.sg
namespace Go.Proofs.YtleloebnggepoaaGreat.sg
open Go.Shelf
def zzA:Go.Shelf.Ren:=⟨fun | 189=>140 | 125=>156 | 257=>155 | 128=>175 | 129=>176 | 294=>166 | 295=>167 | 296=>168 | 297=>169 | 298=>170 | 299=>171 | 216=>172 | 300=>173 | 301=>174 | 328=>180 | 329=>181 | 330=>182 | 331=>183 | 332=>184 | 215=>55 | 343=>187 | n=>n,fun | 28=>77 | 3=>3 | 46=>241 | 0=>0 | 51=>261 | 53=>246 | 4=>4 | 183=>254 | 182=>253 | 131=>106 | 5=>5 | 9=>9 | 218=>267 | 222=>271 | 228=>274 | 229=>275 | n=>n,fun | n=>n⟩
theorem zAa:Go.Proofs.Lays.n189 Tryz.prog zzA:={
 mixed:=by kernel_rfl
 f125:=Tryz.func156.trans (congrArg some (by kernel_rfl))
 f128:=Tryz.func175.trans (congrArg some (by kernel_rfl))
 f129:=Tryz.func176.trans (congrArg some (by kernel_rfl))
 f189:=Tryz.func140.trans (congrArg some (by kernel_rfl))
 f215:=Tryz.func55.trans (congrArg some (by kernel_rfl))
 f216:=Tryz.func172.trans (congrArg some (by kernel_rfl))
 f257:=Tryz.func155.trans (congrArg some (by kernel_rfl))
 f294:=Tryz.func166.trans (congrArg some (by kernel_rfl))
 f295:=Tryz.func167.trans (congrArg some (by kernel_rfl))
 f296:=Tryz.func168.trans (congrArg some (by kernel_rfl))
 f297:=Tryz.func169.trans (congrArg some (by kernel_rfl))
 f298:=Tryz.func170.trans (congrArg some (by kernel_rfl))
 f299:=Tryz.func171.trans (congrArg some (by kernel_rfl))
 f300:=Tryz.func173.trans (congrArg some (by kernel_rfl))
 f301:=Tryz.func174.trans (congrArg some (by kernel_rfl))
 f328:=Tryz.func180.trans (congrArg some (by kernel_rfl))
 f329:=Tryz.func181.trans (congrArg some (by kernel_rfl))
 f330:=Tryz.func182.trans (congrArg some (by kernel_rfl))
 f331:=Tryz.func183.trans (congrArg some (by kernel_rfl))
 f332:=Tryz.func184.trans (congrArg some (by kernel_rfl))
 f343:=Tryz.func187.trans (congrArg some (by kernel_rfl))
 t0:=Tryz.underlying0
 a0:=Tryz.isAgg0
 z0:=Tryz.sizeOf0
 v0:=Tryz.zeroValue0
 t3:=Tryz.underlying3
 a3:=Tryz.isAgg3
 z3:=Tryz.sizeOf3
 v3:=Tryz.zeroValue3
 t4:=Tryz.underlying4
 a4:=Tryz.isAgg4
 z4:=Tryz.sizeOf4
 v4:=Tryz.zeroValue4
 t5:=Tryz.underlying5
 a5:=Tryz.isAgg5
 z5:=Tryz.sizeOf5
 v5:=Tryz.zeroValue5
 t9:=Tryz.underlying9
 a9:=Tryz.isAgg9
 z9:=Tryz.sizeOf9
 v9:=Tryz.zeroValue9
 t28:=Tryz.underlying77
 a28:=Tryz.isAgg77
 z28:=Tryz.sizeOf77
 v28:=Tryz.zeroValue77
 t46:=Tryz.underlying241
 a46:=Tryz.isAgg241
 z46:=Tryz.sizeOf241
 v46:=Tryz.zeroValue241
 t51:=Tryz.underlying261
 a51:=Tryz.isAgg261
 z51:=Tryz.sizeOf261
 v51:=Tryz.zeroValue261
 t53:=Tryz.underlying246
 a53:=Tryz.isAgg246
 z53:=Tryz.sizeOf246
 v53:=Tryz.zeroValue246
 t131:=Tryz.underlying106
 a131:=Tryz.isAgg106
 z131:=Tryz.sizeOf106
 v131:=Tryz.zeroValue106
 t182:=Tryz.underlying253
 a182:=Tryz.isAgg253
 z182:=Tryz.sizeOf253
 v182:=Tryz.zeroValue253
 t183:=Tryz.underlying254
 a183:=Tryz.isAgg254
 z183:=Tryz.sizeOf254
 v183:=Tryz.zeroValue254
 t218:=Tryz.underlying267
 a218:=Tryz.isAgg267
 z218:=Tryz.sizeOf267
 v218:=Tryz.zeroValue267
 t222:=Tryz.underlying271
 a222:=Tryz.isAgg271
 z222:=Tryz.sizeOf271
 v222:=Tryz.zeroValue271
 t228:=Tryz.underlying274
 a228:=Tryz.isAgg274
 z228:=Tryz.sizeOf274
 v228:=Tryz.zeroValue274
 t229:=Tryz.underlying275
 a229:=Tryz.isAgg275
 z229:=Tryz.sizeOf275
 v229:=Tryz.zeroValue275}
def zv0:Go.Shelf.Ren:=⟨fun | 20=>141 | n=>n,fun | 22=>77 | 3=>3 | 4=>4 | 0=>0 | n=>n,fun | n=>n⟩
theorem zvL:Go.Proofs.Lays2.n20 Tryz.prog zv0:={
 mixed:=by kernel_rfl
 f20:=Tryz.func141.trans (congrArg some (by kernel_rfl))
 t0:=Tryz.underlying0
 a0:=Tryz.isAgg0
 z0:=Tryz.sizeOf0
 v0:=Tryz.zeroValue0
 t3:=Tryz.underlying3
 a3:=Tryz.isAgg3
 z3:=Tryz.sizeOf3
 v3:=Tryz.zeroValue3
 t4:=Tryz.underlying4
 a4:=Tryz.isAgg4
 z4:=Tryz.sizeOf4
 v4:=Tryz.zeroValue4
 t22:=Tryz.underlying77
 a22:=Tryz.isAgg77
 z22:=Tryz.sizeOf77
 v22:=Tryz.zeroValue77
 i3:=by kernel_rfl}
end Go.Proofs.YtleloebnggepoaaGreat.sg
namespace Go.Proofs.YtleloebnggepoaaGreat.sg
open Go Go.Fz Go.Fz.Sy
theorem zHB:zjO Tryz.prog 140 where
 fn:=⟨Tryz.f140,Tryz.func140,by kernel_rfl⟩
 run:=fun blk off cap L w hH hb hl=>Any.slices_Sort_int zAa blk off cap L w hH hb hl
 nil:=fun a cap w=>Any.slices_Sort_int_none zAa a cap w
theorem zHC:zjP Tryz.prog 141 where
 fn:=⟨Tryz.f141,Tryz.func141,by kernel_rfl⟩
 run:=fun blk off cap L w hH hl hc=>Any.slices_Compact_int zvL blk off cap L w hH hl hc
 nil:=fun a cap w=>Any.slices_Compact_int_empty zvL a cap w
theorem zH5:ziv Tryz.prog [(140,true),(141,false)]:=zBy zHB (zBz zHC qw)
abbrev cdF (t:Ty):znE:=⟨t,zeF t,[]⟩
abbrev Xr:List VT:=[]
abbrev Xt:List VT:=[⟨true,qK⟩]
def zys:qb:=zT [⟨qK,zeF qK,[7]⟩,cdF zV,cdF qy,cdF qq,cdF jf] [] [⟨4,25,none,qq,true⟩] [(4,25,1,[7])] []
def zi7:Option (jJ×Unit):=
 opt (qd (fun s0:((Unit×(Int×Unit))×(((Int×((List Bool)×(List (Int×(Int×(Int×Int))))))×((Int×(Int×(Int×Int)))×((List ((List (Int×Int))×Int))×(Int×Unit))))×Unit))=>
  bif zt s0.1.2.1 6 then bif (xE s0.2.1.2.2.1.length (((((127,100)::[]),100)::[]).length) 32) then some (.inr (((),((wrF .i64 (s0.1.2.1+1)),())),((s0.2.1.1,(s0.2.1.2.1,((s0.2.1.2.2.1++((((127,100)::[]),100)::[])),(s0.2.1.2.2.2.1,())))),())))
   else none
  else some (.inl (0,(((),(s0.1.2.1,())),((s0.2.1.1,(s0.2.1.2.1,(s0.2.1.2.2.1,(s0.2.1.2.2.2.1,())))),()))))) qC (((),(0,())),(((4,((true::(false::(false::(true::[])))),((0,(1,(8,5)))::((1,(2,(8,5)))::((2,(3,(8,5)))::[]))))),((100,(2,(10,8000))),([],(200,())))),()))) fun x1=>
 some ((x1.2.2.1.1,(x1.2.2.1.2.1,(x1.2.2.1.2.2.1,x1.2.2.1.2.2.2.1))),())
abbrev zi8:Type:=(Unit)→Option (jJ×Unit)
def zqc:zi8:=sF Tryz.prog [] zys (zM []) 30 15 Xr Xt
theorem zzB:zqc ()=zi7:=by kernel_rfl
def Ui:zi8:=zqc
theorem zuf:Con.Ok Tryz.prog 15 ⟨Xr,Xt,Ui⟩:=zz zi zm (by kernel_rfl)
theorem zug:Ui ()=zi7:=zzB
abbrev Uj:List VT:=[⟨true,zV⟩,⟨false,I⟩]
abbrev Uk:List VT:=[⟨false,.bool⟩]
def zyt:qb:=zT [cdF zV,cdF qy] [] [] [] []
def zi9 (a0:qk) (a1:Int):Option (Bool×Unit):=
 bif !(zt a1 0) then some ((zt a1 a0.1),())
 else some (false,())
abbrev zep:Type:=(qk×Int×Unit)→Option (Bool×Unit)
def zqd:zep:=sF Tryz.prog [] zyt (zM []) 30 93 Uj Uk
theorem zzC (a0) (a1):zqd (a0,a1,())=zi9 a0 a1:=by kernel_rfl
def Ul:zep:=zqd
theorem zuh:Con.Ok Tryz.prog 93 ⟨Uj,Uk,Ul⟩:=zz zi zm (by kernel_rfl)
theorem zui (a0) (a1):Ul (a0,a1,())=zi9  a0 a1:=zzC  a0 a1
abbrev Va:List VT:=[⟨true,zV⟩]
abbrev Vb:List VT:=[⟨false,.bool⟩]
def zv1:qb:=zT [cdF zV,cdF qy] [] [] [] [93]
def zg3 (XB:zep) (a0:qk):Option (Bool×Unit):=
 opt (qd (fun s0:((Bool×(Int×Unit))×Unit)=>
  bif (zt s0.1.2.1 ((a0.2.2.length:Nat):Int)) then opt (qd (fun s1:((Bool×(Int×Unit))×Unit)=>
    bif zt s1.1.2.1 4 then bif zj s1.1.2.1 0 then opt (atI a0.2.2 s0.1.2.1) fun x2=>
      opt (XB (a0,(x2.1,()))) fun x3=>
      bif x3.1 then opt (XB (a0,(x2.2.1,()))) fun x4=>
       bif x4.1 then bif (!(!(zj x2.1 x2.2.1))) then some (.inl (1,((false,(s1.1.2.1,())),())))
        else some (.inr ((s1.1.1,((wrF .i64 (s1.1.2.1+1)),())),()))
       else some (.inl (1,((false,(s1.1.2.1,())),())))
      else some (.inl (1,((false,(s1.1.2.1,())),())))
     else bif zj s1.1.2.1 1 then opt (atI a0.2.2 s0.1.2.1) fun x5=>
       opt (atI a0.2.1 x5.1) fun x6=>
       bif !x6 then some (.inr ((s1.1.1,((wrF .i64 (s1.1.2.1+1)),())),()))
       else opt (atI a0.2.1 x5.2.1) fun x7=>
        bif !(!x7) then some (.inl (1,((false,(s1.1.2.1,())),())))
        else some (.inr ((s1.1.1,((wrF .i64 (s1.1.2.1+1)),())),()))
      else bif zj s1.1.2.1 2 then opt (atI a0.2.2 s0.1.2.1) fun x8=>
        opt (uz a0.2.2 none (some s0.1.2.1) none) fun x9=>
        opt (qd (fun s10:((Bool×(Int×Unit))×Unit)=>
         bif (zt s10.1.2.1 ((x9.length:Nat):Int)) then opt (atI x9 s10.1.2.1) fun x11=>
          opt (bif zj x8.1 x11.1 then bif zj x8.2.1 x11.2.1 then some (1,((false,()),()))
            else bif zj x8.1 x11.2.1 then bif zj x8.2.1 x11.1 then some (1,((false,()),()))
              else some (0,((s10.1.1,()),()))
             else some (0,((s10.1.1,()),()))
           else bif zj x8.1 x11.2.1 then bif zj x8.2.1 x11.1 then some (1,((false,()),()))
             else some (0,((s10.1.1,()),()))
            else some (0,((s10.1.1,()),()))) fun x12=>
          bif Nat.beq x12.1 0 then some (.inr ((x12.2.1.1,((wrF .i64 (s10.1.2.1+1)),())),()))
          else some (.inl (1,((x12.2.1.1,(s10.1.2.1,())),())))
         else some (.inl (0,((s10.1.1,(s10.1.2.1,())),())))) qC ((false,(0,())),())) fun x13=>
        bif Nat.beq x13.1 0 then some (.inr ((s1.1.1,((wrF .i64 (s1.1.2.1+1)),())),()))
        else bif !x13.2.1.1 then some (.inl (1,((false,(s1.1.2.1,())),())))
         else some (.inr ((s1.1.1,((wrF .i64 (s1.1.2.1+1)),())),()))
       else bif zj s1.1.2.1 3 then opt (atI a0.2.2 s0.1.2.1) fun x14=>
         bif !(zt x14.2.2.1 1) then bif !(zt 1000 x14.2.2.1) then bif !(zt x14.2.2.2 0) then bif (!(!(zt 10000 x14.2.2.2))) then some (.inl (1,((false,(s1.1.2.1,())),())))
            else some (.inr ((s1.1.1,((wrF .i64 (s1.1.2.1+1)),())),()))
           else some (.inl (1,((false,(s1.1.2.1,())),())))
          else some (.inl (1,((false,(s1.1.2.1,())),())))
         else some (.inl (1,((false,(s1.1.2.1,())),())))
        else none
    else some (.inl (0,((s1.1.1,(s1.1.2.1,())),())))) qC ((s0.1.1,(0,())),())) fun x15=>
   bif Nat.beq x15.1 0 then some (.inr ((x15.2.1.1,((wrF .i64 (s0.1.2.1+1)),())),()))
   else some (.inl (1,((x15.2.1.1,(s0.1.2.1,())),())))
  else some (.inl (0,((s0.1.1,(s0.1.2.1,())),())))) qC ((false,(0,())),())) fun x16=>
 bif Nat.beq x16.1 0 then some (true,())
 else some (x16.2.1.1,())
abbrev zcp:Type:=(qk×Unit)→Option (Bool×Unit)
def znH:zep→zcp:=fun XB=>sF Tryz.prog [(93,⟨Uj,Uk,XB⟩)] zv1 (zM []) 30 59 Va Vb
theorem zyu (XB) (a0):znH XB (a0,())=zg3 XB a0:=by kernel_rfl
def Vc:zcp:=znH Ul
theorem zsp:Con.Ok Tryz.prog 59 ⟨Va,Vb,Vc⟩:=zz (zf zuh zi) zm (by kernel_rfl)
theorem zsq (a0):Vc (a0,())=zg3 Ul a0:=zyu Ul a0
abbrev Vd:List VT:=[⟨true,zV⟩,⟨false,I⟩,⟨true,(.pair .bool (.pair .bool (.pair .bool (.pair .bool (.pair .bool (.pair .bool (.pair .bool (.pair .bool (.pair .bool (.pair .bool (.pair .bool (.pair .bool (.pair .bool (.pair .bool (.pair .bool (.pair .bool (.pair .bool (.pair .bool (.pair .bool (.pair .bool (.pair .bool (.pair .bool (.pair .bool .bool)))))))))))))))))))))))⟩]
abbrev Ve:List VT:=[⟨false,(.list .bool)⟩]
def zv2:qb:=zT [⟨(.pair .bool (.pair .bool (.pair .bool (.pair .bool (.pair .bool (.pair .bool (.pair .bool (.pair .bool (.pair .bool (.pair .bool (.pair .bool (.pair .bool (.pair .bool (.pair .bool (.pair .bool (.pair .bool (.pair .bool (.pair .bool (.pair .bool (.pair .bool (.pair .bool (.pair .bool (.pair .bool .bool))))))))))))))))))))))),zeF (.pair .bool (.pair .bool (.pair .bool (.pair .bool (.pair .bool (.pair .bool (.pair .bool (.pair .bool (.pair .bool (.pair .bool (.pair .bool (.pair .bool (.pair .bool (.pair .bool (.pair .bool (.pair .bool (.pair .bool (.pair .bool (.pair .bool (.pair .bool (.pair .bool (.pair .bool (.pair .bool .bool))))))))))))))))))))))),[]⟩,cdF zV,cdF qy] [] [⟨4,56,some 6,.bool,false⟩,⟨6,56,some 6,.bool,false⟩,⟨8,56,some 6,.bool,false⟩] [] []
def zg4 (a0:qk) (a1:Int) (a2:(Bool×(Bool×(Bool×(Bool×(Bool×(Bool×(Bool×(Bool×(Bool×(Bool×(Bool×(Bool×(Bool×(Bool×(Bool×(Bool×(Bool×(Bool×(Bool×(Bool×(Bool×(Bool×(Bool×Bool)))))))))))))))))))))))):Option ((List Bool)×Unit):=
 bif zqE a0.1 a0.1 1 then opt (atI (List.replicate (Int.toNat a0.1) false) a1) fun x0=>
  opt (gl (List.replicate (Int.toNat a0.1) false) (Int.toNat a1)) fun x1=>
  opt (qd (fun s2:((Int×Unit)×((List Bool)×Unit))=>
   bif zt s2.1.1 a0.1 then opt (qd (fun s3:((Int×Unit)×((List Bool)×Unit))=>
     bif (zt s3.1.1 ((a0.2.2.length:Nat):Int)) then opt (atI a0.2.2 s3.1.1) fun x4=>
      opt (bif zj s3.1.1 0 then bif !a2.1 then opt (atI s3.2.1 x4.1) fun x5=>
         opt (gl s3.2.1 (Int.toNat x4.1)) fun x6=>
         opt (atI s3.2.1 x4.2.1) fun x7=>
         opt (gl s3.2.1 (Int.toNat x4.2.1)) fun x8=>
         bif !(x6 == x8) then opt (atI s3.2.1 x4.1) fun x9=>
          opt (gl s3.2.1 (Int.toNat x4.1)) fun x10=>
          opt (atI (s3.2.1.set (Int.toNat x4.1) true) x4.2.1) fun x11=>
          opt (gl (s3.2.1.set (Int.toNat x4.1) true) (Int.toNat x4.2.1)) fun x12=>
          some (0,((),(((s3.2.1.set (Int.toNat x4.1) true).set (Int.toNat x4.2.1) true),())))
         else some (0,((),(s3.2.1,())))
        else some (0,((),(s3.2.1,())))
       else bif zj s3.1.1 1 then bif !a2.2.1 then opt (atI s3.2.1 x4.1) fun x13=>
          opt (gl s3.2.1 (Int.toNat x4.1)) fun x14=>
          opt (atI s3.2.1 x4.2.1) fun x15=>
          opt (gl s3.2.1 (Int.toNat x4.2.1)) fun x16=>
          bif !(x14 == x16) then opt (atI s3.2.1 x4.1) fun x17=>
           opt (gl s3.2.1 (Int.toNat x4.1)) fun x18=>
           opt (atI (s3.2.1.set (Int.toNat x4.1) true) x4.2.1) fun x19=>
           opt (gl (s3.2.1.set (Int.toNat x4.1) true) (Int.toNat x4.2.1)) fun x20=>
           some (0,((),(((s3.2.1.set (Int.toNat x4.1) true).set (Int.toNat x4.2.1) true),())))
          else some (0,((),(s3.2.1,())))
         else some (0,((),(s3.2.1,())))
        else bif zj s3.1.1 2 then bif !a2.2.2.1 then opt (atI s3.2.1 x4.1) fun x21=>
           opt (gl s3.2.1 (Int.toNat x4.1)) fun x22=>
           opt (atI s3.2.1 x4.2.1) fun x23=>
           opt (gl s3.2.1 (Int.toNat x4.2.1)) fun x24=>
           bif !(x22 == x24) then opt (atI s3.2.1 x4.1) fun x25=>
            opt (gl s3.2.1 (Int.toNat x4.1)) fun x26=>
            opt (atI (s3.2.1.set (Int.toNat x4.1) true) x4.2.1) fun x27=>
            opt (gl (s3.2.1.set (Int.toNat x4.1) true) (Int.toNat x4.2.1)) fun x28=>
            some (0,((),(((s3.2.1.set (Int.toNat x4.1) true).set (Int.toNat x4.2.1) true),())))
           else some (0,((),(s3.2.1,())))
          else some (0,((),(s3.2.1,())))
         else bif zj s3.1.1 3 then bif !a2.2.2.2.1 then opt (atI s3.2.1 x4.1) fun x29=>
            opt (gl s3.2.1 (Int.toNat x4.1)) fun x30=>
            opt (atI s3.2.1 x4.2.1) fun x31=>
            opt (gl s3.2.1 (Int.toNat x4.2.1)) fun x32=>
            bif !(x30 == x32) then opt (atI s3.2.1 x4.1) fun x33=>
             opt (gl s3.2.1 (Int.toNat x4.1)) fun x34=>
             opt (atI (s3.2.1.set (Int.toNat x4.1) true) x4.2.1) fun x35=>
             opt (gl (s3.2.1.set (Int.toNat x4.1) true) (Int.toNat x4.2.1)) fun x36=>
             some (0,((),(((s3.2.1.set (Int.toNat x4.1) true).set (Int.toNat x4.2.1) true),())))
            else some (0,((),(s3.2.1,())))
           else some (0,((),(s3.2.1,())))
          else bif zj s3.1.1 4 then bif !a2.2.2.2.2.1 then opt (atI s3.2.1 x4.1) fun x37=>
             opt (gl s3.2.1 (Int.toNat x4.1)) fun x38=>
             opt (atI s3.2.1 x4.2.1) fun x39=>
             opt (gl s3.2.1 (Int.toNat x4.2.1)) fun x40=>
             bif !(x38 == x40) then opt (atI s3.2.1 x4.1) fun x41=>
              opt (gl s3.2.1 (Int.toNat x4.1)) fun x42=>
              opt (atI (s3.2.1.set (Int.toNat x4.1) true) x4.2.1) fun x43=>
              opt (gl (s3.2.1.set (Int.toNat x4.1) true) (Int.toNat x4.2.1)) fun x44=>
              some (0,((),(((s3.2.1.set (Int.toNat x4.1) true).set (Int.toNat x4.2.1) true),())))
             else some (0,((),(s3.2.1,())))
            else some (0,((),(s3.2.1,())))
           else bif zj s3.1.1 5 then bif !a2.2.2.2.2.2.1 then opt (atI s3.2.1 x4.1) fun x45=>
              opt (gl s3.2.1 (Int.toNat x4.1)) fun x46=>
              opt (atI s3.2.1 x4.2.1) fun x47=>
              opt (gl s3.2.1 (Int.toNat x4.2.1)) fun x48=>
              bif !(x46 == x48) then opt (atI s3.2.1 x4.1) fun x49=>
               opt (gl s3.2.1 (Int.toNat x4.1)) fun x50=>
               opt (atI (s3.2.1.set (Int.toNat x4.1) true) x4.2.1) fun x51=>
               opt (gl (s3.2.1.set (Int.toNat x4.1) true) (Int.toNat x4.2.1)) fun x52=>
               some (0,((),(((s3.2.1.set (Int.toNat x4.1) true).set (Int.toNat x4.2.1) true),())))
              else some (0,((),(s3.2.1,())))
             else some (0,((),(s3.2.1,())))
            else bif zj s3.1.1 6 then bif !a2.2.2.2.2.2.2.1 then opt (atI s3.2.1 x4.1) fun x53=>
               opt (gl s3.2.1 (Int.toNat x4.1)) fun x54=>
               opt (atI s3.2.1 x4.2.1) fun x55=>
               opt (gl s3.2.1 (Int.toNat x4.2.1)) fun x56=>
               bif !(x54 == x56) then opt (atI s3.2.1 x4.1) fun x57=>
                opt (gl s3.2.1 (Int.toNat x4.1)) fun x58=>
                opt (atI (s3.2.1.set (Int.toNat x4.1) true) x4.2.1) fun x59=>
                opt (gl (s3.2.1.set (Int.toNat x4.1) true) (Int.toNat x4.2.1)) fun x60=>
                some (0,((),(((s3.2.1.set (Int.toNat x4.1) true).set (Int.toNat x4.2.1) true),())))
               else some (0,((),(s3.2.1,())))
              else some (0,((),(s3.2.1,())))
             else bif zj s3.1.1 7 then bif !a2.2.2.2.2.2.2.2.1 then opt (atI s3.2.1 x4.1) fun x61=>
                opt (gl s3.2.1 (Int.toNat x4.1)) fun x62=>
                opt (atI s3.2.1 x4.2.1) fun x63=>
                opt (gl s3.2.1 (Int.toNat x4.2.1)) fun x64=>
                bif !(x62 == x64) then opt (atI s3.2.1 x4.1) fun x65=>
                 opt (gl s3.2.1 (Int.toNat x4.1)) fun x66=>
                 opt (atI (s3.2.1.set (Int.toNat x4.1) true) x4.2.1) fun x67=>
                 opt (gl (s3.2.1.set (Int.toNat x4.1) true) (Int.toNat x4.2.1)) fun x68=>
                 some (0,((),(((s3.2.1.set (Int.toNat x4.1) true).set (Int.toNat x4.2.1) true),())))
                else some (0,((),(s3.2.1,())))
               else some (0,((),(s3.2.1,())))
              else bif zj s3.1.1 8 then bif !a2.2.2.2.2.2.2.2.2.1 then opt (atI s3.2.1 x4.1) fun x69=>
                 opt (gl s3.2.1 (Int.toNat x4.1)) fun x70=>
                 opt (atI s3.2.1 x4.2.1) fun x71=>
                 opt (gl s3.2.1 (Int.toNat x4.2.1)) fun x72=>
                 bif !(x70 == x72) then opt (atI s3.2.1 x4.1) fun x73=>
                  opt (gl s3.2.1 (Int.toNat x4.1)) fun x74=>
                  opt (atI (s3.2.1.set (Int.toNat x4.1) true) x4.2.1) fun x75=>
                  opt (gl (s3.2.1.set (Int.toNat x4.1) true) (Int.toNat x4.2.1)) fun x76=>
                  some (0,((),(((s3.2.1.set (Int.toNat x4.1) true).set (Int.toNat x4.2.1) true),())))
                 else some (0,((),(s3.2.1,())))
                else some (0,((),(s3.2.1,())))
               else bif zj s3.1.1 9 then bif !a2.2.2.2.2.2.2.2.2.2.1 then opt (atI s3.2.1 x4.1) fun x77=>
                  opt (gl s3.2.1 (Int.toNat x4.1)) fun x78=>
                  opt (atI s3.2.1 x4.2.1) fun x79=>
                  opt (gl s3.2.1 (Int.toNat x4.2.1)) fun x80=>
                  bif !(x78 == x80) then opt (atI s3.2.1 x4.1) fun x81=>
                   opt (gl s3.2.1 (Int.toNat x4.1)) fun x82=>
                   opt (atI (s3.2.1.set (Int.toNat x4.1) true) x4.2.1) fun x83=>
                   opt (gl (s3.2.1.set (Int.toNat x4.1) true) (Int.toNat x4.2.1)) fun x84=>
                   some (0,((),(((s3.2.1.set (Int.toNat x4.1) true).set (Int.toNat x4.2.1) true),())))
                  else some (0,((),(s3.2.1,())))
                 else some (0,((),(s3.2.1,())))
                else bif zj s3.1.1 10 then bif !a2.2.2.2.2.2.2.2.2.2.2.1 then opt (atI s3.2.1 x4.1) fun x85=>
                   opt (gl s3.2.1 (Int.toNat x4.1)) fun x86=>
                   opt (atI s3.2.1 x4.2.1) fun x87=>
                   opt (gl s3.2.1 (Int.toNat x4.2.1)) fun x88=>
                   bif !(x86 == x88) then opt (atI s3.2.1 x4.1) fun x89=>
                    opt (gl s3.2.1 (Int.toNat x4.1)) fun x90=>
                    opt (atI (s3.2.1.set (Int.toNat x4.1) true) x4.2.1) fun x91=>
                    opt (gl (s3.2.1.set (Int.toNat x4.1) true) (Int.toNat x4.2.1)) fun x92=>
                    some (0,((),(((s3.2.1.set (Int.toNat x4.1) true).set (Int.toNat x4.2.1) true),())))
                   else some (0,((),(s3.2.1,())))
                  else some (0,((),(s3.2.1,())))
                 else bif zj s3.1.1 11 then bif !a2.2.2.2.2.2.2.2.2.2.2.2.1 then opt (atI s3.2.1 x4.1) fun x93=>
                    opt (gl s3.2.1 (Int.toNat x4.1)) fun x94=>
                    opt (atI s3.2.1 x4.2.1) fun x95=>
                    opt (gl s3.2.1 (Int.toNat x4.2.1)) fun x96=>
                    bif !(x94 == x96) then opt (atI s3.2.1 x4.1) fun x97=>
                     opt (gl s3.2.1 (Int.toNat x4.1)) fun x98=>
                     opt (atI (s3.2.1.set (Int.toNat x4.1) true) x4.2.1) fun x99=>
                     opt (gl (s3.2.1.set (Int.toNat x4.1) true) (Int.toNat x4.2.1)) fun x100=>
                     some (0,((),(((s3.2.1.set (Int.toNat x4.1) true).set (Int.toNat x4.2.1) true),())))
                    else some (0,((),(s3.2.1,())))
                   else some (0,((),(s3.2.1,())))
                  else bif zj s3.1.1 12 then bif !a2.2.2.2.2.2.2.2.2.2.2.2.2.1 then opt (atI s3.2.1 x4.1) fun x101=>
                     opt (gl s3.2.1 (Int.toNat x4.1)) fun x102=>
                     opt (atI s3.2.1 x4.2.1) fun x103=>
                     opt (gl s3.2.1 (Int.toNat x4.2.1)) fun x104=>
                     bif !(x102 == x104) then opt (atI s3.2.1 x4.1) fun x105=>
                      opt (gl s3.2.1 (Int.toNat x4.1)) fun x106=>
                      opt (atI (s3.2.1.set (Int.toNat x4.1) true) x4.2.1) fun x107=>
                      opt (gl (s3.2.1.set (Int.toNat x4.1) true) (Int.toNat x4.2.1)) fun x108=>
                      some (0,((),(((s3.2.1.set (Int.toNat x4.1) true).set (Int.toNat x4.2.1) true),())))
                     else some (0,((),(s3.2.1,())))
                    else some (0,((),(s3.2.1,())))
                   else bif zj s3.1.1 13 then bif !a2.2.2.2.2.2.2.2.2.2.2.2.2.2.1 then opt (atI s3.2.1 x4.1) fun x109=>
                      opt (gl s3.2.1 (Int.toNat x4.1)) fun x110=>
                      opt (atI s3.2.1 x4.2.1) fun x111=>
                      opt (gl s3.2.1 (Int.toNat x4.2.1)) fun x112=>
                      bif !(x110 == x112) then opt (atI s3.2.1 x4.1) fun x113=>
                       opt (gl s3.2.1 (Int.toNat x4.1)) fun x114=>
                       opt (atI (s3.2.1.set (Int.toNat x4.1) true) x4.2.1) fun x115=>
                       opt (gl (s3.2.1.set (Int.toNat x4.1) true) (Int.toNat x4.2.1)) fun x116=>
                       some (0,((),(((s3.2.1.set (Int.toNat x4.1) true).set (Int.toNat x4.2.1) true),())))
                      else some (0,((),(s3.2.1,())))
                     else some (0,((),(s3.2.1,())))
                    else bif zj s3.1.1 14 then bif !a2.2.2.2.2.2.2.2.2.2.2.2.2.2.2.1 then opt (atI s3.2.1 x4.1) fun x117=>
                       opt (gl s3.2.1 (Int.toNat x4.1)) fun x118=>
                       opt (atI s3.2.1 x4.2.1) fun x119=>
                       opt (gl s3.2.1 (Int.toNat x4.2.1)) fun x120=>
                       bif !(x118 == x120) then opt (atI s3.2.1 x4.1) fun x121=>
                        opt (gl s3.2.1 (Int.toNat x4.1)) fun x122=>
                        opt (atI (s3.2.1.set (Int.toNat x4.1) true) x4.2.1) fun x123=>
                        opt (gl (s3.2.1.set (Int.toNat x4.1) true) (Int.toNat x4.2.1)) fun x124=>
                        some (0,((),(((s3.2.1.set (Int.toNat x4.1) true).set (Int.toNat x4.2.1) true),())))
                       else some (0,((),(s3.2.1,())))
                      else some (0,((),(s3.2.1,())))
                     else bif zj s3.1.1 15 then bif !a2.2.2.2.2.2.2.2.2.2.2.2.2.2.2.2.1 then opt (atI s3.2.1 x4.1) fun x125=>
                        opt (gl s3.2.1 (Int.toNat x4.1)) fun x126=>
                        opt (atI s3.2.1 x4.2.1) fun x127=>
                        opt (gl s3.2.1 (Int.toNat x4.2.1)) fun x128=>
                        bif !(x126 == x128) then opt (atI s3.2.1 x4.1) fun x129=>
                         opt (gl s3.2.1 (Int.toNat x4.1)) fun x130=>
                         opt (atI (s3.2.1.set (Int.toNat x4.1) true) x4.2.1) fun x131=>
                         opt (gl (s3.2.1.set (Int.toNat x4.1) true) (Int.toNat x4.2.1)) fun x132=>
                         some (0,((),(((s3.2.1.set (Int.toNat x4.1) true).set (Int.toNat x4.2.1) true),())))
                        else some (0,((),(s3.2.1,())))
                       else some (0,((),(s3.2.1,())))
                      else bif zj s3.1.1 16 then bif !a2.2.2.2.2.2.2.2.2.2.2.2.2.2.2.2.2.1 then opt (atI s3.2.1 x4.1) fun x133=>
                         opt (gl s3.2.1 (Int.toNat x4.1)) fun x134=>
                         opt (atI s3.2.1 x4.2.1) fun x135=>
                         opt (gl s3.2.1 (Int.toNat x4.2.1)) fun x136=>
                         bif !(x134 == x136) then opt (atI s3.2.1 x4.1) fun x137=>
                          opt (gl s3.2.1 (Int.toNat x4.1)) fun x138=>
                          opt (atI (s3.2.1.set (Int.toNat x4.1) true) x4.2.1) fun x139=>
                          opt (gl (s3.2.1.set (Int.toNat x4.1) true) (Int.toNat x4.2.1)) fun x140=>
                          some (0,((),(((s3.2.1.set (Int.toNat x4.1) true).set (Int.toNat x4.2.1) true),())))
                         else some (0,((),(s3.2.1,())))
                        else some (0,((),(s3.2.1,())))
                       else bif zj s3.1.1 17 then bif !a2.2.2.2.2.2.2.2.2.2.2.2.2.2.2.2.2.2.1 then opt (atI s3.2.1 x4.1) fun x141=>
                          opt (gl s3.2.1 (Int.toNat x4.1)) fun x142=>
                          opt (atI s3.2.1 x4.2.1) fun x143=>
                          opt (gl s3.2.1 (Int.toNat x4.2.1)) fun x144=>
                          bif !(x142 == x144) then opt (atI s3.2.1 x4.1) fun x145=>
                           opt (gl s3.2.1 (Int.toNat x4.1)) fun x146=>
                           opt (atI (s3.2.1.set (Int.toNat x4.1) true) x4.2.1) fun x147=>
                           opt (gl (s3.2.1.set (Int.toNat x4.1) true) (Int.toNat x4.2.1)) fun x148=>
                           some (0,((),(((s3.2.1.set (Int.toNat x4.1) true).set (Int.toNat x4.2.1) true),())))
                          else some (0,((),(s3.2.1,())))
                         else some (0,((),(s3.2.1,())))
                        else bif zj s3.1.1 18 then bif !a2.2.2.2.2.2.2.2.2.2.2.2.2.2.2.2.2.2.2.1 then opt (atI s3.2.1 x4.1) fun x149=>
                           opt (gl s3.2.1 (Int.toNat x4.1)) fun x150=>
                           opt (atI s3.2.1 x4.2.1) fun x151=>
                           opt (gl s3.2.1 (Int.toNat x4.2.1)) fun x152=>
                           bif !(x150 == x152) then opt (atI s3.2.1 x4.1) fun x153=>
                            opt (gl s3.2.1 (Int.toNat x4.1)) fun x154=>
                            opt (atI (s3.2.1.set (Int.toNat x4.1) true) x4.2.1) fun x155=>
                            opt (gl (s3.2.1.set (Int.toNat x4.1) true) (Int.toNat x4.2.1)) fun x156=>
                            some (0,((),(((s3.2.1.set (Int.toNat x4.1) true).set (Int.toNat x4.2.1) true),())))
                           else some (0,((),(s3.2.1,())))
                          else some (0,((),(s3.2.1,())))
                         else bif zj s3.1.1 19 then bif !a2.2.2.2.2.2.2.2.2.2.2.2.2.2.2.2.2.2.2.2.1 then opt (atI s3.2.1 x4.1) fun x157=>
                            opt (gl s3.2.1 (Int.toNat x4.1)) fun x158=>
                            opt (atI s3.2.1 x4.2.1) fun x159=>
                            opt (gl s3.2.1 (Int.toNat x4.2.1)) fun x160=>
                            bif !(x158 == x160) then opt (atI s3.2.1 x4.1) fun x161=>
                             opt (gl s3.2.1 (Int.toNat x4.1)) fun x162=>
                             opt (atI (s3.2.1.set (Int.toNat x4.1) true) x4.2.1) fun x163=>
                             opt (gl (s3.2.1.set (Int.toNat x4.1) true) (Int.toNat x4.2.1)) fun x164=>
                             some (0,((),(((s3.2.1.set (Int.toNat x4.1) true).set (Int.toNat x4.2.1) true),())))
                            else some (0,((),(s3.2.1,())))
                           else some (0,((),(s3.2.1,())))
                          else bif zj s3.1.1 20 then bif !a2.2.2.2.2.2.2.2.2.2.2.2.2.2.2.2.2.2.2.2.2.1 then opt (atI s3.2.1 x4.1) fun x165=>
                             opt (gl s3.2.1 (Int.toNat x4.1)) fun x166=>
                             opt (atI s3.2.1 x4.2.1) fun x167=>
                             opt (gl s3.2.1 (Int.toNat x4.2.1)) fun x168=>
                             bif !(x166 == x168) then opt (atI s3.2.1 x4.1) fun x169=>
                              opt (gl s3.2.1 (Int.toNat x4.1)) fun x170=>
                              opt (atI (s3.2.1.set (Int.toNat x4.1) true) x4.2.1) fun x171=>
                              opt (gl (s3.2.1.set (Int.toNat x4.1) true) (Int.toNat x4.2.1)) fun x172=>
                              some (0,((),(((s3.2.1.set (Int.toNat x4.1) true).set (Int.toNat x4.2.1) true),())))
                             else some (0,((),(s3.2.1,())))
                            else some (0,((),(s3.2.1,())))
                           else bif zj s3.1.1 21 then bif !a2.2.2.2.2.2.2.2.2.2.2.2.2.2.2.2.2.2.2.2.2.2.1 then opt (atI s3.2.1 x4.1) fun x173=>
                              opt (gl s3.2.1 (Int.toNat x4.1)) fun x174=>
                              opt (atI s3.2.1 x4.2.1) fun x175=>
                              opt (gl s3.2.1 (Int.toNat x4.2.1)) fun x176=>
                              bif !(x174 == x176) then opt (atI s3.2.1 x4.1) fun x177=>
                               opt (gl s3.2.1 (Int.toNat x4.1)) fun x178=>
                               opt (atI (s3.2.1.set (Int.toNat x4.1) true) x4.2.1) fun x179=>
                               opt (gl (s3.2.1.set (Int.toNat x4.1) true) (Int.toNat x4.2.1)) fun x180=>
                               some (0,((),(((s3.2.1.set (Int.toNat x4.1) true).set (Int.toNat x4.2.1) true),())))
                              else some (0,((),(s3.2.1,())))
                             else some (0,((),(s3.2.1,())))
                            else bif zj s3.1.1 22 then bif !a2.2.2.2.2.2.2.2.2.2.2.2.2.2.2.2.2.2.2.2.2.2.2.1 then opt (atI s3.2.1 x4.1) fun x181=>
                               opt (gl s3.2.1 (Int.toNat x4.1)) fun x182=>
                               opt (atI s3.2.1 x4.2.1) fun x183=>
                               opt (gl s3.2.1 (Int.toNat x4.2.1)) fun x184=>
                               bif !(x182 == x184) then opt (atI s3.2.1 x4.1) fun x185=>
                                opt (gl s3.2.1 (Int.toNat x4.1)) fun x186=>
                                opt (atI (s3.2.1.set (Int.toNat x4.1) true) x4.2.1) fun x187=>
                                opt (gl (s3.2.1.set (Int.toNat x4.1) true) (Int.toNat x4.2.1)) fun x188=>
                                some (0,((),(((s3.2.1.set (Int.toNat x4.1) true).set (Int.toNat x4.2.1) true),())))
                               else some (0,((),(s3.2.1,())))
                              else some (0,((),(s3.2.1,())))
                             else bif zj s3.1.1 23 then bif !a2.2.2.2.2.2.2.2.2.2.2.2.2.2.2.2.2.2.2.2.2.2.2.2 then opt (atI s3.2.1 x4.1) fun x189=>
                                opt (gl s3.2.1 (Int.toNat x4.1)) fun x190=>
                                opt (atI s3.2.1 x4.2.1) fun x191=>
                                opt (gl s3.2.1 (Int.toNat x4.2.1)) fun x192=>
                                bif !(x190 == x192) then opt (atI s3.2.1 x4.1) fun x193=>
                                 opt (gl s3.2.1 (Int.toNat x4.1)) fun x194=>
                                 opt (atI (s3.2.1.set (Int.toNat x4.1) true) x4.2.1) fun x195=>
                                 opt (gl (s3.2.1.set (Int.toNat x4.1) true) (Int.toNat x4.2.1)) fun x196=>
                                 some (0,((),(((s3.2.1.set (Int.toNat x4.1) true).set (Int.toNat x4.2.1) true),())))
                                else some (0,((),(s3.2.1,())))
                               else some (0,((),(s3.2.1,())))
                              else none) fun x197=>
      some (.inr (((wrF .i64 (s3.1.1+1)),()),(x197.2.2.1,())))
     else some (.inl (0,((s3.1.1,()),(s3.2.1,()))))) qC ((0,()),(s2.2.1,()))) fun x198=>
    some (.inr (((wrF .i64 (s2.1.1+1)),()),(x198.2.2.1,())))
   else some (.inl (0,((s2.1.1,()),(s2.2.1,()))))) qC ((0,()),(((List.replicate (Int.toNat a0.1) false).set (Int.toNat a1) true),()))) fun x199=>
  some (x199.2.2.1,())
 else none
abbrev zcq:Type:=(qk×Int×(Bool×(Bool×(Bool×(Bool×(Bool×(Bool×(Bool×(Bool×(Bool×(Bool×(Bool×(Bool×(Bool×(Bool×(Bool×(Bool×(Bool×(Bool×(Bool×(Bool×(Bool×(Bool×(Bool×Bool)))))))))))))))))))))))×Unit)→Option ((List Bool)×Unit)
def znI:zcq:=sF Tryz.prog [] zv2 (zM []) 30 61 Vd Ve
theorem zyv (a0) (a1) (a2):znI (a0,a1,a2,())=zg4 a0 a1 a2:=by kernel_rfl
def WL:zcq:=znI
theorem zsr:Con.Ok Tryz.prog 61 ⟨Vd,Ve,WL⟩:=zz zi zm (by kernel_rfl)
theorem zss (a0) (a1) (a2):WL (a0,a1,a2,())=zg4  a0 a1 a2:=zyv  a0 a1 a2
abbrev xH:List VT:=[⟨false,(.list .bool)⟩,⟨false,.bool⟩]
abbrev xI:List VT:=[⟨false,I⟩]
def zeH:qb:=zT [] [] [] [] []
def JX (a0:(List Bool)) (a1:Bool):Option (Int×Unit):=
 opt (qd (fun s0:((Int×(Int×Unit))×Unit)=>
  bif (zt s0.1.2.1 ((a0.length:Nat):Int)) then opt (atI a0 s0.1.2.1) fun x1=>
   bif a1 == x1 then some (.inl (1,((s0.1.2.1,(s0.1.2.1,())),())))
   else some (.inr ((s0.1.1,((wrF .i64 (s0.1.2.1+1)),())),()))
  else some (.inl (0,((s0.1.1,(s0.1.2.1,())),())))) qC ((0,(0,())),())) fun x2=>
 bif Nat.beq x2.1 0 then some ((-1),())
 else some (x2.2.1.1,())
abbrev kU:Type:=((List Bool)×Bool×Unit)→Option (Int×Unit)
def KT:kU:=sF Tryz.prog [] zeH (zM []) 30 97 xH xI
theorem zff (a0) (a1):KT (a0,a1,())=JX a0 a1:=by kernel_rfl
def xJ:kU:=KT
theorem zc8:Con.Ok Tryz.prog 97 ⟨xH,xI,xJ⟩:=zz zi zm (by kernel_rfl)
theorem zc9 (a0) (a1):xJ (a0,a1,())=JX  a0 a1:=zff  a0 a1
abbrev yU:List VT:=[⟨false,(.list .bool)⟩,⟨false,.bool⟩]
abbrev yV:List VT:=[⟨false,.bool⟩]
def zcr:qb:=zT [] [] [] [] [97]
def Qj (xP:kU) (a0:(List Bool)) (a1:Bool):Option (Bool×Unit):=
 opt (xP (a0,(a1,()))) fun x0=>
 some ((!(zt x0.1 0)),())
abbrev uF:Type:=((List Bool)×Bool×Unit)→Option (Bool×Unit)
def XC:kU→uF:=fun xP=>sF Tryz.prog [(97,⟨xH,xI,xP⟩)] zcr (zM []) 30 60 yU yV
theorem zda (xP) (a0) (a1):XC xP (a0,a1,())=Qj xP a0 a1:=by kernel_rfl
def yW:uF:=XC xJ
theorem zbh:Con.Ok Tryz.prog 60 ⟨yU,yV,yW⟩:=zz (zf zc8 zi) zm (by kernel_rfl)
theorem zbi (a0) (a1):yW (a0,a1,())=Qj xJ a0 a1:=zda xJ a0 a1
abbrev ya:List VT:=[⟨true,zV⟩]
abbrev yb:List VT:=[⟨false,I⟩]
def zv3:qb:=zT [⟨(.pair .bool (.pair .bool (.pair .bool (.pair .bool (.pair .bool (.pair .bool (.pair .bool (.pair .bool (.pair .bool (.pair .bool (.pair .bool (.pair .bool (.pair .bool (.pair .bool (.pair .bool (.pair .bool (.pair .bool (.pair .bool (.pair .bool (.pair .bool (.pair .bool (.pair .bool (.pair .bool .bool))))))))))))))))))))))),zeF (.pair .bool (.pair .bool (.pair .bool (.pair .bool (.pair .bool (.pair .bool (.pair .bool (.pair .bool (.pair .bool (.pair .bool (.pair .bool (.pair .bool (.pair .bool (.pair .bool (.pair .bool (.pair .bool (.pair .bool (.pair .bool (.pair .bool (.pair .bool (.pair .bool (.pair .bool (.pair .bool .bool))))))))))))))))))))))),[]⟩,cdF zV,cdF qy] [] [] [] [59,60]
def zg5 (VQ:zcp) (VR:zcq) (yX:uF) (a0:qk):Option (Int×Unit):=
 opt (bif zt a0.1 2 then some (1,((260,()),()))
  else bif zt 12 a0.1 then some (1,((260,()),()))
   else bif (!(zj ((a0.2.1.length:Nat):Int) a0.1)) then some (1,((260,()),()))
    else some (0,((0,()),()))) fun x0=>
 bif Nat.beq x0.1 0 then opt (bif (zt 24 ((a0.2.2.length:Nat):Int)) then some (1,((260,()),()))
   else opt (VQ (a0,())) fun x1=>
    bif !x1.1 then some (1,((260,()),()))
    else some (0,((x0.2.1.1,()),()))) fun x2=>
  bif Nat.beq x2.1 0 then bif zqE a0.1 a0.1 8 then opt (qd (fun s3:((Int×Unit)×((List Int)×Unit))=>
     bif (zt s3.1.1 ((a0.2.2.length:Nat):Int)) then opt (atI a0.2.2 s3.1.1) fun x4=>
      opt (atI s3.2.1 x4.1) fun x5=>
      opt (gl s3.2.1 (Int.toNat x4.1)) fun x6=>
      opt (atI s3.2.1 x4.1) fun x7=>
      opt (gl s3.2.1 (Int.toNat x4.1)) fun x8=>
      opt (atI (s3.2.1.set (Int.toNat x4.1) (wrF .i64 (x6+1))) x4.2.1) fun x9=>
      opt (gl (s3.2.1.set (Int.toNat x4.1) (wrF .i64 (x6+1))) (Int.toNat x4.2.1)) fun x10=>
      opt (atI (s3.2.1.set (Int.toNat x4.1) (wrF .i64 (x6+1))) x4.2.1) fun x11=>
      opt (gl (s3.2.1.set (Int.toNat x4.1) (wrF .i64 (x6+1))) (Int.toNat x4.2.1)) fun x12=>
      some (.inr (((wrF .i64 (s3.1.1+1)),()),(((s3.2.1.set (Int.toNat x4.1) (wrF .i64 (x6+1))).set (Int.toNat x4.2.1) (wrF .i64 (x10+1))),())))
     else some (.inl (0,((s3.1.1,()),(s3.2.1,()))))) qC ((0,()),((List.replicate (Int.toNat a0.1) 0),()))) fun x13=>
    opt (qd (fun s14:((Int×(Int×Unit))×Unit)=>
     bif (zt s14.1.2.1 ((a0.2.1.length:Nat):Int)) then opt (atI a0.2.1 s14.1.2.1) fun x15=>
      opt (bif x15 then opt (atI x13.2.2.1 s14.1.2.1) fun x16=>
        opt (gl x13.2.2.1 (Int.toNat s14.1.2.1)) fun x17=>
        bif zt x17 1 then some (1,((260,()),()))
        else opt (atI x13.2.2.1 s14.1.2.1) fun x18=>
         opt (gl x13.2.2.1 (Int.toNat s14.1.2.1)) fun x19=>
         bif zt 2 x19 then some (1,((260,()),()))
         else some (0,((s14.1.1,()),()))
       else some (0,((s14.1.1,()),()))) fun x20=>
      bif Nat.beq x20.1 0 then some (.inr ((x20.2.1.1,((wrF .i64 (s14.1.2.1+1)),())),()))
      else some (.inl (1,((x20.2.1.1,(s14.1.2.1,())),())))
     else some (.inl (0,((s14.1.1,(s14.1.2.1,())),())))) qC ((x2.2.1.1,(0,())),())) fun x21=>
    bif Nat.beq x21.1 0 then opt (VR (a0,(0,((false,(false,(false,(false,(false,(false,(false,(false,(false,(false,(false,(false,(false,(false,(false,(false,(false,(false,(false,(false,(false,(false,(false,false))))))))))))))))))))))),())))) fun x22=>
     opt (yX (x22.1,(false,()))) fun x23=>
     bif x23.1 then some (260,())
     else some (0,())
    else some (x21.2.1.1,())
   else none
  else some (x2.2.1.1,())
 else some (x0.2.1.1,())
abbrev xV:Type:=(qk×Unit)→Option (Int×Unit)
def znJ:zcp→zcq→uF→xV:=fun VQ VR yX=>sF Tryz.prog [(59,⟨Va,Vb,VQ⟩),(61,⟨Vd,Ve,VR⟩),(60,⟨yU,yV,yX⟩)] zv3 (zM []) 30 41 ya yb
theorem zyw (VQ) (VR) (yX) (a0):znJ VQ VR yX (a0,())=zg5 VQ VR yX a0:=by kernel_rfl
def jQ:xV:=znJ Vc WL yW
theorem Jv:Con.Ok Tryz.prog 41 ⟨ya,yb,jQ⟩:=zz (zf zsp (zf zsr (zf zbh zi))) zm (by kernel_rfl)
theorem zst (a0):jQ (a0,())=zg5 Vc WL yW a0:=zyw Vc WL yW a0
abbrev vi:List VT:=[⟨false,I⟩,⟨false,I⟩,⟨false,I⟩]
abbrev vj:List VT:=[⟨false,.bool⟩]
def zpk:qb:=zT [] [] [] [] []
def zbj (a0:Int) (a1:Int) (a2:Int):Option (Bool×Unit):=
 bif !(zt a0 a1) then some ((!(zt a2 a0)),())
 else some (false,())
abbrev uL:Type:=(Int×Int×Int×Unit)→Option (Bool×Unit)
def zg6:uL:=sF Tryz.prog [] zpk (zM []) 30 63 vi vj
theorem zqR (a0) (a1) (a2):zg6 (a0,a1,a2,())=zbj a0 a1 a2:=by kernel_rfl
def yL:uL:=zg6
theorem Us:Con.Ok Tryz.prog 63 ⟨vi,vj,yL⟩:=zz zi zm (by kernel_rfl)
theorem zml (a0) (a1) (a2):yL (a0,a1,a2,())=zbj  a0 a1 a2:=zqR  a0 a1 a2
abbrev kD:List VT:=[⟨true,zi6⟩]
abbrev kF:List VT:=[⟨false,I⟩]
def zlg:qb:=zT [cdF zi6] [] [] [] [63]
def Ut (qf:uL) (a0:zgo):Option (Int×Unit):=
 opt (opt (qf (a0.1,(1,(10000,())))) fun x0=>
  bif !x0.1 then some (1,((320,()),()))
  else opt (qf (a0.2.1,(0,(1000,())))) fun x1=>
   bif !x1.1 then some (1,((320,()),()))
   else some (0,((0,()),()))) fun x2=>
 bif Nat.beq x2.1 0 then opt (opt (qf (a0.2.2.1,(0,(10000,())))) fun x3=>
   bif !x3.1 then some (1,((320,()),()))
   else opt (qf (a0.2.2.2,(1542,(65536,())))) fun x4=>
    bif !x4.1 then some (1,((320,()),()))
    else some (0,((x2.2.1.1,()),()))) fun x5=>
  bif Nat.beq x5.1 0 then some (0,())
  else some (x5.2.1.1,())
 else some (x2.2.1.1,())
abbrev Yk:Type:=(zgo×Unit)→Option (Int×Unit)
def zdk:uL→Yk:=fun qf=>sF Tryz.prog [(63,⟨vi,vj,qf⟩)] zlg (zM []) 30 45 kD kF
theorem zmm (qf) (a0):zdk qf (a0,())=Ut qf a0:=by kernel_rfl
def kG:Yk:=zdk yL
theorem zja:Con.Ok Tryz.prog 45 ⟨kD,kF,kG⟩:=zz (zf Us zi) zm (by kernel_rfl)
theorem zjb (a0):kG (a0,())=Ut yL a0:=zmm yL a0
abbrev uT:List VT:=[⟨true,qq⟩]
abbrev uU:List VT:=[⟨false,I⟩]
def zuj:qb:=zT [cdF qq,cdF jf] [] [] [] []
def zfg (a0:jo):Option (Int×Unit):=
 opt (bif (zt ((a0.1.length:Nat):Int) 1) then some (1,((370,()),()))
  else bif (zt 128 ((a0.1.length:Nat):Int)) then some (1,((370,()),()))
   else some (0,((0,()),()))) fun x0=>
 bif Nat.beq x0.1 0 then opt (qd (fun s1:((Int×(Int×(Int×Unit)))×Unit)=>
   bif (zt s1.1.2.2.1 ((a0.1.length:Nat):Int)) then opt (atI a0.1 s1.1.2.2.1) fun x2=>
    opt (bif zt x2.1 0 then some (1,((370,()),()))
     else bif zt 255 x2.1 then some (1,((370,()),()))
      else bif zt x2.2 1 then some (1,((370,()),()))
       else bif zt 9600000 x2.2 then some (1,((370,()),()))
        else some (0,((s1.1.1,()),()))) fun x3=>
    bif Nat.beq x3.1 0 then some (.inr ((x3.2.1.1,((wrF .i64 (s1.1.2.1+x2.2)),((wrF .i64 (s1.1.2.2.1+1)),()))),()))
    else some (.inl (1,((x3.2.1.1,(s1.1.2.1,(s1.1.2.2.1,()))),())))
   else some (.inl (0,((s1.1.1,(s1.1.2.1,(s1.1.2.2.1,()))),())))) qC ((x0.2.1.1,(0,(0,()))),())) fun x4=>
  bif Nat.beq x4.1 0 then opt (bif !(zj x4.2.1.2.1 a0.2) then some (1,((370,()),()))
    else bif zt 9600000 x4.2.1.2.1 then some (1,((370,()),()))
     else some (0,((x4.2.1.1,()),()))) fun x5=>
   bif Nat.beq x5.1 0 then some (0,())
   else some (x5.2.1.1,())
  else some (x4.2.1.1,())
 else some (x0.2.1.1,())
abbrev ZZ:Type:=(jo×Unit)→Option (Int×Unit)
def zlX:ZZ:=sF Tryz.prog [] zuj (zM []) 30 46 uT uU
theorem zv4 (a0):zlX (a0,())=zfg a0:=by kernel_rfl
def vq:ZZ:=zlX
theorem zbk:Con.Ok Tryz.prog 46 ⟨uT,uU,vq⟩:=zz zi zm (by kernel_rfl)
theorem zqS (a0):vq (a0,())=zfg  a0:=zv4  a0
abbrev yH:List VT:=[⟨true,qK⟩]
abbrev yI:List VT:=[⟨false,I⟩]
def zlh:qb:=zT [cdF qK,cdF zV,cdF qy,cdF qq,cdF jf] [] [] [] [41,45,46]
def Uu (zZ:xV) (kM:Yk) (jK:ZZ) (a0:jJ):Option (Int×Unit):=
 opt (zZ (a0.1,())) fun x0=>
 bif !(zj x0.1 0) then some (x0.1,())
 else opt (kM (a0.2.1,())) fun x1=>
  bif !(zj x1.1 0) then some (x1.1,())
  else opt (qd (fun s2:((Int×(Int×Unit))×Unit)=>
    bif (zt s2.1.2.1 ((a0.2.2.1.length:Nat):Int)) then opt (atI a0.2.2.1 s2.1.2.1) fun x3=>
     opt (jK (x3,())) fun x4=>
     bif !(zj x4.1 0) then some (.inl (1,((x4.1,(s2.1.2.1,())),())))
     else some (.inr ((s2.1.1,((wrF .i64 (s2.1.2.1+1)),())),()))
    else some (.inl (0,((s2.1.1,(s2.1.2.1,())),())))) qC ((0,(0,())),())) fun x5=>
   bif Nat.beq x5.1 0 then opt (bif (!(zj ((a0.2.2.1.length:Nat):Int) (wrF .i64 (2*((a0.1.2.2.length:Nat):Int))))) then some (1,((410,()),()))
     else bif zt a0.2.2.2 84 then some (1,((410,()),()))
      else bif zt 1542 a0.2.2.2 then some (1,((410,()),()))
       else some (0,((x5.2.1.1,()),()))) fun x6=>
    bif Nat.beq x6.1 0 then some (0,())
    else some (x6.2.1.1,())
   else some (x5.2.1.1,())
abbrev kI:Type:=(jJ×Unit)→Option (Int×Unit)
def zdl:xV→Yk→ZZ→kI:=fun zZ kM jK=>sF Tryz.prog [(41,⟨ya,yb,zZ⟩),(45,⟨kD,kF,kM⟩),(46,⟨uT,uU,jK⟩)] zlh (zM []) 30 29 yH yI
theorem zmn (zZ) (kM) (jK) (a0):zdl zZ kM jK (a0,())=Uu zZ kM jK a0:=by kernel_rfl
def xr:kI:=zdl jQ kG vq
theorem zaH:Con.Ok Tryz.prog 29 ⟨yH,yI,xr⟩:=zz (zf Jv (zf zja (zf zbk zi))) zm (by kernel_rfl)
theorem zjc (a0):xr (a0,())=Uu jQ kG vq a0:=zmn jQ kG vq a0
abbrev WM:List VT:=[⟨true,qK⟩]
abbrev WN:List VT:=[⟨true,qV⟩,⟨false,I⟩]
def zv5:qb:=zT [cdF qV,cdF qL,cdF qK,cdF wq,cdF zA,cdF zV,cdF jW,cdF xa,cdF qy,cdF qq,cdF jf] [] [] [] [29]
def zg7 (jP:kI) (a0:jJ):Option (zK×Int×Unit):=
 opt (jP (a0,())) fun x0=>
 bif !(zj x0.1 0) then some ((((0,([],[])),((0,(0,(0,0))),([],0))),([],([],([],([],[]))))),(x0.1,()))
 else some ((a0,([],([],([],([],[]))))),(0,()))
abbrev zg8:Type:=(jJ×Unit)→Option (zK×Int×Unit)
def znK:kI→zg8:=fun jP=>sF Tryz.prog [(29,⟨yH,yI,jP⟩)] zv5 (zM []) 30 14 WM WN
theorem zyx (jP) (a0):znK jP (a0,())=zg7 jP a0:=by kernel_rfl
def Vf:zg8:=znK xr
theorem zsu:Con.Ok Tryz.prog 14 ⟨WM,WN,Vf⟩:=zz (zf zaH zi) zm (by kernel_rfl)
theorem zsv (a0):Vf (a0,())=zg7 xr a0:=zyx xr a0
abbrev zcs:List VT:=[]
abbrev zct:List VT:=[⟨true,zA⟩]
abbrev Jw:List VT:=[⟨false,I⟩]
abbrev Jx:List VT:=[⟨false,.bool⟩]
def zqT:qb:=zT [] [] [] [] []
def zcu (a0:Int):Option (Bool×Unit):=
 some ((!(zj a0 a0)),())
abbrev UE:Type:=(Int×Unit)→Option (Bool×Unit)
def ziA:UE:=sF Tryz.prog [] zqT (zM []) 30 55 Jw Jx
theorem zsw (a0):ziA (a0,())=zcu a0:=by kernel_rfl
def Xg:UE:=ziA
theorem znL:Con.Ok Tryz.prog 55 ⟨Jw,Jx,Xg⟩:=zz zi zm (by kernel_rfl)
theorem zeI (a0):Xg (a0,())=zcu  a0:=zsw  a0
abbrev wO:List VT:=[⟨false,I⟩,⟨false,I⟩]
abbrev wP:List VT:=[⟨false,I⟩]
def znM:qb:=zT [] [] [] [] [55]
def zak (Zn:UE) (a0:Int) (a1:Int):Option (Int×Unit):=
 opt (Zn (a0,())) fun x0=>
 opt (Zn (a1,())) fun x1=>
 bif x0.1 then bif x1.1 then some (0,())
  else some ((-1),())
 else bif x1.1 then some (1,())
  else bif zt a0 a1 then some ((-1),())
   else bif zt a1 a0 then some (1,())
    else some (0,())
abbrev We:Type:=(Int×Int×Unit)→Option (Int×Unit)
def zfN:UE→We:=fun Zn=>sF Tryz.prog [(55,⟨Jw,Jx,Zn⟩)] znM (zM []) 30 37 wO wP
theorem zpl (Zn) (a0) (a1):zfN Zn (a0,a1,())=zak Zn a0 a1:=by kernel_rfl
def js:We:=zfN Xg
theorem Ky:Con.Ok Tryz.prog 37 ⟨wO,wP,js⟩:=zz (zf znL zi) zm (by kernel_rfl)
theorem zli (a0) (a1):js (a0,a1,())=zak Xg a0 a1:=zpl Xg a0 a1
abbrev qA:List VT:=[⟨false,I⟩]
abbrev qB:List VT:=[⟨false,I⟩,⟨true,wq⟩,⟨false,.bool⟩]
def zad:qb:=zT [cdF ze,cdF wq,cdF zA,cdF zu] [] [] [] [37]
def Xu (jL:We) (s:za) (a0:Int):Option (za×(Int×qD×Bool×Unit)):=
 opt (qd (fun s0:((Int×(Int×(Bool×(Int×Unit))))×Unit)=>
  bif (zt s0.1.2.2.2.1 ((s.2.2.1.length:Nat):Int)) then opt (atI s.2.2.1 s0.1.2.2.2.1) fun x1=>
   opt (jL (x1.1,(s0.1.1,()))) fun x2=>
   bif !(zt x2.1 0) then some (.inl (1,((s0.1.1,(s0.1.2.2.2.1,((zj x2.1 0),(s0.1.2.2.2.1,())))),())))
   else some (.inr ((s0.1.1,(s0.1.2.1,(s0.1.2.2.1,((wrF .i64 (s0.1.2.2.2.1+1)),())))),()))
  else some (.inl (0,((s0.1.1,(s0.1.2.1,(s0.1.2.2.1,(s0.1.2.2.2.1,())))),())))) qC ((a0,(0,(false,(0,())))),())) fun x3=>
 bif Nat.beq x3.1 0 then some (s,(((s.2.2.1.length:Nat):Int),((x3.2.1.1,(0,(0,((0,(0,(0,(0,(0,(0,((0,0),(0,[])))))))),0)))),(false,()))))
 else bif !x3.2.1.2.2.1 then some (s,(x3.2.1.2.1,((x3.2.1.1,(0,(0,((0,(0,(0,(0,(0,(0,((0,0),(0,[])))))))),0)))),(false,()))))
  else opt (atI s.2.2.1 x3.2.1.2.1) fun x4=>
   some (s,(x3.2.1.2.1,(x4,(true,()))))
theorem zjd (jL:(Int×Int×Unit)→Option (Int×Unit)) (s:za) (a0:Int):sP Tryz.prog ⟨[],[]⟩ [(37,⟨wO,wP,jL⟩)] zad (zM []) 30 24 ze qA qB s (a0,())=Xu jL s a0:=by kernel_rfl
def qJ:za→(Int×Unit)→Option (za×(Int×qD×Bool×Unit)):=sP Tryz.prog ⟨[],[]⟩ [(37,⟨wO,wP,js⟩)] zad (zM []) 30 24 ze qA qB
theorem gU:yT.Ok Tryz.prog 24 ⟨ze,qA,qB,qJ⟩:=xp ⟨qw,je⟩ (zf Ky zi) zm (by kernel_rfl)
theorem zgq (s:za) (a0:Int):qJ s (a0,())=Xu js s a0:=zjd js s a0
abbrev jj:List VT:=[⟨false,(.list wq)⟩,⟨false,I⟩,⟨false,.bool⟩,⟨true,wq⟩]
abbrev jk:List VT:=[⟨false,(.list wq)⟩]
def zje:qb:=zT [cdF wq,cdF zA,cdF zu] [] [⟨2,27,some 8,wq,true⟩] [] []
def Vg (a0:(List qD)) (a1:Int) (a2:Bool) (a3:qD):Option ((List qD)×Unit):=
 opt (uz a0 (some a1) none none) fun x0=>
 opt (bif a2 then opt (uz a0 (some (wrF .i64 (a1+1))) none none) fun x1=>
   some (0,((x1,()),()))
  else some (0,((x0,()),()))) fun x2=>
 opt (uz a0 none (some a1) (some a1)) fun x3=>
 bif (xE x3.length ((a3::[]).length) 128) then bif (xE ((x3++(a3::[])).length) x2.2.1.1.length 128) then some (((x3++(a3::[]))++x2.2.1.1),())
  else none
 else none
abbrev gC:Type:=((List qD)×Int×Bool×qD×Unit)→Option ((List qD)×Unit)
def zbN:gC:=sF Tryz.prog [] zje (zM []) 30 75 jj jk
theorem zjU (a0) (a1) (a2) (a3):zbN (a0,a1,a2,a3,())=Vg a0 a1 a2 a3:=by kernel_rfl
def qM:gC:=zbN
theorem WO:Con.Ok Tryz.prog 75 ⟨jj,jk,qM⟩:=zz zi zm (by kernel_rfl)
theorem zg9 (a0) (a1) (a2) (a3):qM (a0,a1,a2,a3,())=Vg  a0 a1 a2 a3:=zjU  a0 a1 a2 a3
abbrev qh:List VT:=[⟨true,qL⟩]
abbrev qi:List VT:=[]
def zae:qb:=zT [⟨ze,zeF ze,[13]⟩,cdF qL,cdF zA,cdF zu] [] [⟨2,28,none,qL,true⟩] [] []
def Xv (s:za) (a0:zJ):Option (za×(Unit)):=
 opt (bif (zt ((s.2.2.2.2.2.length:Nat):Int) 1024) then opt (uz s.2.2.2.2.2 none (some ((s.2.2.2.2.2.length:Nat):Int)) (some ((s.2.2.2.2.2.length:Nat):Int))) fun x0=>
   bif (xE x0.length ((a0::[]).length) 144) then some (0,(((s.1,(s.2.1,(s.2.2.1,(s.2.2.2.1,(s.2.2.2.2.1,(x0++(a0::[]))))))),()),()))
   else none
  else some (0,((s,()),()))) fun x1=>
 some (x1.2.1.1,())
theorem zjf  (s:za) (a0:zJ):sP Tryz.prog ⟨[],[]⟩ [] zae (zM []) 30 52 ze qh qi s (a0,())=Xv  s a0:=by kernel_rfl
def ql:za→(zJ×Unit)→Option (za×(Unit)):=sP Tryz.prog ⟨[],[]⟩ [] zae (zM []) 30 52 ze qh qi
theorem ur:yT.Ok Tryz.prog 52 ⟨ze,qh,qi,ql⟩:=xp ⟨qw,je⟩ zi zm (by kernel_rfl)
theorem zgr (s:za) (a0:zJ):ql s (a0,())=Xv  s a0:=zjf  s a0
abbrev qG:List VT:=[⟨true,wq⟩]
abbrev qH:List VT:=[]
def KU:qb:=zT [cdF ze,cdF qL,cdF wq,cdF zA,cdF zu] [] [] [] [52]
def Wg (zL:za→(zJ×Unit)→Option (za×(Unit))) (s:za) (a0:qD):Option (za×(Unit)):=
 bif zj a0.2.2.1 1 then opt (zL s ((1,(a0.1,(a0.2.1,(0,(true,(a0.2.2.2.1,0)))))),())) fun x0=>
  some (x0.1,())
 else bif zj a0.2.2.1 4 then opt (zL s ((1,(a0.1,(a0.2.1,(0,(false,((0,(0,(0,(0,(0,(0,((0,0),(0,[])))))))),0)))))),())) fun x1=>
   some (x1.1,())
  else some (s,())
theorem zgs (zL:za→(zJ×Unit)→Option (za×(Unit))) (s:za) (a0:qD):sP Tryz.prog ⟨[],[(52,⟨ze,qh,qi,zL⟩)]⟩ [] KU (fun _ _=>false) 30 33 ze qG qH s (a0,())=Wg zL s a0:=by kernel_rfl
def qP:za→(qD×Unit)→Option (za×(Unit)):=sP Tryz.prog ⟨[],[(52,⟨ze,qh,qi,ql⟩)]⟩ [] KU (fun _ _=>false) 30 33 ze qG qH
theorem Qy:yT.Ok Tryz.prog 33 ⟨ze,qG,qH,qP⟩:=xp ⟨qw,(zO ur je)⟩ zi zm (by kernel_rfl)
theorem zdQ (s:za) (a0:qD):qP s (a0,())=Wg ql s a0:=zgs ql s a0
abbrev xu:List VT:=[⟨true,zA⟩]
abbrev xw:List VT:=[⟨false,I⟩]
def zaI:qb:=zT [cdF ze,cdF wq,cdF zA,cdF zu] [] [] [] [33]
def Vh (qm:za→(Int×Unit)→Option (za×(Int×qD×Bool×Unit))) (qZ:gC) (qI:za→(qD×Unit)→Option (za×(Unit))) (s:za) (a0:zv):Option (za×(Int×Unit)):=
 opt (bif zt a0.1 1 then some (1,((2,()),()))
  else bif zt 4095 a0.1 then some (1,((2,()),()))
   else some (0,((0,()),()))) fun x0=>
 bif Nat.beq x0.1 0 then opt (qm s (a0.1,())) fun x1=>
  opt (bif x1.2.2.2.1 then bif zj x1.2.2.1.2.2.1 1 then some (1,((322,()),()))
    else bif zj x1.2.2.1.2.2.1 2 then some (1,((322,()),()))
     else bif zj x1.2.2.1.2.2.1 4 then some (1,((322,()),()))
      else some (0,((x0.2.1.1,()),()))
   else some (0,((x0.2.1.1,()),()))) fun x2=>
  bif Nat.beq x2.1 0 then opt (bif !x1.2.2.2.1 then bif (!(zt ((x1.1.2.2.1.length:Nat):Int) 24)) then some (1,((7,()),()))
     else some (0,((x2.2.1.1,()),()))
    else some (0,((x2.2.1.1,()),()))) fun x3=>
   bif Nat.beq x3.1 0 then opt (qZ (x1.1.2.2.1,(x1.2.1,(x1.2.2.2.1,((a0.1,((wrF .i64 (x1.2.2.1.2.1+1)),(1,(a0,0)))),()))))) fun x4=>
    opt (qI (x1.1.1,(x1.1.2.1,(x4.1,x1.1.2.2.2))) ((a0.1,((wrF .i64 (x1.2.2.1.2.1+1)),(1,(a0,0)))),())) fun x5=>
    some (x5.1,(0,()))
   else some (x1.1,(x3.2.1.1,()))
  else some (x1.1,(x2.2.1.1,()))
 else some (s,(x0.2.1.1,()))
theorem zjV (qm:za→(Int×Unit)→Option (za×(Int×qD×Bool×Unit))) (qZ:((List qD)×Int×Bool×qD×Unit)→Option ((List qD)×Unit)) (qI:za→(qD×Unit)→Option (za×(Unit))) (s:za) (a0:zv):sP Tryz.prog ⟨[],[(24,⟨ze,qA,qB,qm⟩),(33,⟨ze,qG,qH,qI⟩)]⟩ [(75,⟨jj,jk,qZ⟩)] zaI (zM []) 30 43 ze xu xw s (a0,())=Vh qm qZ qI s a0:=by kernel_rfl
def uB:za→(zv×Unit)→Option (za×(Int×Unit)):=sP Tryz.prog ⟨[],[(24,⟨ze,qA,qB,qJ⟩),(33,⟨ze,qG,qH,qP⟩)]⟩ [(75,⟨jj,jk,qM⟩)] zaI (zM []) 30 43 ze xu xw
theorem zha:yT.Ok Tryz.prog 43 ⟨ze,xu,xw,uB⟩:=xp ⟨qw,(zO gU (zO Qy je))⟩ (zf WO zi) zm (by kernel_rfl)
theorem zhb (s:za) (a0:zv):uB s (a0,())=Vh qJ qM qP s a0:=zjV qJ qM qP s a0
abbrev yp:List VT:=[⟨false,I⟩]
abbrev yq:List VT:=[⟨false,I⟩]
def UF:qb:=zT [cdF ze,cdF wq,cdF zA,cdF zu] [] [] [] [33]
def WQ (qm:za→(Int×Unit)→Option (za×(Int×qD×Bool×Unit))) (qZ:gC) (qI:za→(qD×Unit)→Option (za×(Unit))) (s:za) (a0:Int):Option (za×(Int×Unit)):=
 opt (qm s (a0,())) fun x0=>
 opt (bif !x0.2.2.2.1 then some (1,((4,()),()))
  else bif !(zj x0.2.2.1.2.2.1 2) then some (1,((4,()),()))
   else some (0,((0,()),()))) fun x1=>
 bif Nat.beq x1.1 0 then opt (qZ (x0.1.2.2.1,(x0.2.1,(true,((x0.2.2.1.1,((wrF .i64 (x0.2.2.1.2.1+1)),(4,x0.2.2.1.2.2.2))),()))))) fun x2=>
  opt (qI (x0.1.1,(x0.1.2.1,(x2.1,x0.1.2.2.2))) ((x0.2.2.1.1,((wrF .i64 (x0.2.2.1.2.1+1)),(4,x0.2.2.1.2.2.2))),())) fun x3=>
  some (x3.1,(0,()))
 else some (x0.1,(x1.2.1.1,()))
theorem zhc (qm:za→(Int×Unit)→Option (za×(Int×qD×Bool×Unit))) (qZ:((List qD)×Int×Bool×qD×Unit)→Option ((List qD)×Unit)) (qI:za→(qD×Unit)→Option (za×(Unit))) (s:za) (a0:Int):sP Tryz.prog ⟨[],[(24,⟨ze,qA,qB,qm⟩),(33,⟨ze,qG,qH,qI⟩)]⟩ [(75,⟨jj,jk,qZ⟩)] UF (zM []) 30 44 ze yp yq s (a0,())=WQ qm qZ qI s a0:=by kernel_rfl
def vz:za→(Int×Unit)→Option (za×(Int×Unit)):=sP Tryz.prog ⟨[],[(24,⟨ze,qA,qB,qJ⟩),(33,⟨ze,qG,qH,qP⟩)]⟩ [(75,⟨jj,jk,qM⟩)] UF (zM []) 30 44 ze yp yq
theorem zeJ:yT.Ok Tryz.prog 44 ⟨ze,yp,yq,vz⟩:=xp ⟨qw,(zO gU (zO Qy je))⟩ (zf WO zi) zm (by kernel_rfl)
theorem zeK (s:za) (a0:Int):vz s (a0,())=WQ qJ qM qP s a0:=zhc qJ qM qP s a0
abbrev yr:List VT:=[⟨false,(.list qL)⟩,⟨false,I⟩]
abbrev yu:List VT:=[⟨false,(.list qL)⟩]
def zdR:qb:=zT [] [] [] [] []
def Jf (a0:(List zJ)) (a1:Int):Option ((List zJ)×Unit):=
 opt (uz a0 none (some a1) (some a1)) fun x0=>
 opt (uz a0 (some (wrF .i64 (a1+1))) none none) fun x1=>
 bif xE x0.length x1.length 144 then some ((x0++x1),())
 else none
abbrev Jg:Type:=((List zJ)×Int×Unit)→Option ((List zJ)×Unit)
def Kb:Jg:=sF Tryz.prog [] zdR (zM []) 30 53 yr yu
theorem zeL (a0) (a1):Kb (a0,a1,())=Jf a0 a1:=by kernel_rfl
def yv:Jg:=Kb
theorem zcv:Con.Ok Tryz.prog 53 ⟨yr,yu,yv⟩:=zz zi zm (by kernel_rfl)
theorem zcw (a0) (a1):yv (a0,a1,())=Jf  a0 a1:=zeL  a0 a1
abbrev jx:List VT:=[⟨false,I⟩]
abbrev jy:List VT:=[⟨false,I⟩,⟨true,jW⟩,⟨false,.bool⟩]
def UG:qb:=zT [cdF ze,cdF jW] [] [] [] [37]
def WR (jL:We) (s:za) (a0:Int):Option (za×(Int×qE×Bool×Unit)):=
 opt (qd (fun s0:((Int×(Int×(Bool×(Int×Unit))))×Unit)=>
  bif (zt s0.1.2.2.2.1 ((s.2.2.2.1.length:Nat):Int)) then opt (atI s.2.2.2.1 s0.1.2.2.2.1) fun x1=>
   opt (jL (x1.1,(s0.1.1,()))) fun x2=>
   bif !(zt x2.1 0) then some (.inl (1,((s0.1.1,(s0.1.2.2.2.1,((zj x2.1 0),(s0.1.2.2.2.1,())))),())))
   else some (.inr ((s0.1.1,(s0.1.2.1,(s0.1.2.2.1,((wrF .i64 (s0.1.2.2.2.1+1)),())))),()))
  else some (.inl (0,((s0.1.1,(s0.1.2.1,(s0.1.2.2.1,(s0.1.2.2.2.1,())))),())))) qC ((a0,(0,(false,(0,())))),())) fun x3=>
 bif Nat.beq x3.1 0 then some (s,(((s.2.2.2.1.length:Nat):Int),((x3.2.1.1,(0,(0,(0,[])))),(false,()))))
 else bif !x3.2.1.2.2.1 then some (s,(x3.2.1.2.1,((x3.2.1.1,(0,(0,(0,[])))),(false,()))))
  else opt (atI s.2.2.2.1 x3.2.1.2.1) fun x4=>
   some (s,(x3.2.1.2.1,(x4,(true,()))))
theorem zhd (jL:(Int×Int×Unit)→Option (Int×Unit)) (s:za) (a0:Int):sP Tryz.prog ⟨[],[]⟩ [(37,⟨wO,wP,jL⟩)] UG (zM []) 30 107 ze jx jy s (a0,())=WR jL s a0:=by kernel_rfl
def jR:za→(Int×Unit)→Option (za×(Int×qE×Bool×Unit)):=sP Tryz.prog ⟨[],[]⟩ [(37,⟨wO,wP,js⟩)] UG (zM []) 30 107 ze jx jy
theorem Kc:yT.Ok Tryz.prog 107 ⟨ze,jx,jy,jR⟩:=xp ⟨qw,je⟩ (zf Ky zi) zm (by kernel_rfl)
theorem zeM (s:za) (a0:Int):jR s (a0,())=WR js s a0:=zhd js s a0
abbrev jz:List VT:=[⟨true,jW⟩]
abbrev jA:List VT:=[]
def UH:qb:=zT [cdF ze,cdF qL,cdF zA,cdF jW,cdF zu] [] [] [] [52]
def WS (zL:za→(zJ×Unit)→Option (za×(Unit))) (s:za) (a0:qE):Option (za×(Unit)):=
 bif zj a0.2.2.1 2 then opt (zL s ((5,(a0.1,(a0.2.1,(0,(false,((0,(0,(0,(0,(0,(0,((0,0),(0,[])))))))),0)))))),())) fun x0=>
  some (x0.1,())
 else bif zj a0.2.2.1 3 then opt (zL s ((6,(a0.1,(a0.2.1,(0,(false,((0,(0,(0,(0,(0,(0,((0,0),(0,[])))))))),a0.2.2.2.1)))))),())) fun x1=>
   some (x1.1,())
  else bif zj a0.2.2.1 5 then opt (zL s ((7,(a0.1,(a0.2.1,(0,(false,((0,(0,(0,(0,(0,(0,((0,0),(0,[])))))))),0)))))),())) fun x2=>
    some (x2.1,())
   else some (s,())
theorem zhe (zL:za→(zJ×Unit)→Option (za×(Unit))) (s:za) (a0:qE):sP Tryz.prog ⟨[],[(52,⟨ze,qh,qi,zL⟩)]⟩ [] UH (fun _ _=>false) 30 108 ze jz jA s (a0,())=WS zL s a0:=by kernel_rfl
def jB:za→(qE×Unit)→Option (za×(Unit)):=sP Tryz.prog ⟨[],[(52,⟨ze,qh,qi,ql⟩)]⟩ [] UH (fun _ _=>false) 30 108 ze jz jA
theorem Kd:yT.Ok Tryz.prog 108 ⟨ze,jz,jA,jB⟩:=xp ⟨qw,(zO ur je)⟩ zi zm (by kernel_rfl)
theorem zeN (s:za) (a0:qE):jB s (a0,())=WS ql s a0:=zhe ql s a0
abbrev Qz:List VT:=[⟨true,zV⟩,⟨false,I⟩]
abbrev QA:List VT:=[⟨false,.bool⟩]
def zpm:qb:=zT [cdF zV,cdF qy] [] [] [] [63]
def zbl (qf:uL) (a0:qk) (a1:Int):Option (Bool×Unit):=
 opt (qf (a1,(0,((wrF .i64 (a0.1 - 1)),())))) fun x0=>
 bif x0.1 then opt (atI a0.2.1 a1) fun x1=>
  some (x1,())
 else some (false,())
abbrev Kz:Type:=(qk×Int×Unit)→Option (Bool×Unit)
def zhf:uL→Kz:=fun qf=>sF Tryz.prog [(63,⟨vi,vj,qf⟩)] zpm (zM []) 30 65 Qz QA
theorem zqU (qf) (a0) (a1):zhf qf (a0,a1,())=zbl qf a0 a1:=by kernel_rfl
def QB:Kz:=zhf yL
theorem zmo:Con.Ok Tryz.prog 65 ⟨Qz,QA,QB⟩:=zz (zf Us zi) zm (by kernel_rfl)
theorem zmp (a0) (a1):QB (a0,a1,())=zbl yL a0 a1:=zqU yL a0 a1
abbrev kJ:List VT:=[⟨false,I⟩,⟨false,I⟩,⟨false,I⟩]
abbrev kK:List VT:=[⟨false,.bool⟩]
def zlj:qb:=zT [] [] [] [] []
def Uv (a0:Int) (a1:Int) (a2:Int):Option (Bool×Unit):=
 bif !(zt a0 a1) then some ((!(zt a2 a0)),())
 else some (false,())
abbrev Yl:Type:=(Int×Int×Int×Unit)→Option (Bool×Unit)
def zdm:Yl:=sF Tryz.prog [] zlj (zM []) 30 98 kJ kK
theorem zmq (a0) (a1) (a2):zdm (a0,a1,a2,())=Uv a0 a1 a2:=by kernel_rfl
def kL:Yl:=zdm
theorem zjg:Con.Ok Tryz.prog 98 ⟨kJ,kK,kL⟩:=zz zi zm (by kernel_rfl)
theorem zjh (a0) (a1) (a2):kL (a0,a1,a2,())=Uv  a0 a1 a2:=zmq  a0 a1 a2
abbrev xK:List VT:=[⟨true,zu⟩]
abbrev xL:List VT:=[⟨false,I⟩]
def zsx:qb:=zT [cdF zu] [] [] [] [98]
def zdS (uo:Yl) (a0:wb):Option (Int×Unit):=
 opt (opt (uo (a0.1,(1,(1048576,())))) fun x0=>
  bif !x0.1 then some (1,((130,()),()))
  else opt (uo (a0.2,(1,(2097152,())))) fun x1=>
   bif !x1.1 then some (1,((130,()),()))
   else some (0,((0,()),()))) fun x2=>
 bif Nat.beq x2.1 0 then some (0,())
 else some (x2.2.1.1,())
abbrev uj:Type:=(wb×Unit)→Option (Int×Unit)
def zjW:Yl→uj:=fun uo=>sF Tryz.prog [(98,⟨kJ,kK,uo⟩)] zsx (zM []) 30 69 xK xL
theorem zuk (uo) (a0):zjW uo (a0,())=zdS uo a0:=by kernel_rfl
def yg:uj:=zjW kL
theorem XH:Con.Ok Tryz.prog 69 ⟨xK,xL,yg⟩:=zz (zf zjg zi) zm (by kernel_rfl)
theorem zpn (a0):yg (a0,())=zdS kL a0:=zuk kL a0
abbrev vK:List VT:=[⟨true,XZ⟩,⟨false,(.list I)⟩]
abbrev vL:List VT:=[⟨false,(.list I)⟩]
def zmr:qb:=zT [cdF XZ,cdF qy,cdF zqa] [] [⟨5,30,some 4,I,false⟩,⟨5,30,none,I,true⟩,⟨5,30,some 5,I,true⟩,⟨1,54,none,I,true⟩,⟨3,54,none,I,true⟩,⟨6,54,none,I,true⟩,⟨8,54,none,I,true⟩,⟨0,54,none,I,true⟩] [(5,30,5,[0])] []
def Gp (a0:QY) (a1:(List Int)):Option ((List Int)×Unit):=
 bif (zqE 0 (wrF .i64 (((a1.length:Nat):Int)+1)) 8) then opt (qd (fun s0:((Int×Unit)×(((List Int)×Unit)×(Unit×(Unit×Unit))))=>
   bif (zt s0.1.1 ((a1.length:Nat):Int)) then opt (atI a1 s0.1.1) fun x1=>
    bif zt x1 0 then some (.inl (0,((s0.1.1,()),((s0.2.1.1,()),((),((),()))))))
    else bif (!(zt x1 (wrF .i64 (2*((a0.2.2.length:Nat):Int))))) then some (.inl (0,((s0.1.1,()),((s0.2.1.1,()),((),((),()))))))
     else opt (atI a0.2.2 (wrF .i64 (Int.tdiv x1 2))) fun x2=>
      opt (bif zj (Int.tmod x1 2) 1 then some (0,(((x1,(x2.2.1,x2.1)),()),((),((),()))))
       else some (0,(((x1,(x2.1,x2.2.1)),()),((),((),()))))) fun x3=>
      opt (bif zj s0.1.1 0 then bif (xE s0.2.1.1.length ((x3.2.1.1.2.1::[]).length) 8) then some (0,((),(((s0.2.1.1++(x3.2.1.1.2.1::[])),()),((),()))))
        else none
       else some (0,((),((s0.2.1.1,()),((),()))))) fun x4=>
      bif (xE x4.2.2.1.1.length ((x3.2.1.1.2.2::[]).length) 8) then some (.inr (((wrF .i64 (s0.1.1+1)),()),(((x4.2.2.1.1++(x3.2.1.1.2.2::[])),()),((),((),())))))
      else none
   else some (.inl (0,((s0.1.1,()),((s0.2.1.1,()),((),((),()))))))) qC ((0,()),(((List.replicate (Int.toNat 0) 0),()),((),((),()))))) fun x5=>
  some (x5.2.2.1.1,())
 else none
abbrev gD:Type:=(QY×(List Int)×Unit)→Option ((List Int)×Unit)
def zeO:gD:=sF Tryz.prog [] zmr (zM []) 30 78 vK vL
theorem znN (a0) (a1):zeO (a0,a1,())=Gp a0 a1:=by kernel_rfl
def xW:gD:=zeO
theorem zbO:Con.Ok Tryz.prog 78 ⟨vK,vL,xW⟩:=zz zi zm (by kernel_rfl)
theorem zjX (a0) (a1):xW (a0,a1,())=Gp  a0 a1:=znN  a0 a1
abbrev vM:List VT:=[⟨true,XZ⟩,⟨false,(.list I)⟩]
abbrev vN:List VT:=[⟨false,.bool⟩]
def zms:qb:=zT [⟨(.pair .bool (.pair .bool (.pair .bool (.pair .bool (.pair .bool (.pair .bool (.pair .bool (.pair .bool (.pair .bool (.pair .bool (.pair .bool .bool))))))))))),zeF (.pair .bool (.pair .bool (.pair .bool (.pair .bool (.pair .bool (.pair .bool (.pair .bool (.pair .bool (.pair .bool (.pair .bool (.pair .bool .bool))))))))))),[]⟩,cdF XZ,cdF qy,cdF zqa] [] [] [] []
def Gq (a0:QY) (a1:(List Int)):Option (Bool×Unit):=
 opt (bif (zt ((a1.length:Nat):Int) 1) then some (1,((false,()),()))
  else bif (zt 8 ((a1.length:Nat):Int)) then some (1,((false,()),()))
   else some (0,((false,()),()))) fun x0=>
 bif Nat.beq x0.1 0 then opt (qd (fun s1:((Int×(Int×(Int×Unit)))×((List Bool)×(Unit×(Unit×Unit))))=>
   bif (zt s1.1.2.2.1 ((a1.length:Nat):Int)) then opt (atI a1 s1.1.2.2.1) fun x2=>
    bif zt x2 0 then some (.inl (0,((s1.1.1,(s1.1.2.1,(s1.1.2.2.1,()))),(s1.2.1,((),((),()))))))
    else bif (!(zt x2 (wrF .i64 (2*((a0.2.2.length:Nat):Int))))) then some (.inl (0,((s1.1.1,(s1.1.2.1,(s1.1.2.2.1,()))),(s1.2.1,((),((),()))))))
     else opt (atI a0.2.2 (wrF .i64 (Int.tdiv x2 2))) fun x3=>
      opt (bif zj (Int.tmod x2 2) 1 then some (0,(((x2,(x3.2.1,x3.1)),()),((),((),()))))
       else some (0,(((x2,(x3.1,x3.2.1)),()),((),((),()))))) fun x4=>
      bif Nat.beq x4.1 0 then opt (bif zj s1.1.2.2.1 0 then bif zt x4.2.1.1.2.1 12 then opt (atI s1.2.1 x4.2.1.1.2.1) fun x5=>
          opt (gl s1.2.1 (Int.toNat x4.2.1.1.2.1)) fun x6=>
          some (0,((),((s1.2.1.set (Int.toNat x4.2.1.1.2.1) true),((),()))))
         else none
        else bif !(zj x4.2.1.1.2.1 s1.1.1) then some (1,((),(s1.2.1,((),()))))
         else opt (atI a0.2.1 s1.1.1) fun x7=>
          bif x7 then some (1,((),(s1.2.1,((),()))))
          else some (0,((),(s1.2.1,((),()))))) fun x8=>
       bif Nat.beq x8.1 0 then bif zt x4.2.1.1.2.2 12 then opt (atI x8.2.2.1 x4.2.1.1.2.2) fun x9=>
         opt (gl x8.2.2.1 (Int.toNat x4.2.1.1.2.2)) fun x10=>
         bif x10 then some (.inl (1,((s1.1.1,(s1.1.2.1,(s1.1.2.2.1,()))),(x8.2.2.1,((),((),()))))))
         else bif zt x4.2.1.1.2.2 12 then opt (atI x8.2.2.1 x4.2.1.1.2.2) fun x11=>
           opt (gl x8.2.2.1 (Int.toNat x4.2.1.1.2.2)) fun x12=>
           some (.inr ((x4.2.1.1.2.2,((wrF .i64 (s1.1.2.1+1)),((wrF .i64 (s1.1.2.2.1+1)),()))),((x8.2.2.1.set (Int.toNat x4.2.1.1.2.2) true),((),((),())))))
          else none
        else none
       else some (.inl (1,((s1.1.1,(s1.1.2.1,(s1.1.2.2.1,()))),(x8.2.2.1,((),((),()))))))
      else none
   else some (.inl (0,((s1.1.1,(s1.1.2.1,(s1.1.2.2.1,()))),(s1.2.1,((),((),()))))))) qC ((0,(0,(0,()))),((List.replicate 12 false),((),((),()))))) fun x13=>
  bif Nat.beq x13.1 0 then some ((zj x13.2.1.2.1 ((a1.length:Nat):Int)),())
  else some ((zj x13.2.1.2.1 ((a1.length:Nat):Int)),())
 else some (x0.2.1.1,())
abbrev gF:Type:=(QY×(List Int)×Unit)→Option (Bool×Unit)
def zeP:gF:=sF Tryz.prog [] zms (zM []) 30 102 vM vN
theorem znO (a0) (a1):zeP (a0,a1,())=Gq a0 a1:=by kernel_rfl
def xX:gF:=zeP
theorem zbP:Con.Ok Tryz.prog 102 ⟨vM,vN,xX⟩:=zz zi zm (by kernel_rfl)
theorem zjY (a0) (a1):xX (a0,a1,())=Gq  a0 a1:=znO  a0 a1
abbrev Qa:List VT:=[⟨true,zV⟩,⟨false,(.list I)⟩]
abbrev Qb:List VT:=[⟨false,I⟩]
def zul:qb:=zT [cdF zV,cdF qy] [] [] [] [41,102]
def zfh (zZ:xV) (wo:gF) (a0:qk) (a1:(List Int)):Option (Int×Unit):=
 opt (zZ (a0,())) fun x0=>
 bif !(zj x0.1 0) then some (x0.1,())
 else opt (wo (a0,(a1,()))) fun x1=>
  bif !x1.1 then some (310,())
  else some (0,())
abbrev YA:Type:=(qk×(List Int)×Unit)→Option (Int×Unit)
def zlY:xV→gF→YA:=fun zZ wo=>sF Tryz.prog [(41,⟨ya,yb,zZ⟩),(102,⟨vM,vN,wo⟩)] zul (zM []) 30 105 Qa Qb
theorem zv6 (zZ) (wo) (a0) (a1):zlY zZ wo (a0,a1,())=zfh zZ wo a0 a1:=by kernel_rfl
def kV:YA:=zlY jQ xX
theorem zhg:Con.Ok Tryz.prog 105 ⟨Qa,Qb,kV⟩:=zz (zf Jv (zf zbP zi)) zm (by kernel_rfl)
theorem zqV (a0) (a1):kV (a0,a1,())=zfh jQ xX a0 a1:=zv6 jQ xX a0 a1
abbrev kW:List VT:=[⟨true,zV⟩,⟨false,(.list I)⟩]
abbrev kX:List VT:=[⟨false,(.list I)⟩,⟨false,I⟩]
def zum:qb:=zT [cdF zV,cdF qy] [] [⟨3,23,some 6,I,false⟩,⟨3,23,some 8,I,false⟩] [] [105]
def zfi (jN:gD) (xQ:YA) (a0:qk) (a1:(List Int)):Option ((List Int)×Int×Unit):=
 opt (xQ (a0,(a1,()))) fun x0=>
 bif !(zj x0.1 0) then some ([],(x0.1,()))
 else opt (jN (a0,(a1,()))) fun x1=>
  some (x1.1,(0,()))
abbrev JY:Type:=(qk×(List Int)×Unit)→Option ((List Int)×Int×Unit)
def zlZ:gD→YA→JY:=fun jN xQ=>sF Tryz.prog [(78,⟨vK,vL,jN⟩),(105,⟨Qa,Qb,xQ⟩)] zum (zM []) 30 49 kW kX
theorem zv7 (jN) (xQ) (a0) (a1):zlZ jN xQ (a0,a1,())=zfi jN xQ a0 a1:=by kernel_rfl
def yM:JY:=zlZ xW kV
theorem zbm:Con.Ok Tryz.prog 49 ⟨kW,kX,yM⟩:=zz (zf zbO (zf zhg zi)) zm (by kernel_rfl)
theorem zqW (a0) (a1):yM (a0,a1,())=zfi xW kV a0 a1:=zv7 xW kV a0 a1
abbrev Vi:List VT:=[⟨true,zV⟩,⟨false,(.list I)⟩]
abbrev Vj:List VT:=[⟨false,I⟩,⟨false,I⟩,⟨false,I⟩]
def zv8:qb:=zT [cdF zV,cdF qy] [] [] [] []
def zhh (wC:JY) (a0:qk) (a1:(List Int)):Option (Int×Int×Int×Unit):=
 opt (wC (a0,(a1,()))) fun x0=>
 bif !(zj x0.2.1 0) then some (0,(0,(x0.2.1,())))
 else opt (atI x0.1 0) fun x1=>
  opt (atI x0.1 (wrF .i64 (((x0.1.length:Nat):Int) - 1))) fun x2=>
  some (x1,(x2,(0,())))
abbrev zcx:Type:=(qk×(List Int)×Unit)→Option (Int×Int×Int×Unit)
def znP:JY→zcx:=fun wC=>sF Tryz.prog [(49,⟨kW,kX,wC⟩)] zv8 (zM []) 30 99 Vi Vj
theorem zyy (wC) (a0) (a1):znP wC (a0,a1,())=zhh wC a0 a1:=by kernel_rfl
def Vk:zcx:=znP yM
theorem zsy:Con.Ok Tryz.prog 99 ⟨Vi,Vj,Vk⟩:=zz (zf zbm zi) zm (by kernel_rfl)
theorem zsz (a0) (a1):Vk (a0,a1,())=zhh yM a0 a1:=zyy yM a0 a1
abbrev Wo:List VT:=[⟨true,zV⟩,⟨false,(.list I)⟩,⟨false,I⟩,⟨false,I⟩]
abbrev Wp:List VT:=[⟨false,.bool⟩]
def zsA:qb:=zT [cdF zV,cdF qy] [] [] [] [99]
def zdT (VS:zcx) (a0:qk) (a1:(List Int)) (a2:Int) (a3:Int):Option (Bool×Unit):=
 opt (VS (a0,(a1,()))) fun x0=>
 bif zj x0.2.2.1 0 then bif zj x0.1 a2 then some ((zj x0.2.1 a3),())
  else some (false,())
 else some (false,())
abbrev GV:Type:=(qk×(List Int)×Int×Int×Unit)→Option (Bool×Unit)
def zjZ:zcx→GV:=fun VS=>sF Tryz.prog [(99,⟨Vi,Vj,VS⟩)] zsA (zM []) 30 72 Wo Wp
theorem zun (VS) (a0) (a1) (a2) (a3):zjZ VS (a0,a1,a2,a3,())=zdT VS a0 a1 a2 a3:=by kernel_rfl
def QC:GV:=zjZ Vk
theorem zpo:Con.Ok Tryz.prog 72 ⟨Wo,Wp,QC⟩:=zz (zf zsy zi) zm (by kernel_rfl)
theorem zpp (a0) (a1) (a2) (a3):QC (a0,a1,a2,a3,())=zdT Vk a0 a1 a2 a3:=zun Vk a0 a1 a2 a3
abbrev Wq:List VT:=[⟨false,(.list I)⟩,⟨false,(.list I)⟩]
abbrev Wr:List VT:=[⟨false,.bool⟩]
def zsB:qb:=zT [] [] [] [] []
def zdU (a0:(List Int)) (a1:(List Int)):Option (Bool×Unit):=
 opt (qd (fun s0:((Bool×(Int×Unit))×Unit)=>
  bif (zt s0.1.2.1 ((a0.length:Nat):Int)) then opt (atI a0 s0.1.2.1) fun x1=>
   opt (qd (fun s2:((Bool×(Int×Unit))×Unit)=>
    bif (zt s2.1.2.1 ((a1.length:Nat):Int)) then opt (atI a1 s2.1.2.1) fun x3=>
     bif (zj (wrF .i64 (Int.tdiv x1 2)) (wrF .i64 (Int.tdiv x3 2))) then some (.inl (1,((true,(s2.1.2.1,())),())))
     else some (.inr ((s2.1.1,((wrF .i64 (s2.1.2.1+1)),())),()))
    else some (.inl (0,((s2.1.1,(s2.1.2.1,())),())))) qC ((s0.1.1,(0,())),())) fun x4=>
   bif Nat.beq x4.1 0 then some (.inr ((x4.2.1.1,((wrF .i64 (s0.1.2.1+1)),())),()))
   else some (.inl (1,((x4.2.1.1,(s0.1.2.1,())),())))
  else some (.inl (0,((s0.1.1,(s0.1.2.1,())),())))) qC ((false,(0,())),())) fun x5=>
 bif Nat.beq x5.1 0 then some (false,())
 else some (x5.2.1.1,())
abbrev GW:Type:=((List Int)×(List Int)×Unit)→Option (Bool×Unit)
def zj0:GW:=sF Tryz.prog [] zsB (zM []) 30 103 Wq Wr
theorem zuo (a0) (a1):zj0 (a0,a1,())=zdU a0 a1:=by kernel_rfl
def Ws:GW:=zj0
theorem zpq:Con.Ok Tryz.prog 103 ⟨Wq,Wr,Ws⟩:=zz zi zm (by kernel_rfl)
theorem zpr (a0) (a1):Ws (a0,a1,())=zdU  a0 a1:=zuo  a0 a1
abbrev wH:List VT:=[⟨false,(.list I)⟩,⟨false,I⟩]
abbrev wI:List VT:=[⟨false,I⟩]
def zgt:qb:=zT [] [] [] [] []
def Zh (a0:(List Int)) (a1:Int):Option (Int×Unit):=
 opt (qd (fun s0:((Int×(Int×Unit))×Unit)=>
  bif (zt s0.1.2.1 ((a0.length:Nat):Int)) then opt (atI a0 s0.1.2.1) fun x1=>
   bif zj a1 x1 then some (.inl (1,((s0.1.2.1,(s0.1.2.1,())),())))
   else some (.inr ((s0.1.1,((wrF .i64 (s0.1.2.1+1)),())),()))
  else some (.inl (0,((s0.1.1,(s0.1.2.1,())),())))) qC ((0,(0,())),())) fun x2=>
 bif Nat.beq x2.1 0 then some ((-1),())
 else some (x2.2.1.1,())
abbrev uM:Type:=((List Int)×Int×Unit)→Option (Int×Unit)
def Gr:uM:=sF Tryz.prog [] zgt (zM []) 30 114 wH wI
theorem zhi (a0) (a1):Gr (a0,a1,())=Zh a0 a1:=by kernel_rfl
def qT:uM:=Gr
theorem Ke:Con.Ok Tryz.prog 114 ⟨wH,wI,qT⟩:=zz zi zm (by kernel_rfl)
theorem Kf (a0) (a1):qT (a0,a1,())=Zh  a0 a1:=zhi  a0 a1
abbrev xx:List VT:=[⟨false,(.list I)⟩,⟨false,I⟩]
abbrev xy:List VT:=[⟨false,.bool⟩]
def zdV:qb:=zT [] [] [] [] [114]
def Jh (jd:uM) (a0:(List Int)) (a1:Int):Option (Bool×Unit):=
 opt (jd (a0,(a1,()))) fun x0=>
 some ((!(zt x0.1 0)),())
abbrev kr:Type:=((List Int)×Int×Unit)→Option (Bool×Unit)
def Kg:uM→kr:=fun jd=>sF Tryz.prog [(114,⟨wH,wI,jd⟩)] zdV (zM []) 30 136 xx xy
theorem zeQ (jd) (a0) (a1):Kg jd (a0,a1,())=Jh jd a0 a1:=by kernel_rfl
def xz:kr:=Kg qT
theorem zcy:Con.Ok Tryz.prog 136 ⟨xx,xy,xz⟩:=zz (zf Ke zi) zm (by kernel_rfl)
theorem zcz (a0) (a1):xz (a0,a1,())=Jh qT a0 a1:=zeQ qT a0 a1
abbrev gG:List VT:=[⟨true,XZ⟩,⟨false,(.list I)⟩,⟨false,(.list I)⟩]
abbrev gH:List VT:=[⟨false,.bool⟩]
def zmt:qb:=zT [cdF XZ] [] [] [] [136]
def Gs (jN:gD) (xC:kr) (a0:QY) (a1:(List Int)) (a2:(List Int)):Option (Bool×Unit):=
 opt (jN (a0,(a1,()))) fun x0=>
 opt (jN (a0,(a2,()))) fun x1=>
 opt (uz x0.1 (some 1) (some (wrF .i64 (((x0.1.length:Nat):Int) - 1))) (some (wrF .i64 (((x0.1.length:Nat):Int) - 1)))) fun x2=>
 opt (qd (fun s3:((Bool×(Int×Unit))×Unit)=>
  bif (zt s3.1.2.1 ((x2.length:Nat):Int)) then opt (atI x2 s3.1.2.1) fun x4=>
   opt (xC (x1.1,(x4,()))) fun x5=>
   bif x5.1 then some (.inl (1,((true,(s3.1.2.1,())),())))
   else some (.inr ((s3.1.1,((wrF .i64 (s3.1.2.1+1)),())),()))
  else some (.inl (0,((s3.1.1,(s3.1.2.1,())),())))) qC ((false,(0,())),())) fun x6=>
 bif Nat.beq x6.1 0 then some (false,())
 else some (x6.2.1.1,())
abbrev Xh:Type:=(QY×(List Int)×(List Int)×Unit)→Option (Bool×Unit)
def zeR:gD→kr→Xh:=fun jN xC=>sF Tryz.prog [(78,⟨vK,vL,jN⟩),(136,⟨xx,xy,xC⟩)] zmt (zM []) 30 104 gG gH
theorem znQ (jN) (xC) (a0) (a1) (a2):zeR jN xC (a0,a1,a2,())=Gs jN xC a0 a1 a2:=by kernel_rfl
def gI:Xh:=zeR xW xz
theorem zj1:Con.Ok Tryz.prog 104 ⟨gG,gH,gI⟩:=zz (zf zbO (zf zcy zi)) zm (by kernel_rfl)
theorem zj2 (a0) (a1) (a2):gI (a0,a1,a2,())=Gs xW xz a0 a1 a2:=znQ xW xz a0 a1 a2
abbrev YB:List VT:=[⟨true,zV⟩,⟨false,(.list I)⟩,⟨false,(.list I)⟩]
abbrev YC:List VT:=[⟨false,.bool⟩,⟨false,I⟩]
def zup:qb:=zT [cdF zV,cdF qy] [] [] [] [102,103,104,105]
def zfj (wo:gF) (WA:GW) (uS:Xh) (xQ:YA) (a0:qk) (a1:(List Int)) (a2:(List Int)):Option (Bool×Int×Unit):=
 opt (xQ (a0,(a1,()))) fun x0=>
 bif !(zj x0.1 0) then some (false,(x0.1,()))
 else opt (wo (a0,(a2,()))) fun x1=>
  bif !x1.1 then some (false,(310,()))
  else opt (WA (a1,(a2,()))) fun x2=>
   bif !x2.1 then opt (uS (a0,(a1,(a2,())))) fun x3=>
    bif !x3.1 then opt (uS (a0,(a2,(a1,())))) fun x4=>
     some ((!x4.1),(0,()))
    else some (false,(0,()))
   else some (false,(0,()))
abbrev zaT:Type:=(qk×(List Int)×(List Int)×Unit)→Option (Bool×Int×Unit)
def zl0:gF→GW→Xh→YA→zaT:=fun wo WA uS xQ=>sF Tryz.prog [(102,⟨vM,vN,wo⟩),(103,⟨Wq,Wr,WA⟩),(104,⟨gG,gH,uS⟩),(105,⟨Qa,Qb,xQ⟩)] zup (zM []) 30 74 YB YC
theorem zv9 (wo) (WA) (uS) (xQ) (a0) (a1) (a2):zl0 wo WA uS xQ (a0,a1,a2,())=zfj wo WA uS xQ a0 a1 a2:=by kernel_rfl
def Qc:zaT:=zl0 xX Ws gI kV
theorem zqX:Con.Ok Tryz.prog 74 ⟨YB,YC,Qc⟩:=zz (zf zbP (zf zpq (zf zj1 (zf zhg zi)))) zm (by kernel_rfl)
theorem zqY (a0) (a1) (a2):Qc (a0,a1,a2,())=zfj xX Ws gI kV a0 a1 a2:=zv9 xX Ws gI kV a0 a1 a2
abbrev gJ:List VT:=[⟨true,zV⟩,⟨true,zA⟩]
abbrev gK:List VT:=[⟨false,.bool⟩]
def zsC:qb:=zT [cdF zA,cdF zV,cdF qy,cdF zu] [] [] [] [63,65,69,72,74]
def zdW (qf:uL) (gx:Kz) (qv:uj) (QT:GV) (gg:zaT) (a0:qk) (a1:zv):Option (Bool×Unit):=
 opt (qf (a1.1,(1,(4095,())))) fun x0=>
 bif !x0.1 then some (false,())
 else opt (gx (a0,(a1.2.1,()))) fun x1=>
  bif x1.1 then opt (gx (a0,(a1.2.2.1,()))) fun x2=>
   bif x2.1 then bif (!(!(zj a1.2.1 a1.2.2.1))) then some (false,())
    else opt (qf (a1.2.2.2.2.1,(84,(1542,())))) fun x3=>
     bif !x3.1 then some (false,())
     else opt (qf (a1.2.2.2.2.2.2.2.1,(1,(1099511627776,())))) fun x4=>
      bif !x4.1 then some (false,())
      else bif zj a1.2.2.2.1 7 then opt (qf (a1.2.2.2.2.2.1,(1,(240,())))) fun x5=>
        bif x5.1 then bif (!((zj a1.2.2.2.2.2.2.1.1 0)&&((zj a1.2.2.2.2.2.2.1.2 0)&&true))) then some (false,())
         else opt (qf (((a1.2.2.2.2.2.2.2.2.length:Nat):Int),(1,(2,())))) fun x6=>
          bif !x6.1 then some (false,())
          else opt (qd (fun s7:((Bool×(Int×Unit))×Unit)=>
            bif (zt s7.1.2.1 ((a1.2.2.2.2.2.2.2.2.length:Nat):Int)) then opt (atI a1.2.2.2.2.2.2.2.2 s7.1.2.1) fun x8=>
             opt (QT (a0,(x8,(a1.2.1,(a1.2.2.1,()))))) fun x9=>
             bif !x9.1 then some (.inl (1,((false,(s7.1.2.1,())),())))
             else some (.inr ((s7.1.1,((wrF .i64 (s7.1.2.1+1)),())),()))
            else some (.inl (0,((s7.1.1,(s7.1.2.1,())),())))) qC ((false,(0,())),())) fun x10=>
           bif Nat.beq x10.1 0 then bif (zt ((a1.2.2.2.2.2.2.2.2.length:Nat):Int) 2) then some (true,())
            else opt (atI a1.2.2.2.2.2.2.2.2 0) fun x11=>
             opt (atI a1.2.2.2.2.2.2.2.2 1) fun x12=>
             opt (gg (a0,(x11,(x12,())))) fun x13=>
             bif zj x13.2.1 0 then bif !x13.1 then some (false,())
              else some (true,())
             else some (false,())
           else bif !x10.2.1.1 then some (false,())
            else bif (zt ((a1.2.2.2.2.2.2.2.2.length:Nat):Int) 2) then some (true,())
             else opt (atI a1.2.2.2.2.2.2.2.2 0) fun x14=>
              opt (atI a1.2.2.2.2.2.2.2.2 1) fun x15=>
              opt (gg (a0,(x14,(x15,())))) fun x16=>
              bif zj x16.2.1 0 then bif !x16.1 then some (false,())
               else some (true,())
              else some (false,())
        else some (false,())
       else bif zj a1.2.2.2.1 6 then bif zj a1.2.2.2.2.2.1 0 then opt (qv (a1.2.2.2.2.2.2.1,())) fun x17=>
          bif zj x17.1 0 then bif (!(!(zt a1.2.2.2.2.2.2.1.1 a1.2.2.2.2.1))) then some (false,())
           else opt (qf (((a1.2.2.2.2.2.2.2.2.length:Nat):Int),(1,(2,())))) fun x18=>
            bif !x18.1 then some (false,())
            else opt (qd (fun s19:((Bool×(Int×Unit))×Unit)=>
              bif (zt s19.1.2.1 ((a1.2.2.2.2.2.2.2.2.length:Nat):Int)) then opt (atI a1.2.2.2.2.2.2.2.2 s19.1.2.1) fun x20=>
               opt (QT (a0,(x20,(a1.2.1,(a1.2.2.1,()))))) fun x21=>
               bif !x21.1 then some (.inl (1,((false,(s19.1.2.1,())),())))
               else some (.inr ((s19.1.1,((wrF .i64 (s19.1.2.1+1)),())),()))
              else some (.inl (0,((s19.1.1,(s19.1.2.1,())),())))) qC ((false,(0,())),())) fun x22=>
             bif Nat.beq x22.1 0 then bif (zt ((a1.2.2.2.2.2.2.2.2.length:Nat):Int) 2) then some (true,())
              else opt (atI a1.2.2.2.2.2.2.2.2 0) fun x23=>
               opt (atI a1.2.2.2.2.2.2.2.2 1) fun x24=>
               opt (gg (a0,(x23,(x24,())))) fun x25=>
               bif zj x25.2.1 0 then bif !x25.1 then some (false,())
                else some (true,())
               else some (false,())
             else bif !x22.2.1.1 then some (false,())
              else bif (zt ((a1.2.2.2.2.2.2.2.2.length:Nat):Int) 2) then some (true,())
               else opt (atI a1.2.2.2.2.2.2.2.2 0) fun x26=>
                opt (atI a1.2.2.2.2.2.2.2.2 1) fun x27=>
                opt (gg (a0,(x26,(x27,())))) fun x28=>
                bif zj x28.2.1 0 then bif !x28.1 then some (false,())
                 else some (true,())
                else some (false,())
          else some (false,())
         else some (false,())
        else some (false,())
   else some (false,())
  else some (false,())
abbrev Wt:Type:=(qk×zv×Unit)→Option (Bool×Unit)
def zj3:uL→Kz→uj→GV→zaT→Wt:=fun qf gx qv QT gg=>sF Tryz.prog [(63,⟨vi,vj,qf⟩),(65,⟨Qz,QA,gx⟩),(69,⟨xK,xL,qv⟩),(72,⟨Wo,Wp,QT⟩),(74,⟨YB,YC,gg⟩)] zsC (zM []) 30 42 gJ gK
theorem zuq (qf) (gx) (qv) (QT) (gg) (a0) (a1):zj3 qf gx qv QT gg (a0,a1,())=zdW qf gx qv QT gg a0 a1:=by kernel_rfl
def uY:Wt:=zj3 yL QB yg QC Qc
theorem zfO:Con.Ok Tryz.prog 42 ⟨gJ,gK,uY⟩:=zz (zf Us (zf zmo (zf XH (zf zpo (zf zqX zi))))) zm (by kernel_rfl)
theorem zps (a0) (a1):uY (a0,a1,())=zdW yL QB yg QC Qc a0 a1:=zuq yL QB yg QC Qc a0 a1
abbrev Zw:List VT:=[⟨true,zV⟩,⟨false,(.list zA)⟩]
abbrev Zx:List VT:=[⟨false,I⟩]
def znR:qb:=zT [cdF zA,cdF zV,cdF qy,cdF zu] [] [] [] [41,42]
def zal (zZ:xV) (xi:Wt) (a0:qk) (a1:(List zv)):Option (Int×Unit):=
 opt (zZ (a0,())) fun x0=>
 bif !(zj x0.1 0) then some (x0.1,())
 else bif (zt 12 ((a1.length:Nat):Int)) then some (3,())
  else opt (qd (fun s1:((Int×(Int×Unit))×Unit)=>
    bif (zt s1.1.2.1 ((a1.length:Nat):Int)) then opt (atI a1 s1.1.2.1) fun x2=>
     opt (xi (a0,(x2,()))) fun x3=>
     bif !x3.1 then some (.inl (1,((321,(s1.1.2.1,())),())))
     else some (.inr ((s1.1.1,((wrF .i64 (s1.1.2.1+1)),())),()))
    else some (.inl (0,((s1.1.1,(s1.1.2.1,())),())))) qC ((0,(0,())),())) fun x4=>
   bif Nat.beq x4.1 0 then opt (qd (fun s5:((Int×(Int×Unit))×((List (Int×Bool))×Unit))=>
     bif (zt s5.1.2.1 ((a1.length:Nat):Int)) then opt (atI a1 s5.1.2.1) fun x6=>
      bif mpD (α:=Bool) s5.2.1 x6.1 false then some (.inl (1,((322,(s5.1.2.1,())),(s5.2.1,()))))
      else some (.inr ((s5.1.1,((wrF .i64 (s5.1.2.1+1)),())),((mpP (α:=Bool) s5.2.1 x6.1 true),())))
     else some (.inl (0,((s5.1.1,(s5.1.2.1,())),(s5.2.1,()))))) qC ((x4.2.1.1,(0,())),([],()))) fun x7=>
    bif Nat.beq x7.1 0 then some (0,())
    else some (x7.2.1.1,())
   else some (x4.2.1.1,())
abbrev XI:Type:=(qk×(List zv)×Unit)→Option (Int×Unit)
def zfP:xV→Wt→XI:=fun zZ xi=>sF Tryz.prog [(41,⟨ya,yb,zZ⟩),(42,⟨gJ,gK,xi⟩)] znR (zM []) 30 56 Zw Zx
theorem zpt (zZ) (xi) (a0) (a1):zfP zZ xi (a0,a1,())=zal zZ xi a0 a1:=by kernel_rfl
def Zy:XI:=zfP jQ uY
theorem zlk:Con.Ok Tryz.prog 56 ⟨Zw,Zx,Zy⟩:=zz (zf Jv (zf zfO zi)) zm (by kernel_rfl)
theorem zll (a0) (a1):Zy (a0,a1,())=zal jQ uY a0 a1:=zpt jQ uY a0 a1
abbrev xe:List VT:=[⟨false,(.list I)⟩,⟨false,I⟩]
abbrev xf:List VT:=[⟨false,I⟩]
def zdb:qb:=zT [] [] [] [] []
def QD (a0:(List Int)) (a1:Int):Option (Int×Unit):=
 opt (qd (fun s0:((Int×(Int×Unit))×Unit)=>
  bif (zt s0.1.2.1 ((a0.length:Nat):Int)) then opt (atI a0 s0.1.2.1) fun x1=>
   bif zj a1 x1 then some (.inl (1,((s0.1.2.1,(s0.1.2.1,())),())))
   else some (.inr ((s0.1.1,((wrF .i64 (s0.1.2.1+1)),())),()))
  else some (.inl (0,((s0.1.1,(s0.1.2.1,())),())))) qC ((0,(0,())),())) fun x2=>
 bif Nat.beq x2.1 0 then some ((-1),())
 else some (x2.2.1.1,())
abbrev uZ:Type:=((List Int)×Int×Unit)→Option (Int×Unit)
def Vl:uZ:=sF Tryz.prog [] zdb (zM []) 30 145 xe xf
theorem zdX (a0) (a1):Vl (a0,a1,())=QD a0 a1:=by kernel_rfl
def xg:uZ:=Vl
theorem zb1:Con.Ok Tryz.prog 145 ⟨xe,xf,xg⟩:=zz zi zm (by kernel_rfl)
theorem zb2 (a0) (a1):xg (a0,a1,())=QD  a0 a1:=zdX  a0 a1
abbrev yl:List VT:=[⟨false,(.list I)⟩,⟨false,I⟩]
abbrev ym:List VT:=[⟨false,.bool⟩]
def zbn:qb:=zT [] [] [] [] [145]
def gY (xj:uZ) (a0:(List Int)) (a1:Int):Option (Bool×Unit):=
 opt (xj (a0,(a1,()))) fun x0=>
 some ((!(zt x0.1 0)),())
abbrev uf:Type:=((List Int)×Int×Unit)→Option (Bool×Unit)
def Yo:uZ→uf:=fun xj=>sF Tryz.prog [(145,⟨xe,xf,xj⟩)] zbn (zM []) 30 119 yl ym
theorem zb3 (xj) (a0) (a1):Yo xj (a0,a1,())=gY xj a0 a1:=by kernel_rfl
def jG:uf:=Yo xg
theorem zam:Con.Ok Tryz.prog 119 ⟨yl,ym,jG⟩:=zz (zf zb1 zi) zm (by kernel_rfl)
theorem zan (a0) (a1):jG (a0,a1,())=gY xg a0 a1:=zb3 xg a0 a1
abbrev Wu:List VT:=[⟨true,GU⟩]
abbrev Wv:List VT:=[⟨false,I⟩]
def zsD:qb:=zT [cdF GU,cdF qy] [] [] [] []
def zdY (a0:zbM):Option (Int×Unit):=
 some (a0.1.2.2.1,())
abbrev GX:Type:=(zbM×Unit)→Option (Int×Unit)
def zj4:GX:=sF Tryz.prog [] zsD (zM []) 30 121 Wu Wv
theorem zur (a0):zj4 (a0,())=zdY a0:=by kernel_rfl
def Vm:GX:=zj4
theorem zpu:Con.Ok Tryz.prog 121 ⟨Wu,Wv,Vm⟩:=zz zi zm (by kernel_rfl)
theorem zpv (a0):Vm (a0,())=zdY  a0:=zur  a0
abbrev GY:List VT:=[⟨true,zV⟩,⟨false,I⟩]
abbrev GZ:List VT:=[⟨false,I⟩,⟨false,I⟩]
def zzD:qb:=zT [cdF zV,cdF GU,cdF qy] [] [] [] [41,121]
def zlm (zZ:xV) (WB:GX) (a0:qk) (a1:Int):Option (Int×Int×Unit):=
 opt (zZ (a0,())) fun x0=>
 bif !(zj x0.1 0) then some (0,(x0.1,()))
 else opt (bif zt a1 0 then some (1,((0,(2,())),()))
   else bif (!(zt a1 (wrF .i64 (2*((a0.2.2.length:Nat):Int))))) then some (1,((0,(2,())),()))
    else some (0,((0,(0,())),()))) fun x1=>
  bif Nat.beq x1.1 0 then opt (atI a0.2.2 (wrF .i64 (Int.tdiv a1 2))) fun x2=>
   opt (WB ((x2,a1),())) fun x3=>
   some (x3.1,(0,()))
  else some (x1.2.1.1,(x1.2.1.2.1,()))
abbrev zgu:Type:=(qk×Int×Unit)→Option (Int×Int×Unit)
def zsE:xV→GX→zgu:=fun zZ WB=>sF Tryz.prog [(41,⟨ya,yb,zZ⟩),(121,⟨Wu,Wv,WB⟩)] zzD (zM []) 30 85 GY GZ
theorem zBI (zZ) (WB) (a0) (a1):zsE zZ WB (a0,a1,())=zlm zZ WB a0 a1:=by kernel_rfl
def Zi:zgu:=zsE jQ Vm
theorem zwa:Con.Ok Tryz.prog 85 ⟨GY,GZ,Zi⟩:=zz (zf Jv (zf zpu zi)) zm (by kernel_rfl)
theorem zwb (a0) (a1):Zi (a0,a1,())=zlm jQ Vm a0 a1:=zBI jQ Vm a0 a1
abbrev Jy:List VT:=[⟨true,qq⟩,⟨false,I⟩,⟨false,I⟩]
abbrev Jz:List VT:=[⟨false,I⟩]
def zqZ:qb:=zT [cdF qq,cdF jf] [] [] [] [46]
def zcA (jK:ZZ) (a0:jo) (a1:Int) (a2:Int):Option (Int×Unit):=
 opt (jK (a0,())) fun x0=>
 bif !(zj x0.1 0) then some (x0.1,())
 else opt (bif zt a1 1 then some (1,((2,()),()))
   else bif zt 1000 a1 then some (1,((2,()),()))
    else bif zt a2 84 then some (1,((2,()),()))
     else bif zt 1542 a2 then some (1,((2,()),()))
      else some (0,((0,()),()))) fun x1=>
  bif Nat.beq x1.1 0 then some (0,())
  else some (x1.2.1.1,())
abbrev UI:Type:=(jo×Int×Int×Unit)→Option (Int×Unit)
def ziB:ZZ→UI:=fun jK=>sF Tryz.prog [(46,⟨uT,uU,jK⟩)] zqZ (zM []) 30 122 Jy Jz
theorem zsF (jK) (a0) (a1) (a2):ziB jK (a0,a1,a2,())=zcA jK a0 a1 a2:=by kernel_rfl
def JA:UI:=ziB vq
theorem znS:Con.Ok Tryz.prog 122 ⟨Jy,Jz,JA⟩:=zz (zf zbk zi) zm (by kernel_rfl)
theorem znT (a0) (a1) (a2):JA (a0,a1,a2,())=zcA vq a0 a1 a2:=zsF vq a0 a1 a2
abbrev YD:List VT:=[⟨true,qq⟩,⟨false,I⟩,⟨false,I⟩,⟨false,I⟩]
abbrev YE:List VT:=[⟨false,I⟩]
def zus:qb:=zT [cdF qq,cdF jf] [] [] [] [46]
def zfk (jK:ZZ) (a0:jo) (a1:Int) (a2:Int) (a3:Int):Option (Int×Unit):=
 opt (jK (a0,())) fun x0=>
 bif !(zj x0.1 0) then some (x0.1,())
 else opt (bif zt a1 0 then some (1,((2,()),()))
   else bif !(zt a1 8) then some (1,((2,()),()))
    else bif zt a2 (-1099511627776) then some (1,((2,()),()))
     else bif zt 1099511627776 a2 then some (1,((2,()),()))
      else bif zt a3 0 then some (1,((2,()),()))
       else bif zt 1099511627776 a3 then some (1,((2,()),()))
        else some (0,((0,()),()))) fun x1=>
  bif Nat.beq x1.1 0 then some (0,())
  else some (x1.2.1.1,())
abbrev zaU:Type:=(jo×Int×Int×Int×Unit)→Option (Int×Unit)
def zl1:ZZ→zaU:=fun jK=>sF Tryz.prog [(46,⟨uT,uU,jK⟩)] zus (zM []) 30 177 YD YE
theorem zwc (jK) (a0) (a1) (a2) (a3):zl1 jK (a0,a1,a2,a3,())=zfk jK a0 a1 a2 a3:=by kernel_rfl
def YF:zaU:=zl1 vq
theorem zq0:Con.Ok Tryz.prog 177 ⟨YD,YE,YF⟩:=zz (zf zbk zi) zm (by kernel_rfl)
theorem zq1 (a0) (a1) (a2) (a3):YF (a0,a1,a2,a3,())=zfk vq a0 a1 a2 a3:=zwc vq a0 a1 a2 a3
abbrev Vn:List VT:=[⟨true,qq⟩,⟨false,I⟩]
abbrev Vo:List VT:=[⟨false,I⟩,⟨false,I⟩]
def zwd:qb:=zT [cdF qq,cdF jf] [] [] [] []
def zhj (a0:jo) (a1:Int):Option (Int×Int×Unit):=
 bif zj a0.2 0 then none
 else bif zj a0.2 0 then none
  else opt (atI a0.1 0) fun x0=>
   bif (!(zt (Int.tmod (wrF .i64 ((Int.tmod a1 a0.2)+a0.2)) a0.2) x0.2)) then opt (atI a0.1 0) fun x1=>
    opt (qd (fun s2:((Int×(Int×(Int×Unit)))×Unit)=>
     opt (atI a0.1 s2.1.2.1) fun x3=>
     bif !(zt s2.1.1 x3.2) then opt (atI a0.1 s2.1.2.1) fun x4=>
      some (.inr (((wrF .i64 (s2.1.1 - x4.2)),((wrF .i64 (s2.1.2.1+1)),(s2.1.2.2.1,()))),()))
     else opt (atI a0.1 s2.1.2.1) fun x5=>
      some (.inl (0,((s2.1.1,(s2.1.2.1,((wrF .i64 (x5.2 - s2.1.1)),()))),())))) qC (((wrF .i64 ((Int.tmod (wrF .i64 ((Int.tmod a1 a0.2)+a0.2)) a0.2) - x1.2)),(1,(0,()))),())) fun x6=>
    some (x6.2.1.2.1,(x6.2.1.2.2.1,()))
   else opt (atI a0.1 0) fun x7=>
    some (0,((wrF .i64 (x7.2 - (Int.tmod (wrF .i64 ((Int.tmod a1 a0.2)+a0.2)) a0.2))),()))
abbrev zcB:Type:=(jo×Int×Unit)→Option (Int×Int×Unit)
def znU:zcB:=sF Tryz.prog [] zwd (zM []) 30 188 Vn Vo
theorem zyz (a0) (a1):znU (a0,a1,())=zhj a0 a1:=by kernel_rfl
def Vp:zcB:=znU
theorem zsG:Con.Ok Tryz.prog 188 ⟨Vn,Vo,Vp⟩:=zz zi zm (by kernel_rfl)
theorem zsH (a0) (a1):Vp (a0,a1,())=zhj  a0 a1:=zyz  a0 a1
abbrev Vq:List VT:=[⟨true,qq⟩,⟨false,I⟩,⟨false,I⟩]
abbrev Vr:List VT:=[⟨false,I⟩]
def zwe:qb:=zT [cdF qq,cdF jf] [] [] [] [188]
def zhk (VU:zcB) (a0:jo) (a1:Int) (a2:Int):Option (Int×Unit):=
 opt (VU (a0,(a2,()))) fun x0=>
 opt (qd (fun s1:((Int×(((List (Int×Int))×Int)×(Int×(Int×(Int×(Int×(Int×Unit)))))))×Unit)=>
  bif (zt s1.1.2.2.2.2.2.2.1 (wrF .i64 (((a0.1.length:Nat):Int)+1))) then opt (atI s1.1.2.1.1 s1.1.2.2.2.2.1) fun x2=>
   bif zt s1.1.1 0 then none
   else bif (!(zj (Ze .and .i64 (yK .i64 x2.1 s1.1.1) 1) 1)) then some (.inl (1,((s1.1.1,(s1.1.2.1,(s1.1.2.2.2.1,(s1.1.2.2.2.1,(s1.1.2.2.2.2.1,(s1.1.2.2.2.2.2.1,(s1.1.2.2.2.2.2.2.1,()))))))),())))
    else bif (zj ((s1.1.2.1.1.length:Nat):Int) 0) then none
     else opt (atI s1.1.2.1.1 (Int.tmod (wrF .i64 (s1.1.2.2.2.2.1+1)) ((s1.1.2.1.1.length:Nat):Int))) fun x3=>
      some (.inr ((s1.1.1,(s1.1.2.1,(s1.1.2.2.1,((wrF .i64 (s1.1.2.2.2.1+s1.1.2.2.2.2.2.1)),((Int.tmod (wrF .i64 (s1.1.2.2.2.2.1+1)) ((s1.1.2.1.1.length:Nat):Int)),(x3.2,((wrF .i64 (s1.1.2.2.2.2.2.2.1+1)),()))))))),()))
  else some (.inl (0,((s1.1.1,(s1.1.2.1,(s1.1.2.2.1,(s1.1.2.2.2.1,(s1.1.2.2.2.2.1,(s1.1.2.2.2.2.2.1,(s1.1.2.2.2.2.2.2.1,()))))))),())))) qC ((a1,(a0,(0,(0,(x0.1,(x0.2.1,(0,()))))))),())) fun x4=>
 bif Nat.beq x4.1 0 then bif zj x4.2.1.2.1.2 a0.2 then some (1099511627776,())
  else some (x4.2.1.2.1.2,())
 else bif zj x4.2.1.2.2.1 a0.2 then some (1099511627776,())
  else some (x4.2.1.2.2.1,())
abbrev zcC:Type:=(jo×Int×Int×Unit)→Option (Int×Unit)
def znV:zcB→zcC:=fun VU=>sF Tryz.prog [(188,⟨Vn,Vo,VU⟩)] zwe (zM []) 30 178 Vq Vr
theorem zyA (VU) (a0) (a1) (a2):znV VU (a0,a1,a2,())=zhk VU a0 a1 a2:=by kernel_rfl
def Vs:zcC:=znV Vp
theorem zsI:Con.Ok Tryz.prog 178 ⟨Vq,Vr,Vs⟩:=zz (zf zsG zi) zm (by kernel_rfl)
theorem zsJ (a0) (a1) (a2):Vs (a0,a1,a2,())=zhk Vp a0 a1 a2:=zyA Vp a0 a1 a2
abbrev Vt:List VT:=[⟨true,qq⟩,⟨false,I⟩,⟨false,I⟩]
abbrev Vu:List VT:=[⟨false,I⟩,⟨false,I⟩]
def zwf:qb:=zT [cdF qq,cdF jf] [] [] [] [177,178]
def zhl (YR:zaU) (VV:zcC) (a0:jo) (a1:Int) (a2:Int):Option (Int×Int×Unit):=
 opt (YR (a0,(a1,(a2,(0,()))))) fun x0=>
 bif !(zj x0.1 0) then some (0,(x0.1,()))
 else opt (VV (a0,(a1,(a2,())))) fun x1=>
  some (x1.1,(0,()))
abbrev zcD:Type:=(jo×Int×Int×Unit)→Option (Int×Int×Unit)
def znW:zaU→zcC→zcD:=fun YR VV=>sF Tryz.prog [(177,⟨YD,YE,YR⟩),(178,⟨Vq,Vr,VV⟩)] zwf (zM []) 30 157 Vt Vu
theorem zyB (YR) (VV) (a0) (a1) (a2):znW YR VV (a0,a1,a2,())=zhl YR VV a0 a1 a2:=by kernel_rfl
def Vv:zcD:=znW YF Vs
theorem zsK:Con.Ok Tryz.prog 157 ⟨Vt,Vu,Vv⟩:=zz (zf zq0 (zf zsI zi)) zm (by kernel_rfl)
theorem zsL (a0) (a1) (a2):Vv (a0,a1,a2,())=zhl YF Vs a0 a1 a2:=zyB YF Vs a0 a1 a2
abbrev QE:List VT:=[⟨true,qq⟩]
abbrev QF:List VT:=[⟨false,.bool⟩]
def zpw:qb:=zT [cdF qq,cdF jf] [] [] [] [157]
def zbo (VW:zcD) (a0:jo):Option (Bool×Unit):=
 opt (VW (a0,(6,(0,())))) fun x0=>
 bif zj x0.2.1 0 then some ((zj x0.1 1099511627776),())
 else some (false,())
abbrev KB:Type:=(jo×Unit)→Option (Bool×Unit)
def zhm:zcD→KB:=fun VW=>sF Tryz.prog [(157,⟨Vt,Vu,VW⟩)] zpw (zM []) 30 147 QE QF
theorem zq2 (VW) (a0):zhm VW (a0,())=zbo VW a0:=by kernel_rfl
def QG:KB:=zhm Vv
theorem zmu:Con.Ok Tryz.prog 147 ⟨QE,QF,QG⟩:=zz (zf zsK zi) zm (by kernel_rfl)
theorem zmv (a0):QG (a0,())=zbo Vv a0:=zq2 Vv a0
abbrev uN:List VT:=[⟨true,jf⟩]
abbrev uO:List VT:=[⟨false,.bool⟩]
def zpx:qb:=zT [cdF jf] [] [] [] []
def KD (a0:zgp):Option (Bool×Unit):=
 some ((zj (Ze .and .i64 (yK .i64 a0.1 6) 1) 1),())
abbrev QH:Type:=(zgp×Unit)→Option (Bool×Unit)
def zhn:QH:=sF Tryz.prog [] zpx (zM []) 30 159 uN uO
theorem zq3 (a0):zhn (a0,())=KD a0:=by kernel_rfl
def vS:QH:=zhn
theorem zdn:Con.Ok Tryz.prog 159 ⟨uN,uO,vS⟩:=zz zi zm (by kernel_rfl)
theorem zdo (a0):vS (a0,())=KD  a0:=zq3  a0
abbrev Zz:List VT:=[⟨true,qq⟩,⟨false,I⟩]
abbrev ZA:List VT:=[⟨false,I⟩]
def znX:qb:=zT [cdF qq,cdF jf] [] [] [] [147,159]
def XJ (QU:KB) (jZ:QH) (a0:jo) (a1:Int):Option (Int×Unit):=
 opt (QU (a0,())) fun x0=>
 bif x0.1 then some (a0.2,())
 else opt (qd (fun s1:((Int×(Int×(Int×Unit)))×(Unit×(Unit×Unit)))=>
   bif (zt s1.1.2.2.1 ((a0.1.length:Nat):Int)) then opt (atI a0.1 s1.1.2.2.1) fun x2=>
    opt (jZ (x2,())) fun x3=>
    bif x3.1 then opt (atI a0.1 s1.1.2.2.1) fun x4=>
     some (.inr ((s1.1.1,((wrF .i64 (s1.1.2.1+x4.2)),((wrF .i64 (s1.1.2.2.1+1)),()))),((),((),()))))
    else some (.inl (0,((s1.1.1,(s1.1.2.1,(s1.1.2.2.1,()))),((),((),())))))
   else some (.inl (0,((s1.1.1,(s1.1.2.1,(s1.1.2.2.1,()))),((),((),())))))) qC ((0,(0,(0,()))),((),((),())))) fun x5=>
  bif (zj x5.2.1.2.2.1 ((a0.1.length:Nat):Int)) then some (x5.2.1.1,())
  else opt (atI a0.1 x5.2.1.2.2.1) fun x6=>
   opt (qd (fun s7:(((Int×Int)×(Int×(Int×(Int×Unit))))×(Unit×(Unit×Unit)))=>
    bif (zt s7.1.2.2.2.1 ((a0.1.length:Nat):Int)) then bif (zj ((a0.1.length:Nat):Int) 0) then none
     else opt (atI a0.1 (Int.tmod (wrF .i64 ((wrF .i64 (x5.2.1.2.2.1+1))+s7.1.2.2.2.1)) ((a0.1.length:Nat):Int))) fun x8=>
      opt (jZ (x8,())) fun x9=>
      bif x9.1 then opt (bif zj s7.1.1.2 0 then some (0,(((s7.1.2.2.1,s7.1.1.2),()),((),((),()))))
        else some (0,((s7.1.1,()),((),((),()))))) fun x10=>
       some (.inr (((x10.2.1.1.1,(wrF .i64 (x10.2.1.1.2+x8.2))),(s7.1.2.1,((wrF .i64 (s7.1.2.2.1+x8.2)),((wrF .i64 (s7.1.2.2.2.1+1)),())))),((),((),()))))
      else bif zt 0 s7.1.1.2 then some (.inr (((0,0),((wrF .i64 (s7.1.2.1+(Yt 0 (wrF .i64 (s7.1.1.2 - a1))))),((wrF .i64 (s7.1.2.2.1+x8.2)),((wrF .i64 (s7.1.2.2.2.1+1)),())))),((),((),()))))
       else some (.inr (((0,0),(s7.1.2.1,((wrF .i64 (s7.1.2.2.1+x8.2)),((wrF .i64 (s7.1.2.2.2.1+1)),())))),((),((),()))))
    else some (.inl (0,((s7.1.1,(s7.1.2.1,(s7.1.2.2.1,(s7.1.2.2.2.1,())))),((),((),())))))) qC (((0,0),(x5.2.1.1,((wrF .i64 (x5.2.1.2.1+x6.2)),(0,())))),((),((),())))) fun x11=>
   bif Nat.beq x11.1 0 then some (x11.2.1.2.1,())
   else some (x11.2.1.2.1,())
abbrev XK:Type:=(jo×Int×Unit)→Option (Int×Unit)
def zfQ:KB→QH→XK:=fun QU jZ=>sF Tryz.prog [(147,⟨QE,QF,QU⟩),(159,⟨uN,uO,jZ⟩)] znX (zM []) 30 123 Zz ZA
theorem zpy (QU) (jZ) (a0) (a1):zfQ QU jZ (a0,a1,())=XJ QU jZ a0 a1:=by kernel_rfl
def kn:XK:=zfQ QG vS
theorem zln:Con.Ok Tryz.prog 123 ⟨Zz,ZA,kn⟩:=zz (zf zmu (zf zdn zi)) zm (by kernel_rfl)
theorem zcE (a0) (a1):kn (a0,a1,())=XJ QG vS a0 a1:=zpy QG vS a0 a1
abbrev YG:List VT:=[⟨false,I⟩,⟨false,I⟩]
abbrev YH:List VT:=[⟨false,I⟩]
def zut:qb:=zT [] [] [] [] []
def zfl (a0:Int) (a1:Int):Option (Int×Unit):=
 bif zj a1 0 then none
 else bif zj a1 0 then none
  else some ((Int.tmod (wrF .i64 ((Int.tmod a0 a1)+a1)) a1),())
abbrev zaV:Type:=(Int×Int×Unit)→Option (Int×Unit)
def zl2:zaV:=sF Tryz.prog [] zut (zM []) 30 149 YG YH
theorem zwg (a0) (a1):zl2 (a0,a1,())=zfl a0 a1:=by kernel_rfl
def YI:zaV:=zl2
theorem zq4:Con.Ok Tryz.prog 149 ⟨YG,YH,YI⟩:=zz zi zm (by kernel_rfl)
theorem zq5 (a0) (a1):YI (a0,a1,())=zfl  a0 a1:=zwg  a0 a1
abbrev gL:List VT:=[⟨false,I⟩,⟨false,I⟩]
abbrev gM:List VT:=[⟨false,I⟩]
def zmw:qb:=zT [] [] [] [] [149]
def Gt (YS:zaV) (a0:Int) (a1:Int):Option (Int×Unit):=
 opt (YS (a0,(a1,()))) fun x0=>
 bif zj a1 0 then none
 else some ((wrF .i64 (Int.tdiv (wrF .i64 (a0 - x0.1)) a1)),())
abbrev Xi:Type:=(Int×Int×Unit)→Option (Int×Unit)
def zeS:zaV→Xi:=fun YS=>sF Tryz.prog [(149,⟨YG,YH,YS⟩)] zmw (zM []) 30 125 gL gM
theorem znY (YS) (a0) (a1):zeS YS (a0,a1,())=Gt YS a0 a1:=by kernel_rfl
def uP:Xi:=zeS YI
theorem zj5:Con.Ok Tryz.prog 125 ⟨gL,gM,uP⟩:=zz (zf zq4 zi) zm (by kernel_rfl)
theorem zj6 (a0) (a1):uP (a0,a1,())=Gt YI a0 a1:=znY YI a0 a1
abbrev Ji:List VT:=[⟨true,qq⟩,⟨false,I⟩,⟨false,I⟩]
abbrev Jj:List VT:=[⟨true,Wm⟩,⟨false,I⟩]
def zwh:qb:=zT [cdF qq,cdF jf] [] [⟨7,87,none,wN,true⟩,⟨12,87,none,wN,true⟩,⟨7,87,some 6,wN,false⟩,⟨12,87,some 6,wN,false⟩,⟨2,48,none,wN,true⟩,⟨6,48,none,wN,true⟩,⟨2,90,none,wN,true⟩,⟨5,90,none,wN,true⟩,⟨9,90,none,wN,true⟩,⟨12,90,none,wN,true⟩,⟨13,90,none,wN,true⟩,⟨18,90,none,wN,true⟩,⟨8,90,none,wN,true⟩] [] [122,123,125,159]
def Gu (JO:UI) (ZP:XK) (vf:Xi) (jZ:QH) (a0:jo) (a1:Int) (a2:Int):Option (vR×Int×Unit):=
 opt (JO (a0,(a1,(a2,())))) fun x0=>
 bif !(zj x0.1 0) then some ((0,0),(x0.1,()))
 else opt (ZP (a0,((wrF .i64 (a2*a1)),()))) fun x1=>
  bif (zj (wrF .i64 (a0.2*a1)) 0) then none
  else bif (zt (wrF .i64 (Int.tdiv (wrF .i64 (x1.1*1048576)) (wrF .i64 (a0.2*a1)))) 1) then some ((0,0),(4,()))
   else opt (vf ((wrF .i64 ((wrF .i64 ((-127)*a1))*1048576)),((wrF .i64 ((wrF .i64 (Int.tdiv (wrF .i64 (x1.1*1048576)) (wrF .i64 (a0.2*a1))))*a1)),()))) fun x2=>
    opt (qd (fun s3:((Int×(Int×Unit))×(((List (Int×Int))×Unit)×(Unit×(Unit×Unit))))=>
     bif (zt s3.1.2.1 ((a0.1.length:Nat):Int)) then opt (atI a0.1 s3.1.2.1) fun x4=>
      opt (jZ (x4,())) fun x5=>
      bif x5.1 then opt (atI a0.1 s3.1.2.1) fun x6=>
       some (.inr (((wrF .i64 (s3.1.1+x6.2)),((wrF .i64 (s3.1.2.1+1)),())),((s3.2.1.1,()),((),((),())))))
      else some (.inl (0,((s3.1.1,(s3.1.2.1,())),((s3.2.1.1,()),((),((),()))))))
     else some (.inl (0,((s3.1.1,(s3.1.2.1,())),((s3.2.1.1,()),((),((),()))))))) qC ((0,(0,())),(([],()),((),((),()))))) fun x7=>
    bif (zj x7.2.1.2.1 ((a0.1.length:Nat):Int)) then opt (qd (fun s8:((Int×(Int×(Int×(Int×Unit))))×(Unit×Unit))=>
      bif (zt s8.1.2.2.2.1 ((x7.2.2.1.1.length:Nat):Int)) then opt (atI x7.2.2.1.1 s8.1.2.2.2.1) fun x9=>
       opt (gl x7.2.2.1.1 (Int.toNat s8.1.2.2.2.1)) fun x10=>
       opt (qd (fun s11:((Int×(Int×(Int×(Int×(Int×Unit)))))×(Unit×Unit))=>
        bif (zt s11.1.2.2.2.2.1 ((x7.2.2.1.1.length:Nat):Int)) then bif (zj ((x7.2.2.1.1.length:Nat):Int) 0) then none
         else opt (atI x7.2.2.1.1 (Int.tmod (wrF .i64 ((wrF .i64 (s8.1.2.2.2.1+1))+s11.1.2.2.2.2.1)) ((x7.2.2.1.1.length:Nat):Int))) fun x12=>
          opt (gl x7.2.2.1.1 (Int.toNat (Int.tmod (wrF .i64 ((wrF .i64 (s8.1.2.2.2.1+1))+s11.1.2.2.2.2.1)) ((x7.2.2.1.1.length:Nat):Int)))) fun x13=>
          bif (zj ((x7.2.2.1.1.length:Nat):Int) 0) then none
          else opt (vf ((wrF .i64 ((wrF .i64 (s11.1.2.2.2.1 - (wrF .i64 (127*s11.1.2.2.1))))*1048576)),((wrF .i64 (s11.1.2.1*s11.1.2.2.1)),()))) fun x14=>
           some (.inr (((Yt s11.1.1 (wrF .i64 ((wrF .i64 ((wrF .i64 ((wrF .i64 (x13.1+(wrF .i64 ((wrF .i64 (Int.tdiv (wrF .i64 ((wrF .i64 (s8.1.2.2.2.1+1))+s11.1.2.2.2.2.1)) ((x7.2.2.1.1.length:Nat):Int)))*a0.2))))+(Ks (wrF .i64 (a2*a1)) x13.2))) - (wrF .i64 ((wrF .i64 (x10.1+x10.2)) - (Ks (wrF .i64 (a2*a1)) x10.2))))) - x14.1))),(s11.1.2.1,(s11.1.2.2.1,((wrF .i64 (s11.1.2.2.2.1+(Yt 0 (wrF .i64 (x13.2 - (wrF .i64 (a2*a1))))))),((wrF .i64 (s11.1.2.2.2.2.1+1)),()))))),((),())))
        else some (.inl (0,((s11.1.1,(s11.1.2.1,(s11.1.2.2.1,(s11.1.2.2.2.1,(s11.1.2.2.2.2.1,()))))),((),()))))) qC ((s8.1.1,(s8.1.2.1,(s8.1.2.2.1,(0,(0,()))))),((),()))) fun x15=>
       some (.inr ((x15.2.1.1,(x15.2.1.2.1,(x15.2.1.2.2.1,((wrF .i64 (s8.1.2.2.2.1+1)),())))),((),())))
      else some (.inl (0,((s8.1.1,(s8.1.2.1,(s8.1.2.2.1,(s8.1.2.2.2.1,())))),((),()))))) qC (((Yt 0 (wrF .i64 (0 - x2.1))),((wrF .i64 (Int.tdiv (wrF .i64 (x1.1*1048576)) (wrF .i64 (a0.2*a1)))),(a1,(0,())))),((),()))) fun x16=>
     some ((x16.2.1.2.1,x16.2.1.1),(0,()))
    else opt (atI a0.1 x7.2.1.2.1) fun x17=>
     opt (qd (fun s18:(((Int×Int)×(Int×(Int×Unit)))×(((List (Int×Int))×Unit)×(Unit×(Unit×Unit))))=>
      bif (zt s18.1.2.2.1 ((a0.1.length:Nat):Int)) then bif (zj ((a0.1.length:Nat):Int) 0) then none
       else opt (atI a0.1 (Int.tmod (wrF .i64 ((wrF .i64 (x7.2.1.2.1+1))+s18.1.2.2.1)) ((a0.1.length:Nat):Int))) fun x19=>
        opt (jZ (x19,())) fun x20=>
        bif x20.1 then opt (bif zj s18.1.1.2 0 then some (0,(((s18.1.2.1,s18.1.1.2),()),((),((),()))))
          else some (0,((s18.1.1,()),((),((),()))))) fun x21=>
         some (.inr (((x21.2.1.1.1,(wrF .i64 (x21.2.1.1.2+x19.2))),((wrF .i64 (s18.1.2.1+x19.2)),((wrF .i64 (s18.1.2.2.1+1)),()))),((s18.2.1.1,()),((),((),())))))
        else bif zt 0 s18.1.1.2 then bif (xE s18.2.1.1.length ((s18.1.1::[]).length) 16) then some (.inr (((0,0),((wrF .i64 (s18.1.2.1+x19.2)),((wrF .i64 (s18.1.2.2.1+1)),()))),(((s18.2.1.1++(s18.1.1::[])),()),((),((),())))))
          else none
         else some (.inr (((0,0),((wrF .i64 (s18.1.2.1+x19.2)),((wrF .i64 (s18.1.2.2.1+1)),()))),((s18.2.1.1,()),((),((),())))))
      else some (.inl (0,((s18.1.1,(s18.1.2.1,(s18.1.2.2.1,()))),((s18.2.1.1,()),((),((),()))))))) qC (((0,0),((wrF .i64 (x7.2.1.1+x17.2)),(0,()))),((x7.2.2.1.1,()),((),((),()))))) fun x22=>
     bif Nat.beq x22.1 0 then opt (qd (fun s23:((Int×(Int×(Int×(Int×Unit))))×(Unit×Unit))=>
       bif (zt s23.1.2.2.2.1 ((x22.2.2.1.1.length:Nat):Int)) then opt (atI x22.2.2.1.1 s23.1.2.2.2.1) fun x24=>
        opt (gl x22.2.2.1.1 (Int.toNat s23.1.2.2.2.1)) fun x25=>
        opt (qd (fun s26:((Int×(Int×(Int×(Int×(Int×Unit)))))×(Unit×Unit))=>
         bif (zt s26.1.2.2.2.2.1 ((x22.2.2.1.1.length:Nat):Int)) then bif (zj ((x22.2.2.1.1.length:Nat):Int) 0) then none
          else opt (atI x22.2.2.1.1 (Int.tmod (wrF .i64 ((wrF .i64 (s23.1.2.2.2.1+1))+s26.1.2.2.2.2.1)) ((x22.2.2.1.1.length:Nat):Int))) fun x27=>
           opt (gl x22.2.2.1.1 (Int.toNat (Int.tmod (wrF .i64 ((wrF .i64 (s23.1.2.2.2.1+1))+s26.1.2.2.2.2.1)) ((x22.2.2.1.1.length:Nat):Int)))) fun x28=>
           bif (zj ((x22.2.2.1.1.length:Nat):Int) 0) then none
           else opt (vf ((wrF .i64 ((wrF .i64 (s26.1.2.2.2.1 - (wrF .i64 (127*s26.1.2.2.1))))*1048576)),((wrF .i64 (s26.1.2.1*s26.1.2.2.1)),()))) fun x29=>
            some (.inr (((Yt s26.1.1 (wrF .i64 ((wrF .i64 ((wrF .i64 ((wrF .i64 (x28.1+(wrF .i64 ((wrF .i64 (Int.tdiv (wrF .i64 ((wrF .i64 (s23.1.2.2.2.1+1))+s26.1.2.2.2.2.1)) ((x22.2.2.1.1.length:Nat):Int)))*a0.2))))+(Ks (wrF .i64 (a2*a1)) x28.2))) - (wrF .i64 ((wrF .i64 (x25.1+x25.2)) - (Ks (wrF .i64 (a2*a1)) x25.2))))) - x29.1))),(s26.1.2.1,(s26.1.2.2.1,((wrF .i64 (s26.1.2.2.2.1+(Yt 0 (wrF .i64 (x28.2 - (wrF .i64 (a2*a1))))))),((wrF .i64 (s26.1.2.2.2.2.1+1)),()))))),((),())))
         else some (.inl (0,((s26.1.1,(s26.1.2.1,(s26.1.2.2.1,(s26.1.2.2.2.1,(s26.1.2.2.2.2.1,()))))),((),()))))) qC ((s23.1.1,(s23.1.2.1,(s23.1.2.2.1,(0,(0,()))))),((),()))) fun x30=>
        some (.inr ((x30.2.1.1,(x30.2.1.2.1,(x30.2.1.2.2.1,((wrF .i64 (s23.1.2.2.2.1+1)),())))),((),())))
       else some (.inl (0,((s23.1.1,(s23.1.2.1,(s23.1.2.2.1,(s23.1.2.2.2.1,())))),((),()))))) qC (((Yt 0 (wrF .i64 (0 - x2.1))),((wrF .i64 (Int.tdiv (wrF .i64 (x1.1*1048576)) (wrF .i64 (a0.2*a1)))),(a1,(0,())))),((),()))) fun x31=>
      some ((x31.2.1.2.1,x31.2.1.1),(0,()))
     else opt (qd (fun s32:((Int×(Int×(Int×(Int×Unit))))×(Unit×Unit))=>
       bif (zt s32.1.2.2.2.1 ((x22.2.2.1.1.length:Nat):Int)) then opt (atI x22.2.2.1.1 s32.1.2.2.2.1) fun x33=>
        opt (gl x22.2.2.1.1 (Int.toNat s32.1.2.2.2.1)) fun x34=>
        opt (qd (fun s35:((Int×(Int×(Int×(Int×(Int×Unit)))))×(Unit×Unit))=>
         bif (zt s35.1.2.2.2.2.1 ((x22.2.2.1.1.length:Nat):Int)) then bif (zj ((x22.2.2.1.1.length:Nat):Int) 0) then none
          else opt (atI x22.2.2.1.1 (Int.tmod (wrF .i64 ((wrF .i64 (s32.1.2.2.2.1+1))+s35.1.2.2.2.2.1)) ((x22.2.2.1.1.length:Nat):Int))) fun x36=>
           opt (gl x22.2.2.1.1 (Int.toNat (Int.tmod (wrF .i64 ((wrF .i64 (s32.1.2.2.2.1+1))+s35.1.2.2.2.2.1)) ((x22.2.2.1.1.length:Nat):Int)))) fun x37=>
           bif (zj ((x22.2.2.1.1.length:Nat):Int) 0) then none
           else opt (vf ((wrF .i64 ((wrF .i64 (s35.1.2.2.2.1 - (wrF .i64 (127*s35.1.2.2.1))))*1048576)),((wrF .i64 (s35.1.2.1*s35.1.2.2.1)),()))) fun x38=>
            some (.inr (((Yt s35.1.1 (wrF .i64 ((wrF .i64 ((wrF .i64 ((wrF .i64 (x37.1+(wrF .i64 ((wrF .i64 (Int.tdiv (wrF .i64 ((wrF .i64 (s32.1.2.2.2.1+1))+s35.1.2.2.2.2.1)) ((x22.2.2.1.1.length:Nat):Int)))*a0.2))))+(Ks (wrF .i64 (a2*a1)) x37.2))) - (wrF .i64 ((wrF .i64 (x34.1+x34.2)) - (Ks (wrF .i64 (a2*a1)) x34.2))))) - x38.1))),(s35.1.2.1,(s35.1.2.2.1,((wrF .i64 (s35.1.2.2.2.1+(Yt 0 (wrF .i64 (x37.2 - (wrF .i64 (a2*a1))))))),((wrF .i64 (s35.1.2.2.2.2.1+1)),()))))),((),())))
         else some (.inl (0,((s35.1.1,(s35.1.2.1,(s35.1.2.2.1,(s35.1.2.2.2.1,(s35.1.2.2.2.2.1,()))))),((),()))))) qC ((s32.1.1,(s32.1.2.1,(s32.1.2.2.1,(0,(0,()))))),((),()))) fun x39=>
        some (.inr ((x39.2.1.1,(x39.2.1.2.1,(x39.2.1.2.2.1,((wrF .i64 (s32.1.2.2.2.1+1)),())))),((),())))
       else some (.inl (0,((s32.1.1,(s32.1.2.1,(s32.1.2.2.1,(s32.1.2.2.2.1,())))),((),()))))) qC (((Yt 0 (wrF .i64 (0 - x2.1))),((wrF .i64 (Int.tdiv (wrF .i64 (x1.1*1048576)) (wrF .i64 (a0.2*a1)))),(a1,(0,())))),((),()))) fun x40=>
      some ((x40.2.1.2.1,x40.2.1.1),(0,()))
abbrev zcF:Type:=(jo×Int×Int×Unit)→Option (vR×Int×Unit)
def znZ:UI→XK→Xi→QH→zcF:=fun JO ZP vf jZ=>sF Tryz.prog [(122,⟨Jy,Jz,JO⟩),(123,⟨Zz,ZA,ZP⟩),(125,⟨gL,gM,vf⟩),(159,⟨uN,uO,jZ⟩)] zwh (zM []) 30 86 Ji Jj
theorem zyC (JO) (ZP) (vf) (jZ) (a0) (a1) (a2):znZ JO ZP vf jZ (a0,a1,a2,())=Gu JO ZP vf jZ a0 a1 a2:=by kernel_rfl
def xY:zcF:=znZ JA kn uP vS
theorem zsM:Con.Ok Tryz.prog 86 ⟨Ji,Jj,xY⟩:=zz (zf znS (zf zln (zf zj5 (zf zdn zi)))) zm (by kernel_rfl)
theorem zcG (a0) (a1) (a2):xY (a0,a1,a2,())=Gu JA kn uP vS a0 a1 a2:=zyC JA kn uP vS a0 a1 a2
abbrev Vw:List VT:=[⟨false,(.list zu)⟩]
abbrev Vx:List VT:=[⟨true,zu⟩,⟨false,I⟩]
def zwi:qb:=zT [cdF zu] [] [] [] [69]
def zho (qv:uj) (a0:(List wb)):Option (wb×Int×Unit):=
 bif (zj ((a0.length:Nat):Int) 0) then some ((0,0),(2,()))
 else bif (zt 12 ((a0.length:Nat):Int)) then some ((0,0),(3,()))
  else opt (qd (fun s0:(((Int×Int)×((Int×Int)×(Int×(Int×Unit))))×Unit)=>
    bif (zt s0.1.2.2.2.1 ((a0.length:Nat):Int)) then opt (atI a0 s0.1.2.2.2.1) fun x1=>
     opt (qv (x1,())) fun x2=>
     bif !(zj x2.1 0) then some (.inl (1,(((0,0),(s0.1.2.1,(x2.1,(s0.1.2.2.2.1,())))),())))
     else some (.inr ((s0.1.1,(((wrF .i64 (s0.1.2.1.1+x1.1)),(wrF .i64 (s0.1.2.1.2+x1.2))),(s0.1.2.2.1,((wrF .i64 (s0.1.2.2.2.1+1)),())))),()))
    else some (.inl (0,((s0.1.1,(s0.1.2.1,(s0.1.2.2.1,(s0.1.2.2.2.1,())))),())))) qC (((0,0),((0,0),(0,(0,())))),())) fun x3=>
   bif Nat.beq x3.1 0 then opt (qv (x3.2.1.2.1,())) fun x4=>
    bif !(zj x4.1 0) then some ((0,0),(6,()))
    else some (x3.2.1.2.1,(0,()))
   else some (x3.2.1.1,(x3.2.1.2.2.1,()))
abbrev zcH:Type:=((List wb)×Unit)→Option (wb×Int×Unit)
def zn0:uj→zcH:=fun qv=>sF Tryz.prog [(69,⟨xK,xL,qv⟩)] zwi (zM []) 30 87 Vw Vx
theorem zyD (qv) (a0):zn0 qv (a0,())=zho qv a0:=by kernel_rfl
def uQ:zcH:=zn0 yg
theorem zsN:Con.Ok Tryz.prog 87 ⟨Vw,Vx,uQ⟩:=zz (zf XH zi) zm (by kernel_rfl)
theorem zsO (a0):uQ (a0,())=zho yg a0:=zyD yg a0
abbrev Qd:List VT:=[⟨true,Wm⟩]
abbrev Qe:List VT:=[⟨false,I⟩]
def zuu:qb:=zT [cdF Wm] [] [] [] []
def zfm (a0:vR):Option (Int×Unit):=
 opt (bif zt a0.1 1 then some (1,((140,()),()))
  else bif zt 2097152 a0.1 then some (1,((140,()),()))
   else bif zt a0.2 0 then some (1,((140,()),()))
    else bif zt 268435456 a0.2 then some (1,((140,()),()))
     else some (0,((0,()),()))) fun x0=>
 bif Nat.beq x0.1 0 then some (0,())
 else some (x0.2.1.1,())
abbrev YJ:Type:=(vR×Unit)→Option (Int×Unit)
def zl3:YJ:=sF Tryz.prog [] zuu (zM []) 30 132 Qd Qe
theorem zwj (a0):zl3 (a0,())=zfm a0:=by kernel_rfl
def kY:YJ:=zl3
theorem zhp:Con.Ok Tryz.prog 132 ⟨Qd,Qe,kY⟩:=zz zi zm (by kernel_rfl)
theorem zq6 (a0):kY (a0,())=zfm  a0:=zwj  a0
abbrev Qf:List VT:=[⟨false,(.list I)⟩]
abbrev Qg:List VT:=[⟨false,.bool⟩]
def zuv:qb:=zT [] [] [] [] []
def zfn (a0:(List Int)):Option (Bool×Unit):=
 opt (qd (fun s0:((Bool×(Int×Unit))×Unit)=>
  bif (zt s0.1.2.1 ((a0.length:Nat):Int)) then opt (atI a0 s0.1.2.1) fun x1=>
   opt (bif zt x1 (-1125899906842624) then some (1,((false,()),()))
    else bif zt 1125899906842624 x1 then some (1,((false,()),()))
     else some (0,((s0.1.1,()),()))) fun x2=>
   bif Nat.beq x2.1 0 then some (.inr ((x2.2.1.1,((wrF .i64 (s0.1.2.1+1)),())),()))
   else some (.inl (1,((x2.2.1.1,(s0.1.2.1,())),())))
  else some (.inl (0,((s0.1.1,(s0.1.2.1,())),())))) qC ((false,(0,())),())) fun x3=>
 bif Nat.beq x3.1 0 then some (true,())
 else some (x3.2.1.1,())
abbrev YK:Type:=((List Int)×Unit)→Option (Bool×Unit)
def zl4:YK:=sF Tryz.prog [] zuv (zM []) 30 161 Qf Qg
theorem zwk (a0):zl4 (a0,())=zfn a0:=by kernel_rfl
def kZ:YK:=zl4
theorem zhq:Con.Ok Tryz.prog 161 ⟨Qf,Qg,kZ⟩:=zz zi zm (by kernel_rfl)
theorem zq7 (a0):kZ (a0,())=zfn  a0:=zwk  a0
abbrev JB:List VT:=[⟨false,I⟩]
abbrev JC:List VT:=[⟨false,(.int .u64)⟩]
def zq8:qb:=zT [] [] [] [] []
def UJ (a0:Int):Option (Int×Unit):=
 bif zt a0 0 then some ((wrF .u64 (wrF .i64 (0 - a0))),())
 else some ((wrF .u64 a0),())
abbrev UK:Type:=(Int×Unit)→Option (Int×Unit)
def ziC:UK:=sF Tryz.prog [] zq8 (zM []) 30 163 JB JC
theorem zsP (a0):ziC (a0,())=UJ a0:=by kernel_rfl
def Zj:UK:=ziC
theorem zn1:Con.Ok Tryz.prog 163 ⟨JB,JC,Zj⟩:=zz zi zm (by kernel_rfl)
theorem zeT (a0):Zj (a0,())=UJ  a0:=zsP  a0
abbrev ZB:List VT:=[⟨false,(.int .u64)⟩,⟨false,(.int .u64)⟩]
abbrev ZC:List VT:=[⟨false,(.int .u64)⟩,⟨false,(.int .u64)⟩]
def zn2:qb:=zT [] [] [] [] []
def zao (a0:Int) (a1:Int):Option (Int×Int×Unit):=
 some ((wrF .u64 ((wrF .u64 ((wrF .u64 ((yK .u64 a0 32)*(yK .u64 a1 32)))+(yK .u64 (wrF .u64 ((wrF .u64 ((yK .u64 a0 32)*(Ze .and .u64 a1 4294967295)))+(yK .u64 (wrF .u64 ((Ze .and .u64 a0 4294967295)*(Ze .and .u64 a1 4294967295))) 32))) 32)))+(yK .u64 (wrF .u64 ((Ze .and .u64 (wrF .u64 ((wrF .u64 ((yK .u64 a0 32)*(Ze .and .u64 a1 4294967295)))+(yK .u64 (wrF .u64 ((Ze .and .u64 a0 4294967295)*(Ze .and .u64 a1 4294967295))) 32))) 4294967295)+(wrF .u64 ((Ze .and .u64 a0 4294967295)*(yK .u64 a1 32))))) 32))),((wrF .u64 (a0*a1)),()))
abbrev XL:Type:=(Int×Int×Unit)→Option (Int×Int×Unit)
def zfR:XL:=sF Tryz.prog [] zn2 (zM []) 30 162 ZB ZC
theorem zpz (a0) (a1):zfR (a0,a1,())=zao a0 a1:=by kernel_rfl
def ZD:XL:=zfR
theorem zlo:Con.Ok Tryz.prog 162 ⟨ZB,ZC,ZD⟩:=zz zi zm (by kernel_rfl)
theorem zlp (a0) (a1):ZD (a0,a1,())=zao  a0 a1:=zpz  a0 a1
abbrev ZE:List VT:=[⟨false,(.int .u64)⟩]
abbrev ZF:List VT:=[⟨false,I⟩]
def zn3:qb:=zT [] [] [] [] []
def zfS:(Int×Unit)→Option (Int×Unit):=sF Tryz.prog [] zn3 (zM []) 30 176 ZE ZF
theorem zlq:Con.Ok Tryz.prog 176 ⟨ZE,ZF,zfS⟩:=zz zi zm (by kernel_rfl)
abbrev xM:List VT:=[⟨false,(.int .u64)⟩]
abbrev xN:List VT:=[⟨false,I⟩]
def zeU:qb:=zT [] [] [] [] [176]
def gb:(Int×Unit)→Option (Int×Unit):=sF Tryz.prog [(176,⟨ZE,ZF,zfS⟩)] zeU (zM []) 30 179 xM xN
theorem zdc:Con.Ok Tryz.prog 179 ⟨xM,xN,gb⟩:=zz (zf zlq zi) zm (by kernel_rfl)
abbrev ZG:List VT:=[⟨false,(.int .u64)⟩,⟨false,(.int .u64)⟩,⟨false,(.int .u64)⟩]
abbrev ZH:List VT:=[⟨false,(.int .u64)⟩,⟨false,(.int .u64)⟩]
def zn4:qb:=zT [] [] [] [] [179]
def zap (xR:(Int×Unit)→Option (Int×Unit)) (a0:Int) (a1:Int) (a2:Int):Option (Int×Int×Unit):=
 opt (bif zj a2 0 then none
  else some (0,((),()))) fun x0=>
 opt (bif !(zt a0 a2) then none
  else some (0,((),()))) fun x1=>
 bif zj a0 0 then bif zj a2 0 then none
  else bif zj a2 0 then none
   else some ((wrF .u64 (Int.tdiv a1 a2)),((Int.tmod a1 a2),()))
 else opt (xR (a2,())) fun x2=>
  bif zt (wrF .u64 x2.1) 0 then none
  else bif zt (wrF .u64 x2.1) 0 then none
   else bif (zt (wrF .u64 (64 - (wrF .u64 x2.1))) 0) then none
    else bif zt (wrF .u64 x2.1) 0 then none
     else bif (zj (yK .u64 (vh .u64 a2 (wrF .u64 x2.1)) 32) 0) then none
      else opt (qd (fun s3:((Int×(Int×Unit))×Unit)=>
        bif !(zt s3.1.1 4294967296) then bif (!(zt (wrF .u64 (s3.1.2.1+(yK .u64 (vh .u64 a2 (wrF .u64 x2.1)) 32))) 4294967296)) then some (.inl (0,(((wrF .u64 (s3.1.1 - 1)),((wrF .u64 (s3.1.2.1+(yK .u64 (vh .u64 a2 (wrF .u64 x2.1)) 32))),())),())))
         else some (.inr (((wrF .u64 (s3.1.1 - 1)),((wrF .u64 (s3.1.2.1+(yK .u64 (vh .u64 a2 (wrF .u64 x2.1)) 32))),())),()))
        else bif (zt (wrF .u64 ((wrF .u64 (4294967296*s3.1.2.1))+(yK .u64 (vh .u64 a1 (wrF .u64 x2.1)) 32))) (wrF .u64 (s3.1.1*(Ze .and .u64 (vh .u64 a2 (wrF .u64 x2.1)) 4294967295)))) then bif (!(zt (wrF .u64 (s3.1.2.1+(yK .u64 (vh .u64 a2 (wrF .u64 x2.1)) 32))) 4294967296)) then some (.inl (0,(((wrF .u64 (s3.1.1 - 1)),((wrF .u64 (s3.1.2.1+(yK .u64 (vh .u64 a2 (wrF .u64 x2.1)) 32))),())),())))
          else some (.inr (((wrF .u64 (s3.1.1 - 1)),((wrF .u64 (s3.1.2.1+(yK .u64 (vh .u64 a2 (wrF .u64 x2.1)) 32))),())),()))
         else some (.inl (0,((s3.1.1,(s3.1.2.1,())),())))) qC (((wrF .u64 (Int.tdiv (Ze .or .u64 (vh .u64 a0 (wrF .u64 x2.1)) (yK .u64 a1 (wrF .u64 (64 - (wrF .u64 x2.1))))) (yK .u64 (vh .u64 a2 (wrF .u64 x2.1)) 32))),((wrF .u64 ((Ze .or .u64 (vh .u64 a0 (wrF .u64 x2.1)) (yK .u64 a1 (wrF .u64 (64 - (wrF .u64 x2.1))))) - (wrF .u64 ((wrF .u64 (Int.tdiv (Ze .or .u64 (vh .u64 a0 (wrF .u64 x2.1)) (yK .u64 a1 (wrF .u64 (64 - (wrF .u64 x2.1))))) (yK .u64 (vh .u64 a2 (wrF .u64 x2.1)) 32)))*(yK .u64 (vh .u64 a2 (wrF .u64 x2.1)) 32))))),())),())) fun x4=>
       bif (zj (yK .u64 (vh .u64 a2 (wrF .u64 x2.1)) 32) 0) then none
       else opt (qd (fun s5:((Int×(Int×Unit))×Unit)=>
         bif !(zt s5.1.1 4294967296) then bif (!(zt (wrF .u64 (s5.1.2.1+(yK .u64 (vh .u64 a2 (wrF .u64 x2.1)) 32))) 4294967296)) then some (.inl (0,(((wrF .u64 (s5.1.1 - 1)),((wrF .u64 (s5.1.2.1+(yK .u64 (vh .u64 a2 (wrF .u64 x2.1)) 32))),())),())))
          else some (.inr (((wrF .u64 (s5.1.1 - 1)),((wrF .u64 (s5.1.2.1+(yK .u64 (vh .u64 a2 (wrF .u64 x2.1)) 32))),())),()))
         else bif (zt (wrF .u64 ((wrF .u64 (4294967296*s5.1.2.1))+(Ze .and .u64 (vh .u64 a1 (wrF .u64 x2.1)) 4294967295))) (wrF .u64 (s5.1.1*(Ze .and .u64 (vh .u64 a2 (wrF .u64 x2.1)) 4294967295)))) then bif (!(zt (wrF .u64 (s5.1.2.1+(yK .u64 (vh .u64 a2 (wrF .u64 x2.1)) 32))) 4294967296)) then some (.inl (0,(((wrF .u64 (s5.1.1 - 1)),((wrF .u64 (s5.1.2.1+(yK .u64 (vh .u64 a2 (wrF .u64 x2.1)) 32))),())),())))
           else some (.inr (((wrF .u64 (s5.1.1 - 1)),((wrF .u64 (s5.1.2.1+(yK .u64 (vh .u64 a2 (wrF .u64 x2.1)) 32))),())),()))
          else some (.inl (0,((s5.1.1,(s5.1.2.1,())),())))) qC (((wrF .u64 (Int.tdiv (wrF .u64 ((wrF .u64 ((wrF .u64 ((Ze .or .u64 (vh .u64 a0 (wrF .u64 x2.1)) (yK .u64 a1 (wrF .u64 (64 - (wrF .u64 x2.1)))))*4294967296))+(yK .u64 (vh .u64 a1 (wrF .u64 x2.1)) 32))) - (wrF .u64 (x4.2.1.1*(vh .u64 a2 (wrF .u64 x2.1)))))) (yK .u64 (vh .u64 a2 (wrF .u64 x2.1)) 32))),((wrF .u64 ((wrF .u64 ((wrF .u64 ((wrF .u64 ((Ze .or .u64 (vh .u64 a0 (wrF .u64 x2.1)) (yK .u64 a1 (wrF .u64 (64 - (wrF .u64 x2.1)))))*4294967296))+(yK .u64 (vh .u64 a1 (wrF .u64 x2.1)) 32))) - (wrF .u64 (x4.2.1.1*(vh .u64 a2 (wrF .u64 x2.1)))))) - (wrF .u64 ((wrF .u64 (Int.tdiv (wrF .u64 ((wrF .u64 ((wrF .u64 ((Ze .or .u64 (vh .u64 a0 (wrF .u64 x2.1)) (yK .u64 a1 (wrF .u64 (64 - (wrF .u64 x2.1)))))*4294967296))+(yK .u64 (vh .u64 a1 (wrF .u64 x2.1)) 32))) - (wrF .u64 (x4.2.1.1*(vh .u64 a2 (wrF .u64 x2.1)))))) (yK .u64 (vh .u64 a2 (wrF .u64 x2.1)) 32)))*(yK .u64 (vh .u64 a2 (wrF .u64 x2.1)) 32))))),())),())) fun x6=>
        bif zt (wrF .u64 x2.1) 0 then none
        else some ((wrF .u64 ((wrF .u64 (x4.2.1.1*4294967296))+x6.2.1.1)),((yK .u64 (wrF .u64 ((wrF .u64 ((wrF .u64 ((wrF .u64 ((wrF .u64 ((wrF .u64 ((Ze .or .u64 (vh .u64 a0 (wrF .u64 x2.1)) (yK .u64 a1 (wrF .u64 (64 - (wrF .u64 x2.1)))))*4294967296))+(yK .u64 (vh .u64 a1 (wrF .u64 x2.1)) 32))) - (wrF .u64 (x4.2.1.1*(vh .u64 a2 (wrF .u64 x2.1))))))*4294967296))+(Ze .and .u64 (vh .u64 a1 (wrF .u64 x2.1)) 4294967295))) - (wrF .u64 (x6.2.1.1*(vh .u64 a2 (wrF .u64 x2.1)))))) (wrF .u64 x2.1)),()))
abbrev XM:Type:=(Int×Int×Int×Unit)→Option (Int×Int×Unit)
def zfT:((Int×Unit)→Option (Int×Unit))→XM:=fun xR=>sF Tryz.prog [(179,⟨xM,xN,xR⟩)] zn4 (zM []) 30 164 ZG ZH
theorem zpA (xR) (a0) (a1) (a2):zfT xR (a0,a1,a2,())=zap xR a0 a1 a2:=by kernel_rfl
def ZI:XM:=zfT gb
theorem zlr:Con.Ok Tryz.prog 164 ⟨ZG,ZH,ZI⟩:=zz (zf zdc zi) zm (by kernel_rfl)
theorem zls (a0) (a1) (a2):ZI (a0,a1,a2,())=zap gb a0 a1 a2:=zpA gb a0 a1 a2
abbrev YL:List VT:=[⟨false,I⟩]
abbrev YM:List VT:=[⟨false,I⟩,⟨false,.bool⟩]
def zuw:qb:=zT [] [] [] [] [161]
def zfo (xS:YK) (a0:Int):Option (Int×Bool×Unit):=
 opt (xS ((a0::[]),())) fun x0=>
 bif !x0.1 then some (0,(false,()))
 else some (a0,(true,()))
abbrev zaW:Type:=(Int×Unit)→Option (Int×Bool×Unit)
def zl5:YK→zaW:=fun xS=>sF Tryz.prog [(161,⟨Qf,Qg,xS⟩)] zuw (zM []) 30 165 YL YM
theorem zwl (xS) (a0):zl5 xS (a0,())=zfo xS a0:=by kernel_rfl
def YN:zaW:=zl5 kZ
theorem zq9:Con.Ok Tryz.prog 165 ⟨YL,YM,YN⟩:=zz (zf zhq zi) zm (by kernel_rfl)
theorem zra (a0):YN (a0,())=zfo kZ a0:=zwl kZ a0
abbrev Vy:List VT:=[⟨false,I⟩,⟨false,I⟩,⟨false,I⟩]
abbrev Vz:List VT:=[⟨false,I⟩,⟨false,.bool⟩]
def zwm:qb:=zT [] [] [] [] [161,163,162,164,165]
def zhr (xS:YK) (Zo:UK) (ZQ:XL) (ZR:XM) (YT:zaW) (a0:Int) (a1:Int) (a2:Int):Option (Int×Bool×Unit):=
 opt (opt (xS ((a0::(a1::(a2::[]))),())) fun x0=>
  bif !x0.1 then some (1,((0,(false,())),()))
  else bif zt a2 1 then some (1,((0,(false,())),()))
   else some (0,((0,(false,())),()))) fun x1=>
 bif Nat.beq x1.1 0 then opt (Zo (a0,())) fun x2=>
  opt (Zo (a1,())) fun x3=>
  opt (ZQ (x2.1,(x3.1,()))) fun x4=>
  bif (!(zt x4.1 (wrF .u64 a2))) then some (0,(false,()))
  else opt (ZR (x4.1,(x4.2.1,((wrF .u64 a2),())))) fun x5=>
   bif zt 1125899906842624 x5.1 then some (0,(false,()))
   else opt (bif (!((zt a0 0) == (zt a1 0))) then opt (bif !(zj x5.2.1 0) then some (0,(((wrF .i64 ((wrF .i64 (0 - (wrF .i64 x5.1))) - 1)),()),()))
       else some (0,(((wrF .i64 (0 - (wrF .i64 x5.1))),()),()))) fun x6=>
      some (0,((x6.2.1.1,()),()))
     else some (0,(((wrF .i64 x5.1),()),()))) fun x7=>
    opt (YT (x7.2.1.1,())) fun x8=>
    some (x8.1,(x8.2.1,()))
 else some (x1.2.1.1,(x1.2.1.2.1,()))
abbrev zcI:Type:=(Int×Int×Int×Unit)→Option (Int×Bool×Unit)
def zn5:YK→UK→XL→XM→zaW→zcI:=fun xS Zo ZQ ZR YT=>sF Tryz.prog [(161,⟨Qf,Qg,xS⟩),(163,⟨JB,JC,Zo⟩),(162,⟨ZB,ZC,ZQ⟩),(164,⟨ZG,ZH,ZR⟩),(165,⟨YL,YM,YT⟩)] zwm (zM []) 30 154 Vy Vz
theorem zyE (xS) (Zo) (ZQ) (ZR) (YT) (a0) (a1) (a2):zn5 xS Zo ZQ ZR YT (a0,a1,a2,())=zhr xS Zo ZQ ZR YT a0 a1 a2:=by kernel_rfl
def VA:zcI:=zn5 kZ Zj ZD ZI YN
theorem zsQ:Con.Ok Tryz.prog 154 ⟨Vy,Vz,VA⟩:=zz (zf zhq (zf zn1 (zf zlo (zf zlr (zf zq9 zi))))) zm (by kernel_rfl)
theorem zsR (a0) (a1) (a2):VA (a0,a1,a2,())=zhr kZ Zj ZD ZI YN a0 a1 a2:=zyE kZ Zj ZD ZI YN a0 a1 a2
abbrev Jk:List VT:=[⟨false,I⟩,⟨false,I⟩,⟨false,I⟩]
abbrev Jl:List VT:=[⟨false,I⟩]
def zwn:qb:=zT [] [] [] [] [154]
def zhs (VX:zcI) (a0:Int) (a1:Int) (a2:Int):Option (Int×Unit):=
 opt (VX ((wrF .i64 (0 - a0)),(a1,(a2,())))) fun x0=>
 some ((wrF .i64 (0 - x0.1)),())
abbrev VB:Type:=(Int×Int×Int×Unit)→Option (Int×Unit)
def zn6:zcI→VB:=fun VX=>sF Tryz.prog [(154,⟨Vy,Vz,VX⟩)] zwn (zM []) 30 135 Jk Jl
theorem zyF (VX) (a0) (a1) (a2):zn6 VX (a0,a1,a2,())=zhs VX a0 a1 a2:=by kernel_rfl
def kN:VB:=zn6 VA
theorem ziD:Con.Ok Tryz.prog 135 ⟨Jk,Jl,kN⟩:=zz (zf zsQ zi) zm (by kernel_rfl)
theorem zsS (a0) (a1) (a2):kN (a0,a1,a2,())=zhs VA a0 a1 a2:=zyF VA a0 a1 a2
abbrev QI:List VT:=[⟨false,(.list zu)⟩,⟨false,I⟩]
abbrev QJ:List VT:=[⟨false,I⟩,⟨false,.bool⟩]
def zpB:qb:=zT [cdF zu] [] [] [] [135]
def zbp (vg:VB) (a0:(List wb)) (a1:Int):Option (Int×Bool×Unit):=
 opt (qd (fun s0:((Int×(Bool×(Int×Unit)))×(Unit×(Unit×Unit)))=>
  bif (zt s0.1.2.2.1 ((a0.length:Nat):Int)) then opt (atI a0 s0.1.2.2.1) fun x1=>
   bif zt a1 x1.2 then some (.inr ((s0.1.1,(s0.1.2.1,((wrF .i64 (s0.1.2.2.1+1)),()))),((),((),()))))
   else opt (vg (x1.1,(1048576,(a1,())))) fun x2=>
    opt (bif !s0.1.2.1 then some (0,((x2.1,(true,())),((),())))
     else bif zt x2.1 s0.1.1 then some (0,((x2.1,(true,())),((),())))
      else some (0,((s0.1.1,(s0.1.2.1,())),((),())))) fun x3=>
    opt (qd (fun s4:((Int×(Bool×(Int×Unit)))×(Unit×(Unit×Unit)))=>
     bif (zt s4.1.2.2.1 ((a0.length:Nat):Int)) then opt (atI a0 s4.1.2.2.1) fun x5=>
      bif !(zt a1 x5.2) then some (.inr ((s4.1.1,(s4.1.2.1,((wrF .i64 (s4.1.2.2.1+1)),()))),((),((),()))))
      else bif !(zt x5.1 x1.1) then some (.inr ((s4.1.1,(s4.1.2.1,((wrF .i64 (s4.1.2.2.1+1)),()))),((),((),()))))
       else opt (vg ((wrF .i64 ((wrF .i64 ((wrF .i64 (x5.2 - a1))*x1.1))+(wrF .i64 ((wrF .i64 (a1 - x1.2))*x5.1)))),(1048576,((wrF .i64 (a1*(wrF .i64 (x5.2 - x1.2)))),())))) fun x6=>
        opt (bif !s4.1.2.1 then some (0,((x6.1,(true,())),((),())))
         else bif zt x6.1 s4.1.1 then some (0,((x6.1,(true,())),((),())))
          else some (0,((s4.1.1,(s4.1.2.1,())),((),())))) fun x7=>
        some (.inr ((x7.2.1.1,(x7.2.1.2.1,((wrF .i64 (s4.1.2.2.1+1)),()))),((),((),()))))
     else some (.inl (0,((s4.1.1,(s4.1.2.1,(s4.1.2.2.1,()))),((),((),())))))) qC ((x3.2.1.1,(x3.2.1.2.1,(0,()))),((),((),())))) fun x8=>
    bif Nat.beq x8.1 0 then some (.inr ((x8.2.1.1,(x8.2.1.2.1,((wrF .i64 (s0.1.2.2.1+1)),()))),((),((),()))))
    else some (.inl (1,((x8.2.1.1,(x8.2.1.2.1,(s0.1.2.2.1,()))),((),((),())))))
  else some (.inl (0,((s0.1.1,(s0.1.2.1,(s0.1.2.2.1,()))),((),((),())))))) qC ((0,(false,(0,()))),((),((),())))) fun x9=>
 bif Nat.beq x9.1 0 then some (x9.2.1.1,(x9.2.1.2.1,()))
 else some (x9.2.1.1,(x9.2.1.2.1,()))
abbrev KE:Type:=((List wb)×Int×Unit)→Option (Int×Bool×Unit)
def zht:VB→KE:=fun vg=>sF Tryz.prog [(135,⟨Jk,Jl,vg⟩)] zpB (zM []) 30 133 QI QJ
theorem zrb (vg) (a0) (a1):zht vg (a0,a1,())=zbp vg a0 a1:=by kernel_rfl
def QK:KE:=zht kN
theorem zmx:Con.Ok Tryz.prog 133 ⟨QI,QJ,QK⟩:=zz (zf ziD zi) zm (by kernel_rfl)
theorem zmy (a0) (a1):QK (a0,a1,())=zbp kN a0 a1:=zrb kN a0 a1
abbrev YO:List VT:=[⟨false,(.list zu)⟩,⟨true,Wm⟩]
abbrev YP:List VT:=[⟨false,I⟩,⟨false,I⟩]
def zux:qb:=zT [cdF Wm] [] [⟨2,30,some 2,zu,false⟩,⟨5,30,some 2,zu,false⟩] [] [69,132,133]
def zfp (qv:uj) (xk:YJ) (vo:KE) (a0:(List wb)) (a1:vR):Option (Int×Int×Unit):=
 bif (zj ((a0.length:Nat):Int) 0) then some (0,(2,()))
 else bif (zt 12 ((a0.length:Nat):Int)) then some (0,(3,()))
  else opt (qd (fun s0:((Int×(Int×Unit))×Unit)=>
    bif (zt s0.1.2.1 ((a0.length:Nat):Int)) then opt (atI a0 s0.1.2.1) fun x1=>
     opt (qv (x1,())) fun x2=>
     bif !(zj x2.1 0) then some (.inl (1,((x2.1,(s0.1.2.1,())),())))
     else some (.inr ((s0.1.1,((wrF .i64 (s0.1.2.1+1)),())),()))
    else some (.inl (0,((s0.1.1,(s0.1.2.1,())),())))) qC ((0,(0,())),())) fun x3=>
   bif Nat.beq x3.1 0 then opt (xk (a1,())) fun x4=>
    bif !(zj x4.1 0) then bif !(zj x4.1 0) then some (0,(x4.1,()))
     else opt (vo (a0,(a1.1,()))) fun x5=>
      bif !x5.2.1 then some (0,(141,()))
      else some ((wrF .i64 (a1.2+x5.1)),(0,()))
    else opt (vo (a0,(a1.1,()))) fun x6=>
     bif !x6.2.1 then some (0,(141,()))
     else some ((wrF .i64 (a1.2+x6.1)),(0,()))
   else bif !(zj x3.2.1.1 0) then bif !(zj x3.2.1.1 0) then some (0,(x3.2.1.1,()))
     else opt (vo (a0,(a1.1,()))) fun x7=>
      bif !x7.2.1 then some (0,(141,()))
      else some ((wrF .i64 (a1.2+x7.1)),(0,()))
    else opt (xk (a1,())) fun x8=>
     bif !(zj x8.1 0) then bif !(zj x8.1 0) then some (0,(x8.1,()))
      else opt (vo (a0,(a1.1,()))) fun x9=>
       bif !x9.2.1 then some (0,(141,()))
       else some ((wrF .i64 (a1.2+x9.1)),(0,()))
     else opt (vo (a0,(a1.1,()))) fun x10=>
      bif !x10.2.1 then some (0,(141,()))
      else some ((wrF .i64 (a1.2+x10.1)),(0,()))
abbrev zaX:Type:=((List wb)×vR×Unit)→Option (Int×Int×Unit)
def zl6:uj→YJ→KE→zaX:=fun qv xk vo=>sF Tryz.prog [(69,⟨xK,xL,qv⟩),(132,⟨Qd,Qe,xk⟩),(133,⟨QI,QJ,vo⟩)] zux (zM []) 30 88 YO YP
theorem zwo (qv) (xk) (vo) (a0) (a1):zl6 qv xk vo (a0,a1,())=zfp qv xk vo a0 a1:=by kernel_rfl
def vX:zaX:=zl6 yg kY QK
theorem zrc:Con.Ok Tryz.prog 88 ⟨YO,YP,vX⟩:=zz (zf XH (zf zhp (zf zmx zi))) zm (by kernel_rfl)
theorem zrd (a0) (a1):vX (a0,a1,())=zfp yg kY QK a0 a1:=zwo yg kY QK a0 a1
abbrev ZJ:List VT:=[⟨true,zu⟩,⟨true,Wm⟩]
abbrev ZK:List VT:=[⟨false,I⟩]
def zn7:qb:=zT [cdF zu] [] [] [] [69,132]
def zaq (qv:uj) (xk:YJ) (a0:wb) (a1:vR):Option (Int×Unit):=
 opt (qv (a0,())) fun x0=>
 bif !(zj x0.1 0) then some (x0.1,())
 else opt (xk (a1,())) fun x1=>
  bif !(zj x1.1 0) then some (x1.1,())
  else bif zt a1.1 a0.2 then some (141,())
   else some (0,())
abbrev XN:Type:=(wb×vR×Unit)→Option (Int×Unit)
def zfU:uj→YJ→XN:=fun qv xk=>sF Tryz.prog [(69,⟨xK,xL,qv⟩),(132,⟨Qd,Qe,xk⟩)] zn7 (zM []) 30 134 ZJ ZK
theorem zpC (qv) (xk) (a0) (a1):zfU qv xk (a0,a1,())=zaq qv xk a0 a1:=by kernel_rfl
def ZL:XN:=zfU yg kY
theorem zlt:Con.Ok Tryz.prog 134 ⟨ZJ,ZK,ZL⟩:=zz (zf XH (zf zhp zi)) zm (by kernel_rfl)
theorem zlu (a0) (a1):ZL (a0,a1,())=zaq yg kY a0 a1:=zpC yg kY a0 a1
abbrev JD:List VT:=[⟨true,zu⟩,⟨true,Wm⟩]
abbrev JE:List VT:=[⟨false,I⟩,⟨false,I⟩]
def zre:qb:=zT [cdF zu] [] [] [] [134,135]
def zcJ (ZS:XN) (vg:VB) (a0:wb) (a1:vR):Option (Int×Int×Unit):=
 opt (ZS (a0,(a1,()))) fun x0=>
 bif !(zj x0.1 0) then some (0,(x0.1,()))
 else opt (vg (a0.2,(a1.2,(1048576,())))) fun x1=>
  some ((wrF .i64 (a0.1+x1.1)),(0,()))
abbrev UL:Type:=(wb×vR×Unit)→Option (Int×Int×Unit)
def ziE:XN→VB→UL:=fun ZS vg=>sF Tryz.prog [(134,⟨ZJ,ZK,ZS⟩),(135,⟨Jk,Jl,vg⟩)] zre (zM []) 30 89 JD JE
theorem zsT (ZS) (vg) (a0) (a1):ziE ZS vg (a0,a1,())=zcJ ZS vg a0 a1:=by kernel_rfl
def xZ:UL:=ziE ZL kN
theorem zn8:Con.Ok Tryz.prog 89 ⟨JD,JE,xZ⟩:=zz (zf zlt (zf ziD zi)) zm (by kernel_rfl)
theorem zn9 (a0) (a1):xZ (a0,a1,())=zcJ ZL kN a0 a1:=zsT ZL kN a0 a1
abbrev QL:List VT:=[⟨true,GU⟩]
abbrev QM:List VT:=[⟨false,I⟩]
def zpD:qb:=zT [cdF GU,cdF qy] [] [] [] []
def zbq (a0:zbM):Option (Int×Unit):=
 some (a0.1.2.2.2,())
abbrev KF:Type:=(zbM×Unit)→Option (Int×Unit)
def zhu:KF:=sF Tryz.prog [] zpD (zM []) 30 91 QL QM
theorem zrf (a0):zhu (a0,())=zbq a0:=by kernel_rfl
def WT:KF:=zhu
theorem zmz:Con.Ok Tryz.prog 91 ⟨QL,QM,WT⟩:=zz zi zm (by kernel_rfl)
theorem zmA (a0):WT (a0,())=zbq  a0:=zrf  a0
abbrev VC:List VT:=[⟨true,zV⟩,⟨false,I⟩]
abbrev VD:List VT:=[⟨false,I⟩,⟨false,I⟩]
def zwp:qb:=zT [cdF zV,cdF GU,cdF qy] [] [] [] [41,91]
def zhv (zZ:xV) (QV:KF) (a0:qk) (a1:Int):Option (Int×Int×Unit):=
 opt (zZ (a0,())) fun x0=>
 bif !(zj x0.1 0) then some (0,(x0.1,()))
 else opt (bif zt a1 0 then some (1,((0,(2,())),()))
   else bif (!(zt a1 (wrF .i64 (2*((a0.2.2.length:Nat):Int))))) then some (1,((0,(2,())),()))
    else some (0,((0,(0,())),()))) fun x1=>
  bif Nat.beq x1.1 0 then opt (atI a0.2.2 (wrF .i64 (Int.tdiv a1 2))) fun x2=>
   opt (QV ((x2,a1),())) fun x3=>
   some (x3.1,(0,()))
  else some (x1.2.1.1,(x1.2.1.2.1,()))
abbrev zcK:Type:=(qk×Int×Unit)→Option (Int×Int×Unit)
def zoa:xV→KF→zcK:=fun zZ QV=>sF Tryz.prog [(41,⟨ya,yb,zZ⟩),(91,⟨QL,QM,QV⟩)] zwp (zM []) 30 58 VC VD
theorem zyG (zZ) (QV) (a0) (a1):zoa zZ QV (a0,a1,())=zhv zZ QV a0 a1:=by kernel_rfl
def WU:zcK:=zoa jQ WT
theorem zsU:Con.Ok Tryz.prog 58 ⟨VC,VD,WU⟩:=zz (zf Jv (zf zmz zi)) zm (by kernel_rfl)
theorem zsV (a0) (a1):WU (a0,a1,())=zhv jQ WT a0 a1:=zyG jQ WT a0 a1
abbrev vY:List VT:=[⟨true,qK⟩,⟨false,(.list zA)⟩]
abbrev vZ:List VT:=[⟨false,I⟩]
def zuy:qb:=zT [cdF qK,cdF zA,cdF zue,cdF zqb,cdF zV,cdF qy,cdF qq,cdF jf] [] [⟨8,44,some 4,.unit,true⟩,⟨10,44,some 4,.unit,true⟩,⟨5,98,none,zu,true⟩,⟨8,98,none,zu,true⟩,⟨12,98,none,zu,true⟩,⟨15,98,none,zu,true⟩,⟨18,98,none,zu,true⟩,⟨21,98,none,zu,true⟩,⟨5,98,some 6,zu,false⟩,⟨8,98,some 6,zu,false⟩,⟨12,98,some 6,zu,false⟩,⟨15,98,some 6,zu,false⟩,⟨18,98,some 6,zu,false⟩,⟨21,98,some 6,zu,false⟩,⟨2,90,none,zu,true⟩,⟨6,90,none,zu,true⟩,⟨9,90,none,zu,true⟩,⟨10,90,none,zu,true⟩,⟨12,90,none,zu,true⟩,⟨15,90,none,zu,true⟩,⟨18,90,none,zu,true⟩,⟨21,90,none,zu,true⟩,⟨24,90,none,zu,true⟩,⟨26,90,none,zu,true⟩,⟨5,90,none,zu,true⟩,⟨2,44,none,zu,true⟩,⟨5,44,none,zu,true⟩,⟨8,44,none,zu,true⟩,⟨10,44,none,zu,true⟩,⟨2,37,none,zu,true⟩,⟨1,28,none,zu,true⟩,⟨4,28,none,zu,true⟩,⟨2,19,none,zu,true⟩,⟨4,19,none,zu,true⟩,⟨3,55,none,zu,true⟩,⟨6,55,none,zu,true⟩,⟨9,55,none,zu,true⟩] [] [29,56,119,85,86,87,88,89,58]
def zfq (jP:kI) (ZT:XI) (wB:uf) (Wj:zgu) (Zp:zcF) (Zq:zcH) (gi:zaX) (ux:UL) (VY:zcK) (a0:jJ) (a1:(List zv)):Option (Int×Unit):=
 opt (jP (a0,())) fun x0=>
 bif !(zj x0.1 0) then bif !(zj x0.1 0) then some (x0.1,())
  else none
 else opt (ZT (a0.1,(a1,()))) fun x1=>
  bif !(zj x1.1 0) then bif !(zj x1.1 0) then some (x1.1,())
   else none
  else opt (qd (fun s2:((Unit×(Int×(Int×Unit)))×Unit)=>
    bif (zt s2.1.2.2.1 ((a1.length:Nat):Int)) then opt (atI a1 s2.1.2.2.1) fun x3=>
     opt (bif !(zj x3.2.2.2.1 6) then some (1,(((),(2,())),()))
      else bif zt a0.2.2.2 x3.2.2.2.2.1 then some (1,(((),(2,())),()))
       else some (0,(((),(s2.1.2.1,())),()))) fun x4=>
     bif Nat.beq x4.1 0 then some (.inr (((),(x4.2.1.2.1,((wrF .i64 (s2.1.2.2.1+1)),()))),()))
     else some (.inl (1,(((),(x4.2.1.2.1,(s2.1.2.2.1,()))),())))
    else some (.inl (0,(((),(s2.1.2.1,(s2.1.2.2.1,()))),())))) qC (((),(0,(0,()))),())) fun x5=>
   bif Nat.beq x5.1 0 then opt (qd (fun s6:((Int×(Int×Unit))×((List (Int×(((Int×Int)×((Int×Int)×(Int×Int)))×Int)))×Unit))=>
     bif (zt s6.1.2.1 ((a0.2.2.1.length:Nat):Int)) then opt (bif (!(mpH (α:=(((Int×Int)×((Int×Int)×(Int×Int)))×Int)) s6.2.1 s6.1.2.1)) then opt (qd (fun s7:((Int×Unit)×(((List (Int×Int))×Unit)×(Unit×(Unit×Unit))))=>
         bif (zt s7.1.1 ((a1.length:Nat):Int)) then opt (atI a1 s7.1.1) fun x8=>
          opt (qd (fun s9:((Int×(Int×Unit))×(((List (Int×Int))×Unit)×(Unit×(Unit×Unit))))=>
           bif (zt s9.1.2.1 ((x8.2.2.2.2.2.2.2.2.length:Nat):Int)) then opt (atI x8.2.2.2.2.2.2.2.2 s9.1.2.1) fun x10=>
            opt (wB (x10,(s6.1.2.1,()))) fun x11=>
            bif x11.1 then some (.inl (1,((s9.1.2.1,(s9.1.2.1,())),((s9.2.1.1,()),((),((),()))))))
            else some (.inr ((s9.1.1,((wrF .i64 (s9.1.2.1+1)),())),((s9.2.1.1,()),((),((),())))))
           else some (.inl (0,((s9.1.1,(s9.1.2.1,())),((s9.2.1.1,()),((),((),()))))))) qC ((0,(0,())),((s7.2.1.1,()),((),((),()))))) fun x12=>
          bif Nat.beq x12.1 0 then some (.inr (((wrF .i64 (s7.1.1+1)),()),((x12.2.2.1.1,()),((),((),())))))
          else bif !(zt x12.2.1.1 0) then bif (xE x12.2.2.1.1.length ((x8.2.2.2.2.2.2.1::[]).length) 16) then some (.inr (((wrF .i64 (s7.1.1+1)),()),(((x12.2.2.1.1++(x8.2.2.2.2.2.2.1::[])),()),((),((),())))))
            else none
           else some (.inr (((wrF .i64 (s7.1.1+1)),()),((x12.2.2.1.1,()),((),((),())))))
         else some (.inl (0,((s7.1.1,()),((s7.2.1.1,()),((),((),()))))))) qC ((0,()),(([],()),((),((),()))))) fun x13=>
        bif Nat.beq x13.1 0 then bif (zj ((x13.2.2.1.1.length:Nat):Int) 0) then some (0,(((((0,0),((0,0),(0,0))),4),()),((mpP (α:=(((Int×Int)×((Int×Int)×(Int×Int)))×Int)) s6.2.1 s6.1.2.1 (((0,0),((0,0),(0,0))),4)),())))
         else opt (Wj (a0.1,(s6.1.2.1,()))) fun x14=>
          bif !(zj x14.2.1 0) then some (0,(((((0,0),((0,0),(0,0))),x14.2.1),()),((mpP (α:=(((Int×Int)×((Int×Int)×(Int×Int)))×Int)) s6.2.1 s6.1.2.1 (((0,0),((0,0),(0,0))),x14.2.1)),())))
          else opt (atI a0.2.2.1 s6.1.2.1) fun x15=>
           opt (Zp (x15,(x14.1,(a0.2.2.2,())))) fun x16=>
           bif !(zj x16.2.1 0) then some (0,(((((0,0),((0,0),(0,0))),411),()),((mpP (α:=(((Int×Int)×((Int×Int)×(Int×Int)))×Int)) s6.2.1 s6.1.2.1 (((0,0),((0,0),(0,0))),411)),())))
           else opt (Zq (x13.2.2.1.1,())) fun x17=>
            bif !(zj x17.2.1 0) then some (0,(((((0,0),((0,0),(0,0))),x17.2.1),()),((mpP (α:=(((Int×Int)×((Int×Int)×(Int×Int)))×Int)) s6.2.1 s6.1.2.1 (((0,0),((0,0),(0,0))),x17.2.1)),())))
            else opt (gi ((x17.1::[]),(x16.1,()))) fun x18=>
             bif !(zj x18.2.1 0) then some (0,(((((0,0),((0,0),(0,0))),x18.2.1),()),((mpP (α:=(((Int×Int)×((Int×Int)×(Int×Int)))×Int)) s6.2.1 s6.1.2.1 (((0,0),((0,0),(0,0))),x18.2.1)),())))
             else opt (ux (x17.1,(x16.1,()))) fun x19=>
              bif !(zj x19.2.1 0) then some (0,(((((0,0),((0,0),(0,0))),x19.2.1),()),((mpP (α:=(((Int×Int)×((Int×Int)×(Int×Int)))×Int)) s6.2.1 s6.1.2.1 (((0,0),((0,0),(0,0))),x19.2.1)),())))
              else some (0,((((x17.1,(x16.1,(x18.1,x19.1))),0),()),((mpP (α:=(((Int×Int)×((Int×Int)×(Int×Int)))×Int)) s6.2.1 s6.1.2.1 ((x17.1,(x16.1,(x18.1,x19.1))),0)),())))
        else bif (zj ((x13.2.2.1.1.length:Nat):Int) 0) then some (0,(((((0,0),((0,0),(0,0))),4),()),((mpP (α:=(((Int×Int)×((Int×Int)×(Int×Int)))×Int)) s6.2.1 s6.1.2.1 (((0,0),((0,0),(0,0))),4)),())))
         else opt (Wj (a0.1,(s6.1.2.1,()))) fun x20=>
          bif !(zj x20.2.1 0) then some (0,(((((0,0),((0,0),(0,0))),x20.2.1),()),((mpP (α:=(((Int×Int)×((Int×Int)×(Int×Int)))×Int)) s6.2.1 s6.1.2.1 (((0,0),((0,0),(0,0))),x20.2.1)),())))
          else opt (atI a0.2.2.1 s6.1.2.1) fun x21=>
           opt (Zp (x21,(x20.1,(a0.2.2.2,())))) fun x22=>
           bif !(zj x22.2.1 0) then some (0,(((((0,0),((0,0),(0,0))),411),()),((mpP (α:=(((Int×Int)×((Int×Int)×(Int×Int)))×Int)) s6.2.1 s6.1.2.1 (((0,0),((0,0),(0,0))),411)),())))
           else opt (Zq (x13.2.2.1.1,())) fun x23=>
            bif !(zj x23.2.1 0) then some (0,(((((0,0),((0,0),(0,0))),x23.2.1),()),((mpP (α:=(((Int×Int)×((Int×Int)×(Int×Int)))×Int)) s6.2.1 s6.1.2.1 (((0,0),((0,0),(0,0))),x23.2.1)),())))
            else opt (gi ((x23.1::[]),(x22.1,()))) fun x24=>
             bif !(zj x24.2.1 0) then some (0,(((((0,0),((0,0),(0,0))),x24.2.1),()),((mpP (α:=(((Int×Int)×((Int×Int)×(Int×Int)))×Int)) s6.2.1 s6.1.2.1 (((0,0),((0,0),(0,0))),x24.2.1)),())))
             else opt (ux (x23.1,(x22.1,()))) fun x25=>
              bif !(zj x25.2.1 0) then some (0,(((((0,0),((0,0),(0,0))),x25.2.1),()),((mpP (α:=(((Int×Int)×((Int×Int)×(Int×Int)))×Int)) s6.2.1 s6.1.2.1 (((0,0),((0,0),(0,0))),x25.2.1)),())))
              else some (0,((((x23.1,(x22.1,(x24.1,x25.1))),0),()),((mpP (α:=(((Int×Int)×((Int×Int)×(Int×Int)))×Int)) s6.2.1 s6.1.2.1 ((x23.1,(x22.1,(x24.1,x25.1))),0)),())))
       else some (0,(((mpD (α:=(((Int×Int)×((Int×Int)×(Int×Int)))×Int)) s6.2.1 s6.1.2.1 (((0,0),((0,0),(0,0))),0)),()),(s6.2.1,())))) fun x26=>
      bif zj x26.2.1.1.2 4 then some (.inr ((s6.1.1,((wrF .i64 (s6.1.2.1+1)),())),(x26.2.2.1,())))
      else bif !(zj x26.2.1.1.2 0) then some (.inl (0,((x26.2.1.1.2,(s6.1.2.1,())),(x26.2.2.1,()))))
       else bif zt a0.2.1.2.2.2 x26.2.1.1.1.2.2.2 then some (.inl (0,((7,(s6.1.2.1,())),(x26.2.2.1,()))))
        else some (.inr ((s6.1.1,((wrF .i64 (s6.1.2.1+1)),())),(x26.2.2.1,())))
     else some (.inl (0,((s6.1.1,(s6.1.2.1,())),(s6.2.1,()))))) qC ((0,(0,())),([],()))) fun x27=>
    bif !(zj x27.2.1.1 0) then some (x27.2.1.1,())
    else opt (qd (fun s28:((Int×(Int×Unit))×((List (Int×(((Int×Int)×((Int×Int)×(Int×Int)))×Int)))×Unit))=>
      bif (zt s28.1.2.1 ((a1.length:Nat):Int)) then opt (atI a1 s28.1.2.1) fun x29=>
       opt (qd (fun s30:((Int×(Int×Unit))×((List (Int×(((Int×Int)×((Int×Int)×(Int×Int)))×Int)))×Unit))=>
        bif (zt s30.1.2.1 ((x29.2.2.2.2.2.2.2.2.length:Nat):Int)) then opt (atI x29.2.2.2.2.2.2.2.2 s30.1.2.1) fun x31=>
         opt (qd (fun s32:((Int×(Int×(Int×(Int×Unit))))×((List (Int×(((Int×Int)×((Int×Int)×(Int×Int)))×Int)))×Unit))=>
          bif (zt s32.1.2.2.2.1 ((x31.length:Nat):Int)) then opt (atI x31 s32.1.2.2.2.1) fun x33=>
           opt (bif (!(mpH (α:=(((Int×Int)×((Int×Int)×(Int×Int)))×Int)) s32.2.1 x33)) then opt (qd (fun s34:((Int×Unit)×(((List (Int×Int))×Unit)×(Unit×(Unit×Unit))))=>
              bif (zt s34.1.1 ((a1.length:Nat):Int)) then opt (atI a1 s34.1.1) fun x35=>
               opt (qd (fun s36:((Int×(Int×Unit))×(((List (Int×Int))×Unit)×(Unit×(Unit×Unit))))=>
                bif (zt s36.1.2.1 ((x35.2.2.2.2.2.2.2.2.length:Nat):Int)) then opt (atI x35.2.2.2.2.2.2.2.2 s36.1.2.1) fun x37=>
                 opt (wB (x37,(x33,()))) fun x38=>
                 bif x38.1 then some (.inl (1,((s36.1.2.1,(s36.1.2.1,())),((s36.2.1.1,()),((),((),()))))))
                 else some (.inr ((s36.1.1,((wrF .i64 (s36.1.2.1+1)),())),((s36.2.1.1,()),((),((),())))))
                else some (.inl (0,((s36.1.1,(s36.1.2.1,())),((s36.2.1.1,()),((),((),()))))))) qC ((0,(0,())),((s34.2.1.1,()),((),((),()))))) fun x39=>
               bif Nat.beq x39.1 0 then some (.inr (((wrF .i64 (s34.1.1+1)),()),((x39.2.2.1.1,()),((),((),())))))
               else bif !(zt x39.2.1.1 0) then bif (xE x39.2.2.1.1.length ((x35.2.2.2.2.2.2.1::[]).length) 16) then some (.inr (((wrF .i64 (s34.1.1+1)),()),(((x39.2.2.1.1++(x35.2.2.2.2.2.2.1::[])),()),((),((),())))))
                 else none
                else some (.inr (((wrF .i64 (s34.1.1+1)),()),((x39.2.2.1.1,()),((),((),())))))
              else some (.inl (0,((s34.1.1,()),((s34.2.1.1,()),((),((),()))))))) qC ((0,()),(([],()),((),((),()))))) fun x40=>
             bif Nat.beq x40.1 0 then bif (zj ((x40.2.2.1.1.length:Nat):Int) 0) then some (0,(((((0,0),((0,0),(0,0))),4),()),((mpP (α:=(((Int×Int)×((Int×Int)×(Int×Int)))×Int)) s32.2.1 x33 (((0,0),((0,0),(0,0))),4)),())))
              else opt (Wj (a0.1,(x33,()))) fun x41=>
               bif !(zj x41.2.1 0) then some (0,(((((0,0),((0,0),(0,0))),x41.2.1),()),((mpP (α:=(((Int×Int)×((Int×Int)×(Int×Int)))×Int)) s32.2.1 x33 (((0,0),((0,0),(0,0))),x41.2.1)),())))
               else opt (atI a0.2.2.1 x33) fun x42=>
                opt (Zp (x42,(x41.1,(a0.2.2.2,())))) fun x43=>
                bif !(zj x43.2.1 0) then some (0,(((((0,0),((0,0),(0,0))),411),()),((mpP (α:=(((Int×Int)×((Int×Int)×(Int×Int)))×Int)) s32.2.1 x33 (((0,0),((0,0),(0,0))),411)),())))
                else opt (Zq (x40.2.2.1.1,())) fun x44=>
                 bif !(zj x44.2.1 0) then some (0,(((((0,0),((0,0),(0,0))),x44.2.1),()),((mpP (α:=(((Int×Int)×((Int×Int)×(Int×Int)))×Int)) s32.2.1 x33 (((0,0),((0,0),(0,0))),x44.2.1)),())))
                 else opt (gi ((x44.1::[]),(x43.1,()))) fun x45=>
                  bif !(zj x45.2.1 0) then some (0,(((((0,0),((0,0),(0,0))),x45.2.1),()),((mpP (α:=(((Int×Int)×((Int×Int)×(Int×Int)))×Int)) s32.2.1 x33 (((0,0),((0,0),(0,0))),x45.2.1)),())))
                  else opt (ux (x44.1,(x43.1,()))) fun x46=>
                   bif !(zj x46.2.1 0) then some (0,(((((0,0),((0,0),(0,0))),x46.2.1),()),((mpP (α:=(((Int×Int)×((Int×Int)×(Int×Int)))×Int)) s32.2.1 x33 (((0,0),((0,0),(0,0))),x46.2.1)),())))
                   else some (0,((((x44.1,(x43.1,(x45.1,x46.1))),0),()),((mpP (α:=(((Int×Int)×((Int×Int)×(Int×Int)))×Int)) s32.2.1 x33 ((x44.1,(x43.1,(x45.1,x46.1))),0)),())))
             else bif (zj ((x40.2.2.1.1.length:Nat):Int) 0) then some (0,(((((0,0),((0,0),(0,0))),4),()),((mpP (α:=(((Int×Int)×((Int×Int)×(Int×Int)))×Int)) s32.2.1 x33 (((0,0),((0,0),(0,0))),4)),())))
              else opt (Wj (a0.1,(x33,()))) fun x47=>
               bif !(zj x47.2.1 0) then some (0,(((((0,0),((0,0),(0,0))),x47.2.1),()),((mpP (α:=(((Int×Int)×((Int×Int)×(Int×Int)))×Int)) s32.2.1 x33 (((0,0),((0,0),(0,0))),x47.2.1)),())))
               else opt (atI a0.2.2.1 x33) fun x48=>
                opt (Zp (x48,(x47.1,(a0.2.2.2,())))) fun x49=>
                bif !(zj x49.2.1 0) then some (0,(((((0,0),((0,0),(0,0))),411),()),((mpP (α:=(((Int×Int)×((Int×Int)×(Int×Int)))×Int)) s32.2.1 x33 (((0,0),((0,0),(0,0))),411)),())))
                else opt (Zq (x40.2.2.1.1,())) fun x50=>
                 bif !(zj x50.2.1 0) then some (0,(((((0,0),((0,0),(0,0))),x50.2.1),()),((mpP (α:=(((Int×Int)×((Int×Int)×(Int×Int)))×Int)) s32.2.1 x33 (((0,0),((0,0),(0,0))),x50.2.1)),())))
                 else opt (gi ((x50.1::[]),(x49.1,()))) fun x51=>
                  bif !(zj x51.2.1 0) then some (0,(((((0,0),((0,0),(0,0))),x51.2.1),()),((mpP (α:=(((Int×Int)×((Int×Int)×(Int×Int)))×Int)) s32.2.1 x33 (((0,0),((0,0),(0,0))),x51.2.1)),())))
                  else opt (ux (x50.1,(x49.1,()))) fun x52=>
                   bif !(zj x52.2.1 0) then some (0,(((((0,0),((0,0),(0,0))),x52.2.1),()),((mpP (α:=(((Int×Int)×((Int×Int)×(Int×Int)))×Int)) s32.2.1 x33 (((0,0),((0,0),(0,0))),x52.2.1)),())))
                   else some (0,((((x50.1,(x49.1,(x51.1,x52.1))),0),()),((mpP (α:=(((Int×Int)×((Int×Int)×(Int×Int)))×Int)) s32.2.1 x33 ((x50.1,(x49.1,(x51.1,x52.1))),0)),())))
            else some (0,(((mpD (α:=(((Int×Int)×((Int×Int)×(Int×Int)))×Int)) s32.2.1 x33 (((0,0),((0,0),(0,0))),0)),()),(s32.2.1,())))) fun x53=>
           bif !(zj x53.2.1.1.2 0) then some (.inl (1,((0,(x53.2.1.1.2,(s32.1.2.2.1,(s32.1.2.2.2.1,())))),(x53.2.2.1,()))))
           else opt (VY (a0.1,(x33,()))) fun x54=>
            bif !(zj x54.2.1 0) then some (.inl (1,((0,(x54.2.1,(s32.1.2.2.1,(s32.1.2.2.2.1,())))),(x53.2.2.1,()))))
            else some (.inr ((s32.1.1,(s32.1.2.1,((wrF .i64 (s32.1.2.2.1+(wrF .i64 ((wrF .i64 (x53.2.1.1.1.2.2.1+x54.1))+a0.2.1.2.2.1)))),((wrF .i64 (s32.1.2.2.2.1+1)),())))),(x53.2.2.1,())))
          else some (.inl (0,((s32.1.1,(s32.1.2.1,(s32.1.2.2.1,(s32.1.2.2.2.1,())))),(s32.2.1,()))))) qC ((0,(0,(0,(0,())))),(s30.2.1,()))) fun x55=>
         bif Nat.beq x55.1 0 then bif zt x29.2.2.2.2.2.2.2.1 x55.2.1.2.2.1 then some (.inl (1,((412,(s30.1.2.1,())),(x55.2.2.1,()))))
          else some (.inr ((s30.1.1,((wrF .i64 (s30.1.2.1+1)),())),(x55.2.2.1,())))
         else bif !(zj x55.2.1.2.1 0) then some (.inl (1,((x55.2.1.2.1,(s30.1.2.1,())),(x55.2.2.1,()))))
          else bif zt x29.2.2.2.2.2.2.2.1 x55.2.1.1 then some (.inl (1,((412,(s30.1.2.1,())),(x55.2.2.1,()))))
           else some (.inr ((s30.1.1,((wrF .i64 (s30.1.2.1+1)),())),(x55.2.2.1,())))
        else some (.inl (0,((s30.1.1,(s30.1.2.1,())),(s30.2.1,()))))) qC ((s28.1.1,(0,())),(s28.2.1,()))) fun x56=>
       bif Nat.beq x56.1 0 then some (.inr ((x56.2.1.1,((wrF .i64 (s28.1.2.1+1)),())),(x56.2.2.1,())))
       else some (.inl (1,((x56.2.1.1,(s28.1.2.1,())),(x56.2.2.1,()))))
      else some (.inl (0,((s28.1.1,(s28.1.2.1,())),(s28.2.1,()))))) qC ((0,(0,())),(x27.2.2.1,()))) fun x57=>
     bif Nat.beq x57.1 0 then some (0,())
     else some (x57.2.1.1,())
   else bif !(zj x5.2.1.2.1 0) then some (x5.2.1.2.1,())
    else none
abbrev Qh:Type:=(jJ×(List zv)×Unit)→Option (Int×Unit)
def zl7:kI→XI→uf→zgu→zcF→zcH→zaX→UL→zcK→Qh:=fun jP ZT wB Wj Zp Zq gi ux VY=>sF Tryz.prog [(29,⟨yH,yI,jP⟩),(56,⟨Zw,Zx,ZT⟩),(119,⟨yl,ym,wB⟩),(85,⟨GY,GZ,Wj⟩),(86,⟨Ji,Jj,Zp⟩),(87,⟨Vw,Vx,Zq⟩),(88,⟨YO,YP,gi⟩),(89,⟨JD,JE,ux⟩),(58,⟨VC,VD,VY⟩)] zuy (zM []) 30 25 vY vZ
theorem zwq (jP) (ZT) (wB) (Wj) (Zp) (Zq) (gi) (ux) (VY) (a0) (a1):zl7 jP ZT wB Wj Zp Zq gi ux VY (a0,a1,())=zfq jP ZT wB Wj Zp Zq gi ux VY a0 a1:=by kernel_rfl
def vr:Qh:=zl7 xr Zy jG Zi xY uQ vX xZ WU
theorem zbr:Con.Ok Tryz.prog 25 ⟨vY,vZ,vr⟩:=zz (zf zaH (zf zlk (zf zam (zf zwa (zf zsM (zf zsN (zf zrc (zf zn8 (zf zsU zi))))))))) zm (by kernel_rfl)
theorem zrg (a0) (a1):vr (a0,a1,())=zfq xr Zy jG Zi xY uQ vX xZ WU a0 a1:=zwq xr Zy jG Zi xY uQ vX xZ WU a0 a1
abbrev gN:List VT:=[⟨true,zV⟩,⟨true,zA⟩]
abbrev gO:List VT:=[⟨false,I⟩]
def zsW:qb:=zT [cdF zA,cdF zV,cdF qy,cdF zu] [] [] [] [41,42]
def zdZ (zZ:xV) (xi:Wt) (a0:qk) (a1:zv):Option (Int×Unit):=
 opt (zZ (a0,())) fun x0=>
 bif !(zj x0.1 0) then some (x0.1,())
 else opt (xi (a0,(a1,()))) fun x1=>
  bif !x1.1 then some (321,())
  else some (0,())
abbrev zaa:Type:=(qk×zv×Unit)→Option (Int×Unit)
def zj7:xV→Wt→zaa:=fun zZ xi=>sF Tryz.prog [(41,⟨ya,yb,zZ⟩),(42,⟨gJ,gK,xi⟩)] zsW (zM []) 30 26 gN gO
theorem zuz (zZ) (xi) (a0) (a1):zj7 zZ xi (a0,a1,())=zdZ zZ xi a0 a1:=by kernel_rfl
def Ww:zaa:=zj7 jQ uY
theorem zpE:Con.Ok Tryz.prog 26 ⟨gN,gO,Ww⟩:=zz (zf Jv (zf zfO zi)) zm (by kernel_rfl)
theorem zpF (a0) (a1):Ww (a0,a1,())=zdZ jQ uY a0 a1:=zuz jQ uY a0 a1
abbrev ud:List VT:=[⟨true,qK⟩,⟨false,(.list zA)⟩,⟨true,zA⟩]
abbrev ue:List VT:=[⟨false,(.list zA)⟩,⟨false,I⟩]
def zuA:qb:=zT [cdF qK,cdF zA,cdF zV,cdF qy,cdF qq,cdF jf] [] [⟨2,41,some 6,zA,false⟩,⟨5,41,some 6,zA,false⟩,⟨9,41,some 6,zA,false⟩] [] [25,26]
def zfr (jE:Qh) (WC:zaa) (a0:jJ) (a1:(List zv)) (a2:zv):Option ((List zv)×Int×Unit):=
 opt (jE (a0,(a1,()))) fun x0=>
 bif !(zj x0.1 0) then some ([],(x0.1,()))
 else opt (WC (a0.1,(a2,()))) fun x1=>
  bif !(zj x1.1 0) then some ([],(x1.1,()))
  else opt (uz a1 none (some ((a1.length:Nat):Int)) (some ((a1.length:Nat):Int))) fun x2=>
   bif (xE x2.length ((a2::[]).length) 96) then opt (jE (a0,((x2++(a2::[])),()))) fun x3=>
    bif !(zj x3.1 0) then some ([],(x3.1,()))
    else some ((x2++(a2::[])),(0,()))
   else none
abbrev zaY:Type:=(jJ×(List zv)×zv×Unit)→Option ((List zv)×Int×Unit)
def zl8:Qh→zaa→zaY:=fun jE WC=>sF Tryz.prog [(25,⟨vY,vZ,jE⟩),(26,⟨gN,gO,WC⟩)] zuA (zM []) 30 11 ud ue
theorem zwr (jE) (WC) (a0) (a1) (a2):zl8 jE WC (a0,a1,a2,())=zfr jE WC a0 a1 a2:=by kernel_rfl
def uV:zaY:=zl8 vr Ww
theorem zhw:Con.Ok Tryz.prog 11 ⟨ud,ue,uV⟩:=zz (zf zbr (zf zpE zi)) zm (by kernel_rfl)
theorem zrh (a0) (a1) (a2):uV (a0,a1,a2,())=zfr vr Ww a0 a1 a2:=zwr vr Ww a0 a1 a2
abbrev xF:List VT:=[⟨true,zA⟩]
abbrev xG:List VT:=[⟨false,(.list I)⟩]
def Gv:qb:=zT [cdF ze,cdF qK,cdF zA,cdF zV,cdF qy,cdF qq,cdF zu] [] [⟨3,38,some 4,I,false⟩,⟨3,38,some 5,I,true⟩,⟨6,38,some 4,I,false⟩,⟨6,38,some 5,I,true⟩,⟨1,61,some 2,I,false⟩,⟨4,61,some 2,I,false⟩,⟨6,61,some 2,I,false⟩,⟨9,61,some 2,I,false⟩,⟨11,61,some 2,I,false⟩] [] []
def Yw (wC:JY) (s:za) (a0:zv):Option (za×((List Int)×Unit)):=
 opt (qd (fun s0:(((((Int×((List Bool)×(List (Int×(Int×(Int×Int))))))×((Int×(Int×(Int×Int)))×((List ((List (Int×Int))×Int))×Int)))×((List (Int×(Int×(Int×(Int×(Int×(Int×((Int×Int)×(Int×(List (List Int)))))))))))×((List (Int×(Int×(Int×((Int×(Int×(Int×(Int×(Int×(Int×((Int×Int)×(Int×(List (List Int))))))))))×Int)))))×((List (Int×(Int×(Int×(Int×(List Int))))))×((List (Int×(Int×(Int×Bool))))×(List (Int×(Int×(Int×(Int×(Bool×((Int×(Int×(Int×(Int×(Int×(Int×((Int×Int)×(Int×(List (List Int))))))))))×Int))))))))))))×(Int×Unit))×((List Int)×Unit))=>
  bif (zt s0.1.2.1 ((a0.2.2.2.2.2.2.2.2.length:Nat):Int)) then opt (atI a0.2.2.2.2.2.2.2.2 s0.1.2.1) fun x1=>
   opt (wC (s0.1.1.1.1,(x1,()))) fun x2=>
   opt (bif zj x2.2.1 0 then bif xE s0.2.1.length x2.1.length 8 then some (0,((),((s0.2.1++x2.1),())))
     else none
    else some (0,((),(s0.2.1,())))) fun x3=>
   some (.inr ((s0.1.1,((wrF .i64 (s0.1.2.1+1)),())),(x3.2.2.1,())))
  else some (.inl (0,((s0.1.1,(s0.1.2.1,())),(s0.2.1,()))))) qC ((s,(0,())),([],()))) fun x4=>
 bif zqL x4.2.2.1 then bif zqL (Xq x4.2.2.1) then some (x4.2.1.1,((znw (Xq x4.2.2.1)),()))
  else none
 else none
theorem zh6 (wC:(qk×(List Int)×Unit)→Option ((List Int)×Int×Unit)) (s:za) (a0:zv):sP Tryz.prog ⟨[(140,true),(141,false)],[]⟩ [(49,⟨kW,kX,wC⟩)] Gv (zM []) 30 109 ze xF xG s (a0,())=Yw wC s a0:=by kernel_rfl
def yP:za→(zv×Unit)→Option (za×((List Int)×Unit)):=sP Tryz.prog ⟨[(140,true),(141,false)],[]⟩ [(49,⟨kW,kX,yM⟩)] Gv (zM []) 30 109 ze xF xG
theorem KV:yT.Ok Tryz.prog 109 ⟨ze,xF,xG,yP⟩:=xp ⟨zH5,je⟩ (zf zbm zi) zm (by kernel_rfl)
theorem zfs (s:za) (a0:zv):yP s (a0,())=Yw yM s a0:=zh6 yM s a0
abbrev ka:List VT:=[⟨false,(.list zA)⟩,⟨false,I⟩]
abbrev ke:List VT:=[⟨false,I⟩,⟨false,I⟩]
def zsX:qb:=zT [cdF zA,cdF zu] [] [] [] []
def zd0 (a0:(List zv)) (a1:Int):Option (Int×Int×Unit):=
 opt (qd (fun s0:((Int×(Int×(Int×Unit)))×Unit)=>
  bif (zt s0.1.2.2.1 ((a0.length:Nat):Int)) then opt (atI a0 s0.1.2.2.1) fun x1=>
   bif zj x1.1 a1 then some (.inl (1,((s0.1.2.2.1,(0,(s0.1.2.2.1,()))),())))
   else some (.inr ((s0.1.1,(s0.1.2.1,((wrF .i64 (s0.1.2.2.1+1)),()))),()))
  else some (.inl (0,((s0.1.1,(s0.1.2.1,(s0.1.2.2.1,()))),())))) qC ((0,(0,(0,()))),())) fun x2=>
 bif Nat.beq x2.1 0 then some (0,(4,()))
 else some (x2.2.1.1,(x2.2.1.2.1,()))
abbrev VE:Type:=((List zv)×Int×Unit)→Option (Int×Int×Unit)
def zj8:VE:=sF Tryz.prog [] zsX (zM []) 30 110 ka ke
theorem zuB (a0) (a1):zj8 (a0,a1,())=zd0 a0 a1:=by kernel_rfl
def xO:VE:=zj8
theorem zfV:Con.Ok Tryz.prog 110 ⟨ka,ke,xO⟩:=zz zi zm (by kernel_rfl)
theorem zpG (a0) (a1):xO (a0,a1,())=zd0  a0 a1:=zuB  a0 a1
abbrev wU:List VT:=[⟨false,(.list jW)⟩,⟨false,I⟩,⟨false,.bool⟩,⟨true,jW⟩]
abbrev wW:List VT:=[⟨false,(.list jW)⟩]
def zji:qb:=zT [cdF jW] [] [⟨2,27,some 8,jW,true⟩] [] []
def VF (a0:(List qE)) (a1:Int) (a2:Bool) (a3:qE):Option ((List qE)×Unit):=
 opt (uz a0 (some a1) none none) fun x0=>
 opt (bif a2 then opt (uz a0 (some (wrF .i64 (a1+1))) none none) fun x1=>
   some (0,((x1,()),()))
  else some (0,((x0,()),()))) fun x2=>
 opt (uz a0 none (some a1) (some a1)) fun x3=>
 bif (xE x3.length ((a3::[]).length) 56) then bif (xE ((x3++(a3::[])).length) x2.2.1.1.length 56) then some (((x3++(a3::[]))++x2.2.1.1),())
  else none
 else none
abbrev JF:Type:=((List qE)×Int×Bool×qE×Unit)→Option ((List qE)×Unit)
def zbQ:JF:=sF Tryz.prog [] zji (zM []) 30 111 wU wW
theorem zj9 (a0) (a1) (a2) (a3):zbQ (a0,a1,a2,a3,())=VF a0 a1 a2 a3:=by kernel_rfl
def wj:JF:=zbQ
theorem Gw:Con.Ok Tryz.prog 111 ⟨wU,wW,wj⟩:=zz zi zm (by kernel_rfl)
theorem zhx (a0) (a1) (a2) (a3):wj (a0,a1,a2,a3,())=VF  a0 a1 a2 a3:=zj9  a0 a1 a2 a3
abbrev jb:List VT:=[⟨true,jW⟩]
abbrev jc:List VT:=[]
def Kh:qb:=zT [cdF ze,cdF qL,cdF zA,cdF jW,cdF zu] [] [] [] [52]
def JZ (zL:za→(zJ×Unit)→Option (za×(Unit))) (s:za) (a0:qE):Option (za×(Unit)):=
 opt (bif zj a0.2.2.1 1 then some (0,(((2,(a0.1,(a0.2.1,(0,(false,((0,(0,(0,(0,(0,(0,((0,0),(0,[])))))))),0)))))),()),()))
  else bif zj a0.2.2.1 4 then some (0,(((3,(a0.1,(a0.2.1,(0,(false,((0,(0,(0,(0,(0,(0,((0,0),(0,[])))))))),0)))))),()),()))
   else some (1,(((0,(a0.1,(a0.2.1,(0,(false,((0,(0,(0,(0,(0,(0,((0,0),(0,[])))))))),0)))))),()),()))) fun x0=>
 bif Nat.beq x0.1 0 then opt (qd (fun s1:(((Int×(Int×(Int×(Int×(Bool×((Int×(Int×(Int×(Int×(Int×(Int×((Int×Int)×(Int×(List (List Int))))))))))×Int))))))×((((Int×((List Bool)×(List (Int×(Int×(Int×Int))))))×((Int×(Int×(Int×Int)))×((List ((List (Int×Int))×Int))×Int)))×((List (Int×(Int×(Int×(Int×(Int×(Int×((Int×Int)×(Int×(List (List Int)))))))))))×((List (Int×(Int×(Int×((Int×(Int×(Int×(Int×(Int×(Int×((Int×Int)×(Int×(List (List Int))))))))))×Int)))))×((List (Int×(Int×(Int×(Int×(List Int))))))×((List (Int×(Int×(Int×Bool))))×(List (Int×(Int×(Int×(Int×(Bool×((Int×(Int×(Int×(Int×(Int×(Int×((Int×Int)×(Int×(List (List Int))))))))))×Int))))))))))))×(Int×Unit)))×Unit)=>
   bif (zt s1.1.2.2.1 ((a0.2.2.2.2.length:Nat):Int)) then opt (atI a0.2.2.2.2 s1.1.2.2.1) fun x2=>
    opt (zL s1.1.2.1 ((s1.1.1.1,(s1.1.1.2.1,(s1.1.1.2.2.1,(x2,s1.1.1.2.2.2.2)))),())) fun x3=>
    some (.inr (((s1.1.1.1,(s1.1.1.2.1,(s1.1.1.2.2.1,(x2,s1.1.1.2.2.2.2)))),(x3.1,((wrF .i64 (s1.1.2.2.1+1)),()))),()))
   else some (.inl (0,((s1.1.1,(s1.1.2.1,(s1.1.2.2.1,()))),())))) qC ((x0.2.1.1,(s,(0,()))),())) fun x4=>
  some (x4.2.1.2.1,())
 else some (s,())
theorem zft (zL:za→(zJ×Unit)→Option (za×(Unit))) (s:za) (a0:qE):sP Tryz.prog ⟨[],[(52,⟨ze,qh,qi,zL⟩)]⟩ [] Kh (zM []) 30 34 ze jb jc s (a0,())=JZ zL s a0:=by kernel_rfl
def jD:za→(qE×Unit)→Option (za×(Unit)):=sP Tryz.prog ⟨[],[(52,⟨ze,qh,qi,ql⟩)]⟩ [] Kh (zM []) 30 34 ze jb jc
theorem XD:yT.Ok Tryz.prog 34 ⟨ze,jb,jc,jD⟩:=xp ⟨qw,(zO ur je)⟩ zi zm (by kernel_rfl)
theorem zdd (s:za) (a0:qE):jD s (a0,())=JZ ql s a0:=zft ql s a0
end Go.Proofs.YtleloebnggepoaaGreat.sg
end
