/- Parts of a proof, joined. -/
import Derived.Below
import Derived.Laws.AppendOwn
import Derived.Laws.CopyRow
import Derived.LoopNIn
import Derived.MapKept
import Derived.RangeFuncCalls
import Derived.RangeFuncLeaves
import Derived.RangeFuncRecord
import Derived.Scope
set_option linter.unusedSectionVars false
set_option linter.unusedVariables false
set_option linter.unusedSimpArgs false
set_option maxHeartbeats 0
set_option maxRecDepth 100000
noncomputable section
namespace Go.Fz
def KS (k:IntKind) (xs:List MapEntry):Prop:=∀x∈xs,∃n,x.key=.int k n
def zvr (xs:List MapEntry):Prop:=xs.Pairwise fun x y=>x.key≠y.key
theorem KS.isKey {k:IntKind} {xs:List MapEntry} (h:KS k xs):∀x∈xs,MapKept.IsKey (.int k) x.key:=fun x hx=>by
 obtain ⟨n,hn⟩:=h x hx
 rw [hn]
 simp [MapKept.IsKey]
theorem KS.perm {k:IntKind} {xs ys:List MapEntry} (h:KS k xs) (hp:ys.Perm xs):KS k ys:=fun x hx=>h x (hp.mem_iff.1 hx)
theorem zxW (k k':IntKind) (j u:Value):Instr.sameNow (.int k) j u=Instr.sameNow (.int k') j u:=by
 cases j<;>cases u<;>rfl
theorem zb2 (k k':IntKind) (j:Value):∀(xs:List MapEntry) (i:Nat),Instr.findNow (.int k) j xs i=Instr.findNow (.int k') j xs i
 |[],_=>rfl
 |e::es,i=>by
  simp only [Instr.findNow,zxW k k' j e.key,zb2 k k' j es]
theorem zkq {k k':IntKind} {d:IntKind} {n m:Int} {x:MapEntry} {xs:List MapEntry} {i:Nat} {r:Option (Nat×Value)} (h:Instr.findNow (.int d) (.int k' m) (x::xs) i=some r) (hx:x.key=.int k n):k'=k:=by
 simp only [Instr.findNow,hx,Instr.sameNow] at h
 by_cases hk:k'=k
 ·exact hk
 ·simp [hk] at h
theorem zB6 {xs:List MapEntry} (h:zvr xs) {s t:Nat} {e f:MapEntry} (he:xs[s]?=some e) (hf:xs[t]?=some f) (hk:e.key=f.key):s=t:=by
 obtain ⟨hs,rfl⟩:=List.getElem?_eq_some_iff.1 he
 obtain ⟨ht,rfl⟩:=List.getElem?_eq_some_iff.1 hf
 have:=List.pairwise_iff_getElem.1 h
 rcases Nat.lt_trichotomy s t with hlt | heq | hgt
 ·exact absurd hk (this s t hs ht hlt)
 ·exact heq
 ·exact absurd hk.symm (this t s ht hs hgt)
theorem zyz {k:IntKind} {m:Int} {xs:List MapEntry} (hk:KS k xs) (ha:zvr xs) {e:MapEntry} (he:e∈xs) (hkey:e.key=.int k m) :
  ∃t,Instr.findNow (.int k) (.int k m) xs 0=some (some (t,e.val))∧xs[t]?=some e:=by
 rcases MapKept.findNow_spec (d:=.int k) (k:=.int k m) (by simp [MapKept.IsKey]) xs 0 hk.isKey with ⟨_,h2⟩ | ⟨t,f,h1,h2,h3⟩
 ·exact absurd hkey (h2 e he)
 ·obtain ⟨s,hs⟩:=List.getElem?_of_mem he
  have:=zB6 ha hs h2 (by rw [hkey,h3])
  subst this
  rw [hs] at h2
  cases h2
  exact ⟨s,by rw [h1,Nat.zero_add],hs⟩
theorem zB7 {k:IntKind} {m:Int} {xs:List MapEntry} (hk:KS k xs) (h:∀e∈xs,e.key≠.int k m):Instr.findNow (.int k) (.int k m) xs 0=some none:=by
 rcases MapKept.findNow_spec (d:=.int k) (k:=.int k m) (by simp [MapKept.IsKey]) xs 0 hk.isKey with ⟨h1,_⟩ | ⟨t,f,_,h2,h3⟩
 ·exact h1
 ·exact absurd h3 (h f (List.mem_of_getElem? h2))
theorem zr0 {k:IntKind} {m:Int} {xs ys:List MapEntry} (hp:ys.Perm xs) (hk:KS k xs) (ha:zvr xs) {i:Nat} {u:Value} (h:Instr.findNow (.int k) (.int k m) ys 0=some (some (i,u))) :
  ∃t e,Instr.findNow (.int k) (.int k m) xs 0=some (some (t,u))∧xs[t]?=some e∧ys[i]?=some e∧e.key=.int k m∧e.val=u:=by
 rcases MapKept.findNow_spec (d:=.int k) (k:=.int k m) (by simp [MapKept.IsKey]) ys 0 (hk.perm hp).isKey with ⟨h1,_⟩ | ⟨t,f,h1,h2,h3⟩
 ·rw [h1] at h;cases h
 ·rw [h1] at h
  simp only [Option.some.injEq,Prod.mk.injEq,Nat.zero_add] at h
  obtain ⟨rfl,rfl⟩:=h
  obtain ⟨s,hs1,hs2⟩:=zyz hk ha (hp.mem_iff.1 (List.mem_of_getElem? h2)) h3
  exact ⟨s,f,hs1,hs2,h2,h3,rfl⟩
theorem zr1 {k:IntKind} {m:Int} {xs ys:List MapEntry} (hp:ys.Perm xs) (hk:KS k xs) (h:Instr.findNow (.int k) (.int k m) ys 0=some none):Instr.findNow (.int k) (.int k m) xs 0=some none:=by
 rcases MapKept.findNow_spec (d:=.int k) (k:=.int k m) (by simp [MapKept.IsKey]) ys 0 (hk.perm hp).isKey with ⟨_,h2⟩ | ⟨t,f,h1,_,_⟩
 ·exact zB7 hk fun e he=>h2 e (hp.mem_iff.2 he)
 ·rw [h1] at h;cases h
structure Loc where
 blk:Nat
 off:Nat
 lim:Nat
 arr:Array Value:=#[]
abbrev Ren:=Nat→Option Loc
def FZ:Nat:=2 ^ 2048
def qg:Nat:=18446744073709551616
inductive VJ (φ:Ren):Fn→Fn→Prop
 |func (f:FuncId):VJ φ (.func f) (.func f)
 |method (n:String):VJ φ (.method n) (.method n)
 |methodOf (t:TypeId) (n:String):VJ φ (.methodOf t n) (.methodOf t n)
 |via (t:TypeId) (p:Array FieldStep) (f:FuncId) (b:Bool):VJ φ (.via t p f b) (.via t p f b)
 |yield (l:Nat) (L:Loc) (h:φ l=some L):VJ φ (.yield l) (.yield L.blk)
inductive zr (φ:Ren):Value→Value→Prop
 |bool (b:Bool):zr φ (.bool b) (.bool b)
 |int (k:IntKind) (n:Int):zr φ (.int k n) (.int k n)
 |float (k:FloatKind) (n:Nat):zr φ (.float k n) (.float k n)
 |str (s:ByteArray):zr φ (.string s) (.string s)
 |ptrN:zr φ (.pointer none) (.pointer none)
 |ptr (b o:Nat) (L:Loc) (h:φ b=some L):zr φ (.pointer (some ⟨b,o,none⟩)) (.pointer (some ⟨L.blk,L.off+o,none⟩))
 |slN (n c:Nat):zr φ (.slice none n c) (.slice none n c)
 |sl (b o n c:Nat) (L:Loc) (h:φ b=some L) (hc:c < qg) :
   zr φ (.slice (some ⟨b,o,none⟩) n c) (.slice (some ⟨L.blk,L.off+o,none⟩) n c)
 |slO (b o n c c':Nat) (L:Loc) (h:φ b=some L) (hc:qg≤c) (hn:n≤c') (hl:L.off+o+c'*(c - qg)=L.lim) :
   zr φ (.slice (some ⟨b,o,none⟩) n c) (.slice (some ⟨L.blk,L.off+o,none⟩) n c')
 |slE (b o c:Nat) (a':Addr) (L:Loc) (h:φ b=some L) (hc:qg≤c):zr φ (.slice (some ⟨b,o,none⟩) 0 c) (.slice (some a') 0 0)
 |mapN:zr φ (.map none) (.map none)
 |map (r:Nat) (L:Loc) (h:φ r=some L):zr φ (.map (some r)) (.map (some L.blk))
 |func (fn fn':Fn) (xs ys zs us:Array Value) (hf:VJ φ fn fn') (hs:xs.size=ys.size) (h:∀(i:Nat) v v',xs[i]?=some v→ys[i]?=some v'→zr φ v v')
   (hs':zs.size=us.size) (h':∀(i:Nat) v v',zs[i]?=some v→us[i]?=some v'→zr φ v v'):zr φ (.func fn xs zs) (.func fn' ys us)
 |nilFunc:zr φ .nilFunc .nilFunc
 |nilIface:zr φ .nilIface .nilIface
 |fz (s:Nat) (es:Array Value) (b o c:Nat) (L:Loc) (hL:φ (FZ+b)=some L) (hn:0 < es.size) (ho:o+es.size*s≤L.arr.size) (hc:es.size≤c)
   (hs:∀(j:Nat) e,es[j]?=some e→e.cells.size=s)
   (h:∀(j k:Nat) e u u',es[j]?=some e→e.cells[k]?=some u→L.arr[o+j*s+k]?=some u'→zr φ u u') :
   zr φ (.iface s (.tuple es)) (.slice (some ⟨b,o,none⟩) es.size c)
 |fz0 (s:Nat) (a:Option Addr) (c:Nat):zr φ (.iface s (.tuple #[])) (.slice a 0 c)
 |fq (s:Nat) (es:Array Value) (b o:Nat) (L:Loc) (hL:φ (FZ+b)=some L) (hn:0 < es.size) (ho:o+es.size*s≤L.arr.size)
   (hs:∀(j:Nat) e,es[j]?=some e→e.cells.size=s)
   (h:∀(j k:Nat) e u u',es[j]?=some e→e.cells[k]?=some u→L.arr[o+j*s+k]?=some u'→zr φ u u') :
   zr φ (.iface s (.agg es)) (.slice (some ⟨b,o,none⟩) es.size es.size)
 |fq0 (s:Nat) (a:Option Addr):zr φ (.iface s (.agg #[])) (.slice a 0 0)
 |fp (k:Nat) (e:Value) (b o:Nat) (L:Loc) (hL:φ (FZ+b)=some L) (ho:o+e.cells.size≤L.arr.size)
   (h:∀(j:Nat) u u',e.cells[j]?=some u→L.arr[o+j]?=some u'→zr φ u u') :
   zr φ (.iface k (.iface 0 e)) (.pointer (some ⟨b,o+k,none⟩))
 |agg (xs ys:Array Value) (hs:xs.size=ys.size) (h:∀(i:Nat) v v',xs[i]?=some v→ys[i]?=some v'→zr φ v v'):zr φ (.agg xs) (.agg ys)
 |tuple (xs ys:Array Value) (hs:xs.size=ys.size) (h:∀(i:Nat) v v',xs[i]?=some v→ys[i]?=some v'→zr φ v v'):zr φ (.tuple xs) (.tuple ys)
def Ren.le (φ φ':Ren):Prop:=∀b L,φ b=some L→φ' b=some L
theorem Ren.le_refl (φ:Ren):φ.le φ:=fun _ _ h=>h
theorem Ren.le_trans {φ φ' φ'':Ren} (h:φ.le φ') (k:φ'.le φ''):φ.le φ'':=fun b L hb=>k b L (h b L hb)
theorem VJ.mono {φ φ':Ren} (hl:φ.le φ') {f f':Fn} (h:VJ φ f f'):VJ φ' f f':=by
 cases h with
 |func f=>exact .func f
 |method n=>exact .method n
 |methodOf t n=>exact .methodOf t n
 |via t p f b=>exact .via t p f b
 |yield l L h=>exact .yield l L (hl _ _ h)
theorem zr.mono {φ φ':Ren} (hl:φ.le φ') {v v':Value} (h:zr φ v v'):zr φ' v v':=by
 induction h with
 |bool b=>exact .bool b
 |int k n=>exact .int k n
 |float k n=>exact .float k n
 |str s=>exact .str s
 |ptrN=>exact .ptrN
 |ptr b o L h=>exact .ptr b o L (hl _ _ h)
 |slN n c=>exact .slN n c
 |sl b o n c L h hc=>exact .sl b o n c L (hl _ _ h) hc
 |slO b o n c c' L h hc hn hlim=>exact .slO b o n c c' L (hl _ _ h) hc hn hlim
 |slE b o c a' L h hc=>exact .slE b o c a' L (hl _ _ h) hc
 |mapN=>exact .mapN
 |map r L h=>exact .map r L (hl _ _ h)
 |func fn fn' xs ys zs us hf hs h hs' h' ih ih'=>exact .func fn fn' xs ys zs us (hf.mono hl) hs ih hs' ih'
 |nilFunc=>exact .nilFunc
 |nilIface=>exact .nilIface
 |fz s es b o c L hL hn ho hc hs h ih=>exact .fz s es b o c L (hl _ _ hL) hn ho hc hs ih
 |fz0 s a c=>exact .fz0 s a c
 |fq s es b o L hL hn ho hs h ih=>exact .fq s es b o L (hl _ _ hL) hn ho hs ih
 |fq0 s a=>exact .fq0 s a
 |fp k e b o L hL ho h ih=>exact .fp k e b o L (hl _ _ hL) ho ih
 |agg xs ys hs h ih=>exact .agg xs ys hs ih
 |tuple xs ys hs h ih=>exact .tuple xs ys hs ih
def zw (φ:Ren):List Value→List Value→Prop
 |[],[]=>True
 |x::xs,y::ys=>zr φ x y∧zw φ xs ys
 |_,_=>False
theorem zw.length {φ:Ren}:∀{xs ys:List Value},zw φ xs ys→xs.length=ys.length
 |[],[],_=>rfl
 |_::xs,_::ys,h=>by simp [zw.length h.2]
 |[],_::_,h=>h.elim
 |_::_,[],h=>h.elim
theorem zw.mono {φ φ':Ren} (hl:φ.le φ'):∀{xs ys:List Value},zw φ xs ys→zw φ' xs ys
 |[],[],_=>trivial
 |_::_,_::_,h=>⟨h.1.mono hl,zw.mono hl h.2⟩
 |[],_::_,h=>h.elim
 |_::_,[],h=>h.elim
theorem zw.get {φ:Ren}:∀{xs ys:List Value},zw φ xs ys→∀{i:Nat} {v:Value},xs[i]?=some v→∃v',ys[i]?=some v'∧zr φ v v'
 |[],[],_,i,v,h=>by simp at h
 |x::xs,y::ys,h,0,v,hv=>by simp at hv;subst hv;exact ⟨y,rfl,h.1⟩
 |x::xs,y::ys,h,i+1,v,hv=>by simp at hv ⊢;exact zw.get h.2 hv
 |[],_::_,h,_,_,_=>h.elim
 |_::_,[],h,_,_,_=>h.elim
theorem zw.of_get {φ:Ren}:∀{xs ys:List Value},xs.length=ys.length→(∀(i:Nat) v v',xs[i]?=some v→ys[i]?=some v'→zr φ v v')→zw φ xs ys
 |[],[],_,_=>trivial
 |x::xs,y::ys,hl,h=>⟨h 0 x y rfl rfl,zw.of_get (by simpa using hl) fun i v v' hv hv'=>h (i+1) v v' (by simpa using hv) (by simpa using hv')⟩
 |[],_::_,h,_=>by simp at h
 |_::_,[],h,_=>by simp at h
theorem zw.append {φ:Ren}:∀{xs ys zs us:List Value},zw φ xs ys→zw φ zs us→zw φ (xs++zs) (ys++us)
 |[],[],_,_,_,h=>h
 |_::_,_::_,_,_,h,k=>⟨h.1,zw.append h.2 k⟩
 |[],_::_,_,_,h,_=>h.elim
 |_::_,[],_,_,h,_=>h.elim
theorem zw.take {φ:Ren}:∀(n:Nat) {xs ys:List Value},zw φ xs ys→zw φ (xs.take n) (ys.take n)
 |0,_,_,_=>by simp [zw]
 |n+1,[],[],_=>by simp [zw]
 |n+1,_::_,_::_,h=>by simpa [zw] using ⟨h.1,zw.take n h.2⟩
 |n+1,[],_::_,h=>h.elim
 |n+1,_::_,[],h=>h.elim
theorem zw.drop {φ:Ren}:∀(n:Nat) {xs ys:List Value},zw φ xs ys→zw φ (xs.drop n) (ys.drop n)
 |0,_,_,h=>by simpa using h
 |n+1,[],[],_=>by simp [zw]
 |n+1,_::_,_::_,h=>by simpa using zw.drop n h.2
 |n+1,[],_::_,h=>h.elim
 |n+1,_::_,[],h=>h.elim
theorem zw.set {φ:Ren} {v v':Value} (hv:zr φ v v'):∀(n:Nat) {xs ys:List Value},zw φ xs ys→zw φ (xs.set n v) (ys.set n v')
 |_,[],[],_=>by simp [zw]
 |0,_::_,_::_,h=>by simpa [zw] using ⟨hv,h.2⟩
 |n+1,_::_,_::_,h=>by simpa [zw] using ⟨h.1,zw.set hv n h.2⟩
 |_,[],_::_,h=>h.elim
 |_,_::_,[],h=>h.elim
theorem zr.agg' {φ:Ren} {xs ys:Array Value} (h:zw φ xs.toList ys.toList):zr φ (.agg xs) (.agg ys):=by
 refine .agg _ _ (by simpa using h.length) fun i v v' hv hv'=>?_
 obtain ⟨u,hu,hr⟩:=h.get (i:=i) (v:=v) (by simpa using hv)
 have:u=v':=by simpa [hv'] using hu.symm
 exact this▸hr
theorem zr.tuple' {φ:Ren} {xs ys:Array Value} (h:zw φ xs.toList ys.toList):zr φ (.tuple xs) (.tuple ys):=by
 refine .tuple _ _ (by simpa using h.length) fun i v v' hv hv'=>?_
 obtain ⟨u,hu,hr⟩:=h.get (i:=i) (v:=v) (by simpa using hv)
 have:u=v':=by simpa [hv'] using hu.symm
 exact this▸hr
theorem zr.func' {φ:Ren} {fn fn':Fn} {xs ys zs us:Array Value} (hf:VJ φ fn fn') (h:zw φ xs.toList ys.toList) (k:zw φ zs.toList us.toList):zr φ (.func fn xs zs) (.func fn' ys us):=by
 refine .func _ _ _ _ _ _ hf (by simpa using h.length) (fun i v v' hv hv'=>?_) (by simpa using k.length) (fun i v v' hv hv'=>?_)
 ·obtain ⟨u,hu,hr⟩:=h.get (i:=i) (v:=v) (by simpa using hv)
  have:u=v':=by simpa [hv'] using hu.symm
  exact this▸hr
 ·obtain ⟨u,hu,hr⟩:=k.get (i:=i) (v:=v) (by simpa using hv)
  have:u=v':=by simpa [hv'] using hu.symm
  exact this▸hr
theorem zb3 {φ:Ren} {xs ys:Array Value} (hs:xs.size=ys.size) (h:∀(i:Nat) v v',xs[i]?=some v→ys[i]?=some v'→zr φ v v'):zw φ xs.toList ys.toList:=
 zw.of_get (by simpa using hs) fun i v v' hv hv'=>h i v v' (by simpa using hv) (by simpa using hv')
theorem zr.agg_inv {φ:Ren} {xs:Array Value} {v':Value} (h:zr φ (.agg xs) v'):∃ys,v'=.agg ys∧zw φ xs.toList ys.toList:=by
 cases h with
 |agg xs ys hs h=>exact ⟨ys,rfl,zb3 hs h⟩
theorem zr.tuple_inv {φ:Ren} {xs:Array Value} {v':Value} (h:zr φ (.tuple xs) v'):∃ys,v'=.tuple ys∧zw φ xs.toList ys.toList:=by
 cases h with
 |tuple xs ys hs h=>exact ⟨ys,rfl,zb3 hs h⟩
theorem zr.func_inv {φ:Ren} {fn:Fn} {xs zs:Array Value} {v':Value} (h:zr φ (.func fn xs zs) v') :
  ∃fn' ys us,v'=.func fn' ys us∧VJ φ fn fn'∧zw φ xs.toList ys.toList∧zw φ zs.toList us.toList:=by
 cases h with
 |func fn fn' xs ys zs us hf hs h hs' h'=>exact ⟨fn',ys,us,rfl,hf,zb3 hs h,zb3 hs' h'⟩
def av1:Value→Bool
 |.bool _ | .int _ _ | .float _ _ | .string _ | .pointer none | .slice none _ _ | .map none | .nilFunc | .nilIface=>true
 |_=>false
def avL:List Value→Bool
 |[]=>true
 |v::r=>av1 v&&avL r
def av:Value→Bool
 |.agg cs=>avL cs.toList
 |.tuple cs=>avL cs.toList
 |.func (.func _) a b=>a.toList.isEmpty&&b.toList.isEmpty
 |v=>av1 v
theorem zyA {φ:Ren} {v:Value} (h:av1 v=true):zr φ v v:=by
 cases v with
 |bool b=>exact .bool b
 |int k n=>exact .int k n
 |float k n=>exact .float k n
 |string s=>exact .str s
 |pointer a=>cases a with
  |none=>exact .ptrN
  |some a=>simp [av1] at h
 |slice a n c=>cases a with
  |none=>exact .slN n c
  |some a=>simp [av1] at h
 |map r=>cases r with
  |none=>exact .mapN
  |some r=>simp [av1] at h
 |nilFunc=>exact .nilFunc
 |nilIface=>exact .nilIface
 |_=>simp [av1] at h
theorem zbh {φ:Ren}:∀{xs:List Value},avL xs=true→zw φ xs xs
 |[],_=>trivial
 |x::xs,h=>by
  simp [avL] at h
  exact ⟨zyA h.1,zbh h.2⟩
theorem zgY {φ:Ren} {v:Value} (h:av v=true):zr φ v v:=by
 cases v with
 |agg cs=>exact .agg' (zbh h)
 |tuple cs=>exact .tuple' (zbh h)
 |func f a b=>
  cases f with
  |func f=>
   simp [av] at h
   obtain ⟨rfl,rfl⟩:=h
   exact .func' (.func f) (by simp [zw]) (by simp [zw])
  |_=>simp [av,av1] at h
 |_=>exact zyA (by simpa [av] using h)
theorem zAF {φ:Ren} {v v':Value} (h:av1 v=true) (hr:zr φ v v'):v'=v:=by
 cases hr<;>first | rfl | simp [av1] at h
theorem zkr {φ:Ren}:∀{xs ys:List Value},avL xs=true→zw φ xs ys→ys=xs
 |[],[],_,_=>rfl
 |x::xs,y::ys,h,hr=>by
  simp [avL] at h
  rw [zAF h.1 hr.1,zkr h.2 hr.2]
 |[],_::_,_,h=>h.elim
 |_::_,[],_,h=>h.elim
theorem zhW {φ:Ren} {v v':Value} (h:av v=true) (hr:zr φ v v'):v'=v:=by
 cases v with
 |agg cs=>
  obtain ⟨ys,rfl,hl⟩:=hr.agg_inv
  have:=zkr h hl
  rw [Array.toList_inj.1 this]
 |tuple cs=>
  obtain ⟨ys,rfl,hl⟩:=hr.tuple_inv
  have:=zkr h hl
  rw [Array.toList_inj.1 this]
 |func f a b=>
  cases f with
  |func f=>
   simp [av] at h
   obtain ⟨rfl,rfl⟩:=h
   obtain ⟨fn',ys,us,rfl,hf,h1,h2⟩:=hr.func_inv
   cases hf
   have h1:=h1.length
   have h2:=h2.length
   simp at h1 h2
   rw [Array.eq_empty_of_size_eq_zero h1.symm,Array.eq_empty_of_size_eq_zero h2.symm]
  |_=>simp [av,av1] at h
 |_=>exact zAF (by simpa [av] using h) hr
def junk:Value:=.complex .f32 0 0
theorem Vb {φ:Ren} {v':Value} (h:zr φ junk v'):False:=by cases h
def qI (φ:Ren) (tm:List Value) (ts:Array Value):Prop:=
 tm.length=ts.size∧∀(i:Nat) v,tm[i]?=some v→v=junk∨∃v',ts[i]?=some v'∧zr φ v v'
theorem qI.mono {φ φ':Ren} (hl:φ.le φ') {tm:List Value} {ts:Array Value} (h:qI φ tm ts):qI φ' tm ts:=
 ⟨h.1,fun i v hv=>(h.2 i v hv).imp id fun ⟨v',h1,h2⟩=>⟨v',h1,h2.mono hl⟩⟩
theorem qI.set {φ:Ren} {tm:List Value} {ts:Array Value} (h:qI φ tm ts) (i:Nat) {v v':Value} (hv:zr φ v v'):qI φ (tm.set i v) (ts.setIfInBounds i v'):=by
 refine ⟨by simp [h.1],fun j u hu=>?_⟩
 rw [List.getElem?_set] at hu
 by_cases hij:i=j
 ·subst hij
  simp at hu
  obtain ⟨hlt,rfl⟩:=hu
  exact .inr ⟨v',by rw [Array.getElem?_setIfInBounds];simp [←h.1,hlt],hv⟩
 ·simp [hij] at hu
  rcases h.2 j u hu with h0 | ⟨u',h1,h2⟩
  ·exact .inl h0
  ·exact .inr ⟨u',by rw [Array.getElem?_setIfInBounds];simp [hij,h1],h2⟩
inductive Blk where
 |cells (cs:List Value) (ro:Bool)
 |loop (l:Loop)
 |defd
 |hid
 |mp (es:List (Value×Value×Nat)) (clock:Nat)
 |iter (m:Nat) (clock:Nat)
 |fzc (cs:List Value)
def Blk.rw:Blk→Bool
 |.cells _ ro=>!ro
 |.hid=>false
 |.fzc _=>false
 |_=>true
abbrev Hp:=List (Nat×Blk)
def Hp.get (H:Hp) (n:Nat):Option Blk:=List.rec (motive:=fun _=>Option Blk) none (fun x _ ih=>bif Nat.beq x.1 n then some x.2 else ih) H
theorem Hp.get_nil (n:Nat):Hp.get [] n=none:=rfl
theorem Hp.get_cons (b:Nat) (k:Blk) (r:Hp) (n:Nat):Hp.get ((b,k)::r) n=if b == n then some k else Hp.get r n:=by
 show (bif Nat.beq b n then some k else Hp.get r n)=_
 cases h:Nat.beq b n with
 |true=>
  have:b=n:=Nat.eq_of_beq_eq_true h
  subst this
  simp
 |false=>
  have:b≠n:=Nat.ne_of_beq_eq_false h
  simp [this]
def Zp (φ:Ren):List (Value×Value×Nat)→List MapEntry→Prop
 |[],[]=>True
 |(k,v,b)::r,e::s=>e.key=k∧zr φ v e.val∧Zp φ r s
 |_,_=>False
theorem Zp.mono {φ φ':Ren} (hl:φ.le φ'):∀{es:List (Value×Value×Nat)} {xs:List MapEntry},Zp φ es xs→Zp φ' es xs
 |[],[],_=>trivial
 |(k,v,b)::r,e::s,h=>⟨h.1,h.2.1.mono hl,Zp.mono hl h.2.2⟩
 |[],_::_,h=>h.elim
 |(_,_,_)::_,[],h=>h.elim
def WB (φ:Ren) (es:List (Value×Value×Nat)) (xs:List MapEntry):Prop:=(∃ys,ys.Perm xs∧Zp φ es ys)∧(∃k,KS k xs)∧zvr xs
theorem WB.mono {φ φ':Ren} (hl:φ.le φ') {es:List (Value×Value×Nat)} {xs:List MapEntry} (h:WB φ es xs):WB φ' es xs:=by
 obtain ⟨⟨ys,h1,h2⟩,h3⟩:=h
 exact ⟨⟨ys,h1,h2.mono hl⟩,h3⟩
theorem WB.nil (φ:Ren):WB φ [] []:=⟨⟨[],.refl _,trivial⟩,⟨.i64,fun x hx=>by cases hx⟩,.nil⟩
def zks (cl:Nat) (xs:List MapEntry):Prop:=(∀x∈xs,x.born < cl)∧(xs.map (·.born)).Nodup
def jo (φ:Ren) (w:World) (L:Loc):Blk→Prop
 |.cells cs ro=>∃arr el fr,w.heap[L.blk]?=some (.cells arr el fr)∧(∀(j:Nat) v,cs[j]?=some v→∃v',arr[L.off+j]?=some v'∧zr φ v v')∧
   (ro=false→fr=(0,0)∧L.lim≤arr.size)
 |.loop l=>∃l':Loop,w.heap[L.blk]?=some (.loop l')∧l'.state=l.state∧l'.pending=l.pending∧qI φ l.tmps.toList l'.tmps∧l'.params=l.params∧l'.assign=l.assign∧l'.body=l.body∧
   ∃D,φ l.defers=some D∧l'.defers=D.blk
 |.defd=>w.heap[L.blk]?=some (.deferred (some []))
 |.hid=>∃o,w.heap[L.blk]?=some o
 |.mp es cl=>∃(es':Array MapEntry),w.heap[L.blk]?=some (.map es' cl)∧WB φ es es'.toList∧zks cl es'.toList
 |.iter m cl=>∃M,φ m=some M∧L.off=0∧w.heap[L.blk]?=some (.mapIter (some M.blk) cl #[] cl)
 |.fzc cs=>(∃o,w.heap[L.blk]?=some o)∧∃M,φ (FZ+L.blk)=some M∧∀(j:Nat) v,cs[j]?=some v→∃v',M.arr[L.off+j]?=some v'∧zr φ v v'
def zoa (w:World) (b:Nat) (L:Loc):Prop:=L.blk=b∧L.off=0∧∃a el fr,w.heap[b]?=some (.cells a el fr)∧∀(j:Nat) u,L.arr[j]?=some u→a[j]?=some u
structure zF (φ:Ren) (H:Hp) (K:Nat→Prop) (w:World):Prop where
 rel:∀b k,H.get b=some k→∃L,φ b=some L∧jo φ w L k
 sep:∀b c k k' L L',H.get b=some k→H.get c=some k'→b≠c→k.rw=true→φ b=some L→φ c=some L'→L.blk≠L'.blk
 prot:∀b k L,H.get b=some k→k.rw=true→φ b=some L→¬K L.blk
 kin:∀c,K c→c < w.heap.size
 fz:∀b L,φ (FZ+b)=some L→zoa w b L
 fsep:∀b k L c M,H.get b=some k→k.rw=true→φ b=some L→φ (FZ+c)=some M→L.blk≠c
structure qw (K:Nat→Prop) (w w':World):Prop where
 os:w'.os=w.os
 tape:w'.tape=w.tape
 output:w'.output=w.output
 size:w.heap.size≤w'.heap.size
 kept:∀c,K c→w'.heap[c]?=w.heap[c]?
theorem qw.refl (K:Nat→Prop) (w:World):qw K w w:=⟨rfl,rfl,rfl,Nat.le_refl _,fun _ _=>rfl⟩
theorem qw.trans {K:Nat→Prop} {a b c:World} (h:qw K a b) (k:qw K b c):qw K a c:=
 ⟨k.os.trans h.os,k.tape.trans h.tape,k.output.trans h.output,Nat.le_trans h.size k.size,fun i hi=>(k.kept i hi).trans (h.kept i hi)⟩
def yX (φ:Ren) (lo hi:Nat):Prop:=hi≤FZ∧∀b,lo≤b→b < hi→φ b=none
def Ext (K:Nat→Prop) (φ φ':Ren) (lo hi:Nat):Prop:=
 φ.le φ'∧(∀b,b < FZ→(b < lo∨hi≤b)→φ' b=φ b)∧∀b L,φ' (FZ+b)=some L→φ (FZ+b)=some L∨¬K b
theorem Ext.refl (K:Nat→Prop) (φ:Ren) (lo hi:Nat):Ext K φ φ lo hi:=⟨Ren.le_refl φ,fun _ _ _=>rfl,fun _ _ h=>.inl h⟩
theorem Ext.trans {K:Nat→Prop} {φ φ' φ'':Ren} {lo mi hi:Nat} (h:Ext K φ φ' lo mi) (k:Ext K φ' φ'' mi hi) (h1:lo≤mi) (h2:mi≤hi):Ext K φ φ'' lo hi:=
 ⟨Ren.le_trans h.1 k.1,fun b hz hb=>by rw [k.2.1 b hz (by omega),h.2.1 b hz (by omega)],fun b L hL=>by
  rcases k.2.2 b L hL with h3 | h3
  ·exact h.2.2 b L h3
  ·exact .inr h3⟩
theorem Ext.weak {K K':Nat→Prop} {φ φ':Ren} {lo hi:Nat} (h:Ext K φ φ' lo hi) (hK:∀b,K' b→K b):Ext K' φ φ' lo hi:=
 ⟨h.1,h.2.1,fun b L hL=>(h.2.2 b L hL).imp id fun h3 h4=>h3 (hK b h4)⟩
theorem Ext.wide {K:Nat→Prop} {φ φ':Ren} {lo hi lo' hi':Nat} (h:Ext K φ φ' lo hi) (h1:lo'≤lo) (h2:hi≤hi'):Ext K φ φ' lo' hi':=
 ⟨h.1,fun b hz hb=>h.2.1 b hz (by omega),h.2.2⟩
theorem Ext.comp {K:Nat→Prop} {φ φ' φ'':Ren} {lo hi:Nat} (h:Ext K φ φ' lo hi) (k:Ext K φ' φ'' lo hi):Ext K φ φ'' lo hi:=
 ⟨Ren.le_trans h.1 k.1,fun b hz hb=>by rw [k.2.1 b hz hb,h.2.1 b hz hb],fun b L hL=>by
  rcases k.2.2 b L hL with h3 | h3
  ·exact h.2.2 b L h3
  ·exact .inr h3⟩
theorem yX.left {φ:Ren} {lo mi hi:Nat} (h:yX φ lo hi) (h2:mi≤hi):yX φ lo mi:=⟨Nat.le_trans h2 h.1,fun b h3 h4=>h.2 b h3 (by omega)⟩
theorem yX.right {K:Nat→Prop} {φ φ':Ren} {lo mi hi:Nat} (h:yX φ lo hi) (he:Ext K φ φ' lo mi) (h1:lo≤mi):yX φ' mi hi:=⟨h.1,fun b h3 h4=>by
 rw [he.2.1 b (Nat.lt_of_lt_of_le h4 h.1) (.inr h3)];exact h.2 b (by omega) h4⟩
theorem yX.at {φ:Ren} {lo hi:Nat} (h:yX φ lo hi) {b:Nat} (h1:lo≤b) (h2:b < hi):φ b=none∧b < FZ:=⟨h.2 b h1 h2,Nat.lt_of_lt_of_le h2 h.1⟩
theorem zr.one {φ:Ren} {v v':Value} (h:zr φ v v'):v'.oneCell'=v.oneCell':=by cases h<;>rfl
def Wc:List Value→Bool
 |[]=>true
 |v::r=>v.oneCell'&&Wc r
theorem zob {φ:Ren}:∀{vs us:List Value},Wc vs=true→zw φ vs us→∀u∈us,u.oneCell'=true
 |[],[],_,_,_,h=>by simp at h
 |v::vs,u::us,h,hr,x,hx=>by
  simp [Wc] at h
  rcases List.mem_cons.1 hx with rfl | hx
  ·rw [hr.1.one];exact h.1
  ·exact zob h.2 hr.2 x hx
 |[],_::_,_,h,_,_=>h.elim
 |_::_,[],_,h,_,_=>h.elim
def Hp.set:Hp→Nat→Blk→Hp
 |[],_,_=>[]
 |(b,k)::r,n,x=>if b == n then (b,x)::r else (b,k)::Hp.set r n x
def Hp.del:Hp→Nat→Hp
 |[],_=>[]
 |(b,k)::r,n=>if b == n then Hp.del r n else (b,k)::Hp.del r n
theorem Hp.get_set (n:Nat) (x:Blk) (m:Nat):∀H:Hp,(H.set n x).get m=if m=n then (H.get n).map (fun _=>x) else H.get m
 |[]=>by simp [Hp.set,Hp.get_nil]
 |(b,k)::r=>by
  have ih:=Hp.get_set n x m r
  by_cases hb:b=n
  ·subst hb
   by_cases hm:m=b
   ·subst hm;simp [Hp.set,Hp.get_cons]
   ·have:¬b=m:=fun h=>hm h.symm
    simp [Hp.set,Hp.get_cons,hm,this]
  ·by_cases hm:m=n
   ·subst hm;simp [Hp.set,Hp.get_cons,hb,ih]
   ·by_cases hbm:b=m
    ·simp [Hp.set,Hp.get_cons,hm,hbm]
    ·simp [Hp.set,Hp.get_cons,hb,hm,hbm,ih]
theorem Hp.get_del (n m:Nat):∀H:Hp,(H.del n).get m=if m=n then none else H.get m
 |[]=>by simp [Hp.del,Hp.get_nil]
 |(b,k)::r=>by
  have ih:=Hp.get_del n m r
  by_cases hb:b=n
  ·subst hb
   by_cases hm:m=b
   ·subst hm;simp [Hp.del,ih]
   ·have:¬b=m:=fun h=>hm h.symm
    simp [Hp.del,Hp.get_cons,hm,this,ih]
  ·by_cases hm:m=n
   ·subst hm;simp [Hp.del,Hp.get_cons,hb,ih]
   ·by_cases hbm:b=m
    ·simp [Hp.del,Hp.get_cons,hm,hbm]
    ·simp [Hp.del,Hp.get_cons,hb,hm,hbm,ih]
theorem jo.congr {φ:Ren} {w w':World} {L:Loc} {k:Blk} (h:w'.heap[L.blk]?=w.heap[L.blk]?) (hb:jo φ w L k):jo φ w' L k:=by
 cases k<;>simpa only [jo,h] using hb
theorem jo.mono {φ φ':Ren} (hl:φ.le φ') {w:World} {L:Loc} {k:Blk} (hb:jo φ w L k):jo φ' w L k:=by
 cases k with
 |cells cs ro=>
  obtain ⟨arr,el,fr,h1,h2,h3⟩:=hb
  exact ⟨arr,el,fr,h1,fun j v hv=>let ⟨v',a,b⟩:=h2 j v hv;⟨v',a,b.mono hl⟩,h3⟩
 |loop l=>
  obtain ⟨l',h1,h2,h3,h4,h5,h6,h7,D,h8,h9⟩:=hb
  exact ⟨l',h1,h2,h3,h4.mono hl,h5,h6,h7,D,hl _ _ h8,h9⟩
 |defd=>exact hb
 |hid=>exact hb
 |mp es cl=>
  obtain ⟨es',h1,h2,h3⟩:=hb
  exact ⟨es',h1,h2.mono hl,h3⟩
 |iter m cl=>
  obtain ⟨M,h1,h0,h2⟩:=hb
  exact ⟨M,hl _ _ h1,h0,h2⟩
 |fzc cs=>
  obtain ⟨h0,M,h1,h2⟩:=hb
  exact ⟨h0,M,hl _ _ h1,fun j v hv=>let ⟨v',a,b⟩:=h2 j v hv;⟨v',a,b.mono hl⟩⟩
theorem jo.lt {φ:Ren} {w:World} {L:Loc} {k:Blk} (hb:jo φ w L k):L.blk < w.heap.size:=by
 have:∃o,w.heap[L.blk]?=some o:=by
  cases k with
  |cells cs ro=>obtain ⟨arr,el,fr,h1,_⟩:=hb;exact ⟨_,h1⟩
  |loop l=>obtain ⟨l',h1,_⟩:=hb;exact ⟨_,h1⟩
  |defd=>exact ⟨_,hb⟩
  |hid=>exact hb
  |mp es cl=>obtain ⟨es',h1,_⟩:=hb;exact ⟨_,h1⟩
  |iter m cl=>obtain ⟨M,h1,_,h2⟩:=hb;exact ⟨_,h2⟩
  |fzc cs=>exact hb.1
 obtain ⟨o,ho⟩:=this
 exact (Array.getElem?_eq_some_iff.1 ho).1
def Ren.put (φ:Ren) (n:Nat) (L:Loc):Ren:=fun b=>if b=n then some L else φ b
theorem Ren.put_same (φ:Ren) (n:Nat) (L:Loc):φ.put n L n=some L:=by simp [Ren.put]
theorem Ren.put_other (φ:Ren) {n b:Nat} (L:Loc) (h:b≠n):φ.put n L b=φ b:=by simp [Ren.put,h]
theorem Ren.put_le {φ:Ren} {n:Nat} (h:φ n=none) (L:Loc):φ.le (φ.put n L):=fun b M hb=>by
 by_cases hn:b=n
 ·subst hn;rw [h] at hb;cases hb
 ·rw [Ren.put_other φ L hn];exact hb
theorem Ext.put {K:Nat→Prop} {φ:Ren} {n:Nat} (h:φ n=none) (hz:n < FZ) (L:Loc):Ext K φ (φ.put n L) n (n+1):=
 ⟨Ren.put_le h L,fun b _ hb=>Ren.put_other φ L (by omega),fun b M hM=>.inl (by rwa [Ren.put_other φ L (by omega)] at hM)⟩
section
variable {φ:Ren} {H:Hp} {K:Nat→Prop} {w w':World}
theorem zF.named (g:zF φ H K w) {b:Nat} {k:Blk} (h:H.get b=some k):∃L,φ b=some L:=let ⟨L,h1,_⟩:=g.rel b k h;⟨L,h1⟩
theorem zF.absent (g:zF φ H K w) {n:Nat} (h:φ n=none):H.get n=none:=by
 cases hk:H.get n with
 |none=>rfl
 |some k=>obtain ⟨L,hL,_⟩:=g.rel n k hk;rw [h] at hL;cases hL
theorem zF.at (g:zF φ H K w) {b:Nat} {k:Blk} {L:Loc} (h:H.get b=some k) (hL:φ b=some L):jo φ w L k:=by
 obtain ⟨L',h1,h2⟩:=g.rel b k h
 rw [hL] at h1;cases h1;exact h2
theorem zF.sub (g:zF φ H K w) {H':Hp} (h:∀b k,H'.get b=some k→H.get b=some k):zF φ H' K w:=
 ⟨fun b k hb=>g.rel b k (h b k hb),fun b c k k' L L' hb hc=>g.sep b c k k' L L' (h b k hb) (h c k' hc),fun b k L hb=>g.prot b k L (h b k hb),g.kin,g.fz,fun b k L c M hb=>g.fsep b k L c M (h b k hb)⟩
theorem zoa.congr {b:Nat} {L:Loc} (h:zoa w b L) (hw:w'.heap[b]?=w.heap[b]?):zoa w' b L:=by
 obtain ⟨h1,h2,a,el,fr,h3,h4⟩:=h
 exact ⟨h1,h2,a,el,fr,by rw [hw];exact h3,h4⟩
theorem zoa.lt {b:Nat} {L:Loc} (h:zoa w b L):b < w.heap.size:=by
 obtain ⟨h1,h2,a,el,fr,h3,h4⟩:=h
 exact (Array.getElem?_eq_some_iff.1 h3).1
theorem zF.upd (g:zF φ H K w) {b:Nat} {k k':Blk} {L:Loc} (hb:H.get b=some k) (hrw:k.rw=true) (hL:φ b=some L)
  (hw:∀c,c≠L.blk→w'.heap[c]?=w.heap[c]?) (hsz:w'.heap.size=w.heap.size) (hk':jo φ w' L k'):zF φ (H.set b k') K w':=by
 refine ⟨fun c x hx=>?_,fun c d x y M N hc hd hne hx hM hN=>?_,fun c x M hc hx hM=>?_,fun c hc=>by rw [hsz];exact g.kin c hc,fun c M hM=>(g.fz c M hM).congr (hw c fun e=>g.fsep b k L c M hb hrw hL hM e.symm),fun c x M d N hc hx hM=>?_⟩
 ·rw [Hp.get_set] at hx
  by_cases h:c=b
  ·subst h;simp [hb] at hx;subst hx;exact ⟨L,hL,hk'⟩
  ·simp [h] at hx
   obtain ⟨M,hM,hr⟩:=g.rel c x hx
   exact ⟨M,hM,hr.congr (hw _ (fun e=>g.sep b c k x L M hb hx (fun e=>h e.symm) hrw hL hM e.symm))⟩
 ·rw [Hp.get_set] at hc hd
  by_cases h:c=b
  ·subst h
   have h':¬d=c:=fun e=>hne e.symm
   simp [h'] at hd
   exact g.sep c d k y M N hb hd hne hrw hM hN
  ·simp [h] at hc
   by_cases h':d=b
   ·subst h'
    exact fun e=>g.sep d c k x N M hb hc (fun e=>h e.symm) hrw hN hM e.symm
   ·simp [h'] at hd
    exact g.sep c d x y M N hc hd hne hx hM hN
 ·rw [Hp.get_set] at hc
  by_cases h:c=b
  ·subst h;exact g.prot c k M hb hrw hM
  ·simp [h] at hc;exact g.prot c x M hc hx hM
 ·rw [Hp.get_set] at hc
  by_cases h:c=b
  ·subst h;exact g.fsep c k M d N hb hrw hM
  ·simp [h] at hc;exact g.fsep c x M d N hc hx hM
theorem zF.new (g:zF φ H K w) {n:Nat} (hn:φ n=none) (hz:n < FZ) (o:Obj) {L:Loc} (hL:L.blk=w.heap.size) {k:Blk} (hk:jo (φ.put n L) (w.alloc o) L k) :
  zF (φ.put n L) ((n,k)::H) K (w.alloc o):=by
 have hle:=Ren.put_le hn L
 have hHn:=g.absent hn
 have hold:∀c,c < w.heap.size→(w.alloc o).heap[c]?=w.heap[c]?:=fun c hc=>Go.RowKit.Below.heap_alloc w o c hc
 have get:∀b,Hp.get ((n,k)::H) b=if b=n then some k else H.get b:=fun b=>by
  by_cases h:b=n
  ·subst h;simp [Hp.get_cons]
  ·have:¬n=b:=fun e=>h e.symm
   simp [Hp.get_cons,h,this]
 refine ⟨fun b x hx=>?_,fun c d x y M N hc hd hne hx hM hN=>?_,fun c x M hc hx hM hK=>?_,fun c hc=>by simp;exact Nat.lt_succ_of_lt (g.kin c hc),fun c M hM=>?_,fun c x M d N hc hx hM hN=>?_⟩
 ·rw [get] at hx
  by_cases h:b=n
  ·subst h;simp at hx;subst hx;exact ⟨L,Ren.put_same φ b L,hk⟩
  ·simp [h] at hx
   obtain ⟨M,hM,hr⟩:=g.rel b x hx
   exact ⟨M,by rw [Ren.put_other φ L h];exact hM,(hr.congr (hold _ hr.lt)).mono hle⟩
 ·rw [get] at hc hd
  by_cases h:c=n
  ·subst h
   have h':¬d=c:=fun e=>hne e.symm
   simp [h'] at hd
   rw [Ren.put_same] at hM;cases hM
   rw [Ren.put_other φ L h'] at hN
   obtain ⟨N',hN',hr⟩:=g.rel d y hd
   rw [hN] at hN';cases hN'
   have:=hr.lt
   omega
  ·simp [h] at hc
   rw [Ren.put_other φ L h] at hM
   by_cases h':d=n
   ·subst h'
    rw [Ren.put_same] at hN;cases hN
    obtain ⟨M',hM',hr⟩:=g.rel c x hc
    rw [hM] at hM';cases hM'
    have:=hr.lt
    omega
   ·simp [h'] at hd
    rw [Ren.put_other φ L h'] at hN
    exact g.sep c d x y M N hc hd hne hx hM hN
 ·rw [get] at hc
  by_cases h:c=n
  ·subst h
   rw [Ren.put_same] at hM;cases hM
   have:=g.kin _ hK
   omega
  ·simp [h] at hc
   rw [Ren.put_other φ L h] at hM
   exact g.prot c x M hc hx hM hK
 ·rw [Ren.put_other φ L (by omega)] at hM
  have:=g.fz c M hM
  exact this.congr (hold c this.lt)
 ·rw [Ren.put_other φ L (by omega)] at hN
  rw [get] at hc
  by_cases h:c=n
  ·subst h
   rw [Ren.put_same] at hM;cases hM
   have:=(g.fz d N hN).lt
   omega
  ·simp [h] at hc
   rw [Ren.put_other φ L h] at hM
   exact g.fsep c x M d N hc hx hM hN
theorem qw.alloc (g:zF φ H K w) (o:Obj):qw K w (w.alloc o):=
 ⟨rfl,rfl,rfl,by simp,fun c hc=>Go.RowKit.Below.heap_alloc w o c (g.kin c hc)⟩
theorem zF.drew (g:zF φ H K w):zF φ H K w.drew:=
 ⟨fun b k h=>let ⟨L,h1,h2⟩:=g.rel b k h;⟨L,h1,h2.congr rfl⟩,g.sep,g.prot,g.kin,fun b L h=>(g.fz b L h).congr rfl,g.fsep⟩
theorem qw.drew (K:Nat→Prop) (w:World):qw K w w.drew:=⟨rfl,rfl,rfl,Nat.le_refl _,fun _ _=>rfl⟩
theorem zF.read (g:zF φ H K w) {b:Nat} {cs:List Value} {ro:Bool} {L:Loc} (hb:H.get b=some (.cells cs ro)) (hL:φ b=some L) (o n:Nat) (hn:o+n≤cs.length) :
  ∃us,us.length=n∧(∀(j:Nat) v,us[j]?=some v→w.cell? ⟨L.blk,L.off+o+j,none⟩=some v)∧zw φ ((cs.drop o).take n) us:=by
 obtain ⟨arr,el,fr,h1,h2,h3⟩:=g.at hb hL
 have hcell:∀i,w.cell? ⟨L.blk,i,none⟩=arr[i]?:=fun i=>by simp [World.cell?,h1]
 refine ⟨((arr.toList.drop (L.off+o)).take n),?_,?_,?_⟩
 ·have hlen:∀j,j < n→L.off+(o+j) < arr.size:=fun j hj=>by
   obtain ⟨v',hv',_⟩:=h2 (o+j) (cs[o+j]'(by omega)) (by simp)
   exact (Array.getElem?_eq_some_iff.1 hv').1
  simp
  cases n with
  |zero=>simp
  |succ m=>have:=hlen m (by omega);omega
 ·intro j v hv
  rw [hcell]
  rw [List.getElem?_take] at hv
  split at hv
  ·simpa [List.getElem?_drop,Nat.add_assoc] using hv
  ·cases hv
 ·refine zw.of_get ?_ ?_
  ·have hlen:∀j,j < n→L.off+(o+j) < arr.size:=fun j hj=>by
    obtain ⟨v',hv',_⟩:=h2 (o+j) (cs[o+j]'(by omega)) (by simp)
    exact (Array.getElem?_eq_some_iff.1 hv').1
   simp
   cases n with
   |zero=>simp
   |succ m=>have:=hlen m (by omega);omega
  ·intro j v v' hv hv'
   rw [List.getElem?_take] at hv hv'
   by_cases hj:j < n
   ·simp [hj,List.getElem?_drop] at hv hv'
    obtain ⟨u,hu,hr⟩:=h2 (o+j) v hv
    rw [←Nat.add_assoc,hv'] at hu
    cases hu;exact hr
   ·simp [hj] at hv
def spl (cs:List Value) (o:Nat) (vs:List Value):List Value:=cs.take o++vs++cs.drop (o+vs.length)
theorem zef (cs:List Value) (o:Nat) (vs:List Value) (h:o+vs.length≤cs.length) (j:Nat) :
  (spl cs o vs)[j]?=if j < o then cs[j]? else if j < o+vs.length then vs[j - o]? else cs[j]?:=by
 unfold spl
 have hmin:min o cs.length=o:=by omega
 by_cases h1:j < o
 ·rw [List.append_assoc,List.getElem?_append_left (by simp [hmin];exact h1)]
  simp [h1]
 ·by_cases h2:j < o+vs.length
  ·rw [List.append_assoc,List.getElem?_append_right (by simp [hmin];omega),List.getElem?_append_left (by simp [hmin];omega)]
   simp [h1,h2,hmin]
  ·rw [List.getElem?_append_right (by simp [hmin];omega)]
   simp [h1,h2,hmin,List.getElem?_drop]
   congr 1;omega
theorem zzi (cs:List Value) (o:Nat) (vs:List Value) (h:o+vs.length≤cs.length):(spl cs o vs).length=cs.length:=by
 simp [spl];omega
theorem Vc (w:World) (g:Nat) (c:Array Value) (k:Nat) (h:k≠g):(w.setRow g c).heap[k]?=w.heap[k]?:=by
 unfold World.setRow
 simp only [Array.getElem?_modify]
 rw [if_neg (fun e=>h e.symm)]
theorem zb4 (w:World) (g:Nat) (c:Array Value):(w.setRow g c).heap.size=w.heap.size:=by
 unfold World.setRow;simp
theorem zF.write (P:Program) (g:zF φ H K w) {b:Nat} {cs:List Value} {L:Loc} (hb:H.get b=some (.cells cs false)) (hL:φ b=some L) {vs us:List Value} (o:Nat)
  (hn:o+vs.length≤cs.length) (h1:Wc vs=true) (hr:zw φ vs us) (hne:vs≠[]) :
  ∃w',(storeCells ⟨L.blk,L.off+o,none⟩ us).run P w=.ok () w'∧zF φ (H.set b (.cells (spl cs o vs) false)) K w'∧qw K w w':=by
 obtain ⟨arr,el,fr,h2,h3,h4⟩:=g.at hb hL
 obtain ⟨rfl,hlim⟩:=h4 rfl
 have hl:=hr.length
 have hpos:0 < vs.length:=List.length_pos_iff.2 hne
 have hsz:L.off+cs.length≤arr.size:=by
  obtain ⟨v',hv',_⟩:=h3 (cs.length - 1) (cs[cs.length - 1]'(by omega)) (by simp)
  have:=(Array.getElem?_eq_some_iff.1 hv').1
  omega
 have hst:=run_storeCells_at P L.blk (L.off+o) el us 0 arr w h2 (by omega) (zob h1 hr)
 refine ⟨_,hst,g.upd hb rfl hL (fun c hc=>Vc w L.blk _ c hc) (zb4 w L.blk _) ?_,?_⟩
 ·refine ⟨_,el,(0,0),setRow_heap w L.blk arr _ el _ h2,fun j v hv=>?_,fun _=>⟨rfl,by simp;omega⟩⟩
  have e:=zef arr.toList (L.off+o) us (by simp;omega) (L.off+j)
  simp only [Nat.add_zero]
  change ∃v',(spl arr.toList (L.off+o) us).toArray[L.off+j]?=some v'∧zr φ v v'
  rw [List.getElem?_toArray,e]
  rw [zef cs o vs hn] at hv
  by_cases hj:j < o
  ·simp [hj] at hv ⊢
   exact h3 j v hv
  ·by_cases hj2:j < o+vs.length
   ·simp [hj,hj2] at hv
    obtain ⟨u,hu,hru⟩:=hr.get hv
    have h5:¬L.off+j < L.off+o:=by omega
    have h6:L.off+j < L.off+o+us.length:=by omega
    have h7:L.off+j - (L.off+o)=j - o:=by omega
    simp only [h5,h6,h7,if_true,if_false]
    exact ⟨u,hu,hru⟩
   ·simp [hj,hj2] at hv
    have h5:¬L.off+j < L.off+o:=by omega
    have h6:¬L.off+j < L.off+o+us.length:=by omega
    simp only [h5,h6,if_false]
    obtain ⟨u,hu,hru⟩:=h3 j v hv
    exact ⟨u,by simpa using hu,hru⟩
 ·exact ⟨rfl,rfl,rfl,Nat.le_of_eq (zb4 w L.blk _).symm,fun c hc=>Vc w L.blk _ c (fun e=>g.prot b _ L hb rfl hL (e▸hc))⟩
theorem zF.make (g:zF φ H K w) {n:Nat} (hn:φ n=none) (hz:n < FZ) {cs us:List Value} (hr:zw φ cs us) (t:TypeId) (lim:Nat) (us':List Value) (hlim:lim≤us.length+us'.length) :
  zF (φ.put n ⟨w.heap.size,0,lim,#[]⟩) ((n,.cells cs false)::H) K (w.alloc (.cells (us++us').toArray t)):=by
 refine g.new hn hz _ (L:=⟨w.heap.size,0,lim,#[]⟩) rfl ⟨(us++us').toArray,t,(0,0),?_,?_,?_⟩
 ·show (w.heap.push _)[w.heap.size]?=_
  simp
 ·intro j v hv
  obtain ⟨u,hu,hru⟩:=hr.get hv
  refine ⟨u,?_,hru.mono (Ren.put_le hn _)⟩
  have hj:j < us.length:=(List.getElem?_eq_some_iff.1 hu).1
  simp [List.getElem?_append_left hj,hu]
 ·intro _;exact ⟨rfl,by simpa using hlim⟩
end
end Go.Fz
namespace Go.Fz
variable {P:Program} {φ:Ren} {H:Hp} {K:Nat→Prop} {w:World}
def lg (l:List Value) (i:Nat):Option Value:=List.rec (motive:=fun _=>Nat→Option Value) (fun _=>none) (fun x _ ih i=>Nat.rec (motive:=fun _=>Option Value) (some x) (fun m _=>ih m) i) l i
theorem zdO:∀(l:List Value) (i:Nat),lg l i=l[i]?
 |[],_=>by simp [lg]
 |x::l,0=>rfl
 |x::l,i+1=>by
  show lg l i=_
  rw [zdO l i];simp
def opv (tm:List Value):Operand→Option Value
 |.tmp t=>match lg tm t with
  |some (.complex _ _ _)=>none
  |v=>v
 |.const v=>if av v then some v else none
 |.func f=>some (.func (.func f) #[] #[])
 |.global _=>none
theorem qb {tm:List Value} {a:Act} (h:qI φ tm a.tmps) {x:Operand} {v:Value} (hx:opv tm x=some v):zr φ v (a.eval x):=by
 cases x with
 |tmp t=>
  simp only [opv,zdO] at hx
  cases ht:tm[t]? with
  |none=>simp [ht] at hx
  |some u=>
   rw [ht] at hx
   have hu:u=v:=by
    cases u<;>simp at hx<;>exact hx
   subst hu
   rcases h.2 t u ht with rfl | ⟨v',h1,h2⟩
   ·simp [junk] at hx
   ·simp only [Act.eval,Array.getD_eq_getD_getElem?,h1];exact h2
 |const c=>
  simp only [opv] at hx
  split at hx
  ·cases hx;exact zgY (by assumption)
  ·cases hx
 |func f=>simp only [opv] at hx;cases hx;exact .func' (.func f) (by simp [zw]) (by simp [zw])
 |global g=>simp [opv] at hx
def qd (P:Program) {α:Type}:Sem α→Option α
 |.pure a=>some a
 |.program k=>qd P (k P)
 |.mark _ k=>qd P k
 |_=>none
theorem zkt {α:Type} (s:Sem α):∀{a:α} (w:World),qd P s=some a→s.run P w=.ok a w:=by
 induction s with
 |pure b=>intro a w h;simp [qd] at h;subst h;rfl
 |program k ih=>intro a w h;simp [qd] at h;simpa [Sem.run] using ih P w h
 |mark m k ih=>intro a w h;simp [qd] at h;simpa [Sem.run] using ih w h
 |_=>intro a w h;simp [qd] at h
def sc (P:Program) (s:Sem Value):Option Value:=
 match qd P s with
 |some v=>if av v then some v else none
 |none=>none
theorem zci {s:Sem Value} {v:Value} (h:sc P s=some v) (w:World):s.run P w=.ok v w∧zr φ v v:=by
 unfold sc at h
 split at h
 ·rename_i u hu
  split at h
  ·cases h;exact ⟨zkt s w hu,zgY (by assumption)⟩
  ·cases h
 ·cases h
def zdP:Value→Value→Option Bool
 |.slice (some _) _ _,.slice none _ _=>some false
 |.slice none _ _,.slice (some _) _ _=>some false
 |.func ..,.nilFunc=>some false
 |.nilFunc,.func ..=>some false
 |.pointer (some _),.pointer none=>some false
 |.pointer none,.pointer (some _)=>some false
 |.map (some _),.map none=>some false
 |.map none,.map (some _)=>some false
 |_,_=>none
def Wd:IntKind→IntKind→Bool
 |.i64,.i64=>true
 |.u64,.u64=>true
 |.i32,.i32=>true
 |.u32,.u32=>true
 |.i16,.i16=>true
 |.u16,.u16=>true
 |.i8,.i8=>true
 |.u8,.u8=>true
 |_,_=>false
theorem Jh {a b:IntKind} (h:Wd a b=true):a=b:=by cases a<;>cases b<;>first | rfl | cases h
def zi:Int→Int→Bool
 |.ofNat a,.ofNat b=>Nat.blt a b
 |.ofNat _,.negSucc _=>false
 |.negSucc _,.ofNat _=>true
 |.negSucc a,.negSucc b=>Nat.blt b a
theorem zeg (a b:Nat):Nat.blt a b=decide (a < b):=by
 rw [Bool.eq_iff_iff,decide_eq_true_eq]
 unfold Nat.blt
 rw [Nat.ble_eq];exact Iff.rfl
theorem xb (x y:Int):zi x y=decide (x < y):=by
 cases x with
 |ofNat a=>cases y with
  |ofNat b=>
   show Nat.blt a b=_
   rw [zeg,Bool.eq_iff_iff,decide_eq_true_eq,decide_eq_true_eq]
   exact Int.ofNat_lt.symm
  |negSucc b=>
   show false=_
   symm;rw [decide_eq_false_iff_not]
   have:Int.negSucc b < 0:=Int.negSucc_lt_zero b
   have h2:(0:Int)≤Int.ofNat a:=Int.natCast_nonneg a
   omega
 |negSucc a=>cases y with
  |ofNat b=>
   show true=_
   symm;rw [decide_eq_true_eq]
   have:Int.negSucc a < 0:=Int.negSucc_lt_zero a
   have h2:(0:Int)≤Int.ofNat b:=Int.natCast_nonneg b
   omega
  |negSucc b=>
   show Nat.blt b a=_
   rw [zeg,Bool.eq_iff_iff,decide_eq_true_eq,decide_eq_true_eq,Int.negSucc_eq,Int.negSucc_eq]
   omega
def zo:Int→Int→Bool
 |.ofNat a,.ofNat b=>Nat.beq a b
 |.negSucc a,.negSucc b=>Nat.beq a b
 |_,_=>false
theorem ju (x y:Int):zo x y=(x == y):=by
 rw [Bool.eq_iff_iff,beq_iff_eq]
 cases x with
 |ofNat a=>cases y with
  |ofNat b=>
   show Nat.beq a b=true↔_
   rw [Nat.beq_eq]
   exact ⟨fun h=>by rw [h],fun h=>Int.ofNat.inj h⟩
  |negSucc b=>exact ⟨(fun h=>by cases h),(fun h=>by cases h)⟩
 |negSucc a=>cases y with
  |ofNat b=>exact ⟨(fun h=>by cases h),(fun h=>by cases h)⟩
  |negSucc b=>
   show Nat.beq a b=true↔_
   rw [Nat.beq_eq]
   exact ⟨fun h=>by rw [h],fun h=>Int.negSucc.inj h⟩
def wrF (k:IntKind) (z:Int):Int:=match k,z with
 |.i64,.ofNat m=>bif Nat.blt m 9223372036854775808 then .ofNat m else IntKind.i64.wrap (.ofNat m)
 |k,z=>k.wrap z
theorem Kz (k:IntKind) (z:Int):wrF k z=k.wrap z:=by
 unfold wrF
 split
 ·rename_i m
  cases h:Nat.blt m 9223372036854775808 with
  |false=>rfl
  |true=>
   rw [zeg,decide_eq_true_eq] at h
   show Int.ofNat m=_
   have:(Int.ofNat m)=(m:Int):=rfl
   rw [this]
   simp only [IntKind.wrap,IntKind.signed,IntKind.bits]
   simp
   omega
 ·rfl
def Km (op:BinOp) (a b:Value):Option Value:=match a,b with
 |.int k x,.int k' y=>bif Wd k k' then (match op with
   |.add=>some (.int k (wrF k (x+y)))
   |.sub=>some (.int k (wrF k (x - y)))
   |.mul=>some (.int k (wrF k (x*y)))
   |.eql=>some (.bool (zo x y))
   |.neq=>some (.bool (!zo x y))
   |.lss=>some (.bool (zi x y))
   |.leq=>some (.bool (!zi y x))
   |.gtr=>some (.bool (zi y x))
   |.geq=>some (.bool (!zi x y))
   |_=>none) else none
 |_,_=>none
theorem zyB (x y:Int):(!zi y x)=decide (x≤y):=by
 rw [xb,Bool.eq_iff_iff,Bool.not_eq_true',decide_eq_false_iff_not,decide_eq_true_eq]
 omega
theorem zDV {op:BinOp} {a b v:Value} (h:Km op a b=some v) (t:TypeId) (xo yo:Operand):qd P (do eqGuard op t xo yo a b;binOp op t a b)=some v∧(∃k x y,a=.int k x∧b=.int k y)∧av v=true:=by
  unfold Km at h
  split at h
  case h_2=>cases h
  rename_i k x k' y
  cases hk:Wd k k' with
  |false=>rw [hk] at h;cases h
  |true=>
    have:=Jh hk
    subst this
    rw [hk] at h
    simp only [cond_true] at h
    cases op<;>simp only [Option.some.injEq,reduceCtorEq] at h<;>subst h<;>refine ⟨?_,⟨k,x,y,rfl,rfl⟩,rfl⟩
    · show qd P (if k ≠ k then stuck _ else Op.intArith .add k x y) = _
      rw [if_neg (by simp),Kz];rfl
    · show qd P (if k ≠ k then stuck _ else Op.intArith .sub k x y) = _
      rw [if_neg (by simp),Kz];rfl
    · show qd P (if k ≠ k then stuck _ else Op.intArith .mul k x y) = _
      rw [if_neg (by simp),Kz];rfl
    all_goals first
      |(
         show qd P (if k ≠ k then stuck _ else Op.intCmp .eql x y) = _
         rw [if_neg (by simp),ju];rfl)
      |(
         show qd P (if k ≠ k then stuck _ else Op.intCmp .neq x y) = _
         rw [if_neg (by simp),ju];rfl)
      |(
         show qd P (if k ≠ k then stuck _ else Op.intCmp .lss x y) = _
         rw [if_neg (by simp),xb];rfl)
      |(
         show qd P (if k ≠ k then stuck _ else Op.intCmp .leq x y) = _
         rw [if_neg (by simp),zyB];rfl)
      |(
         show qd P (if k ≠ k then stuck _ else Op.intCmp .gtr x y) = _
         rw [if_neg (by simp),xb];rfl)
      |(
         show qd P (if k ≠ k then stuck _ else Op.intCmp .geq x y) = _
         rw [if_neg (by simp),zyB];rfl)
def gl {α:Type} (l:List α) (i:Nat):Option α:=List.rec (motive:=fun _=>Nat→Option α) (fun _=>none) (fun x _ ih i=>Nat.rec (motive:=fun _=>Option α) (some x) (fun m _=>ih m) i) l i
theorem yJ {α:Type}:∀(l:List α) (i:Nat),gl l i=l[i]?
 |[],_=>by simp [gl]
 |x::l,0=>rfl
 |x::l,i+1=>by
  show gl l i=_
  rw [yJ l i];simp
def qW (P:Program) (t:TypeId):Option TypeInfo:=
 match gl P.types.toList t with
 |some i=>some i
 |none=>P.info? t
theorem qZ (P:Program) (t:TypeId):qW P t=P.info? t:=by
 unfold qW
 split
 ·rename_i i h
  rw [yJ] at h
  have hlt:t < P.types.toList.length:=by
   obtain ⟨h1,-⟩:=List.getElem?_eq_some_iff.1 h
   exact h1
  have hlt':t < P.types.size:=by simpa using hlt
  unfold Tables.info?
  rw [if_pos hlt',←h,Array.getElem?_toList]
 ·rfl
def qT (P:Program) (t:TypeId):Option TypeDesc:=
 match qW P t with
 |some i=>match i.desc with
  |.named _ u=>match qW P u with
   |some j=>some j.desc
   |none=>none
  |d=>some d
 |none=>none
theorem jg (P:Program) (t:TypeId):qT P t=P.underlying t:=by
 unfold qT Program.underlying
 simp only [qZ]
 cases h:P.info? t with
 |none=>rfl
 |some i=>
  obtain ⟨d⟩:=i
  cases d with
  |named n u=>simp only [];cases P.info? u<;>rfl
  |_=>rfl
def zvI (P:Program) (f:FuncId):Option Func:=gl P.funcs.toList f
theorem zyC (P:Program) (f:FuncId):zvI P f=P.funcs[f]?:=by
 rw [zvI,yJ,Array.getElem?_toList]
def zfO:TypeDesc→Value→Bool
 |.slice _,.slice _ _ _=>true
 |.map _ _,.map _=>true
 |.pointer _,.pointer _=>true
 |.func _ _ _,.func _ _ _=>true
 |.func _ _ _,.nilFunc=>true
 |_,_=>false
def zei (P:Program) (t:TypeId) (a b:Value):Option Bool:=match zdP a b with
 |some r=>match qT P t with
  |some d=>if zfO d a then some r else none
  |none=>none
 |none=>none
theorem zAG {a b a' b':Value} {r:Bool} (h:zdP a b=some r) (ha:zr φ a a') (hb:zr φ b b'):zdP a' b'=some r:=by
 unfold zdP at h
 split at h<;>first | (cases h;done) | (cases ha<;>cases hb<;>exact h)
theorem zAH {d:TypeDesc} {a a':Value} (h:zfO d a=true) (ha:zr φ a a'):zfO d a'=true:=by
 unfold zfO at h
 split at h<;>first | (cases h;done) | (cases ha<;>rfl)
theorem zpQ {t:TypeId} {d:TypeDesc} {a b:Value} {r:Bool} (hu:P.underlying t=some d) (hf:zfO d a=true) (h:zdP a b=some r) (w:World):(Op.equal t a b).run P w=.ok r w:=by
 unfold Op.equal Op.maxDepth
 unfold Op.equalIn
 simp only [Sem.run_bind,run_underlying hu,Result.andThen_ok]
 unfold zdP at h
 unfold zfO at hf
 split at h<;>first | (cases h;done) | (cases h;cases d<;>first | (simp at hf;done) | rfl)
theorem ztF {t:TypeId} {x y:Operand} {a b a' b':Value} {r:Bool} (h:zei P t a b=some r) (ha:zr φ a a') (hb:zr φ b b') (w:World) :
  (do eqGuard .eql t x y a' b';binOp .eql t a' b':Sem Value).run P w=.ok (.bool r) w∧(do eqGuard .neq t x y a' b';binOp .neq t a' b':Sem Value).run P w=.ok (.bool (!r)) w:=by
 unfold zei at h
 split at h
 case h_2=>cases h
 rename_i r0 hr
 split at h
 case h_2=>cases h
 rename_i d hd
 split at h
 case isFalse=>cases h
 rename_i hf
 cases h
 rw [jg] at hd
 have hr':=zAG hr ha hb
 have he:=zpQ hd (zAH hf ha) hr' w
 unfold zdP at hr'
 split at hr'<;>first | (cases hr';done) | (constructor<;>simp [eqGuard,binOp,he])
def xI (P:Program) (op:BinOp) (t:TypeId) (x y:Operand) (a b:Value):Option Value:=
 match Km op a b with
 |some v=>some v
 |none=>if av a&&av b then sc P (do eqGuard op t x y a b;binOp op t a b) else match op with
  |.eql=>(zei P t a b).map Value.bool
  |.neq=>(zei P t a b).map fun r=>.bool (!r)
  |_=>none
theorem zB8 {op:BinOp} {t:TypeId} {x y:Operand} {a b a' b' v:Value} (h:xI P op t x y a b=some v) (ha:zr φ a a') (hb:zr φ b b') (w:World) :
  (do eqGuard op t x y a' b';binOp op t a' b':Sem Value).run P w=.ok v w∧zr φ v v:=by
 unfold xI at h
 split at h
 ·rename_i u hu
  cases h
  obtain ⟨h1,⟨k,p,q,rfl,rfl⟩,h2⟩:=zDV (P:=P) hu t x y
  cases ha
  cases hb
  exact ⟨zkt _ w h1,zgY h2⟩
 ·split at h
  ·rename_i hv
   simp at hv
   rw [zhW hv.1 ha,zhW hv.2 hb]
   exact zci h w
  ·split at h
   ·simp only [Option.map_eq_some_iff] at h
    obtain ⟨r,hr,rfl⟩:=h
    exact ⟨(ztF (x:=x) (y:=y) hr ha hb w).1,.bool _⟩
   ·simp only [Option.map_eq_some_iff] at h
    obtain ⟨r,hr,rfl⟩:=h
    exact ⟨(ztF (x:=x) (y:=y) hr ha hb w).2,.bool _⟩
   ·cases h
def zoc (P:Program) (op:UnOp) (a:Value):Option Value:=match op,a with
 |.not,.bool b=>some (.bool (!b))
 |op,a=>if av a then sc P (Op.unary op a) else none
theorem zDW {op:UnOp} {a a' v:Value} (h:zoc P op a=some v) (ha:zr φ a a') (w:World):(Op.unary op a').run P w=.ok v w∧zr φ v v:=by
 unfold zoc at h
 split at h
 ·cases h;cases ha;exact ⟨rfl,.bool _⟩
 ·split at h
  ·rename_i hv;rw [zhW hv ha];exact zci h w
  ·cases h
def zgZ (P:Program) (s d:TypeId) (a:Value):Option Value:=if av a then sc P (convert s d a) else none
theorem zAI {s d:TypeId} {a a' v:Value} (h:zgZ P s d a=some v) (ha:zr φ a a') (w:World):(convert s d a').run P w=.ok v w∧zr φ v v:=by
 unfold zgZ at h
 split at h
 ·rename_i hv;rw [zhW hv ha];exact zci h w
 ·cases h
theorem zku {v:Value} (h:v.oneCell'=true):v.cells=#[v]:=by cases v<;>first | rfl | simp [Value.oneCell'] at h
theorem zr.cells {v v':Value} (h:zr φ v v') (hn:v.oneCell'=true∨∃cs,v=.agg cs):zw φ v.cells.toList v'.cells.toList:=by
 rcases hn with hn | ⟨cs,rfl⟩
 ·rw [zku hn,zku (by rw [h.one];exact hn)]
  exact ⟨h,trivial⟩
 ·obtain ⟨ys,rfl,hl⟩:=h.agg_inv
  exact hl
def zb5:Value→Bool
 |.tuple _=>false
 |_=>true
theorem zr.cells' {v v':Value} (h:zr φ v v') (hn:zb5 v=true):zw φ v.cells.toList v'.cells.toList:=by
 refine h.cells ?_
 cases v<;>simp [zb5,Value.oneCell'] at hn ⊢
def Jd:TypeDesc→Bool
 |.struct _ | .array _ _=>true
 |_=>false
theorem Gd {t:TypeId} {d:TypeDesc} (h:P.underlying t=some d) (w:World):(isAgg t).run P w=.ok (Jd d) w:=by
 unfold isAgg
 simp only [Sem.run_bind,run_underlying h,Result.andThen_ok]
 cases d<;>rfl
theorem qx {t:TypeId} {i:TypeInfo} (h:P.info? t=some i) (w:World):(sizeOf t).run P w=.ok i.size w:=by
 simp [sizeOf,typeInfo,h]
theorem vg {t:TypeId} {i:TypeInfo} {v:Value} (h:P.info? t=some i) (hz:i.zero=some v) (w:World):(zeroValue t).run P w=.ok v w:=by
 simp [zeroValue,typeInfo,h,hz]
def gk (P:Program) (H:Hp) (t:TypeId):Value→Option Value
 |.pointer (some ⟨b,o,none⟩)=>
  match H.get b,qT P t,qW P t with
  |some (.cells cs _),some d,some i=>
   if Jd d then (if o+i.size≤cs.length then some (.agg ((cs.drop o).take i.size).toArray) else none)
   else cs[o]?
  |_,_,_=>none
 |_=>none
theorem Addr.add_none (b o n:Nat):(⟨b,o,none⟩:Addr).add n=⟨b,o+n,none⟩:=by
 unfold Addr.add;split
 ·rename_i h;subst h;rfl
 ·rfl
theorem ztG (g:zF φ H K w) {t:TypeId} {a a' v:Value} (h:gk P H t a=some v) (ha:zr φ a a') :
  ∃v',(Instr.loadAt t a').run P w=.ok v' w∧zr φ v v':=by
 unfold gk at h
 simp only [qZ,jg] at h
 split at h
 ·rename_i b o
  cases ha with
  |ptr _ _ L hL=>
   split at h
   ·rename_i cs ro d i hb hu hi
    simp only [Instr.loadAt,Instr.sureAddr,loadVar]
    by_cases hd:Jd d=true
    ·simp only [hd,if_true] at h
     split at h
     ·rename_i hn
      cases h
      obtain ⟨us,hl,hc,hr⟩:=g.read hb hL o i.size hn
      have hrun:=run_loadCells_list (P:=P) w ⟨L.blk,L.off+o,none⟩ us (fun j v hv=>by rw [Addr.add_none];exact hc j v hv)
      rw [hl] at hrun
      refine ⟨.agg us.toArray,by simp [Gd hu,hd,qx hi,hrun],.agg' (by simpa using hr)⟩
     ·cases h
    ·have hd:Jd d=false:=by simpa using hd
     simp only [hd,if_false,Bool.false_eq_true] at h
     have ho:o+1≤cs.length:=(List.getElem?_eq_some_iff.1 h).1
     obtain ⟨us,hl,hc,hr⟩:=g.read hb hL o 1 ho
     match us,hl with
     |[u],_=>
      have hu1:=hc 0 u rfl
      have h2:(List.drop o cs).take 1=[v]:=by
       apply List.ext_getElem?
       intro j
       cases j with
       |zero=>simp [h]
       |succ j=>simp;omega
      rw [h2] at hr
      refine ⟨u,?_,hr.1⟩
      simp at hu1
      simp [Gd hu,hd,hu1]
   ·cases h
 ·cases h
def zg0 (P:Program) (H:Hp) (t:TypeId) (va vx:Value):Option Hp:=
 match va with
 |.pointer (some ⟨b,o,none⟩)=>
  match H.get b,qW P t with
  |some (.cells cs false),some i=>
   if zb5 vx&&vx.cells.toList.length == i.size&&Wc vx.cells.toList&&decide (o+vx.cells.toList.length≤cs.length) then
    (if vx.cells.toList.isEmpty then some H else some (H.set b (.cells (spl cs o vx.cells.toList) false)))
   else none
  |_,_=>none
 |_=>none
theorem zzj (g:zF φ H K w) {t:TypeId} {a a' x x':Value} {H':Hp} (h:zg0 P H t a x=some H') (ha:zr φ a a') (hx:zr φ x x') :
  ∃w',(Instr.storeAt t a' x').run P w=.ok () w'∧zF φ H' K w'∧qw K w w':=by
 unfold zg0 at h
 simp only [qZ] at h
 split at h
 ·rename_i b o
  cases ha with
  |ptr _ _ L hL=>
   split at h
   ·rename_i cs i hb hi
    split at h
    ·rename_i hc
     simp only [Bool.and_eq_true,beq_iff_eq,decide_eq_true_eq] at hc
     obtain ⟨⟨⟨hf,hlen⟩,h1⟩,hfit⟩:=hc
     have hr:=hx.cells' hf
     have hlen':x'.cells.size=i.size:=by have:=hr.length;simp at this hlen;omega
     have hrun:∀(r:Result Unit) (w':World),(storeCells ⟨L.blk,L.off+o,none⟩ x'.cells.toList).run P w=r→(Instr.storeAt t (.pointer (some ⟨L.blk,L.off+o,none⟩)) x').run P w=r:=by
      intro r w' hr
      simp only [Instr.storeAt,Instr.sureAddr,storeVar]
      simp [qx hi,hlen',hr]
     split at h
     ·rename_i he
      cases h
      have hnil:x'.cells.toList=[]:=by
       have:=hr.length
       simp at he
       simp [he] at this
       simpa using this.symm
      refine ⟨w,hrun _ w (by rw [hnil];rfl),g,qw.refl _ _⟩
     ·rename_i he
      cases h
      obtain ⟨w',hw,hg,ht⟩:=g.write P hb hL o hfit h1 hr (by simpa using he)
      exact ⟨w',hrun _ w' hw,hg,ht⟩
    ·cases h
   ·cases h
 ·cases h
theorem zAJ (g:zF φ H K w) {n:Nat} (hn:φ n=none) (hz:n < FZ) {v v':Value} (hv:zr φ v v') (hf:zb5 v=true) (t:TypeId) :
  ∃
   φ',(newVar t v').run P w=.ok ⟨w.heap.size,0,none⟩ (w.alloc (.cells v'.cells t))∧Ext K φ φ' n (n+1)∧zF φ' ((n,.cells v.cells.toList false)::H) K (w.alloc (.cells v'.cells t))∧
   zr φ' (.pointer (some ⟨n,0,none⟩)) (.pointer (some ⟨w.heap.size,0,none⟩)):=by
 have hr:=hv.cells' hf
 have hg:=g.make hn hz hr t v'.cells.toList.length [] (by simp)
 simp only [List.append_nil,Array.toArray_toList] at hg
 refine ⟨_,by simp [newVar,newRow],Ext.put hn hz _,hg,?_⟩
 have:=zr.ptr (φ:=φ.put n ⟨w.heap.size,0,v'.cells.toList.length,#[]⟩) n 0 _ (Ren.put_same _ _ _)
 simpa using this
def We (P:Program) (s:TypeId) (f:Nat):Value→Option Value
 |.pointer (some ⟨b,o,none⟩)=>
  match qT P s with
  |some (.struct fields)=>
   match fields[f]? with
   |some fl=>match qW P fl.type with
    |some i=>if i.size=0 then none else some (.pointer (some ⟨b,o+fl.offset,none⟩))
    |none=>none
   |none=>none
  |_=>none
 |_=>none
theorem zr2 {s:TypeId} {f:Nat} {a a' v:Value} (h:We P s f a=some v) (ha:zr φ a a') (w:World) :
  ∃v',(Instr.fieldAt s a' f).run P w=.ok v' w∧zr φ v v':=by
 unfold We at h
 simp only [qZ,jg] at h
 split at h
 ·rename_i b o
  cases ha with
  |ptr _ _ L hL=>
   split at h
   ·rename_i fields hu
    split at h
    ·rename_i fl hf
     split at h
     ·rename_i i hi
      split at h
      ·cases h
      ·rename_i hz
       cases h
       refine ⟨_,?_,.ptr b (o+fl.offset) L hL⟩
       simp [Instr.fieldAt,run_underlying hu,hf,Instr.sureAddr,fieldPlace,qx hi,hz,Addr.add_none,Nat.add_assoc]
     ·cases h
    ·cases h
   ·cases h
 ·cases h
def idx (i:Value) (n:Nat):Option Nat:=
 match i with
 |.int _ i=>if 0≤i∧i < n then some i.toNat else none
 |_=>none
def xu (P:Program) (t:TypeId) (x i:Value):Option Value:=
 match qT P t,x with
 |some (.slice e),.slice (some ⟨b,o,none⟩) n _=>
  match idx i n,qW P e with
  |some j,some inf=>some (.pointer (some ⟨b,o+j*inf.size,none⟩))
  |_,_=>none
 |some (.array n e),.pointer (some ⟨b,o,none⟩)=>
  match idx i n,qW P e with
  |some j,some inf=>some (.pointer (some ⟨b,o+j*inf.size,none⟩))
  |_,_=>none
 |_,_=>none
theorem zhX {i:Value} {n j:Nat} (h:idx i n=some j):∃k z,i=.int k z∧0≤z∧z < n∧j=z.toNat:=by
 unfold idx at h
 split at h
 ·rename_i k z
  split at h
  ·rename_i hb;cases h;exact ⟨k,z,rfl,hb.1,hb.2,rfl⟩
  ·cases h
 ·cases h
theorem zr3 {t:TypeId} {x x' i i' v:Value} (h:xu P t x i=some v) (hx:zr φ x x') (hi:zr φ i i') (w:World) :
  ∃v',(Instr.indexAt t x' i').run P w=.ok v' w∧zr φ v v':=by
 unfold xu at h
 simp only [qZ,jg] at h
 split at h
 ·rename_i e b o n c hu
  split at h
  ·rename_i j inf hj hinf
   cases h
   obtain ⟨k,z,rfl,h0,h1,rfl⟩:=zhX hj
   cases hi
   cases hx with
   |sl _ _ _ _ L hL hc=>
    refine ⟨_,?_,.ptr b (o+z.toNat*inf.size) L hL⟩
    simp [Instr.indexAt,asIntOf,run_underlying hu,h0,h1,qx hinf,Addr.add_none,Nat.add_assoc]
   |slO _ _ _ _ c' L hL hc hn hl=>
    refine ⟨_,?_,.ptr b (o+z.toNat*inf.size) L hL⟩
    simp [Instr.indexAt,asIntOf,run_underlying hu,h0,h1,qx hinf,Addr.add_none,Nat.add_assoc]
   |slE=>omega
  ·cases h
 ·rename_i n e b o hu
  split at h
  ·rename_i j inf hj hinf
   cases h
   obtain ⟨k,z,rfl,h0,h1,rfl⟩:=zhX hj
   cases hi
   cases hx with
   |ptr _ _ L hL=>
    refine ⟨_,?_,.ptr b (o+z.toNat*inf.size) L hL⟩
    simp [Instr.indexAt,asIntOf,run_underlying hu,Instr.sureAddr,h0,h1,qx hinf,Addr.add_none,Nat.add_assoc]
  ·cases h
 ·cases h
def bnd (i:Value) (y:Nat):Option Nat:=
 match i with
 |.int _ i=>if 0≤i∧i≤y then some i.toNat else none
 |_=>none
theorem zg1 {i i':Value} {y y' l:Nat} (h:bnd i y=some l) (hi:zr φ i i') (hy:y≤y') (code:BoundsCode) (w:World) :
  (Instr.sliceBound i' y' code).run P w=.ok l w∧l≤y:=by
 unfold bnd at h
 split at h
 ·rename_i k z
  split at h
  ·rename_i hb
   cases h
   cases hi
   have:z≤y':=by omega
   exact ⟨by simp [Instr.sliceBound,asIntOf,hb.1,this],by omega⟩
  ·cases h
 ·cases h
def zr4 (v:Option Value) (h:Nat):Option Nat:=
 match v with
 |none=>some 0
 |some v=>bnd v h
def zpR (v:Option Value) (len cap:Nat):Option Nat:=
 match v with
 |none=>if len≤cap then some len else none
 |some v=>bnd v cap
def zej (len cap:Nat) (low high max:Option Value):Option (Nat×Nat×Option Nat):=
 match max with
 |some m=>match high with
  |some h=>(bnd m cap).bind fun m=>(bnd h m).bind fun h=>(zr4 low h).bind fun l=>some (l,h,some m)
  |none=>none
 |none=>(zpR high len cap).bind fun h=>(zr4 low h).bind fun l=>some (l,h,none)
def Vd (φ:Ren):Option Value→Option Value→Prop
 |none,none=>True
 |some v,some v'=>zr φ v v'
 |_,_=>False
theorem zvJ {low low':Option Value} {h l:Nat} (hl:zr4 low h=some l) (h1:Vd φ low low') (w:World) :
  ((low'=none∧l=0)∨∃v,low'=some v∧∀code,(Instr.sliceBound v h code).run P w=.ok l w)∧l≤h:=by
 cases low<;>cases low'<;>simp only [zr4,Vd] at hl h1
 ·cases hl;exact ⟨.inl ⟨rfl,rfl⟩,Nat.zero_le _⟩
 ·exact ⟨.inr ⟨_,rfl,fun code=>(zg1 hl h1 (Nat.le_refl _) code w).1⟩,(zg1 (P:=P) hl h1 (Nat.le_refl _) .index w).2⟩
theorem zbi {len cap cap' l h:Nat} {m:Option Nat} {low high max low' high' max':Option Value} (hb:zej len cap low high max=some (l,h,m))
  (h1:Vd φ low low') (h2:Vd φ high high') (h3:Vd φ max max') (hc:cap≤cap') (b:Bool) (w:World) :
  (Instr.sliceBounds b len cap' low' high' max').run P w=.ok (l,h,m.getD cap') w∧l≤h∧h≤m.getD cap∧m.getD cap≤cap:=by
 unfold zej at hb
 cases max with
 |some m0=>
  cases high with
  |none=>cases hb
  |some h0=>
   cases max' with
   |none=>exact h3.elim
   |some m'=>
    cases high' with
    |none=>exact h2.elim
    |some hh'=>
     simp only [Option.bind_eq_some_iff] at hb
     obtain ⟨m1,hm1,h1',hh1,l1,hl1,he⟩:=hb
     cases he
     have e1:=fun code=>zg1 (P:=P) hm1 h3 hc code w
     have e2:=fun code=>zg1 (P:=P) hh1 h2 (Nat.le_refl _) code w
     have e3:=zvJ (P:=P) hl1 h1 w
     refine ⟨?_,e3.2,(e2 .index).2,(e1 .index).2⟩
     rcases e3.1 with ⟨rfl,rfl⟩ | ⟨v,rfl,e4⟩
     ·simp [Instr.sliceBounds,(e1 _).1,(e2 _).1]
     ·simp [Instr.sliceBounds,(e1 _).1,(e2 _).1,e4]
 |none=>
  cases max' with
  |some _=>exact h3.elim
  |none=>
   simp only [Option.bind_eq_some_iff] at hb
   obtain ⟨hh,hhe,l1,hl1,he⟩:=hb
   cases he
   have e3:=zvJ (P:=P) hl1 h1 w
   cases high with
   |none=>
    cases high' with
    |some _=>exact h2.elim
    |none=>
     simp only [zpR] at hhe
     split at hhe
     ·cases hhe
      refine ⟨?_,e3.2,by simpa using ‹_›,Nat.le_refl _⟩
      rcases e3.1 with ⟨rfl,rfl⟩ | ⟨v,rfl,e4⟩
      ·simp [Instr.sliceBounds]
      ·simp [Instr.sliceBounds,e4]
     ·cases hhe
   |some h0=>
    cases high' with
    |none=>exact h2.elim
    |some hh'=>
     have e2:=fun code=>zg1 (P:=P) hhe h2 hc code w
     refine ⟨?_,e3.2,by simpa using (e2 .index).2,Nat.le_refl _⟩
     rcases e3.1 with ⟨rfl,rfl⟩ | ⟨v,rfl,e4⟩
     ·simp [Instr.sliceBounds,(e2 _).1]
     ·simp [Instr.sliceBounds,(e2 _).1,e4]
def zr5 (P:Program) (t:TypeId) (x:Value) (low high max:Option Value):Option Value:=
 match qT P t,x with
 |some (.slice e),.slice (some ⟨b,o,none⟩) n c=>
  match qW P e with
  |none=>none
  |some inf=>
   if c < qg then
    match zej n c low high max with
    |some (l,h,m)=>some (.slice (some (if m.getD c=l then ⟨b,o,none⟩ else ⟨b,o+l*inf.size,none⟩)) (h - l) (m.getD c - l))
    |none=>none
   else
    if c - qg=inf.size∧n < qg then
     match zej n n low high max with
     |some (l,h,some m)=>if m=l then (if 0 < n then some (.slice (some ⟨b,o,none⟩) 0 0) else some (.slice (some ⟨b,o+l*inf.size,none⟩) 0 c)) else some (.slice (some ⟨b,o+l*inf.size,none⟩) (h - l) (m - l))
     |some (l,h,none)=>some (.slice (some ⟨b,o+l*inf.size,none⟩) (h - l) c)
     |none=>none
    else none
 |some (.slice e),.slice none n c=>
  match qW P e with
  |none=>none
  |some inf=>match zej n c low high max with
   |some (l,h,m)=>some (.slice none (h - l) (m.getD c - l))
   |none=>none
 |some (.array n e),.pointer (some ⟨b,o,none⟩)=>
  match qW P e with
  |none=>none
  |some inf=>
   if n < qg then
    match zej n n low high max with
    |some (l,h,m)=>some (.slice (some (if m.getD n=l then ⟨b,o,none⟩ else ⟨b,o+l*inf.size,none⟩)) (h - l) (m.getD n - l))
    |none=>none
   else none
 |some .string,.string s=>if (low.all av)&&(high.all av)&&(max.all av) then sc P (Instr.sliceAt t (.string s) low high max) else none
 |_,_=>none
theorem zr6 {x x':Option Value} (h:x.all av=true) (hr:Vd φ x x'):x'=x:=by
 cases x<;>cases x'<;>simp only [Vd] at hr
 ·rfl
 ·rw [zhW (by simpa using h) hr]
theorem zzk {t:TypeId} {x x' v:Value} {low high max low' high' max':Option Value} (h:zr5 P t x low high max=some v) (hx:zr φ x x')
  (h1:Vd φ low low') (h2:Vd φ high high') (h3:Vd φ max max') (w:World):∃v',(Instr.sliceAt t x' low' high' max').run P w=.ok v' w∧zr φ v v':=by
 unfold zr5 at h
 simp only [qZ,jg] at h
 split at h
 ·rename_i e b o n c hu
  split at h
  ·cases h
  ·rename_i inf hi
   split at h
   ·rename_i hc
    split at h
    ·rename_i l h' m hb
     cases h
     cases hx with
     |sl _ _ _ _ L hL _=>
      have e1:=zbi (P:=P) hb h1 h2 h3 (Nat.le_refl _) true w
      refine ⟨.slice (some (if m.getD c=l then ⟨L.blk,L.off+o,none⟩ else ⟨L.blk,L.off+o+l*inf.size,none⟩)) (h' - l) (m.getD c - l),?_,?_⟩
      ·simp only [Instr.sliceAt,Sem.run_bind,run_underlying hu,Result.andThen_ok,Instr.slice,e1.1,qx hi,Sem.run_pure,Option.map_some,Addr.add_none]
       split<;>rfl
      ·have hcap:m.getD c - l < qg:=by omega
       split
       ·exact .sl b o _ _ L hL hcap
       ·rw [Nat.add_assoc];exact .sl b _ _ _ L hL hcap
     |slO _ _ _ _ c' L hL hc'=>omega
     |slE=>omega
    ·cases h
   ·rename_i hc
    split at h
    ·rename_i hes'
     obtain ⟨hes,hno⟩:=hes'
     have key:∀(l h':Nat) (m:Option Nat),zej n n low high max=some (l,h',m)→∃a'' c',(Instr.sliceAt t x' low' high' max').run P w=.ok (.slice (some a'') (h' - l) (m.getD c' - l)) w∧
       ((∃L,φ b=some L∧n≤c'∧L.off+o+c'*(c - qg)=L.lim∧a''=if m.getD c'=l then ⟨L.blk,L.off+o,none⟩ else ⟨L.blk,L.off+o+l*inf.size,none⟩)∨(n=0∧c'=0∧∃L,φ b=some L))∧l≤h'∧h'≤m.getD n∧m.getD n≤n:=by
      intro l h' m hb
      cases hx with
      |sl _ _ _ _ L hL hc'=>omega
      |slO _ _ _ _ c' L hL hc' hn hl=>
       have e1:=zbi (P:=P) hb h1 h2 h3 hn true w
       refine ⟨if m.getD c'=l then ⟨L.blk,L.off+o,none⟩ else ⟨L.blk,L.off+o+l*inf.size,none⟩,c',?_,.inl ⟨L,hL,hn,hl,rfl⟩,e1.2⟩
       simp only [Instr.sliceAt,Sem.run_bind,run_underlying hu,Result.andThen_ok,Instr.slice,e1.1,qx hi,Sem.run_pure,Option.map_some,Addr.add_none]
       split<;>rfl
      |slE _ _ _ a' L hL _=>
       have e1:=zbi (P:=P) hb h1 h2 h3 (Nat.le_refl _) true w
       have em:m.getD 0=l:=by omega
       refine ⟨a',0,?_,.inr ⟨rfl,rfl,L,hL⟩,e1.2⟩
       simp only [Instr.sliceAt,Sem.run_bind,run_underlying hu,Result.andThen_ok,Instr.slice,e1.1,qx hi,Sem.run_pure,Option.map_some,em,if_true]
     split at h
     ·rename_i l h' m hb
      obtain ⟨a'',c',hrun,hcase,hlh,hhm,hmn⟩:=key _ _ _ hb
      simp only [Option.getD_some] at hrun hhm hmn hcase
      refine ⟨_,hrun,?_⟩
      split at h
      ·rename_i hml
       subst hml
       have e0:h' - m=0:=by omega
       rw [e0,Nat.sub_self]
       split at h
       ·rename_i hpos
        cases h
        rcases hcase with ⟨L,hL,_,_,rfl⟩ | ⟨hn,_⟩
        ·rw [if_pos rfl]
         exact .sl b o 0 0 L hL (by decide)
        ·omega
       ·cases h
        rcases hcase with ⟨L,hL,_⟩ | ⟨_,_,L,hL⟩
        ·exact .slE b _ c a'' L hL (by omega)
        ·exact .slE b _ c a'' L hL (by omega)
      ·rename_i hml
       cases h
       rcases hcase with ⟨L,hL,hn,hl,rfl⟩ | ⟨hn,_,L,hL⟩
       ·rw [if_neg hml,Nat.add_assoc]
        exact .sl b _ _ _ L hL (by omega)
       ·omega
     ·rename_i l h' hb
      cases h
      obtain ⟨a'',c',hrun,hcase,hlh,hhm,hmn⟩:=key _ _ _ hb
      simp only [Option.getD_none] at hrun hhm hmn hcase
      refine ⟨_,hrun,?_⟩
      rcases hcase with ⟨L,hL,hn,hl,rfl⟩ | ⟨hn,hc0,L,hL⟩
      ·by_cases hcl:c'=l
       ·subst hcl
        have e0:h' - c'=0:=by omega
        rw [e0,Nat.sub_self]
        exact .slE b _ c _ L hL (by omega)
       ·rw [if_neg hcl,Nat.add_assoc]
        refine .slO b _ _ c _ L hL (by omega) (by omega) ?_
        rw [hes] at hl ⊢
        rw [Nat.sub_mul]
        have:l*inf.size≤c'*inf.size:=Nat.mul_le_mul_right _ (by omega)
        omega
      ·subst hc0
       have e0:h' - l=0:=by omega
       have e1:0 - l=0:=by omega
       rw [e0,e1]
       exact .slE b _ c a'' L hL (by omega)
     ·cases h
    ·cases h
 ·rename_i e n c hu
  split at h
  ·cases h
  ·rename_i inf hi
   split at h
   ·rename_i l h' m hb
    cases h
    cases hx
    have e1:=zbi (P:=P) hb h1 h2 h3 (Nat.le_refl _) true w
    refine ⟨.slice none (h' - l) (m.getD c - l),?_,.slN _ _⟩
    simp only [Instr.sliceAt,Sem.run_bind,run_underlying hu,Result.andThen_ok,Instr.slice,e1.1,qx hi,Sem.run_pure,Option.map_none]
    split<;>rfl
   ·cases h
 ·rename_i n e b o hu
  split at h
  ·cases h
  ·rename_i inf hi
   split at h
   ·rename_i hc
    split at h
    ·rename_i l h' m hb
     cases h
     cases hx with
     |ptr _ _ L hL=>
      have e1:=zbi (P:=P) hb h1 h2 h3 (Nat.le_refl _) false w
      refine ⟨.slice (some (if m.getD n=l then ⟨L.blk,L.off+o,none⟩ else ⟨L.blk,L.off+o+l*inf.size,none⟩)) (h' - l) (m.getD n - l),?_,?_⟩
      ·simp only [Instr.sliceAt,Sem.run_bind,run_underlying hu,Result.andThen_ok,Instr.sureAddr,e1.1,qx hi,Sem.run_pure,Addr.add_none]
      ·have hcap:m.getD n - l < qg:=by omega
       split
       ·exact .sl b o _ _ L hL hcap
       ·rw [Nat.add_assoc];exact .sl b _ _ _ L hL hcap
    ·cases h
   ·cases h
 ·rename_i s hu
  split at h
  ·rename_i hav
   simp only [Bool.and_eq_true] at hav
   cases hx
   rw [zr6 hav.1.1 h1,zr6 hav.1.2 h2,zr6 hav.2 h3]
   exact ⟨v,zci h w⟩
  ·cases h
 ·cases h
def gg:Value→Option (Nat×Array Value×Bool)
 |.iface s (.tuple es)=>some (s,es,false)
 |.iface s (.agg es)=>some (s,es,true)
 |_=>none
structure zDB (φ:Ren) (s:Nat) (es:Array Value) (full:Bool) (sa:Option Addr) (c:Nat):Prop where
 cap:es.size≤c
 full:full=true→c=es.size
 some_:0 < es.size→∃b o L,sa=some ⟨b,o,none⟩∧φ (FZ+b)=some L∧o+es.size*s≤L.arr.size∧(∀(j:Nat) e,es[j]?=some e→e.cells.size=s)∧
  ∀(j k:Nat) e u u',es[j]?=some e→e.cells[k]?=some u→L.arr[o+j*s+k]?=some u'→zr φ u u'
theorem Ge {v v':Value} {s:Nat} {es:Array Value} {full:Bool} (h:gg v=some (s,es,full)) (hr:zr φ v v'):∃sa c,v'=.slice sa es.size c∧zDB φ s es full sa c:=by
 unfold gg at h
 split at h
 ·cases h
  cases hr with
  |fz _ _ b o c L hL hn ho hc hs h=>exact ⟨_,c,rfl,hc,(fun h=>by cases h),fun _=>⟨b,o,L,rfl,hL,ho,hs,h⟩⟩
  |fz0 _ a c=>exact ⟨a,c,rfl,Nat.zero_le _,(fun h=>by cases h),fun h=>absurd h (by simp)⟩
 ·cases h
  cases hr with
  |fq _ _ b o L hL hn ho hs h=>exact ⟨_,_,rfl,Nat.le_refl _,fun _=>rfl,fun _=>⟨b,o,L,rfl,hL,ho,hs,h⟩⟩
  |fq0 _ a=>exact ⟨a,0,rfl,Nat.zero_le _,fun _=>rfl,fun h=>absurd h (by simp)⟩
 ·cases h
def fzLen (v:Value):Option Value:=match gg v with
 |some (_,es,_)=>some (.int .i64 es.size)
 |none=>none
def zvK (P:Program) (t:TypeId) (x i:Value):Option Value:=match gg x,qT P t with
 |some (s,es,_),some (.slice e)=>match idx i es.size,qW P e with
  |some j,some inf=>match es[j]? with
   |some v=>if inf.size=s then some (.iface 0 (.iface 0 v)) else none
   |none=>none
  |_,_=>none
 |_,_=>none
theorem zDX {t:TypeId} {x x' i i' v:Value} (h:zvK P t x i=some v) (hx:zr φ x x') (hi:zr φ i i') (w:World) :
  ∃v',(Instr.indexAt t x' i').run P w=.ok v' w∧zr φ v v':=by
 unfold zvK at h
 simp only [qZ,jg] at h
 split at h
 case h_2=>cases h
 rename_i s es full e h1 hu
 split at h
 case h_2=>cases h
 rename_i j inf hj hinf
 split at h
 case h_2=>cases h
 rename_i u hu2
 split at h
 case isFalse=>cases h
 rename_i hsz
 cases h
 obtain ⟨sa,c,rfl,hr⟩:=Ge h1 hx
 obtain ⟨k,z,rfl,h0,h2,rfl⟩:=zhX hj
 cases hi
 have hlt:z.toNat < es.size:=(Array.getElem?_eq_some_iff.1 hu2).1
 obtain ⟨b,o,L,rfl,hL,ho,hs,hrel⟩:=hr.some_ (by omega)
 refine ⟨.pointer (some ⟨b,o+z.toNat*inf.size,none⟩),by simp [Instr.indexAt,asIntOf,run_underlying hu,h0,h2,qx hinf,Addr.add_none],?_⟩
 rw [hsz]
 have hes:=hs _ _ hu2
 have:=zr.fp (φ:=φ) 0 u b (o+z.toNat*s) L hL (by
  rw [hes]
  have:(z.toNat+1)*s≤es.size*s:=Nat.mul_le_mul_right _ hlt
  rw [Nat.add_mul] at this
  omega) (fun k u1 u2 h3 h4=>hrel _ k u u1 u2 hu2 h3 h4)
 simpa using this
def zod:Value→Option (Nat×Value)
 |.iface k (.iface 0 e)=>some (k,e)
 |_=>none
def zek (P:Program) (t:TypeId) (v:Value):Option Value:=match zod v,qT P t,qW P t with
 |some (k,e),some d,some i=>if Jd d then (if k+i.size≤e.cells.size then some (.agg ((e.cells.toList.drop k).take i.size).toArray) else none) else e.cells[k]?
 |_,_,_=>none
theorem zvL (g:zF φ H K w) {b o n:Nat} {L:Loc} {cs:Array Value} (hL:φ (FZ+b)=some L) (ho:o+cs.size≤L.arr.size) (h:∀(j:Nat) u u',cs[j]?=some u→L.arr[o+j]?=some u'→zr φ u u') (k:Nat) (hk:k+n≤cs.size) :
  ∃us:List Value,us.length=n∧(∀(j:Nat) v,us[j]?=some v→w.cell? ⟨b,o+k+j,none⟩=some v)∧zw φ ((cs.toList.drop k).take n) us:=by
 obtain ⟨_,_,a,el,fr,e1,e2⟩:=g.fz b L hL
 have hin:∀j,j < n→∃u',L.arr[o+(k+j)]?=some u':=fun j hj=>⟨_,Array.getElem?_eq_getElem (by omega)⟩
 refine ⟨(L.arr.toList.drop (o+k)).take n,by simp;omega,fun j v hv=>?_,zw.of_get (by simp;omega) fun j v v' hv hv'=>?_⟩
 ·rw [List.getElem?_take] at hv
  split at hv
  ·rw [List.getElem?_drop] at hv
   have:L.arr[o+k+j]?=some v:=by simpa using hv
   simp only [World.cell?,e1]
   exact e2 _ _ this
  ·cases hv
 ·rw [List.getElem?_take] at hv hv'
  split at hv
  ·rename_i hj
   rw [if_pos hj] at hv'
   rw [List.getElem?_drop] at hv hv'
   refine h (k+j) v v' (by simpa using hv) ?_
   rw [←Nat.add_assoc];simpa using hv'
  ·cases hv
theorem zAK (g:zF φ H K w) {t:TypeId} {a a' v:Value} (h:zek P t a=some v) (ha:zr φ a a'):∃v',(Instr.loadAt t a').run P w=.ok v' w∧zr φ v v':=by
 unfold zek at h
 simp only [qZ,jg] at h
 split at h
 case h_2=>cases h
 rename_i k e d i h1 hu hi
 unfold zod at h1
 split at h1
 case h_2=>cases h1
 cases h1
 cases ha with
 |fp _ _ b o L hL ho hr=>
  simp only [Instr.loadAt,Instr.sureAddr,loadVar]
  by_cases hd:Jd d=true
  ·simp only [hd,if_true] at h
   split at h
   case isFalse=>cases h
   rename_i hn
   cases h
   obtain ⟨us,hl,hc,hrl⟩:=zvL g hL ho hr k hn
   have hrun:=run_loadCells_list (P:=P) w ⟨b,o+k,none⟩ us (fun j v hv=>by rw [Addr.add_none];exact hc j v hv)
   rw [hl] at hrun
   exact ⟨.agg us.toArray,by simp [Gd hu,hd,qx hi,hrun],.agg' (by simpa using hrl)⟩
  ·have hd:Jd d=false:=by simpa using hd
   simp only [hd,if_false,Bool.false_eq_true] at h
   have hk:k+1≤e.cells.size:=(Array.getElem?_eq_some_iff.1 h).1
   obtain ⟨us,hl,hc,hrl⟩:=zvL g hL ho hr k hk
   match us,hl with
   |[u],_=>
    have hu1:=hc 0 u rfl
    have h2:(List.drop k e.cells.toList).take 1=[v]:=by
     apply List.ext_getElem?
     intro j
     cases j with
     |zero=>simpa using h
     |succ j=>simp;omega
    rw [h2] at hrl
    refine ⟨u,?_,hrl.1⟩
    simp at hu1
    simp [Gd hu,hd,hu1]
def zg2 (P:Program) (s:TypeId) (f:Nat) (v:Value):Option Value:=match zod v,qT P s with
 |some (k,e),some (.struct fields)=>match fields[f]? with
  |some fl=>match qW P fl.type with
   |some i=>if i.size=0 then none else some (.iface (k+fl.offset) (.iface 0 e))
   |none=>none
  |none=>none
 |_,_=>none
theorem zzl {s:TypeId} {f:Nat} {a a' v:Value} (h:zg2 P s f a=some v) (ha:zr φ a a') (w:World) :
  ∃v',(Instr.fieldAt s a' f).run P w=.ok v' w∧zr φ v v':=by
 unfold zg2 at h
 simp only [qZ,jg] at h
 split at h
 case h_2=>cases h
 rename_i k e fields h1 hu
 unfold zod at h1
 split at h1
 case h_2=>cases h1
 cases h1
 split at h
 case h_2=>cases h
 rename_i fl hf
 split at h
 case h_2=>cases h
 rename_i i hi
 split at h
 ·cases h
 rename_i hz
 cases h
 cases ha with
 |fp _ _ b o L hL ho hr=>
  refine ⟨.pointer (some ⟨b,o+(k+fl.offset),none⟩),?_,.fp (k+fl.offset) e b o L hL ho hr⟩
  simp [Instr.fieldAt,run_underlying hu,hf,Instr.sureAddr,fieldPlace,qx hi,hz,Addr.add_none,Nat.add_assoc]
def zg3 (P:Program) (t:TypeId) (x:Value) (low high max:Option Value):Option Value:=match gg x,qT P t with
 |some (s,es,full),some (.slice e)=>match qW P e,zej es.size es.size low high max with
  |some inf,some (l,h,m)=>if inf.size=s then
    (match m with
     |some m=>if Nat.beq m h then some (.iface s (.agg (es.extract l h))) else some (.iface s (.tuple (es.extract l h)))
     |none=>if full&&Nat.beq h es.size then some (.iface s (.agg (es.extract l h))) else some (.iface s (.tuple (es.extract l h)))) else none
  |_,_=>none
 |_,_=>none
theorem zDY {s:Nat} {es:Array Value} {full:Bool} {sa:Option Addr} {c:Nat} (hr:zDB φ s es full sa c) {l h:Nat} (hl:l≤h) (hh:h≤es.size) {a:Option Addr} {c':Nat} (ha:l < h→∀b o,sa=some ⟨b,o,none⟩→a=some ⟨b,o+l*s,none⟩) (hc:h - l≤c') :
  zr φ (.iface s (.tuple (es.extract l h))) (.slice a (h - l) c')∧(c'=h - l→zr φ (.iface s (.agg (es.extract l h))) (.slice a (h - l) c')):=by
 have hsz:(es.extract l h).size=h - l:=by simp;omega
 by_cases h0:h - l=0
 ·have he:es.extract l h=#[]:=Array.eq_empty_of_size_eq_zero (by omega)
  rw [he,h0]
  refine ⟨.fz0 s a c',fun e=>?_⟩
  rw [e];exact .fq0 s a
 ·obtain ⟨b,o,L,rfl,hL,ho,hs,hrel⟩:=hr.some_ (by omega)
  rw [ha (by omega) b o rfl]
  have hget:∀j e,(es.extract l h)[j]?=some e→es[l+j]?=some e:=fun j e he=>by
   rw [Array.getElem?_extract] at he
   split at he
   ·exact he
   ·cases he
  have h1:o+l*s+(es.extract l h).size*s≤L.arr.size:=by
   rw [hsz]
   have:(l+(h - l))*s≤es.size*s:=Nat.mul_le_mul_right _ (by omega)
   rw [Nat.add_mul] at this
   omega
  have h2:∀(j:Nat) e,(es.extract l h)[j]?=some e→e.cells.size=s:=fun j e he=>hs _ _ (hget j e he)
  have h3:∀(j k:Nat) e u u',(es.extract l h)[j]?=some e→e.cells[k]?=some u→L.arr[o+l*s+j*s+k]?=some u'→zr φ u u':=fun j k e u u' he hk hu=>by
   refine hrel (l+j) k e u u' (hget j e he) hk ?_
   rw [Nat.add_mul,←Nat.add_assoc];exact hu
  constructor
  ·have:=zr.fz (φ:=φ) s (es.extract l h) b (o+l*s) c' L hL (by omega) h1 (by omega) h2 h3
   rwa [hsz] at this
  ·intro e
   rw [e]
   have:=zr.fq (φ:=φ) s (es.extract l h) b (o+l*s) L hL (by omega) h1 h2 h3
   rwa [hsz] at this
theorem zpS {t:TypeId} {x x' v:Value} {low high max low' high' max':Option Value} (h:zg3 P t x low high max=some v) (hx:zr φ x x')
  (h1:Vd φ low low') (h2:Vd φ high high') (h3:Vd φ max max') (w:World):∃v',(Instr.sliceAt t x' low' high' max').run P w=.ok v' w∧zr φ v v':=by
 unfold zg3 at h
 simp only [qZ,jg] at h
 split at h
 case h_2=>cases h
 rename_i s es full e hx1 hu
 split at h
 case h_2=>cases h
 rename_i inf l hh m hi hb
 split at h
 case isFalse=>cases h
 rename_i hsz
 obtain ⟨sa,c,rfl,hr⟩:=Ge hx1 hx
 have e1:=zbi (P:=P) hb h1 h2 h3 hr.cap true w
 obtain ⟨e1,e2,e3,e4⟩:=e1
 have hle:hh≤es.size:=Nat.le_trans e3 e4
 have hrun:(Instr.sliceAt t (.slice sa es.size c) low' high' max').run P w=.ok (.slice (sa.map fun a=>if m.getD c=l then a else a.add (l*inf.size)) (hh - l) (m.getD c - l)) w:=by
  cases sa with
  |none=>
   simp only [Instr.sliceAt,Sem.run_bind,run_underlying hu,Result.andThen_ok,Instr.slice,e1,qx hi,Sem.run_pure,Option.map_none]
   split<;>rfl
  |some a=>
   simp only [Instr.sliceAt,Sem.run_bind,run_underlying hu,Result.andThen_ok,Instr.slice,e1,qx hi,Sem.run_pure,Option.map_some]
   split<;>rfl
 have hmc:hh≤m.getD c:=by
  cases m with
  |none=>simp only [Option.getD_none] at e3 ⊢;have:=hr.cap;omega
  |some m=>simpa using e3
 have hpl:l < hh→∀b o,sa=some ⟨b,o,none⟩→(sa.map fun a=>if m.getD c=l then a else a.add (l*inf.size))=some ⟨b,o+l*s,none⟩:=by
  rintro hlt b o rfl
  have:m.getD c≠l:=by omega
  simp only [Option.map_some,if_neg this,Addr.add_none,hsz]
 obtain ⟨p1,p2⟩:=zDY hr e2 hle hpl (c':=m.getD c - l) (by omega)
 refine ⟨_,hrun,?_⟩
 cases m with
 |some m=>
  dsimp only at h
  split at h
  ·rename_i hm
   have:=Nat.eq_of_beq_eq_true hm
   subst this
   cases h
   exact p2 rfl
  ·cases h;exact p1
 |none=>
  dsimp only at h
  split at h
  ·rename_i hm
   simp only [Bool.and_eq_true] at hm
   have h5:=Nat.eq_of_beq_eq_true hm.2
   have h6:=hr.full hm.1
   cases h
   refine p2 ?_
   simp only [Option.getD_none]
   omega
  ·cases h;exact p1
def Gf (size:Nat) (x:Value):Option (Nat×List Value):=match gg x with
 |some (s,es,_)=>if s=size then some (es.size,es.toList.flatMap fun e=>e.cells.toList) else none
 |none=>none
theorem zvM {s:Nat}:∀{es:List Value},(∀e∈es,e.cells.size=s)→(es.flatMap fun e=>e.cells.toList).length=es.length*s
 |[],_=>by simp
 |e::es,h=>by
  have h1:=h e (by simp)
  have h2:=zvM (es:=es) fun x hx=>h x (by simp [hx])
  rw [List.flatMap_cons,List.length_append,h2,Array.length_toList,h1,List.length_cons,Nat.add_mul]
  omega
theorem zvN {s:Nat}:∀{es:List Value},(∀e∈es,e.cells.size=s)→∀{i:Nat} {u:Value},(es.flatMap fun e=>e.cells.toList)[i]?=some u→∃(j k:Nat) (e:Value),i=j*s+k∧es[j]?=some e∧e.cells[k]?=some u
 |[],_,i,u,h=>by simp at h
 |e::es,h,i,u,hi=>by
  have h1:=h e (by simp)
  rw [List.flatMap_cons] at hi
  by_cases hlt:i < s
  ·rw [List.getElem?_append_left (by simpa [h1] using hlt)] at hi
   exact ⟨0,i,e,by omega,rfl,by simpa using hi⟩
  ·rw [List.getElem?_append_right (by simp [h1];omega)] at hi
   obtain ⟨j,k,e',h2,h3,h4⟩:=zvN (es:=es) (fun x hx=>h x (by simp [hx])) hi
   refine ⟨j+1,k,e',?_,by simpa using h3,h4⟩
   simp only [Array.length_toList,h1] at h2
   rw [Nat.add_mul];omega
theorem zpT (g:zF φ H K w) {size:Nat} {x x':Value} {m:Nat} {news:List Value} (h:Gf size x=some (m,news)) (hx:zr φ x x') :
  ∃a' c' us,x'=.slice a' m c'∧us.length=m*size∧zw φ news us∧(m=0→us=[])∧(a'=none→m=0)∧(∀a,a'=some a→∀(j:Nat) v,us[j]?=some v→w.cell? (a.add j)=some v):=by
 unfold Gf at h
 split at h
 case h_2=>cases h
 rename_i s es full h1
 split at h
 case isFalse=>cases h
 rename_i hs
 subst hs
 cases h
 obtain ⟨sa,c,rfl,hr⟩:=Ge h1 hx
 by_cases h0:es.size=0
 ·have:es=#[]:=Array.eq_empty_of_size_eq_zero h0
  subst this
  exact ⟨sa,c,[],rfl,by simp,trivial,fun _=>rfl,fun _=>rfl,fun a ha j v hv=>by simp at hv⟩
 ·obtain ⟨b,o,L,rfl,hL,ho,hsz,hrel⟩:=hr.some_ (by omega)
  obtain ⟨_,_,a,el,fr,e1,e2⟩:=g.fz b L hL
  have hall:∀e∈es.toList,e.cells.size=s:=fun e he=>by
   obtain ⟨j,hj,rfl⟩:=List.getElem_of_mem he
   exact hsz j _ (by simp)
  have hln:=zvM hall
  simp only [Array.length_toList] at hln
  refine ⟨_,c,(L.arr.toList.drop o).take (es.size*s),rfl,by simp;omega,zw.of_get (by simp only [hln,List.length_take,List.length_drop,Array.length_toList];omega) fun i v v' hv hv'=>?_,(fun h=>absurd h h0),(fun h=>by cases h),fun a' ha j v hv=>?_⟩
  ·obtain ⟨j,k,e,rfl,h3,h4⟩:=zvN hall hv
   rw [List.getElem?_take] at hv'
   split at hv'
   ·rw [List.getElem?_drop] at hv'
    refine hrel j k e v v' (by simpa using h3) h4 ?_
    rw [Nat.add_assoc];simpa using hv'
   ·cases hv'
  ·cases ha
   rw [Addr.add_none]
   rw [List.getElem?_take] at hv
   split at hv
   ·rw [List.getElem?_drop] at hv
    simp only [World.cell?,e1]
    exact e2 _ _ (by simpa using hv)
   ·cases hv
def uY (H:Hp) (size:Nat):Value→Option (Nat×List Value)
 |.slice none n _=>if n=0 then some (0,[]) else none
 |.slice (some ⟨b,o,none⟩) n _=>
  if n=0 then some (0,[]) else
  match H.get b with
  |some (.cells cs _)=>if o+n*size≤cs.length then some (n,(cs.drop o).take (n*size)) else none
  |_=>none
 |x=>Gf size x
theorem KB (g:zF φ H K w) {size:Nat} {x x':Value} {m:Nat} {news:List Value} (h:uY H size x=some (m,news)) (hx:zr φ x x') :
  ∃a' c' us,x'=.slice a' m c'∧us.length=m*size∧zw φ news us∧(m=0→us=[])∧(a'=none→m=0)∧(∀a,a'=some a→∀(j:Nat) v,us[j]?=some v→w.cell? (a.add j)=some v):=by
 unfold uY at h
 split at h
 ·split at h
  ·rename_i hn
   cases h
   cases hx
   exact ⟨none,_,[],by rw [hn],by simp,trivial,fun _=>rfl,fun _=>rfl,fun a ha=>by cases ha⟩
  ·cases h
 ·rename_i b o n c
  split at h
  ·rename_i hn
   cases h
   subst hn
   cases hx with
   |sl _ _ _ _ L hL hc=>exact ⟨_,_,[],rfl,by simp,trivial,fun _=>rfl,fun _=>rfl,fun a ha j v hv=>by simp at hv⟩
   |slO _ _ _ _ c' L hL hc hn hl=>exact ⟨_,_,[],rfl,by simp,trivial,fun _=>rfl,fun _=>rfl,fun a ha j v hv=>by simp at hv⟩
   |slE _ _ _ a' L hL hc=>exact ⟨_,_,[],rfl,by simp,trivial,fun _=>rfl,fun _=>rfl,fun a ha j v hv=>by simp at hv⟩
  ·rename_i hn
   split at h
   ·rename_i cs ro hb
    split at h
    ·rename_i hfit
     simp only [Option.some.injEq,Prod.mk.injEq] at h
     obtain ⟨rfl,rfl⟩:=h
     have key:∀(L:Loc),φ b=some L→∃us:List Value,us.length=n*size∧zw φ ((cs.drop o).take (n*size)) us∧(n=0→us=[])∧((some ⟨L.blk,L.off+o,none⟩:Option Addr)=none→n=0)∧
       (∀a:Addr,some ⟨L.blk,L.off+o,none⟩=some a→∀(j:Nat) v,us[j]?=some v→w.cell? (a.add j)=some v):=by
      intro L hL
      obtain ⟨us,h1,h2,h3⟩:=g.read hb hL o (n*size) hfit
      refine ⟨us,h1,h3,fun h0=>absurd h0 hn,(fun h0=>by cases h0),fun a ha j v hv=>?_⟩
      cases ha
      rw [Addr.add_none];exact h2 j v hv
     cases hx with
     |sl _ _ _ _ L hL hc=>
      obtain ⟨us,h1,h2,h3,h4,h5⟩:=key L hL
      exact ⟨_,_,us,rfl,h1,h2,h3,h4,h5⟩
     |slO _ _ _ _ c' L hL hc hn hl=>
      obtain ⟨us,h1,h2,h3,h4,h5⟩:=key L hL
      exact ⟨_,_,us,rfl,h1,h2,h3,h4,h5⟩
     |slE=>exact absurd rfl hn
    ·cases h
   ·cases h
 ·exact zpT g h hx
def uZ (P:Program) (H:Hp) (nx:Nat) (t:TypeId) (s x:Value):Option (Value×Hp×Nat):=
  match qT P t with
  |some (.slice e)=>
    match qW P e with
    |some i=>
      match i.zero,uY H i.size x with
      |some z,some (m,news)=>
        if z.cells.size=i.size∧0 < i.size then
          match s with
          |.slice none n c=>
            if n=0∧c=0 then
              (if m=0 then some (s,H,nx+1) else if m≤maxLen∧m*i.bytes≤140737488355328 then some (.slice (some ⟨nx,0,none⟩) m (qg+i.size),(nx,.cells news false)::H,nx+1) else none)
            else none
          |.slice (some ⟨b,o,none⟩) n c=>
            if m=0 then (if n≤c then some (s,H,nx+1) else none) else
            match uY H i.size s with
            |some (_,olds)=>
              if n+m≤maxLen∧(n+m)*i.bytes≤140737488355328∧(qg≤c→c - qg=i.size) then
                (
                 if c < n+m then some (.slice (some ⟨nx,0,none⟩) (n+m) (qg+i.size),(nx,.cells (olds++news) false)::H,nx+1)
                 else if qg≤c then
                   match H.get b with
                   |some (.cells _ false)=>if Wc news then some (.slice (some ⟨nx,0,none⟩) (n+m) (qg+i.size),(nx,.cells (olds++news) false)::H.del b,nx+1) else none
                   |_=>none
                 else match H.get b with
                   |some (.cells cs false)=>if Wc news∧o+(n+m)*i.size≤cs.length then some (.slice (some ⟨b,o,none⟩) (n+m) c,H.set b (.cells (spl cs (o+n*i.size) news) false),nx+1) else none
                   |_=>none)
              else none
            |none=>none
          |s=>match gg s with
            |some (sz,es,full)=>if m=0 then some (s,H,nx+1) else
              if full=true∧sz=i.size∧es.size+m≤maxLen∧(es.size+m)*i.bytes≤140737488355328 then
                match Gf i.size s with
                |some (_,olds)=>some (.slice (some ⟨nx,0,none⟩) (es.size+m) (qg+i.size),(nx,.cells (olds++news) false)::H,nx+1)
                |none=>none
              else none
            |none=>none
        else none
      |_,_=>none
    |none=>none
  |_=>none
theorem gZ {t ty e:TypeId} {i:TypeInfo} (ht:P.underlying t=some (.slice e)) (hi:P.info? e=some i) (b:Option Addr) (n c:Nat) (hn:n≤c) (a:Option Addr) (c':Nat) (w:World) :
  (Builtin.append_ #[t,t] ty #[.slice b n c,.slice a 0 c']).run P w=.ok (.slice b n c) w:=by
 cases a<;>cases b<;>simp [Builtin.append_,run_underlying ht,sizeOf,typeInfo,hi,Builtin.lenOf,hn,Builtin.firstCells,loadCells,loadCellsFrom,storeCells]
theorem zel {t ty e:TypeId} {i:TypeInfo} (ht:P.underlying t=some (.slice e)) (hi:P.info? e=some i)
  (b o sLen sCap:Nat) (a:Addr) (m c:Nat) (news:List Value) (hl:news.length=m*i.size) (hnews:∀(j:Nat) u,news[j]?=some u→w.cell? (a.add j)=some u)
  (hroom:sLen+m≤sCap) {w':World} (hst:(storeCells ⟨b,o+sLen*i.size,none⟩ news).run P w=.ok () w') :
  (Builtin.append_ #[t,t] ty #[.slice (some ⟨b,o,none⟩) sLen sCap,.slice (some a) m c]).run P w=.ok (.slice (some ⟨b,o,none⟩) (sLen+m) sCap) w':=by
 have hf:=run_firstCells_some (P:=P) w i.size m a m c news hl hnews
 simp [Builtin.append_,run_underlying ht,sizeOf,typeInfo,hi,Builtin.lenOf,hroom,hf,Addr.add_none,hst]
theorem zem (g:zF φ H K w) {n:Nat} (hn:φ n=none) (hzn:n < FZ) {cs us:List Value} (hr:zw φ cs us) (e:TypeId) (z:Array Value) (len cap size:Nat) (hz:z.size=size) (hl:us.length=len*size) (hc:len≤cap) :
  ∃
   φ',Ext K φ φ' n (n+1)∧zF φ' ((n,.cells cs false)::H) K (w.drew.alloc (.cells (us.toArray++Builtin.zeroCells z (cap - len)) e))∧
   zr φ' (.slice (some ⟨n,0,none⟩) len (qg+size)) (.slice (some ⟨w.heap.size,0,none⟩) len cap)∧qw K w (w.drew.alloc (.cells (us.toArray++Builtin.zeroCells z (cap - len)) e)):=by
 have e1:(us.toArray++Builtin.zeroCells z (cap - len))=(us++(Builtin.zeroCells z (cap - len)).toList).toArray:=by
  apply Array.ext';simp
 have hsz:(Builtin.zeroCells z (cap - len)).toList.length=(cap - len)*size:=by rw [Array.length_toList,size_zeroCells,hz]
 have htot:us.length+(Builtin.zeroCells z (cap - len)).toList.length=cap*size:=by
  rw [hl,hsz,←Nat.add_mul];congr 1;omega
 have hg:=g.drew.make hn hzn hr e (cap*size) (Builtin.zeroCells z (cap - len)).toList (by omega)
 rw [e1]
 refine ⟨_,Ext.put hn hzn _,hg,?_,(qw.drew K w).trans (qw.alloc g.drew _)⟩
 have:=zr.slO (φ:=φ.put n ⟨w.heap.size,0,cap*size,#[]⟩) n 0 len (qg+size) cap ⟨w.heap.size,0,cap*size,#[]⟩ (Ren.put_same _ _ _) (by omega) hc (by simp)
 simpa using this
theorem zzm (P:Program) (g:zF φ H K w) {nx:Nat} (hfr:φ nx=none) (hzn:nx < FZ) {b o n m c' size:Nat} {bcs olds os news us:List Value} {L:Loc} (hb:H.get b=some (.cells bcs false)) (hL:φ b=some L)
  (hl:L.off+o+c'*size=L.lim) (hroom:n+m≤c') (hol:os.length=n*size) (hor:zw φ olds os) (hoc:∀(j:Nat) v,os[j]?=some v→w.cell? ⟨L.blk,L.off+o+j,none⟩=some v)
  (hul:us.length=m*size) (hur:zw φ news us) (h1:Wc news=true) :
  ∃
   w' φ',(storeCells ⟨L.blk,L.off+o+n*size,none⟩ us).run P w=.ok () w'∧zr φ' (.slice (some ⟨nx,0,none⟩) (n+m) (qg+size)) (.slice (some ⟨L.blk,L.off+o,none⟩) (n+m) c')∧
   Ext K φ φ' nx (nx+1)∧zF φ' ((nx,.cells (olds++news) false)::H.del b) K w'∧qw K w w':=by
 obtain ⟨arr,el,fr,h2,h3,h4⟩:=g.at hb hL
 obtain ⟨rfl,hlim⟩:=h4 rfl
 have hfit:(n+m)*size≤c'*size:=Nat.mul_le_mul_right _ hroom
 have hnm:(n+m)*size=n*size+m*size:=Nat.add_mul _ _ _
 have hst:=run_storeCells_at P L.blk (L.off+o+n*size) el us 0 arr w h2 (by omega) (zob h1 hur)
 have hle:=Ren.put_le hfr ⟨L.blk,L.off+o,L.lim,#[]⟩
 have hoth:∀d k M,H.get d=some k→d≠b→φ d=some M→M.blk≠L.blk:=fun d k M hd hne hM e=>g.sep b d _ k L M hb hd (fun e=>hne e.symm) rfl hL hM e.symm
 have getd:∀d,Hp.get ((nx,Blk.cells (olds++news) false)::H.del b) d=if d=nx then some (.cells (olds++news) false) else if d=b then none else H.get d:=by
  intro d
  by_cases h:d=nx
  ·subst h;simp [Hp.get_cons]
  ·have:¬nx=d:=fun e=>h e.symm
   simp [Hp.get_cons,h,this,Hp.get_del]
 refine ⟨_,φ.put nx ⟨L.blk,L.off+o,L.lim,#[]⟩,hst,?_,Ext.put hfr hzn _,?_,?_⟩
 ·have:=zr.slO (φ:=φ.put nx ⟨L.blk,L.off+o,L.lim,#[]⟩) nx 0 (n+m) (qg+size) c' ⟨L.blk,L.off+o,L.lim,#[]⟩ (Ren.put_same _ _ _) (by omega) hroom (by simp;omega)
  simpa using this
 ·refine ⟨fun d k hd=>?_,fun d d' k k' M M' hd hd' hne hk hM hM'=>?_,fun d k M hd hk hM=>?_,fun c hc=>by rw [zb4];exact g.kin c hc,fun d M hM=>?_,fun d k M e N hd hk hM hN=>?_⟩
  ·rw [getd] at hd
   by_cases hdn:d=nx
   ·subst hdn
    simp at hd
    subst hd
    refine ⟨_,Ren.put_same _ _ _,_,el,(0,0),setRow_heap w L.blk arr _ el _ h2,fun j v hv=>?_,fun _=>⟨rfl,?_⟩⟩
    ·change ∃v',(spl arr.toList (L.off+o+n*size) us).toArray[L.off+o+j]?=some v'∧_
     rw [List.getElem?_toArray,zef _ _ _ (by simp;omega)]
     have hll:=hor.length
     by_cases hj:j < n*size
     ·rw [List.getElem?_append_left (by omega)] at hv
      obtain ⟨u,hu1,hu2⟩:=hor.get hv
      have:=hoc j u hu1
      simp only [World.cell?,h2] at this
      have h7:L.off+o+j < L.off+o+n*size:=by omega
      simp only [h7,if_true]
      exact ⟨u,by simpa using this,hu2.mono hle⟩
     ·rw [List.getElem?_append_right (by omega)] at hv
      obtain ⟨u,hu1,hu2⟩:=hur.get hv
      have hj2:=(List.getElem?_eq_some_iff.1 hu1).1
      have h7:¬L.off+o+j < L.off+o+n*size:=by omega
      have h8:L.off+o+j < L.off+o+n*size+us.length:=by omega
      have h9:L.off+o+j - (L.off+o+n*size)=j - olds.length:=by omega
      simp only [h7,h8,h9,if_true,if_false]
      exact ⟨u,hu1,hu2.mono hle⟩
    ·simp only [List.size_toArray,List.length_append,List.length_take,List.length_drop,Array.length_toList];omega
   ·simp [hdn] at hd
    obtain ⟨hdb,hd⟩:=hd
    obtain ⟨M,hM,hr⟩:=g.rel d k hd
    refine ⟨M,by rw [Ren.put_other _ _ hdn];exact hM,(hr.congr ?_).mono hle⟩
    exact Vc w L.blk _ _ (hoth d k M hd hdb hM)
  ·rw [getd] at hd hd'
   by_cases hdn:d=nx
   ·subst hdn
    have hdn':¬d'=d:=fun e=>hne e.symm
    simp [hdn'] at hd'
    rw [Ren.put_same] at hM;cases hM
    rw [Ren.put_other _ _ hdn'] at hM'
    exact fun e=>hoth d' k' M' hd'.2 hd'.1 hM' e.symm
   ·simp [hdn] at hd
    rw [Ren.put_other _ _ hdn] at hM
    by_cases hdn':d'=nx
    ·subst hdn'
     rw [Ren.put_same] at hM';cases hM'
     exact hoth d k M hd.2 hd.1 hM
    ·simp [hdn'] at hd'
     rw [Ren.put_other _ _ hdn'] at hM'
     exact g.sep d d' k k' M M' hd.2 hd'.2 hne hk hM hM'
  ·rw [getd] at hd
   by_cases hdn:d=nx
   ·subst hdn
    rw [Ren.put_same] at hM;cases hM
    exact g.prot b _ L hb rfl hL
   ·simp [hdn] at hd
    rw [Ren.put_other _ _ hdn] at hM
    exact g.prot d k M hd.2 hk hM
  ·rw [Ren.put_other _ _ (by omega)] at hM
   exact (g.fz d M hM).congr (Vc w L.blk _ _ fun e=>g.fsep b _ L d M hb rfl hL hM e.symm)
  ·rw [Ren.put_other _ _ (by omega)] at hN
   rw [getd] at hd
   by_cases hdn:d=nx
   ·subst hdn
    rw [Ren.put_same] at hM;cases hM
    exact g.fsep b _ L e N hb rfl hL hN
   ·simp [hdn] at hd
    rw [Ren.put_other _ _ hdn] at hM
    exact g.fsep d k M e N hd.2 hk hM hN
 ·exact ⟨rfl,rfl,rfl,Nat.le_of_eq (zb4 w L.blk _).symm,fun c hc=>Vc w L.blk _ c (fun e=>g.prot b _ L hb rfl hL (e▸hc))⟩
theorem zr7 {n b:Nat} {k:Blk}:∀d x,Hp.get ((n,k)::H.del b) d=some x→Hp.get ((n,k)::H) d=some x:=by
 intro d x hd
 simp only [Hp.get_cons] at hd ⊢
 split at hd
 ·rename_i he;simp only [he];exact hd
 ·rename_i he
  simp only [he]
  rw [Hp.get_del] at hd
  split at hd
  ·cases hd
  ·exact hd
set_option maxHeartbeats 1000000 in
theorem znB (g:zF φ H K w) {nx:Nat} (hfr:φ nx=none) (hzn:nx < FZ) {t ty:TypeId} {s x s' x' v:Value} {H':Hp} {nx':Nat} (h:uZ P H nx t s x=some (v,H',nx')) (hs:zr φ s s') (hx:zr φ x x') :
  ∃v' w' φ',(Builtin.append_ #[t,t] ty #[s',x']).run P w=.ok v' w'∧zr φ' v v'∧Ext K φ φ' nx nx'∧zF φ' H' K w'∧qw K w w'∧nx≤nx':=by
 unfold uZ at h
 simp only [qZ,jg] at h
 split at h
 case h_2=>cases h
 rename_i e hu
 split at h
 case h_2=>cases h
 rename_i i hi
 split at h
 case h_2=>cases h
 rename_i z m news hz hsrc
 split at h
 case isFalse=>cases h
 rename_i hzs
 obtain ⟨hzs,hpos⟩:=hzs
 obtain ⟨ax,cx,us,rfl,hul,hur,hu0,hax,hcell⟩:=KB g hsrc hx
 split at h
 ·
  rename_i n c
  split at h
  case isFalse=>cases h
  rename_i hnc
  obtain ⟨rfl,rfl⟩:=hnc
  cases hs
  split at h
  ·rename_i hm
   cases h
   subst hm
   exact ⟨_,w,φ,gZ hu hi _ _ _ (Nat.le_refl _) _ _ w,.slN _ _,Ext.refl _ _ _ _,g,qw.refl _ _,Nat.le_succ _⟩
  ·rename_i hm
   split at h
   case isFalse=>cases h
   rename_i hb
   cases h
   cases ax with
   |none=>exact absurd (hax rfl) hm
   |some a=>
    have hrun:=run_append_nil (P:=P) w t ty e i z hu hi hz a m cx us hul (hcell a rfl) (by omega) (by have:=hb.1;simp only [maxLen] at this;omega) (by omega)
    have hge:=grownCap_ge w m 0 e
    obtain ⟨φ',h1,h2,h3,h4⟩:=zem g hfr hzn hur e z.cells m (grownCap w m 0 e) i.size hzs hul hge
    exact ⟨_,_,φ',hrun,h3,h1,h2,h4,Nat.le_succ _⟩
 ·rename_i b o n c
  split at h
  ·rename_i hm
   split at h
   case isFalse=>cases h
   rename_i hnc
   cases h
   subst hm
   refine ⟨s',w,φ,?_,hs,Ext.refl _ _ _ _,g,qw.refl _ _,Nat.le_succ _⟩
   cases hs with
   |sl _ _ _ _ L hL hc=>exact gZ hu hi _ _ _ hnc _ _ w
   |slO _ _ _ _ c' L hL hc hn hl=>exact gZ hu hi _ _ _ hn _ _ w
   |slE _ _ _ a' L hL hc=>exact gZ hu hi _ _ _ (Nat.le_refl _) _ _ w
  ·rename_i hm
   split at h
   case h_2=>cases h
   rename_i m0 olds hso
   split at h
   case isFalse=>cases h
   rename_i hbd
   obtain ⟨h63,hby,hes⟩:=hbd
   obtain ⟨zFL,cs',os,hse,hol,hor,ho0,has,hoc⟩:=KB g hso hs
   have h63':((n+m:Nat):Int)≤9223372036854775807:=by simp only [maxLen] at h63;omega
   have hm0:m0=n:=by cases hs<;>(cases hse;rfl)
   subst hm0
   cases ax with
   |none=>exact absurd (hax rfl) hm
   |some a=>
    have grows:∀(bs:Addr) (cc:Nat),s'=.slice (some bs) m0 cc→cc < m0+m→zFL=some bs→∃v' w' φ',(Builtin.append_ #[t,t] ty #[s',.slice (some a) m cx]).run P w=.ok v' w'∧
      zr φ' (.slice (some ⟨nx,0,none⟩) (m0+m) (qg+i.size)) v'∧Ext K φ φ' nx (nx+1)∧zF φ' ((nx,.cells (olds++news) false)::H) K w'∧qw K w w':=by
     intro bs cc hs' hcc hbs
     subst hs'
     have hrun:=run_append_grow (P:=P) w t ty e i z hu hi hz bs m0 cc os hol (hoc bs hbs) a m cx us hul (hcell a rfl) hcc h63' (growslice_fits hcc hby)
     have hge:=grownCap_ge w (m0+m) cc e
     obtain ⟨φ',h1,h2,h3,h4⟩:=zem g hfr hzn (hor.append hur) e z.cells (m0+m) (grownCap w (m0+m) cc e) i.size hzs (by rw [List.length_append,hol,hul,Nat.add_mul]) hge
     rw [show (os++us).toArray=os.toArray++us.toArray by apply Array.ext';simp] at h2 h4
     exact ⟨_,_,φ',hrun,h3,h1,h2,h4⟩
    split at h
    ·rename_i hcn
     cases h
     have hcl:c < qg:=by simp only [maxLen,qg] at *;omega
     cases hs with
     |sl _ _ _ _ L hL hc=>
      obtain ⟨v',w',φ',h1,h2,h3,h4,h5⟩:=grows _ _ rfl hcn (by cases hse;rfl)
      exact ⟨v',w',φ',h1,h2,h3,h4,h5,Nat.le_succ _⟩
     |slO _ _ _ _ c' L hL hc hn hl=>omega
     |slE _ _ _ a' L hL hc=>omega
    ·rename_i hcn
     split at h
     ·rename_i hop
      split at h
      case h_2=>cases h
      rename_i bcs hb
      split at h
      case isFalse=>cases h
      rename_i h1
      cases h
      cases hs with
      |sl _ _ _ _ L hL hc=>omega
      |slE _ _ _ a' L hL hc=>
       obtain ⟨v',w',φ',h1,h2,h3,h4,h5⟩:=grows _ _ rfl (by omega) (by cases hse;rfl)
       exact ⟨v',w',φ',h1,h2,h3,h4.sub zr7,h5,Nat.le_succ _⟩
      |slO _ _ _ _ c' L hL hc hn hl=>
       obtain rfl:zFL=some ⟨L.blk,L.off+o,none⟩:=by cases hse;rfl
       have hes':=hes hop
       rw [hes'] at hl
       by_cases hroom:m0+m≤c'
       ·obtain ⟨w',φ',h2,h3,h4,h5,h6⟩:=zzm P g hfr hzn hb hL hl hroom hol hor (fun j v hv=>by have:=hoc _ rfl j v hv;rwa [Addr.add_none] at this) hul hur h1
        exact ⟨_,w',φ',zel (P:=P) (ty:=ty) (w:=w) hu hi L.blk (L.off+o) m0 c' a m cx us hul (hcell a rfl) hroom h2,h3,h4,h5,h6,Nat.le_succ _⟩
       ·obtain ⟨v',w',φ',h1,h2,h3,h4,h5⟩:=grows _ _ rfl (by omega) rfl
        exact ⟨v',w',φ',h1,h2,h3,h4.sub zr7,h5,Nat.le_succ _⟩
     ·rename_i hop
      split at h
      case h_2=>cases h
      rename_i bcs hb
      split at h
      case isFalse=>cases h
      rename_i hfit
      cases h
      cases hs with
      |slO _ _ _ _ c' L hL hc hn hl=>omega
      |slE _ _ _ a' L hL hc=>omega
      |sl _ _ _ _ L hL hc=>
       have hll:=hur.length
       have hnm:(m0+m)*i.size=m0*i.size+m*i.size:=Nat.add_mul _ _ _
       have hne:news≠[]:=fun e=>by
        rw [e] at hll
        have:0 < m*i.size:=Nat.mul_pos (by omega) hpos
        simp only [List.length_nil] at hll;omega
       obtain ⟨w',hst,hg,hw⟩:=g.write P hb hL (o+m0*i.size) (by omega) hfit.1 hur hne
       rw [←Nat.add_assoc] at hst
       have hrun:=zel (P:=P) (ty:=ty) (w:=w) hu hi L.blk (L.off+o) m0 c a m cx us hul (hcell a rfl) (by omega) hst
       exact ⟨_,w',φ,hrun,.sl b o _ _ L hL hc,Ext.refl _ _ _ _,hg,hw,Nat.le_succ _⟩
 ·split at h
  case h_2=>cases h
  rename_i sz es full hfe
  obtain ⟨sa,cs0,rfl,hfr2⟩:=Ge hfe hs
  split at h
  ·rename_i hm
   cases h
   subst hm
   exact ⟨_,w,φ,gZ hu hi _ _ _ hfr2.cap _ _ w,hs,Ext.refl _ _ _ _,g,qw.refl _ _,Nat.le_succ _⟩
  ·rename_i hm
   split at h
   case isFalse=>cases h
   rename_i hb
   obtain ⟨hfull,hsz,h63,hby⟩:=hb
   split at h
   case h_2=>cases h
   rename_i m0 olds hso
   cases h
   obtain ⟨zFL,cs',os,hse,hol,hor,ho0,has,hoc⟩:=zpT g hso hs
   have hcap:=hfr2.full hfull
   have hm0:m0=es.size:=by cases hse;rfl
   subst hm0
   have h63':((es.size+m:Nat):Int)≤9223372036854775807:=by simp only [maxLen] at h63;omega
   cases ax with
   |none=>exact absurd (hax rfl) hm
   |some a=>
    by_cases h0:es.size=0
    ·cases sa with
     |none=>
      have e0:os=[]:=ho0 h0
      subst e0
      have ol0:olds=[]:=by have:=hor.length;simp at this;exact this
      subst ol0
      have hc0:cs0=0:=by omega
      subst hc0
      rw [h0]
      have hrun:=run_append_nil (P:=P) w t ty e i z hu hi hz a m cx us hul (hcell a rfl) (by omega) (by simp only [maxLen] at h63;omega) (by rw [h0,Nat.zero_add] at hby;exact Nat.le_trans hby (by decide))
      have hge:=grownCap_ge w m 0 e
      obtain ⟨φ',h1,h2,h3,h4⟩:=zem g hfr hzn hur e z.cells m (grownCap w m 0 e) i.size hzs hul hge
      exact ⟨_,_,φ',hrun,by simpa using h3,h1,by simpa using h2,h4,Nat.le_succ _⟩
     |some bs=>
      have hrun:=run_append_grow (P:=P) w t ty e i z hu hi hz bs es.size cs0 os hol (fun j u hj=>by rw [ho0 h0] at hj;simp at hj) a m cx us hul (hcell a rfl) (by omega) h63' (growslice_fits (by omega) hby)
      have hge:=grownCap_ge w (es.size+m) cs0 e
      obtain ⟨φ',h1,h2,h3,h4⟩:=zem g hfr hzn (hor.append hur) e z.cells (es.size+m) (grownCap w (es.size+m) cs0 e) i.size hzs (by rw [List.length_append,hol,hul,Nat.add_mul]) hge
      rw [show (os++us).toArray=os.toArray++us.toArray by apply Array.ext';simp] at h2 h4
      exact ⟨_,_,φ',hrun,h3,h1,h2,h4,Nat.le_succ _⟩
    ·obtain ⟨b,o,L,rfl,_⟩:=hfr2.some_ (by omega)
     have has2:zFL=some ⟨b,o,none⟩:=by cases hse;rfl
     have hrun:=run_append_grow (P:=P) w t ty e i z hu hi hz ⟨b,o,none⟩ es.size cs0 os hol (hoc _ has2) a m cx us hul (hcell a rfl) (by omega) h63' (growslice_fits (by omega) hby)
     have hge:=grownCap_ge w (es.size+m) cs0 e
     obtain ⟨φ',h1,h2,h3,h4⟩:=zem g hfr hzn (hor.append hur) e z.cells (es.size+m) (grownCap w (es.size+m) cs0 e) i.size hzs (by rw [List.length_append,hol,hul,Nat.add_mul]) hge
     rw [show (os++us).toArray=os.toArray++us.toArray by apply Array.ext';simp] at h2 h4
     exact ⟨_,_,φ',hrun,h3,h1,h2,h4,Nat.le_succ _⟩
def zoe (φ:Ren):List (Nat×Value)→List (Nat×Value)→Prop
 |[],[]=>True
 |x::xs,y::ys=>y.1=x.1∧zr φ x.2 y.2∧zoe φ xs ys
 |_,_=>False
def zhY:List (Nat×Value)→Bool
 |[]=>true
 |x::xs=>zb5 x.2&&zhY xs
theorem zja:∀{xs ys:List Value} (k off:Nat) {cs ds:Array Value},zw φ xs ys→zw φ cs.toList ds.toList→
  zw φ ((xs.zipIdx k).foldl (fun (cs:Array Value) (p:Value×Nat)=>cs.setIfInBounds (off+p.2) p.1) cs).toList ((ys.zipIdx k).foldl (fun (cs:Array Value) (p:Value×Nat)=>cs.setIfInBounds (off+p.2) p.1) ds).toList
 |[],[],k,off,cs,ds,_,hc=>by simpa using hc
 |x::xs,y::ys,k,off,cs,ds,h,hc=>by
  simp only [List.zipIdx_cons,List.foldl_cons]
  refine zja (k+1) off h.2 ?_
  simpa using hc.set h.1 (off+k)
 |[],_::_,_,_,_,_,h,_=>h.elim
 |_::_,[],_,_,_,_,h,_=>h.elim
theorem zhZ (place:Nat→Option (Nat×Nat)):∀{ps qs:List (Nat×Value)} {cs ds:Array Value} {out:Array Value},zoe φ ps qs→zhY ps=true→zw φ cs.toList ds.toList→
  Instr.fill place cs ps=some out→∃out',Instr.fill place ds qs=some out'∧zw φ out.toList out'.toList
 |[],[],cs,ds,out,_,_,hc,h=>by
  simp [Instr.fill] at h ⊢
  subst h;exact hc
 |(i,v)::ps,(j,v')::qs,cs,ds,out,hp,hf,hc,h=>by
  obtain ⟨rfl,hv,hp⟩:=hp
  simp only [zhY,Bool.and_eq_true] at hf
  have hcells:=hv.cells' hf.1
  have hl:=hcells.length
  have hl2:=hc.length
  simp only [Array.length_toList] at hl hl2
  simp only [Instr.fill] at h ⊢
  cases hpl:place j with
  |none=>simp [hpl] at h
  |some p=>
   obtain ⟨off,size⟩:=p
   simp only [hpl] at h ⊢
   rw [←hl,←hl2]
   split at h
   ·cases h
   ·rename_i hcond
    rw [if_neg hcond]
    refine zhZ place hp hf.2 ?_ h
    have:=zja (φ:=φ) 0 off hcells hc
    rw [←Array.foldl_toList,←Array.foldl_toList,Array.toList_zipIdx,Array.toList_zipIdx]
    exact this
 |[],_::_,_,_,_,h,_,_,_=>h.elim
 |_::_,[],_,_,_,h,_,_,_=>h.elim
theorem qX {α β:Type} (s:Sem α) (f:α→Sem β):qd P (s.bind f)=(qd P s).bind fun a=>qd P (f a):=by
 induction s with
 |pure a=>rfl
 |program k ih=>simpa [Sem.bind,qd] using ih P
 |mark m k ih=>simpa [Sem.bind,qd] using ih
 |_=>rfl
def zyD (P:Program) (fields:Array Field):Option (Array (Nat×Nat)):=qd P (fields.mapM fun f=>do pure (f.offset,←sizeOf f.type):Sem (Array (Nat×Nat)))
def zg4 (P:Program) (t:TypeId) (parts:List (Nat×Value)):Option Value:=
 match qW P t with
 |some i=>match i.zero with
  |some z=>
   if avL z.cells.toList&&zhY parts then
    match qT P t with
    |some (.struct fields)=>match zyD P fields with
     |some places=>(Instr.fill (places[·]?) z.cells parts).map Value.agg
     |none=>none
    |some (.array _ e)=>match qW P e with
     |some ie=>(Instr.fill (fun i=>some (i*ie.size,ie.size)) z.cells parts).map Value.agg
     |none=>none
    |_=>none
   else none
  |none=>none
 |none=>none
theorem zzn {t:TypeId} {ps qs:List (Nat×Value)} {v:Value} (h:zg4 P t ps=some v) (hp:zoe φ ps qs) (w:World) :
  ∃v',(Instr.build t qs.toArray).run P w=.ok v' w∧zr φ v v':=by
 unfold zg4 at h
 simp only [qZ,jg] at h
 split at h
 case h_2=>cases h
 rename_i i hi
 split at h
 case h_2=>cases h
 rename_i z hz
 split at h
 case isFalse=>cases h
 rename_i hc
 simp only [Bool.and_eq_true] at hc
 have hzr:zw φ z.cells.toList z.cells.toList:=zbh hc.1
 split at h
 ·rename_i fields hu
  split at h
  ·rename_i places hpl
   simp only [Option.map_eq_some_iff] at h
   obtain ⟨out,hout,rfl⟩:=h
   obtain ⟨out',ho',hr⟩:=zhZ _ hp hc.2 hzr hout
   have hrun:=zkt (P:=P) _ w hpl
   refine ⟨.agg out',?_,.agg' hr⟩
   simp only [Instr.build,Sem.run_bind,vg hi hz,Result.andThen_ok,run_underlying hu,hrun,ho',Sem.run_pure]
  ·cases h
 ·rename_i n e hu
  split at h
  ·rename_i ie hie
   simp only [Option.map_eq_some_iff] at h
   obtain ⟨out,hout,rfl⟩:=h
   obtain ⟨out',ho',hr⟩:=zhZ _ hp hc.2 hzr hout
   refine ⟨.agg out',?_,.agg' hr⟩
   simp only [Instr.build,Sem.run_bind,vg hi hz,Result.andThen_ok,run_underlying hu,qx hie,ho',Sem.run_pure]
  ·cases h
 ·cases h
theorem zkv (f:Nat→Value):(Array.range 0).map f=#[]:=by apply Array.ext<;>simp
def WC (P:Program) (H:Hp) (nx:Nat) (t:TypeId) (len:Nat) (parts:List (Nat×Value)):Option (Value×Hp×Nat):=
 match qT P t with
 |some (.slice e)=>match qW P e with
  |some ie=>match ie.zero with
   |some z=>
    if len*ie.size≤2 ^ 24∧len < qg∧avL z.cells.toList=true∧zhY parts=true∧0 < z.cells.size then
     match Instr.fill (fun i=>some (i*ie.size,ie.size)) ((Array.range (len*ie.size)).map (z.cells[· % z.cells.size]!)) parts with
     |some cells=>if avL ((Array.range (len*ie.size)).map (z.cells[· % z.cells.size]!)).toList then some (.slice (some ⟨nx,0,none⟩) len len,(nx,.cells cells.toList false)::H,nx+1) else none
     |none=>none
    else none
   |none=>none
  |none=>none
 |_=>none
theorem zpU (g:zF φ H K w) {nx:Nat} (hfr:φ nx=none) (hzn:nx < FZ) {t:TypeId} {len:Nat} {ps qs:List (Nat×Value)} {v:Value} {H':Hp} {nx':Nat}
  (h:WC P H nx t len ps=some (v,H',nx')) (hp:zoe φ ps qs) :
  ∃v' w' φ',(Instr.buildSlice t len qs.toArray).run P w=.ok v' w'∧zr φ' v v'∧Ext K φ φ' nx nx'∧zF φ' H' K w'∧qw K w w'∧nx≤nx':=by
 unfold WC at h
 simp only [qZ,jg] at h
 split at h
 case h_2=>cases h
 rename_i e hu
 split at h
 case h_2=>cases h
 rename_i ie hie
 split at h
 case h_2=>cases h
 rename_i z hz
 split at h
 case isFalse=>cases h
 rename_i hc
 obtain ⟨h24,hop,hzv,hf,hpos⟩:=hc
 split at h
 case h_2=>cases h
 rename_i cells hcells
 split at h
 case isFalse=>cases h
 rename_i hav
 cases h
 obtain ⟨out',ho',hr⟩:=zhZ _ hp hf (zbh hav) hcells
 have hg:=g.make hfr hzn hr e out'.toList.length [] (by simp)
 simp only [List.append_nil,Array.toArray_toList] at hg
 refine ⟨.slice (some ⟨w.heap.size,0,none⟩) len len,w.alloc (.cells out' e),_,?_,?_,Ext.put hfr hzn _,hg,qw.alloc g _,Nat.le_succ _⟩
 ·have h24':¬(len*ie.size > 2 ^ 24):=by omega
  by_cases h0:len*ie.size=0
  ·rw [h0,zkv] at ho'
   simp [Instr.buildSlice,run_underlying hu,qx hie,h0,zkv,ho',newRow]
  ·simp [Instr.buildSlice,run_underlying hu,qx hie,h24',h0,vg hie hz,ho',newRow] at h24' ⊢
 ·have:=zr.sl (φ:=φ.put nx ⟨w.heap.size,0,out'.toList.length,#[]⟩) nx 0 len len _ (Ren.put_same _ _ _) hop
  simpa using this
def zcj (P:Program) (t:TypeId) (cs:List Value) (off:Nat):Option Value:=
 match qT P t,qW P t with
 |some d,some i=>if Jd d then some (.agg ((cs.drop off).take i.size).toArray) else cs[off]?
 |_,_=>none
theorem zg5 (cs:Array Value) (a n:Nat):(cs.extract a (a+n)).toList=(cs.toList.drop a).take n:=by
 simp [Array.toList_extract]
theorem ztH {t:TypeId} {cs cs':Array Value} {off:Nat} {v:Value} (h:zcj P t cs.toList off=some v) (hr:zw φ cs.toList cs'.toList) (w:World) :
  ∃v',(part t cs' off).run P w=.ok v' w∧zr φ v v':=by
 unfold zcj at h
 simp only [qZ,jg] at h
 split at h
 ·rename_i d i hu hi
  by_cases hd:Jd d=true
  ·simp only [hd,if_true] at h
   cases h
   refine ⟨.agg (cs'.extract off (off+i.size)),by simp [part,Gd hu,hd,qx hi],.agg' ?_⟩
   rw [zg5]
   simpa using (hr.drop off).take i.size
  ·have hd:Jd d=false:=by simpa using hd
   simp only [hd,if_false,Bool.false_eq_true] at h
   obtain ⟨u,hu1,hu2⟩:=hr.get h
   have:cs'[off]?=some u:=by simpa using hu1
   exact ⟨u,by simp [part,Gd hu,hd,this],hu2⟩
 ·cases h
def zg6 (P:Program) (t:TypeId) (f:Nat):Value→Option Value
 |.agg cs=>match qT P t with
  |some (.struct fields)=>match fields[f]? with
   |some fl=>zcj P fl.type cs.toList fl.offset
   |none=>none
  |_=>none
 |_=>none
theorem zzo {t:TypeId} {f:Nat} {x x' v:Value} (h:zg6 P t f x=some v) (hx:zr φ x x') (w:World) :
  ∃v',(Instr.field t x' f).run P w=.ok v' w∧zr φ v v':=by
 unfold zg6 at h
 simp only [jg] at h
 split at h
 case h_2=>cases h
 split at h
 case h_2=>cases h
 rename_i fields hu
 split at h
 case h_2=>cases h
 rename_i fl hf
 obtain ⟨ys,rfl,hl⟩:=hx.agg_inv
 obtain ⟨v',h1,h2⟩:=ztH h hl w
 exact ⟨v',by simp [Instr.field,run_underlying hu,hf,asAgg,h1],h2⟩
def zg7 (P:Program) (t:TypeId) (x i:Value):Option Value:=
 match qT P t,x with
 |some (.array n e),.agg cs=>match idx i n,qW P e with
  |some j,some ie=>zcj P e cs.toList (j*ie.size)
  |_,_=>none
 |some .string,.string s=>if av i then sc P (Instr.index t (.string s) i) else none
 |_,_=>none
theorem zzp {t:TypeId} {x x' i i' v:Value} (h:zg7 P t x i=some v) (hx:zr φ x x') (hi:zr φ i i') (w:World) :
  ∃v',(Instr.index t x' i').run P w=.ok v' w∧zr φ v v':=by
 unfold zg7 at h
 simp only [qZ,jg] at h
 split at h
 ·rename_i n e cs hu
  split at h
  ·rename_i j ie hj hie
   obtain ⟨k,z,rfl,h0,h1,rfl⟩:=zhX hj
   cases hi
   obtain ⟨ys,rfl,hl⟩:=hx.agg_inv
   obtain ⟨v',h2,h3⟩:=ztH h hl w
   exact ⟨v',by simp [Instr.index,asIntOf,run_underlying hu,h0,h1,qx hie,h2],h3⟩
  ·cases h
 ·split at h
  ·rename_i hv
   cases hx
   rw [zhW hv hi]
   exact ⟨v,zci h w⟩
  ·cases h
 ·cases h
def zck (n:Nat):Value→Option Value
 |.tuple vs=>vs.toList[n]?
 |_=>none
theorem zvO {n:Nat} {x x' v:Value} (h:zck n x=some v) (hx:zr φ x x') (w:World):∃v',(Instr.extract x' n).run P w=.ok v' w∧zr φ v v':=by
 unfold zck at h
 split at h
 ·obtain ⟨ys,rfl,hl⟩:=hx.tuple_inv
  obtain ⟨u,hu1,hu2⟩:=hl.get h
  have:ys[n]?=some u:=by simpa using hu1
  exact ⟨u,by simp [Instr.extract,this],hu2⟩
 ·cases h
def KD (P:Program) (H:Hp) (nx:Nat) (t:TypeId) (l c:Value):Option (Value×Hp×Nat):=
 match l,c,qT P t with
 |.int kl zl,.int kc zc,some (.slice e)=>match qW P e with
  |some ie=>match ie.zero with
   |some z=>
    if IntKind.i64.wrap zl=zl∧IntKind.i64.wrap zc=zc∧0≤zl∧zl≤zc∧(ie.bytes:Int)*zc≤2 ^ 48∧zc.toNat < qg∧0 < z.cells.size∧
      avL ((Array.range (zc.toNat*ie.size)).map (z.cells[· % z.cells.size]!)).toList=true then
     some (.slice (some ⟨nx,0,none⟩) zl.toNat zc.toNat,(nx,.cells ((Array.range (zc.toNat*ie.size)).map (z.cells[· % z.cells.size]!)).toList false)::H,nx+1)
    else none
   |none=>none
  |none=>none
 |_,_,_=>none
theorem zr8 (g:zF φ H K w) {nx:Nat} (hfr:φ nx=none) (hzn:nx < FZ) {t:TypeId} {l c l' c' v:Value} {H':Hp} {nx':Nat} (h:KD P H nx t l c=some (v,H',nx')) (hl:zr φ l l') (hc:zr φ c c') :
  ∃v' w' φ',(Instr.makeSlice t l' c').run P w=.ok v' w'∧zr φ' v v'∧Ext K φ φ' nx nx'∧zF φ' H' K w'∧qw K w w'∧nx≤nx':=by
 unfold KD at h
 simp only [qZ,jg] at h
 split at h
 case h_2=>cases h
 rename_i kl zl kc zc e hu
 split at h
 case h_2=>cases h
 rename_i ie hie
 split at h
 case h_2=>cases h
 rename_i z hz
 split at h
 case isFalse=>cases h
 rename_i hcond
 obtain ⟨hw1,hw2,h0,h1,h48,hop,hpos,hav⟩:=hcond
 cases h
 cases hl
 cases hc
 have hg:=g.make hfr hzn (zbh hav) e ((Array.range (zc.toNat*ie.size)).map (z.cells[· % z.cells.size]!)).toList.length [] (by simp)
 simp only [List.append_nil,Array.toArray_toList] at hg
 refine ⟨.slice (some ⟨w.heap.size,0,none⟩) zl.toNat zc.toNat,w.alloc (.cells ((Array.range (zc.toNat*ie.size)).map (z.cells[· % z.cells.size]!)) e),_,?_,?_,Ext.put hfr hzn _,hg,qw.alloc g _,Nat.le_succ _⟩
 ·have c1:(decide (zc < 0)||decide ((ie.bytes:Int)*zc > 2 ^ 48))=false:=by simp;omega
  have c2:¬(zl < 0):=by omega
  have c3:¬(zl > zc):=by omega
  by_cases hq:zc.toNat*ie.size=0
  ·simp only [Instr.makeSlice,Sem.run_bind,run_underlying hu,Result.andThen_ok,asInt,asIntOf,typeInfo,run_program,hie,Sem.run_pure,hw1,hw2]
   simp only [c1,c2,c3,decide_false,Bool.or_false,Bool.false_eq_true,if_false,Sem.run_pure,Result.andThen_ok,run_askRoom,qx hie,Sem.run_bind,hq,if_true,zkv,newRow,run_newObj]
   rfl
  ·simp only [Instr.makeSlice,Sem.run_bind,run_underlying hu,Result.andThen_ok,asInt,asIntOf,typeInfo,run_program,hie,Sem.run_pure,hw1,hw2]
   simp only [c1,c2,c3,decide_false,Bool.or_false,Bool.false_eq_true,if_false,Sem.run_pure,Result.andThen_ok,run_askRoom,qx hie,Sem.run_bind,hq,vg hie hz,newRow,run_newObj]
   rfl
 ·have:=zr.sl (φ:=φ.put nx ⟨w.heap.size,0,((Array.range (zc.toNat*ie.size)).map (z.cells[· % z.cells.size]!)).toList.length,#[]⟩) nx 0 zl.toNat zc.toNat _ (Ren.put_same _ _ _) hop
  simpa using this
def zvP (P:Program) (H:Hp) (t:TypeId) (d x:Value):Option (Value×Hp):=
 match qT P t,d,x with
 |some (.slice e),.slice (some ⟨b,o,none⟩) n _,.slice ax m cx=>match qW P e with
  |some ie=>
   if Nat.min m n=0 then some (goInt 0,H) else
   match uY H ie.size (.slice ax (Nat.min m n) cx),H.get b with
   |some (_,news),some (.cells cs false)=>
    if Wc news∧o+news.length≤cs.length∧news≠[] then some (goInt (Nat.min m n),H.set b (.cells (spl cs o news) false)) else none
   |_,_=>none
  |none=>none
 |some (.slice e),.slice none n _,.slice ax m cx=>match qW P e with
  |some ie=>if n=0 then some (goInt 0,H) else none
  |none=>none
 |_,_,_=>none
theorem zr.shorten {a:Option Addr} {m c k:Nat} {x':Value} (h:zr φ (.slice a m c) x') (hk:k≤m):∃a' c',x'=.slice a' m c'∧zr φ (.slice a k c) (.slice a' k c'):=by
 cases h with
 |slN n c=>exact ⟨_,_,rfl,.slN _ _⟩
 |sl b o n c L h hc=>exact ⟨_,_,rfl,.sl b o _ c L h hc⟩
 |slO b o n c c' L h hc hn hl=>exact ⟨_,_,rfl,.slO b o _ c c' L h hc (by omega) hl⟩
 |slE b o c a' L h hc=>
  have:k=0:=by omega
  subst this
  exact ⟨_,_,rfl,.slE b o c a' L h hc⟩
theorem zAL (g:zF φ H K w) {t ts ty:TypeId} {d x d' x' v:Value} {H':Hp} (h:zvP P H t d x=some (v,H')) (hd:zr φ d d') (hx:zr φ x x') :
  ∃w',(Builtin.copy_ #[t,ts] ty #[d',x']).run P w=.ok v w'∧zr φ v v∧zF φ H' K w'∧qw K w w':=by
 unfold zvP at h
 simp only [qZ,jg] at h
 split at h
 ·rename_i e b o n c ax m cx hu
  split at h
  case h_2=>cases h
  rename_i ie hie
  obtain ⟨ax',cx',rfl,hsh⟩:=hx.shorten (Nat.min_le_left m n)
  have hd':∃a' c',d'=.slice (some a') n c'∧(n≠0→∃L,φ b=some L∧a'=⟨L.blk,L.off+o,none⟩):=by
   cases hd with
   |sl _ _ _ _ L h _=>exact ⟨_,_,rfl,fun _=>⟨L,h,rfl⟩⟩
   |slO _ _ _ _ c' L h _ _ _=>exact ⟨_,_,rfl,fun _=>⟨L,h,rfl⟩⟩
   |slE _ _ _ a' L h _=>exact ⟨_,_,rfl,fun h0=>absurd rfl h0⟩
  obtain ⟨a',c',rfl,hn⟩:=hd'
  split at h
  ·rename_i h0
   cases h
   refine ⟨w,?_,.int _ _,g,qw.refl _ _⟩
   cases ax'<;>simp [Builtin.copy_,run_underlying hu,Builtin.lenOf,h0,qx hie,Builtin.firstCells,loadCells,loadCellsFrom,storeCells]
  ·rename_i h0
   split at h
   ·rename_i m0 news cs hsrc hb
    split at h
    case isFalse=>cases h
    rename_i hc
    obtain ⟨h1,hfit,hne⟩:=hc
    cases h
    obtain ⟨a2,c2,us,he,hul,hur,hu0,hax,hcell⟩:=KB g hsrc hsh
    cases he
    have hn0:n≠0:=fun e=>h0 (by subst e;exact Nat.min_zero _)
    obtain ⟨L,hL,rfl⟩:=hn hn0
    obtain ⟨w',hst,hg,hw⟩:=g.write P hb hL o hfit h1 hur hne
    refine ⟨w',?_,.int _ _,hg,hw⟩
    cases ax' with
    |none=>exact absurd (hax rfl) h0
    |some a=>
     have hf:=run_firstCells_some (P:=P) w ie.size (Nat.min m n) a m cx' us hul (hcell a rfl)
     simp [Builtin.copy_,run_underlying hu,Builtin.lenOf,qx hie,hf,hst]
   ·cases h
 ·rename_i e n c ax m cx hu
  split at h
  case h_2=>cases h
  rename_i ie hie
  split at h
  case isFalse=>cases h
  rename_i h0
  subst h0
  cases h
  cases hd
  obtain ⟨ax',cx',rfl,hsh⟩:=hx.shorten (Nat.le_refl m)
  refine ⟨w,?_,.int _ _,g,qw.refl _ _⟩
  cases ax'<;>simp [Builtin.copy_,run_underlying hu,Builtin.lenOf,qx hie,Builtin.firstCells,loadCells,loadCellsFrom]
 ·cases h
def zcJ:List (Value×Value×Nat)→List MapEntry
 |[]=>[]
 |(k,v,b)::r=>⟨k,v,b⟩::zcJ r
theorem zkw {d:TypeDesc} {k:Value}:∀{es:List (Value×Value×Nat)} {xs:List MapEntry} {i:Nat},Zp φ es xs→Instr.findNow d k (zcJ es) i=some none→Instr.findNow d k xs i=some none
 |[],[],_,_,h=>h
 |(k0,v,b)::r,e::s,i,hr,h=>by
  simp only [zcJ,Instr.findNow] at h ⊢
  rw [hr.1]
  split at h<;>rename_i hx
  ·cases h
  ·exact zkw hr.2.2 h
  ·cases h
 |[],_::_,_,h,_=>h.elim
 |(_,_,_)::_,[],_,h,_=>h.elim
theorem zkx {d:TypeDesc} {k u:Value} {j:Nat}:∀{es:List (Value×Value×Nat)} {xs:List MapEntry} {i:Nat},Zp φ es xs→Instr.findNow d k (zcJ es) i=some (some (j,u))→∃u',Instr.findNow d k xs i=some (some (j,u'))∧zr φ u u'
 |[],[],_,_,h=>by simp [zcJ,Instr.findNow] at h
 |(k0,v,b)::r,e::s,i,hr,h=>by
  simp only [zcJ,Instr.findNow] at h ⊢
  rw [hr.1]
  split at h<;>rename_i hx
  ·cases h
   exact ⟨e.val,rfl,hr.2.1⟩
  ·exact zkx hr.2.2 h
  ·cases h
 |[],_::_,_,h,_=>h.elim
 |(_,_,_)::_,[],_,h,_=>h.elim
theorem Zp.push {k v v':Value} {b b':Nat} (hv:zr φ v v'):∀{es:List (Value×Value×Nat)} {xs:List MapEntry},Zp φ es xs→Zp φ (es++[(k,v,b)]) (xs++[⟨k,v',b'⟩])
 |[],[],_=>⟨rfl,hv,trivial⟩
 |(_,_,_)::_,_::_,h=>⟨h.1,h.2.1,Zp.push hv h.2.2⟩
 |[],_::_,h=>h.elim
 |(_,_,_)::_,[],h=>h.elim
theorem Zp.put {k v v':Value} {b:Nat} (hv:zr φ v v'):∀{es:List (Value×Value×Nat)} {xs:List MapEntry} {i:Nat} {u:Value},Zp φ es xs→es[i]?=some (k,u,b)→Zp φ (es.set i (k,v,b)) (xs.modify i fun e=>{e with key:=k,val:=v'})
 |[],[],i,u,_,h=>by simp at h
 |(k0,v0,b0)::r,e::s,0,u,hr,h=>by
  simp at h
  obtain ⟨rfl,rfl,rfl⟩:=h
  exact ⟨rfl,hv,hr.2.2⟩
 |(k0,v0,b0)::r,e::s,i+1,u,hr,h=>by
  simp only [List.set_cons_succ,List.modify_succ_cons]
  exact ⟨hr.1,hr.2.1,Zp.put hv hr.2.2 (by simpa using h)⟩
 |[],_::_,_,_,h,_=>h.elim
 |(_,_,_)::_,[],_,_,h,_=>h.elim
theorem Zp.at {k u:Value} {b:Nat}:∀{es:List (Value×Value×Nat)} {xs:List MapEntry} {i:Nat},Zp φ es xs→es[i]?=some (k,u,b)→∃e,xs[i]?=some e∧e.key=k
 |[],[],i,_,h=>by simp at h
 |(k0,v0,b0)::r,e::s,0,hr,h=>by
  simp at h
  obtain ⟨rfl,rfl,rfl⟩:=h
  exact ⟨e,rfl,hr.1⟩
 |(k0,v0,b0)::r,e::s,i+1,hr,h=>by
  simpa using Zp.at hr.2.2 (i:=i) (by simpa using h)
 |[],_::_,_,h,_=>h.elim
 |(_,_,_)::_,[],_,h,_=>h.elim
def Xk:TypeDesc→Bool
 |.int _=>true
 |_=>false
def WD:Value→Bool
 |.int _ _=>true
 |_=>false
theorem zAM {d:TypeDesc} {j:Value} (h1:Xk d=true) (h2:WD j=true):∃d0 k m,d=.int d0∧j=.int k m:=by
 cases d<;>simp [Xk] at h1
 cases j<;>simp [WD] at h2
 exact ⟨_,_,_,rfl,rfl⟩
theorem WB.find_some {es:List (Value×Value×Nat)} {xs:List MapEntry} (hr:WB φ es xs) {d:TypeDesc} {j u:Value} {i:Nat} (h1:Xk d=true) (h2:WD j=true) (h:Instr.findNow d j (zcJ es) 0=some (some (i,u))) :
  ∃t u' e ys,ys.Perm xs∧Zp φ es ys∧Instr.findNow d j xs 0=some (some (t,u'))∧zr φ u u'∧xs[t]?=some e∧ys[i]?=some e∧e.key=j:=by
 obtain ⟨d0,k',m,rfl,rfl⟩:=zAM h1 h2
 obtain ⟨⟨ys,hp,he⟩,⟨k,hk⟩,ha⟩:=hr
 obtain ⟨u',hf,hu⟩:=zkx he h
 have hkk:k'=k:=by
  cases ys with
  |nil=>simp [Instr.findNow] at hf
  |cons y ys=>
   obtain ⟨n,hn⟩:=hk.perm hp y (by simp)
   exact zkq hf hn
 subst hkk
 rw [zb2 d0 k'] at hf
 obtain ⟨t,e,e1,e2,e3,e4,_⟩:=zr0 hp hk ha hf
 exact ⟨t,u',e,ys,hp,he,by rw [zb2 d0 k'];exact e1,hu,e2,e3,e4⟩
theorem WB.find_none {es:List (Value×Value×Nat)} {xs:List MapEntry} (hr:WB φ es xs) {d:TypeDesc} {j:Value} (h1:Xk d=true) (h2:WD j=true) (h:Instr.findNow d j (zcJ es) 0=some none) :
  Instr.findNow d j xs 0=some none∧(∃k m,j=.int k m∧KS k xs)∧∀e∈xs,e.key≠j:=by
 obtain ⟨d0,k',m,rfl,rfl⟩:=zAM h1 h2
 obtain ⟨⟨ys,hp,he⟩,⟨k,hk⟩,ha⟩:=hr
 have hf:=zkw he h
 cases ys with
 |nil=>
  have:xs=[]:=List.nil_perm.1 hp
  subst this
  exact ⟨rfl,⟨k',m,rfl,fun x hx=>by cases hx⟩,fun e he=>by cases he⟩
 |cons y ys=>
  obtain ⟨n,hn⟩:=hk.perm hp y (by simp)
  have hkk:=zkq hf hn
  subst hkk
  rw [zb2 d0 k'] at hf ⊢
  have h3:=zr1 hp hk hf
  refine ⟨h3,⟨k',m,rfl,hk⟩,fun e hm hkey=>?_⟩
  obtain ⟨t,h4,_⟩:=zyz hk ha hm hkey
  rw [h3] at h4
  cases h4
theorem WB.push {es:List (Value×Value×Nat)} {xs:List MapEntry} (hr:WB φ es xs) {k:IntKind} {m:Int} (hk:KS k xs) (hn:∀e∈xs,e.key≠.int k m) {v v':Value} (hv:zr φ v v') (b b':Nat):WB φ (es++[(.int k m,v,b)]) (xs++[⟨.int k m,v',b'⟩]):=by
 obtain ⟨⟨ys,hp,he⟩,_,ha⟩:=hr
 refine ⟨⟨ys++[⟨.int k m,v',b'⟩],hp.append_right _,Zp.push hv he⟩,⟨k,fun x hx=>?_⟩,?_⟩
 ·rcases List.mem_append.1 hx with hx | hx
  ·exact hk x hx
  ·simp at hx;exact ⟨m,by rw [hx]⟩
 ·refine List.pairwise_append.2 ⟨ha,by simp,fun x hx y hy=>?_⟩
  simp at hy
  rw [hy]
  exact hn x hx
theorem zh0:∀{l:List MapEntry} {t:Nat} {e:MapEntry},l[t]?=some e→(e::l.eraseIdx t).Perm l
 |[],t,e,h=>by simp at h
 |x::l,0,e,h=>by simp at h;subst h;exact .refl _
 |x::l,t+1,e,h=>by
  have ih:=zh0 (l:=l) (t:=t) (e:=e) (by simpa using h)
  simp only [List.eraseIdx_cons_succ]
  exact (List.Perm.swap x e _).trans (ih.cons x)
theorem zvQ {a:MapEntry}:∀{l:List MapEntry} {t:Nat},t < l.length→(l.set t a).Perm (a::l.eraseIdx t)
 |[],t,h=>by simp at h
 |x::l,0,h=>.refl _
 |x::l,t+1,h=>by
  have ih:=zvQ (a:=a) (l:=l) (t:=t) (by simpa using h)
  simp only [List.eraseIdx_cons_succ,List.set_cons_succ]
  exact (ih.cons x).trans (List.Perm.swap a x _)
theorem znC {xs:List MapEntry} {t:Nat} {e:MapEntry} (f:MapEntry→MapEntry) (h:xs[t]?=some e):(xs.modify t f).Perm (f e::xs.eraseIdx t):=by
 obtain ⟨ht,rfl⟩:=List.getElem?_eq_some_iff.1 h
 have:xs.modify t f=xs.set t (f xs[t]):=by
  apply List.ext_getElem?
  intro i
  rw [List.getElem?_modify,List.getElem?_set]
  by_cases hi:t=i
  ·subst hi;simp [ht]
  ·simp [hi]
 rw [this]
 exact zvQ ht
theorem zpV {f:MapEntry→MapEntry}:∀{xs:List MapEntry} {t:Nat},(∀e,xs[t]?=some e→(f e).key=e.key)→(xs.modify t f).map (·.key)=xs.map (·.key)
 |[],t,_=>by cases t<;>rfl
 |x::xs,0,h=>by simp [h x (by simp)]
 |x::xs,t+1,h=>by
  simp only [List.modify_succ_cons,List.map_cons]
  rw [zpV (xs:=xs) (t:=t) fun e he=>h e (by simpa using he)]
theorem WB.put {es:List (Value×Value×Nat)} {xs ys:List MapEntry} (hr:WB φ es xs) (hp:ys.Perm xs) (he:Zp φ es ys) {i t:Nat} {e:MapEntry} {k u v v':Value} {b:Nat} (h1:xs[t]?=some e) (h2:ys[i]?=some e) (hk:e.key=k) (h3:es[i]?=some (k,u,b)) (hv:zr φ v v') :
  WB φ (es.set i (k,v,b)) (xs.modify t fun e=>{e with key:=k,val:=v'}):=by
 obtain ⟨_,⟨kk,hkk⟩,ha⟩:=hr
 have hkey:(xs.modify t fun e=>{e with key:=k,val:=v'}).map (·.key)=xs.map (·.key):=zpV fun f hf=>by
  rw [h1] at hf;cases hf;exact hk.symm
 refine ⟨⟨ys.modify i fun e=>{e with key:=k,val:=v'},?_,Zp.put hv he h3⟩,⟨kk,fun x hx=>?_⟩,?_⟩
 ·refine (znC _ h2).trans (List.Perm.trans ?_ (znC _ h1).symm)
  refine List.Perm.cons _ ?_
  exact ((zh0 h2).trans (hp.trans (zh0 h1).symm)).cons_inv
 ·have:x.key∈xs.map (·.key):=by rw [←hkey];exact List.mem_map.2 ⟨x,hx,rfl⟩
  obtain ⟨y,hy,hxy⟩:=List.mem_map.1 this
  rw [←hxy]
  exact hkk y hy
 ·have h4:(xs.map (·.key)).Pairwise (·≠·):=List.pairwise_map.2 ha
  rw [←hkey] at h4
  exact List.pairwise_map.1 h4
theorem znD {f:MapEntry→MapEntry} (hf:∀e,(f e).born=e.born):∀(xs:List MapEntry) (t:Nat),(xs.modify t f).map (·.born)=xs.map (·.born)
 |[],t=>by cases t<;>rfl
 |x::xs,0=>by simp [hf x]
 |x::xs,t+1=>by
  simp only [List.modify_succ_cons,List.map_cons]
  rw [znD hf xs t]
theorem zks.modify {cl:Nat} {xs:List MapEntry} (h:zks cl xs) {f:MapEntry→MapEntry} (hf:∀e,(f e).born=e.born) (t:Nat):zks cl (xs.modify t f):=by
 have hm:=znD hf xs t
 refine ⟨fun x hx=>?_,by rw [hm];exact h.2⟩
 have:x.born∈xs.map (·.born):=by rw [←hm];exact List.mem_map.2 ⟨x,hx,rfl⟩
 obtain ⟨y,hy,hxy⟩:=List.mem_map.1 this
 rw [←hxy];exact h.1 y hy
theorem zks.push {cl:Nat} {xs:List MapEntry} (h:zks cl xs) {e:MapEntry} (he:e.born=cl):zks (cl+1) (xs++[e]):=by
 refine ⟨fun x hx=>?_,?_⟩
 ·rcases List.mem_append.1 hx with hx | hx
  ·have:=h.1 x hx;omega
  ·simp at hx;rw [hx,he];omega
 ·rw [List.map_append,List.nodup_append]
  refine ⟨h.2,by simp,fun a ha b hb=>?_⟩
  simp at hb
  obtain ⟨y,hy,rfl⟩:=List.mem_map.1 ha
  have:=h.1 y hy
  rw [hb,he];omega
def zzq (H:Hp):Value→Option (List (Value×Value×Nat))
 |.map none=>some []
 |.map (some r)=>match H.get r with
  |some (.mp es _)=>some es
  |_=>none
 |_=>none
def zen (P:Program) (H:Hp) (t:TypeId) (x j:Value) (c:Bool):Option Value:=
 match qT P t with
 |some (.map kt et)=>match qT P kt,qW P et,zzq H x with
  |some d,some inf,some es=>match inf.zero with
   |some z=>if Xk d&&WD j&&av z then match Instr.findNow d j (zcJ es) 0 with
     |some (some (_,u))=>some (if c then .tuple #[u,.bool true] else u)
     |some none=>some (if c then .tuple #[z,.bool false] else z)
     |none=>none
    else none
   |none=>none
  |_,_,_=>none
 |_=>none
theorem ztI {d:TypeDesc} {j:Value} (h1:Xk d=true) (h2:WD j=true) (e:Bool) (n:Nat) {kt:TypeId} (hd:P.underlying kt=some d):(Instr.checkKey e (n+1) kt j).run P w=.ok () w:=by
 unfold Instr.checkKey
 simp only [Sem.run_bind,run_underlying hd,Result.andThen]
 cases d<;>simp [Xk] at h1
 cases j<;>simp [WD] at h2
 rfl
theorem zyE {j j':Value} (h:WD j=true) (hr:zr φ j j'):j'=j:=by
 cases hr<;>first | rfl | simp [WD] at h
theorem zxX (g:zF φ H K w) {t:TypeId} {x j x' j' v:Value} {c:Bool} (h:zen P H t x j c=some v) (hx:zr φ x x') (hj:zr φ j j'):∃v',(Instr.lookup t x' j' c).run P w=.ok v' w∧zr φ v v':=by
 unfold zen at h
 simp only [qZ,jg] at h
 split at h
 case h_2=>cases h
 rename_i kt et hu
 split at h
 case h_2=>cases h
 rename_i d inf es hd hi hes
 split at h
 case h_2=>cases h
 rename_i z hz
 split at h
 case isFalse=>cases h
 rename_i hc
 simp only [Bool.and_eq_true] at hc
 have hj2:=zyE hc.1.2 hj
 subst hj2
 have key:∃xs:Array MapEntry,WB φ es xs.toList∧((x'=.map none∧xs=#[])∨∃b cl,x'=.map (some b)∧w.heap[b]?=some (.map xs cl)):=by
  unfold zzq at hes
  split at hes
  ·cases hes;cases hx;exact ⟨#[],WB.nil φ,.inl ⟨rfl,rfl⟩⟩
  ·rename_i r
   split at hes
   case h_2=>cases hes
   rename_i es0 cl hg
   cases hes
   cases hx with
   |map _ L hL=>
    obtain ⟨xs,e1,e2,_⟩:=g.at hg hL
    exact ⟨xs,e2,.inr ⟨L.blk,cl,rfl,e1⟩⟩
  ·cases hes
 obtain ⟨xs,hxs,hrun⟩:=key
 have hck:∀e,(Instr.checkKey e 10000 kt j').run P w=.ok () w:=fun e=>ztI hc.1.1 hc.1.2 e 9999 hd
 split at h
 ·rename_i i u hf
  cases h
  obtain ⟨t,u',e,ys,_,_,hf',hu',_⟩:=hxs.find_some hc.1.1 hc.1.2 hf
  have hk:=MapKept.run_findKey (P:=P) (w:=w) hd hf'
  refine ⟨if c then .tuple #[u',.bool true] else u',?_,?_⟩
  ·unfold Instr.lookup
   rcases hrun with ⟨rfl,rfl⟩ | ⟨b,cl,rfl,hb⟩
   ·simp only [Sem.run_bind,run_underlying hu,Result.andThen,Sem.run_pure,hck,hk]
   ·simp only [Sem.run_bind,run_underlying hu,Result.andThen,MapKept.run_getObj_map hb,Sem.run_pure,hck,hk]
  ·cases c
   ·exact hu'
   ·exact .tuple' ⟨hu',.bool _,trivial⟩
 ·rename_i hf
  cases h
  have hf':=(hxs.find_none hc.1.1 hc.1.2 hf).1
  have hk:=MapKept.run_findKey (P:=P) (w:=w) hd hf'
  refine ⟨if c then .tuple #[z,.bool false] else z,?_,?_⟩
  ·unfold Instr.lookup
   rcases hrun with ⟨rfl,rfl⟩ | ⟨b,cl,rfl,hb⟩
   ·simp only [Sem.run_bind,run_underlying hu,Result.andThen,Sem.run_pure,hck,hk,vg hi hz]
   ·simp only [Sem.run_bind,run_underlying hu,Result.andThen,MapKept.run_getObj_map hb,Sem.run_pure,hck,hk,vg hi hz]
  ·cases c
   ·exact zgY hc.2
   ·exact .tuple' ⟨zgY hc.2,.bool _,trivial⟩
 ·cases h
def zvs:Value→Value→Bool
 |.int a b,.int c d=>a == c&&b == d
 |_,_=>false
theorem zB9 {a b:Value} (h:zvs a b=true):a=b:=by
 unfold zvs at h
 split at h
 ·simp only [Bool.and_eq_true,beq_iff_eq] at h;rw [h.1,h.2]
 ·cases h
def zbj (P:Program) (H:Hp) (t:TypeId) (m k v:Value):Option Hp:=
 match qT P t,m with
 |some (.map kt _),.map (some r)=>match qT P kt,H.get r with
  |some d,some (.mp es cl)=>if Xk d&&WD k then match Instr.findNow d k (zcJ es) 0 with
    |some (some (i,_))=>match es[i]? with
     |some (k0,_,b)=>if zvs k0 k then some (H.set r (.mp (es.set i (k,v,b)) cl)) else none
     |none=>none
    |some none=>some (H.set r (.mp (es++[(k,v,cl)]) (cl+1)))
    |none=>none
   else none
  |_,_=>none
 |_,_=>none
theorem znE (g:zF φ H K w) {t:TypeId} {m k v m' k' v':Value} {H':Hp} (h:zbj P H t m k v=some H') (hm:zr φ m m') (hk:zr φ k k') (hv:zr φ v v') :
  ∃w',(Instr.mapUpdate t m' k' v').run P w=.ok () w'∧zF φ H' K w'∧qw K w w':=by
 unfold zbj at h
 simp only [jg] at h
 split at h
 case h_2=>cases h
 rename_i kt et r hu
 split at h
 case h_2=>cases h
 rename_i d es cl hd hg
 split at h
 case isFalse=>cases h
 rename_i hc
 simp only [Bool.and_eq_true] at hc
 have hk2:=zyE hc.2 hk
 subst hk2
 cases hm with
 |map _ L hL=>
  obtain ⟨xs,e1,e2,e3⟩:=g.at hg hL
  have hlt:L.blk < w.heap.size:=(Array.getElem?_eq_some_iff.1 e1).1
  have hck:(Instr.checkKey false 10000 kt k').run P w=.ok () w:=ztI hc.1 hc.2 false 9999 hd
  have fin:∀(es2:List (Value×Value×Nat)) (xs2:Array MapEntry) (cl2:Nat),WB φ es2 xs2.toList→zks cl2 xs2.toList→zF φ (H.set r (.mp es2 cl2)) K {w with heap:=w.heap.setIfInBounds L.blk (.map xs2 cl2)}∧qw K w {w with heap:=w.heap.setIfInBounds L.blk (.map xs2 cl2)}:=fun es2 xs2 cl2 hr hbo=>by
   have hget:∀c,c≠L.blk→(w.heap.setIfInBounds L.blk (.map xs2 cl2))[c]?=w.heap[c]?:=fun c hc=>by
    rw [Array.getElem?_setIfInBounds,if_neg (fun e=>hc e.symm)]
   refine ⟨g.upd hg rfl hL hget (by show (w.heap.setIfInBounds _ _).size=_;simp) ⟨xs2,?_,hr,hbo⟩,rfl,rfl,rfl,?_,fun c hcK=>hget c fun e=>g.prot r _ L hg rfl hL (e▸hcK)⟩
   ·show (w.heap.setIfInBounds L.blk (.map xs2 cl2))[L.blk]?=_
    rw [Array.getElem?_setIfInBounds];simp [hlt]
   ·show w.heap.size≤(w.heap.setIfInBounds _ _).size;simp
  split at h
  ·rename_i i u hf
   split at h
   case h_2=>cases h
   rename_i k0 u0 b hi
   split at h
   case isFalse=>cases h
   rename_i heq
   have heq2:=zB9 heq
   subst heq2
   cases h
   obtain ⟨t,u',e,ys,hp,he,hf',hu',h1,h2,hkey⟩:=e2.find_some hc.1 hc.2 hf
   have hfk:=MapKept.run_findKey (P:=P) (w:=w) hd hf'
   have hkey2:(((xs[t]?).map (·.key)).getD k0)=k0:=by
    have:xs[t]?=some e:=by simpa using h1
    rw [this];simpa using hkey
   have hsame:Instr.sameBits 10000 k0 k0=true:=by
    cases k0<;>simp [WD] at hc
    simp [Instr.sameBits]
   have hst:(Instr.keyThatStays k0 k0).run P w=.ok k0 w:=by
    unfold Instr.keyThatStays
    rw [hsame];rfl
   obtain ⟨f1,f2⟩:=fin (es.set i (k0,v,b)) (xs.modify t fun e=>{e with key:=k0,val:=v'}) cl (by rw [Array.toList_modify];exact e2.put hp he h1 h2 hkey hi hv) (by rw [Array.toList_modify];exact e3.modify (f:=fun e=>{e with key:=k0,val:=v'}) (fun _=>rfl) t)
   refine ⟨_,?_,f1,f2⟩
   unfold Instr.mapUpdate
   simp only [Sem.run_bind,run_underlying hu,Result.andThen,MapKept.run_getObj_map e1,hck,hfk,hkey2,hst]
   exact MapKept.run_setObj_map _ e1
  ·rename_i hf
   cases h
   obtain ⟨hf',⟨ki,m,rfl,hkd⟩,hne⟩:=e2.find_none hc.1 hc.2 hf
   have hfk:=MapKept.run_findKey (P:=P) (w:=w) hd hf'
   obtain ⟨f1,f2⟩:=fin (es++[(.int ki m,v,cl)]) (xs.push ⟨.int ki m,v',cl⟩) (cl+1) (by rw [Array.toList_push];exact e2.push hkd hne hv _ _) (by rw [Array.toList_push];exact e3.push rfl)
   refine ⟨_,?_,f1,f2⟩
   unfold Instr.mapUpdate
   simp only [Sem.run_bind,run_underlying hu,Result.andThen,MapKept.run_getObj_map e1,hck,hfk]
   exact MapKept.run_setObj_map _ e1
  ·cases h
theorem zAN (g:zF φ H K w) {n:Nat} (hn:φ n=none) (hz:n < FZ) :
  ∃φ',(newObj (.map #[] 0)).run P w=.ok w.heap.size (w.alloc (.map #[] 0))∧Ext K φ φ' n (n+1)∧zF φ' ((n,.mp [] 0)::H) K (w.alloc (.map #[] 0))∧zr φ' (.map (some n)) (.map (some w.heap.size)):=by
 have hlast:(w.alloc (.map #[] 0)).heap[w.heap.size]?=some (.map #[] 0):=by
  show (w.heap.push _)[w.heap.size]?=_
  simp
 have hg:=g.new hn hz (.map #[] 0) (L:=⟨w.heap.size,0,0,#[]⟩) rfl (k:=.mp [] 0) ⟨#[],hlast,WB.nil _,(fun x hx=>by simp at hx),by simp⟩
 refine ⟨_,rfl,Ext.put hn hz _,hg,?_⟩
 exact .map n ⟨w.heap.size,0,0,#[]⟩ (Ren.put_same _ _ _)
def zg8 (P:Program) (H:Hp) (nx:Nat) (t:TypeId) (x:Value):Option (Value×Hp×Nat):=
 match qT P t,x with
 |some (.map _ _),.map (some r)=>match H.get r with
  |some (.mp es cl)=>some (.pointer (some ⟨nx,0,none⟩),(nx,.iter r cl)::H,nx+1)
  |_=>none
 |_,_=>none
theorem zzr (g:zF φ H K w) {n:Nat} (hn:φ n=none) (hz:n < FZ) {t:TypeId} {x x' v:Value} {H':Hp} {n':Nat} (h:zg8 P H n t x=some (v,H',n')) (hx:zr φ x x') :
  ∃v' w' φ',(Instr.range t x').run P w=.ok v' w'∧zr φ' v v'∧Ext K φ φ' n n'∧zF φ' H' K w'∧qw K w w'∧n≤n':=by
 unfold zg8 at h
 simp only [jg] at h
 split at h
 case h_2=>cases h
 rename_i kt et r hu
 split at h
 case h_2=>cases h
 rename_i es cl hg
 cases h
 cases hx with
 |map _ M hM=>
  obtain ⟨xs,e1,e2,e3⟩:=g.at hg hM
  have hrn:r≠n:=by rintro rfl;rw [hn] at hM;cases hM
  have hlast:(w.alloc (.mapIter (some M.blk) cl #[] cl)).heap[w.heap.size]?=some (.mapIter (some M.blk) cl #[] cl):=by
   show (w.heap.push _)[w.heap.size]?=_
   simp
  have hg:=g.new hn hz (.mapIter (some M.blk) cl #[] cl) (L:=⟨w.heap.size,0,0,#[]⟩) rfl (k:=.iter r cl) ⟨M,by rw [Ren.put_other _ _ hrn];exact hM,rfl,hlast⟩
  refine ⟨.pointer (some ⟨w.heap.size,0,none⟩),_,_,?_,?_,Ext.put hn hz _,hg,qw.alloc g _,Nat.le_succ _⟩
  ·unfold Instr.range
   simp only [Sem.run_bind,run_underlying hu,Result.andThen,MapKept.run_getObj_map e1,Sem.run_pure]
   rfl
  ·have:=zr.ptr (φ:=φ.put n ⟨w.heap.size,0,0,#[]⟩) n 0 _ (Ren.put_same _ _ _)
   simpa using this
def GF (tm:List Value):List Operand→Option (List Value)
 |[]=>some []
 |x::xs=>match opv tm x,GF tm xs with
  |some v,some vs=>some (v::vs)
  |_,_=>none
def GG (tm:List Value):List (Nat×Operand)→Option (List (Nat×Value))
 |[]=>some []
 |x::xs=>match opv tm x.2,GG tm xs with
  |some v,some vs=>some ((x.1,v)::vs)
  |_,_=>none
def zky (tm:List Value):Option Operand→Option (Option Value)
 |none=>some none
 |some x=>(opv tm x).map some
theorem zbk {tm:List Value} {a:Act} (h:qI φ tm a.tmps):∀{xs:List Operand} {vs:List Value},GF tm xs=some vs→zw φ vs (xs.map a.eval)
 |[],vs,hv=>by simp [GF] at hv;subst hv;trivial
 |x::xs,vs,hv=>by
  simp only [GF] at hv
  split at hv
  ·rename_i v us h1 h2;cases hv;exact ⟨qb h h1,zbk h h2⟩
  ·cases hv
theorem zdQ {tm:List Value} {a:Act} (h:qI φ tm a.tmps):∀{xs:List (Nat×Operand)} {vs:List (Nat×Value)},GG tm xs=some vs→zoe φ vs (xs.map fun p=>(p.1,a.eval p.2))
 |[],vs,hv=>by simp [GG] at hv;subst hv;trivial
 |x::xs,vs,hv=>by
  simp only [GG] at hv
  split at hv
  ·rename_i v us h1 h2;cases hv;exact ⟨rfl,qb h h1,zdQ h h2⟩
  ·cases hv
theorem Zq {tm:List Value} {a:Act} (h:qI φ tm a.tmps) {x:Option Operand} {v:Option Value} (hx:zky tm x=some v):Vd φ v (x.map a.eval):=by
 cases x with
 |none=>simp [zky] at hx;subst hx;trivial
 |some x=>
  simp only [zky,Option.map_eq_some_iff] at hx
  obtain ⟨u,h1,rfl⟩:=hx
  exact qb h h1
def GH (P:Program) (t:TypeId):Value→Option Value
 |.slice _ n _=>match qT P t with
  |some (.slice _)=>some (goInt n)
  |_=>none
 |v=>match gg v with
  |some (_,es,_)=>match qT P t with
   |some (.slice _)=>some (goInt es.size)
   |_=>none
  |none=>if av v then sc P (Builtin.len_ #[t] 0 #[v]) else none
theorem zCa {t ty:TypeId} {x x' v:Value} (h:GH P t x=some v) (hx:zr φ x x') (w:World):(Builtin.len_ #[t] ty #[x']).run P w=.ok v w∧zr φ v v:=by
 unfold GH at h
 simp only [jg] at h
 split at h
 ·split at h
  ·rename_i hu
   cases h
   obtain ⟨a',c',rfl,_⟩:=hx.shorten (Nat.le_refl _)
   exact ⟨by simp [Builtin.len_,run_underlying hu],.int _ _⟩
  ·cases h
 ·split at h
  ·rename_i s0 es full hfe
   split at h
   ·rename_i hu
    cases h
    obtain ⟨sa,c,rfl,_⟩:=Ge hfe hx
    exact ⟨by simp [Builtin.len_,run_underlying hu],.int _ _⟩
   ·cases h
  split at h
  ·rename_i hv
   rw [zhW hv hx]
   exact zci (s:=Builtin.len_ #[t] ty #[_]) h w
  ·cases h
def un1 (H:Hp) (nx:Nat) (v:Option Value):Option (Value×Hp×Nat):=v.map fun v=>(v,H,nx)
def ZQ (P:Program) (H:Hp) (nx:Nat) (b:Builtin) (ts:List TypeId) (ty:TypeId) (vs:List Value):Option (Value×Hp×Nat):=
 match b,ts,vs with
 |.append,[t,u],[s,x]=>if t=u then uZ P H nx t s x else none
 |.len,[t],[x]=>un1 H (nx+1) (GH P t x)
 |.copy,[t,u],[d,x]=>(zvP P H t d x).map fun r=>(r.1,r.2,nx+1)
 |.min,ts,vs=>if avL vs then un1 H (nx+1) (sc P (Builtin.min_ ts.toArray ty vs.toArray)) else none
 |.max,ts,vs=>if avL vs then un1 H (nx+1) (sc P (Builtin.max_ ts.toArray ty vs.toArray)) else none
 |_,_,_=>none
def Ran (P:Program) (φ:Ren) (K:Nat→Prop) (w:World) (nx:Nat) (s:Sem Value) (v:Value) (H':Hp) (nx':Nat):Prop:=
 ∃v' w' φ',s.run P w=.ok v' w'∧zr φ' v v'∧Ext K φ φ' nx nx'∧zF φ' H' K w'∧qw K w w'∧nx≤nx'
theorem Ran.same (g:zF φ H K w) {nx:Nat} {s:Sem Value} {v:Value} (h:∃v',s.run P w=.ok v' w∧zr φ v v'):Ran P φ K w nx s v H nx:=
 let ⟨v',h1,h2⟩:=h
 ⟨v',w,φ,h1,h2,Ext.refl _ _ _ _,g,qw.refl _ _,Nat.le_refl _⟩
theorem Ran.same1 (g:zF φ H K w) {nx:Nat} {s:Sem Value} {v:Value} (h:∃v',s.run P w=.ok v' w∧zr φ v v'):Ran P φ K w nx s v H (nx+1):=
 let ⟨v',h1,h2⟩:=h
 ⟨v',w,φ,h1,h2,Ext.refl _ _ _ _,g,qw.refl _ _,Nat.le_succ _⟩
theorem jC {v:Option Value} {u:Value} {H H':Hp} {nx nx':Nat} (h:un1 H nx v=some (u,H',nx')):v=some u∧H'=H∧nx'=nx:=by
 unfold un1 at h
 cases v with
 |none=>cases h
 |some v=>cases h;exact ⟨rfl,rfl,rfl⟩
theorem zvR (g:zF φ H K w) {nx:Nat} (hfr:φ nx=none) (hzn:nx < FZ) {b:Builtin} {ts:List TypeId} {ty:TypeId} {cs:Array Bool} {vs us:List Value} {v:Value} {H':Hp} {nx':Nat}
  (h:ZQ P H nx b ts ty vs=some (v,H',nx')) (hr:zw φ vs us) :
  ∃s,builtin b ts.toArray ty cs us.toArray=(do pure (.value (←s)):Sem Next)∧Ran P φ K w nx s v H' nx':=by
 unfold ZQ at h
 split at h
 ·rename_i t u s x
  split at h
  ·rename_i htu
   subst htu
   match us,hr with
   |[s',x'],⟨h1,h2,_⟩=>
    refine ⟨Builtin.append_ #[t,t] ty #[s',x'],rfl,?_⟩
    obtain ⟨v',w',φ',e1,e2,e3,e4,e5,e6⟩:=znB (ty:=ty) g hfr hzn h h1 h2
    exact ⟨v',w',φ',e1,e2,e3,e4,e5,e6⟩
  ·cases h
 ·rename_i t x
  obtain ⟨h2,rfl,rfl⟩:=jC h
  match us,hr with
  |[x'],⟨h1,_⟩=>
   exact ⟨Builtin.len_ #[t] ty #[x'],rfl,Ran.same1 g ⟨v,zCa h2 h1 w⟩⟩
 ·rename_i t u d x
  simp only [Option.map_eq_some_iff] at h
  obtain ⟨r,h,he⟩:=h
  cases he
  match us,hr with
  |[d',x'],⟨h1,h2,_⟩=>
   obtain ⟨w',e1,e2,e3,e4⟩:=zAL (ts:=u) (ty:=ty) g h h1 h2
   exact ⟨Builtin.copy_ #[t,u] ty #[d',x'],rfl,_,w',φ,e1,e2,Ext.refl _ _ _ _,e3,e4,Nat.le_succ _⟩
 ·split at h
  ·rename_i hv
   obtain ⟨h2,rfl,rfl⟩:=jC h
   rw [zkr hv hr]
   exact ⟨_,rfl,Ran.same1 g ⟨v,zci h2 w⟩⟩
  ·cases h
 ·split at h
  ·rename_i hv
   obtain ⟨h2,rfl,rfl⟩:=jC h
   rw [zkr hv hr]
   exact ⟨_,rfl,Ran.same1 g ⟨v,zci h2 w⟩⟩
  ·cases h
 ·cases h
theorem zxY {nx:Nat} {t:TypeId} {s x v:Value} {H':Hp} {nx':Nat} (h:uZ P H nx t s x=some (v,H',nx')):nx'=nx+1:=by
 unfold uZ at h
 simp only [qZ,jg] at h
 (repeat' split at h)<;>first | (cases h;done) | (cases h;rfl)
theorem zkz {nx:Nat} {b:Builtin} {ts:List TypeId} {ty:TypeId} {vs:List Value} {v:Value} {H':Hp} {nx':Nat} (h:ZQ P H nx b ts ty vs=some (v,H',nx')):nx'=nx+1:=by
 unfold ZQ at h
 split at h
 ·split at h
  ·exact zxY h
  ·cases h
 ·exact (jC h).2.2
 ·simp only [Option.map_eq_some_iff] at h
  obtain ⟨r,h,he⟩:=h
  cases he;rfl
 ·split at h
  ·exact (jC h).2.2
  ·cases h
 ·split at h
  ·exact (jC h).2.2
  ·cases h
 ·cases h
def GI (H:Hp) (nx:Nat) (v:Value):Option (Value×Hp×Nat):=
 if zb5 v then some (.pointer (some ⟨nx,0,none⟩),(nx,.cells v.cells.toList false)::H,nx+1) else none
def jT (P:Program) (tm:List Value) (H:Hp) (nx:Nat) (o:Oper):Option (Value×Hp×Nat):=
 match o.op with
 |.move x=>un1 H nx (opv tm x)
 |.assign x=>un1 H nx (opv tm x)
 |.pick c a b=>match opv tm c with
  |some (.bool true)=>un1 H nx (opv tm a)
  |some (.bool false)=>un1 H nx (opv tm b)
  |_=>none
 |.alloc t=>match qW P t with
  |some i=>match i.zero with
   |some z=>if av z then GI H nx z else none
   |none=>none
  |none=>none
 |.box t x=>(opv tm x).bind fun v=>GI H nx v
 |.build t ps=>(GG tm ps.toList).bind fun vs=>un1 H nx (zg4 P t vs)
 |.buildSlice t n ps=>(GG tm ps.toList).bind fun vs=>WC P H nx t n vs
 |.load t a=>(opv tm a).bind fun v=>un1 H nx (match gk P H t v with | some u=>some u | none=>zek P t v)
 |.store t a x=>(opv tm a).bind fun va=>(opv tm x).bind fun vx=>(zg0 P H t va vx).map fun H'=>(undef,H',nx)
 |.nilCheck x=>match opv tm x with
  |some (.pointer (some a))=>some (.pointer (some a),H,nx)
  |some (.func (.func f) a b)=>some (.func (.func f) a b,H,nx)
  |some (.func (.yield f) a b)=>some (.func (.yield f) a b,H,nx)
  |_=>none
 |.binOp op t x y _=>(opv tm x).bind fun a=>(opv tm y).bind fun b=>un1 H nx (xI P op t x y a b)
 |.unOp op _ x=>(opv tm x).bind fun a=>un1 H nx (zoc P op a)
 |.convert s d x=>(opv tm x).bind fun a=>un1 H nx (zgZ P s d a)
 |.makeFunc (.func f) fs cs=>(GF tm fs.toList).bind fun a=>(GF tm cs.toList).bind fun b=>some (.func (.func f) a.toArray b.toArray,H,nx)
 |.makeSlice t l c=>(opv tm l).bind fun a=>(opv tm c).bind fun b=>KD P H nx t a b
 |.slice t x lo hi mx=>(opv tm x).bind fun v=>(zky tm lo).bind fun a=>(zky tm hi).bind fun b=>(zky tm mx).bind fun c=>un1 H nx (match zr5 P t v a b c with | some u=>some u | none=>zg3 P t v a b c)
 |.fieldAddr s x f=>(opv tm x).bind fun v=>un1 H nx (match We P s f v with | some u=>some u | none=>zg2 P s f v)
 |.field t x f=>(opv tm x).bind fun v=>un1 H nx (zg6 P t f v)
 |.indexAddr t x i=>(opv tm x).bind fun v=>(opv tm i).bind fun j=>un1 H nx (match xu P t v j with | some u=>some u | none=>zvK P t v j)
 |.index t x i=>(opv tm x).bind fun v=>(opv tm i).bind fun j=>un1 H nx (zg7 P t v j)
 |.extract x n=>(opv tm x).bind fun v=>un1 H nx (zck n v)
 |.call {callee:=.builtin b,args,argTypes}=>(GF tm args.toList).bind fun vs=>ZQ P H nx b argTypes.toList o.type vs
 |.makeMap t none=>some (.map (some nx),(nx,.mp [] 0)::H,nx+1)
 |.lookup t x i c=>(opv tm x).bind fun v=>(opv tm i).bind fun j=>un1 H nx (zen P H t v j c)
 |.mapUpdate t m k x=>(opv tm m).bind fun vm=>(opv tm k).bind fun vk=>(opv tm x).bind fun vx=>(zbj P H t vm vk vx).map fun H'=>(undef,H',nx)
 |.insert t m k x=>(opv tm m).bind fun vm=>(opv tm k).bind fun vk=>(opv tm x).bind fun vx=>(zbj P H t vm vk vx).map fun H'=>(undef,H',nx)
 |.range t x=>(opv tm x).bind fun v=>zg8 P H nx t v
 |_=>none
def zmw (P:Program) (φ:Ren) (K:Nat→Prop) (w:World) (nx:Nat) (s:Sem Next) (v:Value) (H':Hp) (nx':Nat):Prop:=
 ∃nxt w' φ' v',s.run P w=.ok nxt w'∧(nxt=.value v'∨(nxt=.skip∧v'=undef))∧zr φ' v v'∧Ext K φ φ' nx nx'∧zF φ' H' K w'∧qw K w w'∧nx≤nx'
theorem Ran.op {nx nx':Nat} {s:Sem Value} {v:Value} {H':Hp} (h:Ran P φ K w nx s v H' nx'):zmw P φ K w nx (do pure (.value (←s))) v H' nx':=by
 obtain ⟨v',w',φ',h1,h2,h3,h4,h5,h6⟩:=h
 exact ⟨.value v',w',φ',v',by simp [h1],.inl rfl,h2,h3,h4,h5,h6⟩
theorem ztJ (g:zF φ H K w) {nx:Nat} (hfr:φ nx=none) (hzn:nx < FZ) {v v' u:Value} {H':Hp} {nx':Nat} (h:GI H nx v=some (u,H',nx')) (hv:zr φ v v') (t:TypeId) :
  Ran P φ K w nx (do pure (.pointer (some (←newVar t v')))) u H' nx':=by
 unfold GI at h
 split at h
 ·rename_i hf
  cases h
  obtain ⟨φ',h1,h2,h3,h4⟩:=zAJ (P:=P) g hfr hzn hv hf t
  exact ⟨_,_,φ',by simp [h1],h4,h2,h3,qw.alloc g _,Nat.le_succ _⟩
 ·cases h
theorem zdR {nx:Nat} {s:Sem Unit} {H':Hp} (h:∃w',s.run P w=.ok () w'∧zF φ H' K w'∧qw K w w'):zmw P φ K w nx (do s;pure .skip) undef H' nx:=by
 obtain ⟨w',h1,h2,h3⟩:=h
 exact ⟨.skip,w',φ,undef,by simp [h1],.inr ⟨rfl,rfl⟩,.tuple' (by simp [zw]),Ext.refl _ _ _ _,h2,h3,Nat.le_refl _⟩
theorem JJ (g:zF φ H K w) {nx:Nat} {v v':Value} (h:zr φ v v'):zmw P φ K w nx (pure (.value v')) v H nx:=
 ⟨.value v',w,φ,v',rfl,.inl rfl,h,Ext.refl _ _ _ _,g,qw.refl _ _,Nat.le_refl _⟩
set_option maxHeartbeats 1000000 in
theorem zDZ (g:zF φ H K w) {tm:List Value} {a:Act} (ht:qI φ tm a.tmps) {nx:Nat} {o:Oper} {v:Value} {H':Hp} {nx':Nat} (hfr:yX φ nx nx') (h:jT P tm H nx o=some (v,H',nx')) :
  zmw P φ K w nx (execOp a.eval o) v H' nx':=by
 unfold jT at h
 unfold execOp
 split at h
 ·rename_i x ho
  obtain ⟨h2,rfl,rfl⟩:=jC h
  simp only [ho]
  exact JJ g (qb ht h2)
 ·rename_i x ho
  obtain ⟨h2,rfl,rfl⟩:=jC h
  simp only [ho]
  exact JJ g (qb ht h2)
 ·rename_i c x y ho
  simp only [ho]
  split at h
  ·rename_i hc
   obtain ⟨h2,rfl,rfl⟩:=jC h
   have hc':=qb ht hc
   generalize a.eval c=u at hc'
   cases hc'
   exact JJ g (qb ht h2)
  ·rename_i hc
   obtain ⟨h2,rfl,rfl⟩:=jC h
   have hc':=qb ht hc
   generalize a.eval c=u at hc'
   cases hc'
   exact JJ g (qb ht h2)
  ·cases h
 ·rename_i t ho
  simp only [ho]
  split at h
  case h_2=>cases h
  rename_i i hi
  split at h
  case h_2=>cases h
  rename_i z hz
  split at h
  case isFalse=>cases h
  rename_i hv
  have hfr0:φ nx=none∧nx < FZ:=by
   unfold GI at h
   split at h
   ·cases h;exact hfr.at (Nat.le_refl _) (Nat.lt_succ_self _)
   ·cases h
  obtain ⟨v',w',φ',h1,h2⟩:=ztJ (P:=P) g hfr0.1 hfr0.2 h (zgY hv) t
  refine Ran.op ⟨v',w',φ',?_,h2⟩
  simpa [Instr.alloc,vg (qZ P t▸hi) hz] using h1
 ·rename_i t x ho
  simp only [ho]
  simp only [Option.bind_eq_some_iff] at h
  obtain ⟨u,hu,h⟩:=h
  have hfr0:φ nx=none∧nx < FZ:=by
   unfold GI at h
   split at h
   ·cases h;exact hfr.at (Nat.le_refl _) (Nat.lt_succ_self _)
   ·cases h
  exact Ran.op (ztJ (P:=P) g hfr0.1 hfr0.2 h (qb ht hu) t)
 ·rename_i t ps ho
  simp only [ho]
  simp only [Option.bind_eq_some_iff] at h
  obtain ⟨vs,hvs,h⟩:=h
  obtain ⟨h2,rfl,rfl⟩:=jC h
  obtain ⟨v',h3,h4⟩:=zzn h2 (zdQ ht hvs) w
  refine Ran.op (Ran.same g ⟨v',?_,h4⟩)
  rw [←h3];congr 2
  apply Array.ext';simp
 ·rename_i t n ps ho
  simp only [ho]
  simp only [Option.bind_eq_some_iff] at h
  obtain ⟨vs,hvs,h⟩:=h
  have hfr0:φ nx=none∧nx < FZ:=by
   unfold WC at h
   simp only [qZ,jg] at h
   (repeat' split at h)<;>first | (cases h;done) | (cases h;exact hfr.at (Nat.le_refl _) (Nat.lt_succ_self _))
  have:=zpU (P:=P) g hfr0.1 hfr0.2 h (zdQ ht hvs)
  obtain ⟨v',w',φ',h1,h2⟩:=this
  refine Ran.op ⟨v',w',φ',?_,h2⟩
  rw [←h1];congr 2
  apply Array.ext';simp
 ·rename_i t x ho
  simp only [ho]
  simp only [Option.bind_eq_some_iff] at h
  obtain ⟨u,hu,h⟩:=h
  obtain ⟨h2,rfl,rfl⟩:=jC h
  split at h2
  ·rename_i u0 hu0
   cases h2
   exact Ran.op (Ran.same g (ztG g hu0 (qb ht hu)))
  ·exact Ran.op (Ran.same g (zAK g h2 (qb ht hu)))
 ·rename_i t x y ho
  simp only [ho]
  simp only [Option.bind_eq_some_iff,Option.map_eq_some_iff] at h
  obtain ⟨u,hu,u2,hu2,H2,h,he⟩:=h
  cases he
  exact zdR (zzj g h (qb ht hu) (qb ht hu2))
 ·rename_i x ho
  simp only [ho]
  split at h
  ·rename_i b hc
   cases h
   have hc':=qb ht hc
   generalize a.eval x=u at hc'
   cases hc'
   exact JJ g (.ptr _ _ _ (by assumption))
  ·rename_i f b c hc
   cases h
   have hc':=qb ht hc
   generalize a.eval x=u at hc'
   obtain ⟨fn',ys,us,rfl,hf,h1,h2⟩:=hc'.func_inv
   cases hf
   exact JJ g hc'
  ·rename_i f b c hc
   cases h
   have hc':=qb ht hc
   generalize a.eval x=u at hc'
   obtain ⟨fn',ys,us,rfl,hf,h1,h2⟩:=hc'.func_inv
   cases hf
   exact JJ g hc'
  ·cases h
 ·rename_i op t x y yt ho
  simp only [ho]
  simp only [Option.bind_eq_some_iff] at h
  obtain ⟨u,hu,u2,hu2,h⟩:=h
  obtain ⟨h2,rfl,rfl⟩:=jC h
  exact Ran.op (Ran.same g ⟨v,zB8 h2 (qb ht hu) (qb ht hu2) w⟩)
 ·rename_i op t x ho
  simp only [ho]
  simp only [Option.bind_eq_some_iff] at h
  obtain ⟨u,hu,h⟩:=h
  obtain ⟨h2,rfl,rfl⟩:=jC h
  exact Ran.op (Ran.same g ⟨v,zDW h2 (qb ht hu) w⟩)
 ·rename_i s d x ho
  simp only [ho]
  simp only [Option.bind_eq_some_iff] at h
  obtain ⟨u,hu,h⟩:=h
  obtain ⟨h2,rfl,rfl⟩:=jC h
  exact Ran.op (Ran.same g ⟨v,zAI h2 (qb ht hu) w⟩)
 ·rename_i f fs cs ho
  simp only [ho]
  simp only [Option.bind_eq_some_iff] at h
  obtain ⟨va,ha,vb,hb,h⟩:=h
  cases h
  refine JJ g (.func' (.func f) ?_ ?_)
  ·simpa using zbk ht ha
  ·simpa using zbk ht hb
 ·rename_i t l c ho
  simp only [ho]
  simp only [Option.bind_eq_some_iff] at h
  obtain ⟨u,hu,u2,hu2,h⟩:=h
  have hfr0:φ nx=none∧nx < FZ:=by
   unfold KD at h
   simp only [qZ,jg] at h
   (repeat' split at h)<;>first | (cases h;done) | (cases h;exact hfr.at (Nat.le_refl _) (Nat.lt_succ_self _))
  obtain ⟨v',w',φ',h1,h2⟩:=zr8 (P:=P) g hfr0.1 hfr0.2 h (qb ht hu) (qb ht hu2)
  exact Ran.op ⟨v',w',φ',h1,h2⟩
 ·rename_i t x lo hi mx ho
  simp only [ho]
  simp only [Option.bind_eq_some_iff] at h
  obtain ⟨u,hu,va,ha,vb,hb,vc,hc,h⟩:=h
  obtain ⟨h2,rfl,rfl⟩:=jC h
  split at h2
  ·rename_i u0 hu0
   cases h2
   exact Ran.op (Ran.same g (zzk hu0 (qb ht hu) (Zq ht ha) (Zq ht hb) (Zq ht hc) w))
  ·exact Ran.op (Ran.same g (zpS h2 (qb ht hu) (Zq ht ha) (Zq ht hb) (Zq ht hc) w))
 ·rename_i s x f ho
  simp only [ho]
  simp only [Option.bind_eq_some_iff] at h
  obtain ⟨u,hu,h⟩:=h
  obtain ⟨h2,rfl,rfl⟩:=jC h
  split at h2
  ·rename_i u0 hu0
   cases h2
   exact Ran.op (Ran.same g (zr2 hu0 (qb ht hu) w))
  ·exact Ran.op (Ran.same g (zzl h2 (qb ht hu) w))
 ·rename_i t x f ho
  simp only [ho]
  simp only [Option.bind_eq_some_iff] at h
  obtain ⟨u,hu,h⟩:=h
  obtain ⟨h2,rfl,rfl⟩:=jC h
  exact Ran.op (Ran.same g (zzo h2 (qb ht hu) w))
 ·rename_i t x i ho
  simp only [ho]
  simp only [Option.bind_eq_some_iff] at h
  obtain ⟨u,hu,u2,hu2,h⟩:=h
  obtain ⟨h2,rfl,rfl⟩:=jC h
  split at h2
  ·rename_i u0 hu0
   cases h2
   exact Ran.op (Ran.same g (zr3 hu0 (qb ht hu) (qb ht hu2) w))
  ·exact Ran.op (Ran.same g (zDX h2 (qb ht hu) (qb ht hu2) w))
 ·rename_i t x i ho
  simp only [ho]
  simp only [Option.bind_eq_some_iff] at h
  obtain ⟨u,hu,u2,hu2,h⟩:=h
  obtain ⟨h2,rfl,rfl⟩:=jC h
  exact Ran.op (Ran.same g (zzp h2 (qb ht hu) (qb ht hu2) w))
 ·rename_i x n ho
  simp only [ho]
  simp only [Option.bind_eq_some_iff] at h
  obtain ⟨u,hu,h⟩:=h
  obtain ⟨h2,rfl,rfl⟩:=jC h
  exact Ran.op (Ran.same g (zvO h2 (qb ht hu) w))
 ·rename_i b args ats ho
  simp only [ho]
  simp only [Option.bind_eq_some_iff] at h
  obtain ⟨vs,hvs,h⟩:=h
  have hn:=zkz h
  subst hn
  obtain ⟨s,hs,hr⟩:=zvR (cs:=args.map fun | .const _=>true | _=>false) g (hfr.at (Nat.le_refl _) (Nat.lt_succ_self _)).1 (hfr.at (Nat.le_refl _) (Nat.lt_succ_self _)).2 h (zbk ht hvs)
  have e:(do let d ←resolve a.eval {callee:=.builtin b,args,argTypes:=ats} o.type;invoke d.target d.args:Sem Next)=(do pure (.value (←s)):Sem Next):=by
   rw [←hs]
   show builtin b ats o.type _ _=_
   congr 1
   apply Array.ext';simp
  rw [e]
  exact hr.op
 ·rename_i t ho
  simp only [ho]
  cases h
  obtain ⟨φ',h1,h2,h3,h4⟩:=zAN (P:=P) g (hfr.at (Nat.le_refl _) (Nat.lt_succ_self _)).1 (hfr.at (Nat.le_refl _) (Nat.lt_succ_self _)).2
  refine Ran.op ⟨.map (some w.heap.size),_,φ',?_,h4,h2,h3,qw.alloc g _,Nat.le_succ _⟩
  unfold Instr.makeMap
  simp [h1,Result.andThen]
 ·rename_i t x i c ho
  simp only [ho]
  simp only [Option.bind_eq_some_iff] at h
  obtain ⟨u,hu,u2,hu2,h⟩:=h
  obtain ⟨h2,rfl,rfl⟩:=jC h
  exact Ran.op (Ran.same g (zxX g h2 (qb ht hu) (qb ht hu2)))
 ·rename_i t m k x ho
  simp only [ho]
  simp only [Option.bind_eq_some_iff,Option.map_eq_some_iff] at h
  obtain ⟨u,hu,u2,hu2,u3,hu3,H2,h,he⟩:=h
  cases he
  exact zdR (znE g h (qb ht hu) (qb ht hu2) (qb ht hu3))
 ·rename_i t m k x ho
  simp only [ho]
  simp only [Option.bind_eq_some_iff,Option.map_eq_some_iff] at h
  obtain ⟨u,hu,u2,hu2,u3,hu3,H2,h,he⟩:=h
  cases he
  exact zdR (znE g h (qb ht hu) (qb ht hu2) (qb ht hu3))
 ·rename_i t x ho
  simp only [ho]
  simp only [Option.bind_eq_some_iff] at h
  obtain ⟨u,hu,h⟩:=h
  have hfr0:φ nx=none∧nx < FZ:=by
   have h2:=h
   unfold zg8 at h2
   (repeat' split at h2)<;>first | (cases h2;done) | (cases h2;exact hfr.at (Nat.le_refl _) (Nat.lt_succ_self _))
  exact Ran.op (zzr g hfr0.1 hfr0.2 h (qb ht hu))
 ·cases h
def fw (r:Option Nat):Fence:={Fence.wide with round:=r}
structure Res where
 e:Exit
 tm:List Value
 ds:List Nat
 H:Hp
 nx:Nat
def gb (φ:Ren):List Nat→List Deferred→Prop
 |[],[]=>True
 |d::ds,x::xs=>(∃L,φ d=some L∧x={target:=.collected L.blk,args:=#[]})∧gb φ ds xs
 |_,_=>False
theorem gb.mono {φ φ':Ren} (hl:φ.le φ'):∀{ds:List Nat} {xs:List Deferred},gb φ ds xs→gb φ' ds xs
 |[],[],_=>trivial
 |_::_,_::_,h=>⟨let ⟨L,h1,h2⟩:=h.1;⟨L,hl _ _ h1,h2⟩,gb.mono hl h.2⟩
 |[],_::_,h=>h.elim
 |_::_,[],h=>h.elim
def Ve (φ:Ren):Option Nat→Option Nat→Prop
 |none,none=>True
 |some l,some c=>∃L,φ l=some L∧L.blk=c
 |_,_=>False
theorem Ve.mono {φ φ':Ren} (hl:φ.le φ') {r rc:Option Nat} (h:Ve φ r rc):Ve φ' r rc:=by
 cases r<;>cases rc<;>simp only [Ve] at h ⊢
 obtain ⟨L,h1,h2⟩:=h
 exact ⟨L,hl _ _ h1,h2⟩
def WE (φ:Ren) (K:Nat→Prop) (w:World) (lo:Nat) (R:Res) (e:Exit) (a':Act) (w':World):Prop:=
 e=R.e∧∃φ',Ext K φ φ' lo R.nx∧zF φ' R.H K w'∧qI φ' R.tm a'.tmps∧gb φ' R.ds a'.defers∧qw K w w'
def Qj (P:Program) (f:FuncId) (args:List Value) (H:Hp) (nx:Nat) (v:Value) (H':Hp) (nx':Nat):Prop:=
 nx≤nx'∧∀φ w K us,zF φ H K w→yX φ nx nx'→zw φ args us→
  Calls P f us.toArray w fun e w'=>∃v' φ',e=.returned v'∧zr φ' v v'∧Ext K φ φ' nx nx'∧zF φ' H' K w'∧qw K w w'
def jb (P:Program) (r:Option Nat) (c:Code) (tm:List Value) (ds:List Nat) (H:Hp) (nx:Nat) (R:Res):Prop:=
 nx≤R.nx∧∀φ w K a rc,zF φ H K w→yX φ nx R.nx→qI φ tm a.tmps→gb φ ds a.defers→Ve φ r rc→c.wpIn (fw rc) 0 P (WE φ K w nx R) a w
def zg9 (P:Program) (r:Option Nat) (c:Code) (tm:List Value) (ds:List Nat) (H:Hp) (nx:Nat) (R:Res):Prop:=
 nx≤R.nx∧∃m,∀φ w K a rc,zF φ H K w→yX φ nx R.nx→qI φ tm a.tmps→gb φ ds a.defers→Ve φ r rc→Code.roundsIn (fw rc) 0 P c (WE φ K w nx R) m a w
theorem WE.after {φ φ':Ren} {K:Nat→Prop} {w w':World} {lo mi:Nat} {R:Res} {e:Exit} {a:Act} {w'':World} (he:Ext K φ φ' lo mi) (hw:qw K w w') (h1:lo≤mi) (h2:mi≤R.nx) (h:WE φ' K w' mi R e a w''):WE φ K w lo R e a w'':=by
 obtain ⟨rfl,φ2,k1,k2,k3,k4,k5⟩:=h
 exact ⟨rfl,φ2,he.trans k1 h1 h2,k2,k3,k4,hw.trans k5⟩
theorem zxZ {r:Option Nat} {tm:List Value} {ds:List Nat} {nx:Nat}:jb P r .skip tm ds H nx ⟨.normal,tm,ds,H,nx⟩:=
 ⟨Nat.le_refl _,fun φ w K a rc g hf ht hd hr=>wpIn_skip ⟨rfl,φ,Ext.refl _ _ _ _,g,ht,hd,qw.refl _ _⟩⟩
theorem zvS {r:Option Nat} {l:Nat} {tm:List Value} {ds:List Nat} {nx:Nat}:jb P r (.label l) tm ds H nx ⟨.normal,tm,ds,H,nx⟩:=
 ⟨Nat.le_refl _,fun φ w K a rc g hf ht hd hr=>wpIn_label ⟨rfl,φ,Ext.refl _ _ _ _,g,ht,hd,qw.refl _ _⟩⟩
theorem zx0 {r:Option Nat} {i:Nat} {tm:List Value} {ds:List Nat} {nx:Nat}:jb P r (.exit i) tm ds H nx ⟨.exit i,tm,ds,H,nx⟩:=
 ⟨Nat.le_refl _,fun φ w K a rc g hf ht hd hr=>wpIn_exit ⟨rfl,φ,Ext.refl _ _ _ _,g,ht,hd,qw.refl _ _⟩⟩
theorem zx1 {r:Option Nat} {i:Nat} {tm:List Value} {ds:List Nat} {nx:Nat}:jb P r (.goto i) tm ds H nx ⟨.goto i,tm,ds,H,nx⟩:=
 ⟨Nat.le_refl _,fun φ w K a rc g hf ht hd hr=>wpIn_goto ⟨rfl,φ,Ext.refl _ _ _ _,g,ht,hd,qw.refl _ _⟩⟩
theorem zzs {r:Option Nat} {tm:List Value} {ds:List Nat} {nx:Nat}:jb P r .ret tm ds H nx ⟨.ret,tm,ds,H,nx⟩:=
 ⟨Nat.le_refl _,fun φ w K a rc g hf ht hd hr=>wpIn_ret ⟨rfl,φ,Ext.refl _ _ _ _,g,ht,hd,qw.refl _ _⟩⟩
theorem zzt {r:Option Nat} {x y:Code} {tm:List Value} {ds:List Nat} {nx:Nat} {R1 R:Res} (h1:jb P r x tm ds H nx R1) (he:R1.e=.normal) (h2:jb P r y R1.tm R1.ds R1.H R1.nx R):jb P r (.seq x y) tm ds H nx R:=by
 refine ⟨Nat.le_trans h1.1 h2.1,fun φ w K a rc g hf ht hd hr=>wpIn_seq (wpIn_mono (h1.2 φ w K a rc g (hf.left h2.1) ht hd hr) ?_)⟩
 rintro e a1 w1 ⟨rfl,φ1,k1,k2,k3,k4,k5⟩
 rw [he]
 exact wpIn_mono (h2.2 φ1 w1 K a1 rc k2 (hf.right k1 h1.1) k3 k4 (hr.mono k1.1)) fun e a2 w2 hp=>hp.after k1 k5 h1.1 h2.1
theorem zha {r:Option Nat} {x y:Code} {tm:List Value} {ds:List Nat} {nx:Nat} {R:Res} (h1:jb P r x tm ds H nx R) (he:R.e≠.normal):jb P r (.seq x y) tm ds H nx R:=by
 refine ⟨h1.1,fun φ w K a rc g hf ht hd hr=>wpIn_seq (wpIn_mono (h1.2 φ w K a rc g hf ht hd hr) ?_)⟩
 intro e a1 w1 hp
 obtain ⟨rfl,_⟩:=id hp
 cases hE:R.e with
 |normal=>exact absurd hE he
 |_=>rw [hE] at hp;exact hp
theorem znF {r:Option Nat} {c:Operand} {x y:Code} {tm:List Value} {ds:List Nat} {nx:Nat} {R:Res} {b:Bool} (hc:opv tm c=some (.bool b)) (h:jb P r (if b then x else y) tm ds H nx R):jb P r (.cond c x y) tm ds H nx R:=by
 refine ⟨h.1,fun φ w K a rc g hf ht hd hr=>?_⟩
 have hv:=qb ht hc
 have hb:a.eval c=.bool b:=by generalize a.eval c=u at hv;cases hv;rfl
 exact wpIn_cond hb (h.2 φ w K a rc g hf ht hd hr)
def Res.inBlock (i:Nat) (R:Res):Res:=match R.e with
 |.exit j=>if j=i then {R with e:=.normal} else R
 |_=>R
theorem zvT {r:Option Nat} {i:Nat} {c:Code} {tm:List Value} {ds:List Nat} {nx:Nat} {R:Res} (h:jb P r c tm ds H nx R):jb P r (.block i c) tm ds H nx (R.inBlock i):=by
 have hnx:(R.inBlock i).nx=R.nx:=by unfold Res.inBlock;split<;>(try split)<;>rfl
 refine ⟨by rw [hnx];exact h.1,fun φ w K a rc g hf ht hd hr=>wpIn_block (wpIn_mono (h.2 φ w K a rc g (by rw [hnx] at hf;exact hf) ht hd hr) ?_)⟩
 rintro e a1 w1 ⟨rfl,φ1,k1,k2,k3,k4,k5⟩
 unfold Exit.inBlock Res.inBlock
 cases hE:R.e with
 |exit j=>
  simp only
  by_cases hj:j=i
  ·simp only [hj,if_true];exact ⟨rfl,φ1,k1,k2,k3,k4,k5⟩
  ·simp only [hj,if_false];exact ⟨hE.symm,φ1,k1,k2,k3,k4,k5⟩
 |_=>exact ⟨hE.symm,φ1,k1,k2,k3,k4,k5⟩
theorem zx2 {r:Option Nat} {c:Code} {tm:List Value} {ds:List Nat} {nx:Nat} {R1 R:Res} (h1:jb P r c tm ds H nx R1) (he:R1.e=.normal) (h2:zg9 P r c R1.tm R1.ds R1.H R1.nx R):zg9 P r c tm ds H nx R:=by
 obtain ⟨hle,m,h2⟩:=h2
 refine ⟨Nat.le_trans h1.1 hle,m+1,fun φ w K a rc g hf ht hd hr=>?_⟩
 rw [roundsIn_succ]
 refine wpIn_mono (h1.2 φ w K a rc g (hf.left hle) ht hd hr) ?_
 rintro e a1 w1 ⟨rfl,φ1,k1,k2,k3,k4,k5⟩
 rw [he]
 have:=h2 φ1 w1 K a1 rc k2 (hf.right k1 h1.1) k3 k4 (hr.mono k1.1)
 have mono:∀(m:Nat) (a:Act) (w2:World),Code.roundsIn (fw rc) 0 P c (WE φ1 K w1 R1.nx R) m a w2→Code.roundsIn (fw rc) 0 P c (WE φ K w nx R) m a w2:=by
  intro m
  induction m with
  |zero=>intro a w2 h;exact h
  |succ m ih=>
   intro a w2 h
   rw [roundsIn_succ] at h ⊢
   refine wpIn_mono h ?_
   intro e a2 w3 hq
   cases e<;>first | exact ih _ _ hq | exact WE.after k1 k5 h1.1 hle hq
 exact mono m a1 w1 this
theorem zzu {r:Option Nat} {c:Code} {tm:List Value} {ds:List Nat} {nx:Nat} {R:Res} (h1:jb P r c tm ds H nx R) (he:R.e≠.normal):zg9 P r c tm ds H nx R:=by
 refine ⟨h1.1,1,fun φ w K a rc g hf ht hd hr=>?_⟩
 rw [roundsIn_succ]
 refine wpIn_mono (h1.2 φ w K a rc g hf ht hd hr) ?_
 intro e a1 w1 hp
 obtain ⟨rfl,_⟩:=id hp
 cases hE:R.e with
 |normal=>exact absurd hE he
 |_=>rw [hE] at hp;exact hp
theorem zx3 {r:Option Nat} {c:Code} {tm:List Value} {ds:List Nat} {nx:Nat} {R:Res} (h:zg9 P r c tm ds H nx R):jb P r (.loop c) tm ds H nx R:=by
 obtain ⟨hle,m,h⟩:=h
 exact ⟨hle,fun φ w K a rc g hf ht hd hr=>wpIn_loop_rounds m (h φ w K a rc g hf ht hd hr)⟩
def zbl (P:Program) (c:Code) (Q:Exit→Act→World→Prop):Nat→Code→Act→World→Prop
 |0,_,_,_=>False
 |m+1,x,a,w=>x.wp P (fun e a w=>match e with
  |.goto l=>match findLabel c l with
   |some rest=>zbl P c Q m rest a w
   |none=>Q (.goto l) a w
  |e=>Q e a w) a w
theorem zx4 {c:Code} {Q:Exit→Act→World→Prop} {a:Act} {w:World} (m:Nat) (h:zbl P c Q m c a w):(Code.scope c).wp P Q a w:=by
 intro b k cs
 have key:∀m x a w,zbl P c Q m x a w→∃e a' w',Q e a' w'∧Arrives P (lone (b.at a (.code x::.inScope c::k)) cs w) b k cs e a' w':=by
  intro m
  induction m with
  |zero=>intro x a w h;exact h.elim
  |succ m ih=>
   intro x a w h
   obtain ⟨e,a1,w1,hq,harr⟩:=h b (.inScope c::k) cs
   cases e with
   |normal=>exact ⟨.normal,a1,w1,hq,Steps.trans harr (.one step_inScope)⟩
   |exit id=>exact ⟨.exit id,a1,w1,hq,fun k' hk=>harr k' (by simp [exitTo,hk])⟩
   |goto l=>
    simp only at hq
    cases hf:findLabel c l with
    |none=>
     rw [hf] at hq
     exact ⟨.goto l,a1,w1,hq,fun k' hk=>harr k' (by simp [gotoIn,hf,hk])⟩
    |some rest=>
     rw [hf] at hq
     obtain ⟨e2,a2,w2,hq2,harr2⟩:=ih rest a1 w1 hq
     exact ⟨e2,a2,w2,hq2,.of_steps (harr _ (by simp [gotoIn,hf])) harr2⟩
   |ret=>exact ⟨_,a1,w1,hq,harr⟩
   |panic ch=>exact ⟨_,a1,w1,hq,harr⟩
   |outgrown=>exact ⟨_,a1,w1,hq,harr⟩
 obtain ⟨e,a1,w1,hq,harr⟩:=key m c a w h
 exact ⟨e,a1,w1,hq,.of_steps (.one step_scope) harr⟩
def zmx (P:Program) (c x:Code) (tm:List Value) (ds:List Nat) (H:Hp) (nx:Nat) (R:Res):Prop:=
 nx≤R.nx∧∃m,∀φ w K a,zF φ H K w→yX φ nx R.nx→qI φ tm a.tmps→gb φ ds a.defers→zbl P c (WE φ K w nx R) m x a w
theorem jb.wp {c:Code} {tm:List Value} {ds:List Nat} {nx:Nat} {R:Res} (h:jb P none c tm ds H nx R) {φ:Ren} {w:World} {K:Nat→Prop} {a:Act} (g:zF φ H K w) (hf:yX φ nx R.nx) (ht:qI φ tm a.tmps) (hd:gb φ ds a.defers) :
  c.wp P (WE φ K w nx R) a w:=(wpIn_wide (n:=0)).1 (h.2 φ w K a none g hf ht hd trivial)
theorem zeo {c:Code} {Q Q':Exit→Act→World→Prop} (hq:∀e a w,Q e a w→Q' e a w):∀(m:Nat) (x:Code) (a:Act) (w:World),zbl P c Q m x a w→zbl P c Q' m x a w
 |0,_,_,_,h=>h
 |m+1,x,a,w,h=>by
  refine Code.wp_mono (fun e a w he=>?_) h
  cases e with
  |goto l=>
   simp only at he ⊢
   cases hf:findLabel c l with
   |none=>rw [hf] at he;exact hq _ _ _ he
   |some rest=>rw [hf] at he;exact zeo hq m rest a w he
  |_=>exact hq _ _ _ he
theorem zpW {c x rest:Code} {l:Nat} {tm:List Value} {ds:List Nat} {nx:Nat} {R1 R:Res} (h1:jb P none x tm ds H nx R1) (he:R1.e=.goto l) (hf:findLabel c l=some rest) (h2:zmx P c rest R1.tm R1.ds R1.H R1.nx R):zmx P c x tm ds H nx R:=by
 obtain ⟨hle,m,h2⟩:=h2
 refine ⟨Nat.le_trans h1.1 hle,m+1,fun φ w K a g hfr ht hd=>?_⟩
 refine Code.wp_mono ?_ (h1.wp g (hfr.left hle) ht hd)
 rintro e a1 w1 ⟨rfl,φ1,k1,k2,k3,k4,k5⟩
 rw [he]
 simp only [hf]
 exact zeo (fun e a2 w2 hp=>WE.after k1 k5 h1.1 hle hp) m rest a1 w1 (h2 φ1 w1 K a1 k2 (hfr.right k1 h1.1) k3 k4)
theorem ztK {c x:Code} {tm:List Value} {ds:List Nat} {nx:Nat} {R:Res} (h1:jb P none x tm ds H nx R) (he:∀l,R.e≠.goto l):zmx P c x tm ds H nx R:=by
 refine ⟨h1.1,1,fun φ w K a g hfr ht hd=>?_⟩
 refine Code.wp_mono ?_ (h1.wp g hfr ht hd)
 intro e a1 w1 hp
 obtain ⟨rfl,_⟩:=id hp
 cases hE:R.e with
 |goto l=>exact absurd hE (he l)
 |_=>rw [hE] at hp;exact hp
theorem zkA {c:Code} {tm:List Value} {ds:List Nat} {nx:Nat} {R:Res} (h:zmx P c c tm ds H nx R):jb P none (.scope c) tm ds H nx R:=by
 obtain ⟨hle,m,h⟩:=h
 refine ⟨hle,fun φ w K a rc g hf ht hd hr=>?_⟩
 cases rc with
 |some c=>exact hr.elim
 |none=>exact (wpIn_wide (n:=0)).2 (zx4 m (h φ w K a g hf ht hd))
theorem Qj.le {f:FuncId} {args:List Value} {nx:Nat} {v:Value} {H':Hp} {nx':Nat} (h:Qj P f args H nx v H' nx'):nx≤nx':=h.1
theorem jb.sub {r:Option Nat} {c:Code} {tm:List Value} {ds:List Nat} {nx:Nat} {R:Res} (h:jb P r c tm ds H nx R) {H':Hp} (hs:∀b k,H'.get b=some k→R.H.get b=some k):jb P r c tm ds H nx {R with H:=H'}:=
 ⟨h.1,fun φ w K a rc g hf ht hd hr=>wpIn_mono (h.2 φ w K a rc g hf ht hd hr) fun e a1 w1 ⟨k0,φ1,k1,k2,k3,k4,k5⟩=>⟨k0,φ1,k1,k2.sub hs,k3,k4,k5⟩⟩
def Kn (P:Program) (r:Option Nat) (o:Oper) (tm:List Value) (H:Hp) (nx:Nat) (v:Value) (H':Hp) (nx':Nat):Prop:=
 nx≤nx'∧∀(φ:Ren) (w:World) (K:Nat→Prop) (a:Act) (rc:Option Nat) (next:Act→World→Prop) (Q:Exit→Act→World→Prop),zF φ H K w→yX φ nx nx'→qI φ tm a.tmps→Ve φ r rc→
  (∀v' φ' w',zr φ' v v'→Ext K φ φ' nx nx'→zF φ' H' K w'→qw K w w'→next (a.put o.dst v') w')→o.wpIn (fw rc) 0 P a w next Q
theorem zbm {rc:Option Nat} {o:Oper} {a:Act} {w:World}:∀f,o.about P w a.eval=some f→(fw rc).fn f:=fun _ _=>trivial
theorem zvU {tm:List Value} {nx:Nat} {o:Oper} {x:Value×Hp×Nat} (h:jT P tm H nx o=some x):∀c,o.op≠.defer c:=by
 intro c hc
 unfold jT at h
 simp [hc] at h
theorem zD0 {tm:List Value} {nx:Nat} {o:Oper} {v:Value} {H':Hp} {nx':Nat} (h:jT P tm H nx o=some (v,H',nx')):nx≤nx':=by
 unfold jT at h
 split at h
 case h_4=>
  split at h
  case h_2=>cases h
  split at h
  case h_2=>cases h
  split at h
  case isFalse=>cases h
  unfold GI at h
  split at h
  ·cases h;omega
  ·cases h
 case h_5=>
  simp only [Option.bind_eq_some_iff] at h
  obtain ⟨u,hu,h⟩:=h
  unfold GI at h
  split at h
  ·cases h;omega
  ·cases h
 case h_7=>
  simp only [Option.bind_eq_some_iff] at h
  obtain ⟨u,hu,h⟩:=h
  unfold WC at h
  (repeat' split at h)<;>first | (cases h;done) | (cases h;omega)
 case h_15=>
  simp only [Option.bind_eq_some_iff] at h
  obtain ⟨u,hu,u2,hu2,h⟩:=h
  unfold KD at h
  (repeat' split at h)<;>first | (cases h;done) | (cases h;omega)
 case h_22=>
  simp only [Option.bind_eq_some_iff] at h
  obtain ⟨u,hu,h⟩:=h
  have:=zkz h
  omega
 case h_27=>
  simp only [Option.bind_eq_some_iff] at h
  obtain ⟨u,hu,h⟩:=h
  unfold zg8 at h
  (repeat' split at h)<;>first | (cases h;done) | (cases h;omega)
 all_goals first
  |(cases h;done)
  |(have:=(jC h).2.2;omega)
  |(simp only [Option.bind_eq_some_iff,Option.map_eq_some_iff] at h;obtain ⟨u,hu,h⟩:=h;first | (have:=(jC h).2.2;omega) | (obtain ⟨u2,hu2,h⟩:=h;first | (have:=(jC h).2.2;omega) | (cases h;omega) | (obtain ⟨u3,hu3,h⟩:=h;first | (cases h;omega) | (obtain ⟨u4,hu4,h⟩:=h;first | (cases h;omega) | (have:=(jC h).2.2;omega)))))
  |(cases h;omega)
  |(split at h<;>first | (cases h;done) | (have:=(jC h).2.2;omega) | (cases h;omega))
theorem ka {r:Option Nat} {o:Oper} {tm:List Value} {nx:Nat} {v:Value} {H':Hp} {nx':Nat} (h:jT P tm H nx o=some (v,H',nx')):Kn P r o tm H nx v H' nx':=by
 refine ⟨zD0 h,fun φ w K a rc next Q g hf ht hr hk=>⟨zbm,?_⟩⟩
 obtain ⟨nxt,w',φ',v',h1,h2,h3,h4,h5,h6,h7⟩:=zDZ g ht hf h
 rw [Oper.semAt_eq _ _ _ (zvU h),h1]
 rcases h2 with rfl | ⟨rfl,rfl⟩
 ·exact hk v' φ' w' h3 h4 h5 h6
 ·exact hk undef φ' w' h3 h4 h5 h6
def vK (P : Program) : Prop := ∀ (f : FuncId) (fn : Func), P.funcs[f]? = some fn → (fn.name == "runtime.NumGoroutine") = false
theorem zep {f:FuncId} {fn:Func} (hs:vK P) (hf:P.funcs[f]?=some fn) (hb:fn.body.isSome=true) (args:Array Value) (w:World):(callFunc f args).run P w=.ok (.enter f args) w:=by
 have h1:=hs f fn hf
 have h2:fn.body.isNone=false:=by cases h:fn.body<;>simp_all
 unfold callFunc
 simp only [Sem.run_bind,run_program,Result.andThen_ok,hf,h1,h2,Bool.false_eq_true,if_false,Sem.run_pure]
theorem zh1 {rc:Option Nat} {f:FuncId} {args:Array Value} {w:World} {R:Ending→World→Prop} (h:Calls P f args w R):CallsIn (fw rc) 0 P f args w R:=by
 have:=callsIn_wide (n:=0).2 h
 cases rc with
 |none=>exact this
 |some l=>exact CallsIn.inRound l this
theorem zAO {r:Option Nat} {o:Oper} {tm:List Value} {nx:Nat} {v:Value} {H':Hp} {nx':Nat} {cf:Operand} {args:Array Operand} {ats:Array TypeId} (ho:o.op=.call {callee:=.value cf,args:=args,argTypes:=ats})
  {f:FuncId} {fn:Func} {fs cs:Array Value} {vs:List Value} (hs:vK P) (hfn:P.funcs[f]?=some fn) (hb:fn.body.isSome=true)
  (hcf:opv tm cf=some (.func (.func f) fs cs)) (hvs:GF tm args.toList=some vs) (h:Qj P f (fs.toList++vs++cs.toList) H nx v H' nx'):Kn P r o tm H nx v H' nx':=by
 refine ⟨h.1,fun φ w K a rc next Q g hf ht hr hk=>⟨zbm,?_⟩⟩
 have hcv:=qb ht hcf
 obtain ⟨fn',ys,us,hev,hfr,h1,h2⟩:=hcv.func_inv
 cases hfr
 have hvr:=zbk ht hvs
 have hrun:(execOp a.eval o).run P w=.ok (.enter f (ys++args.map a.eval++us)) w:=by
  unfold execOp
  simp only [ho,resolve,hev,Deferred.ofValue,Sem.run_bind,Sem.run_pure,Result.andThen_ok,invoke,zep hs hfn hb]
 rw [Oper.semAt_eq _ _ _ (fun c hc=>by rw [ho] at hc;cases hc),hrun]
 refine ⟨fun h0=>by simp [fw,Fence.wide] at h0,?_⟩
 have hc:=h.2 φ w K (ys.toList++(args.map a.eval).toList++us.toList) g hf ((h1.append (by simpa using hvr)).append h2)
 have ea:(ys.toList++(args.map a.eval).toList++us.toList).toArray=ys++args.map a.eval++us:=by apply Array.ext';simp
 rw [ea] at hc
 refine (zh1 hc).mono ?_
 rintro e w' ⟨v',φ',rfl,k1,k2,k3,k4⟩
 exact hk v' φ' w' k1 k2 k3 k4
theorem zh2 (g:zF φ H K w) {l:Nat} {L:Loop} {Lc:Loc} (hl:H.get l=some (.loop L)) (hL:φ l=some Lc) :
  ∃
   l':Loop,w.heap[Lc.blk]?=some (.loop l')∧l'.state=L.state∧l'.pending=L.pending∧qI φ L.tmps.toList l'.tmps∧l'.params=L.params∧l'.assign=L.assign∧l'.body=L.body∧
   ∀
    (s:LoopState) (p:Option Code),zF φ (H.set l (.loop {L with state:=s,pending:=p})) K {w with heap:=w.heap.setIfInBounds Lc.blk (.loop {l' with state:=s,pending:=p})}∧
    qw K w {w with heap:=w.heap.setIfInBounds Lc.blk (.loop {l' with state:=s,pending:=p})}:=by
 obtain ⟨l',h1,h2,h3,h4,h5,h6,h7,D,h8,h9⟩:=g.at hl hL
 have hlt:Lc.blk < w.heap.size:=(Array.getElem?_eq_some_iff.1 h1).1
 refine ⟨l',h1,h2,h3,h4,h5,h6,h7,fun s p=>?_⟩
 have hoth:∀(o:Obj) c,c≠Lc.blk→({w with heap:=w.heap.setIfInBounds Lc.blk o}:World).heap[c]?=w.heap[c]?:=fun o c hc=>by
  show (w.heap.setIfInBounds Lc.blk o)[c]?=_
  rw [Array.getElem?_setIfInBounds,if_neg (fun e=>hc e.symm)]
 refine ⟨g.upd hl rfl hL (hoth _) (by simp) ⟨{l' with state:=s,pending:=p},?_,rfl,rfl,h4,h5,h6,h7,D,h8,h9⟩,⟨rfl,rfl,rfl,by simp,fun c hc=>hoth _ c (fun e=>g.prot l _ Lc hl rfl hL (e▸hc))⟩⟩
 show (w.heap.setIfInBounds Lc.blk _)[Lc.blk]?=_
 rw [Array.getElem?_setIfInBounds];simp [hlt]
def kR:List Tmp→List Value→List Value→List Value
 |t::ts,v::vs,tm=>kR ts vs (tm.set t v)
 |_,_,tm=>tm
theorem zjb:∀{ps:List Tmp} {vs us:List Value} {tm:List Value} {ts:Array Value},zw φ vs us→qI φ tm ts→
  qI φ (kR ps vs tm) ((ps.zip us).foldl (fun (ts:Array Value) (x:Tmp×Value)=>ts.setIfInBounds x.1 x.2) ts)
 |[],vs,us,tm,ts,_,h=>by simpa [kR] using h
 |p::ps,[],[],tm,ts,_,h=>by simpa [kR] using h
 |p::ps,v::vs,u::us,tm,ts,hr,h=>by
  simp only [kR,List.zip_cons_cons,List.foldl_cons]
  exact zjb hr.2 (h.set p hr.1)
 |_::_,[],_::_,_,_,hr,_=>hr.elim
 |_::_,_::_,[],_,_,hr,_=>hr.elim
def zh3 (e:Exit):Option (Bool×LoopState×Option Code):=
 match e with
 |.normal=>some (true,.ready,none)
 |.ret=>some (false,.done,some .ret)
 |.exit i=>some (false,.done,some (.exit i))
 |.goto i=>some (false,.done,some (.goto i))
 |_=>none
theorem zzv {r:Option Nat} {o:Oper} {tm:List Value} {nx:Nat} {cf:Operand} {args:Array Operand} {ats:Array TypeId} (ho:o.op=.call {callee:=.value cf,args:=args,argTypes:=ats})
  {l:Nat} {vs:List Value} {L L1 L2:Loop} {R1 R2:Res} {b:Bool} {s:LoopState} {p:Option Code}
  (hcf:opv tm cf=some (.func (.yield l) #[] #[])) (hvs:GF tm args.toList=some vs) (hl:H.get l=some (.loop L)) (hn:vs.length=L.params.size)
  (h1:jb P (some l) L.assign (kR L.params.toList vs L.tmps.toList) [] H nx R1) (he1:R1.e=.normal) (hd1:R1.ds=[])
  (hl1:R1.H.get l=some (.loop L1)) (hst:L1.state=.ready)
  (h2:jb P (some l) L.body R1.tm [] (R1.H.set l (.loop {L1 with state:=.busy})) R1.nx R2)
  (hl2:R2.H.get l=some (.loop L2)) (he2:zh3 R2.e=some (b,s,p)) :
  Kn P r o tm H nx (.bool b) (R2.H.set l (.loop {L2 with state:=s,pending:=p})) R2.nx:=by
 refine ⟨Nat.le_trans h1.1 h2.1,fun φ w K a rc next Q g hf ht hr hk=>⟨zbm,?_⟩⟩
 have hcv:=qb ht hcf
 obtain ⟨fn',ys,us0,hev,hfr,e1,e2⟩:=hcv.func_inv
 cases hfr with
 |yield _ Lc hLc=>
 have hys:ys=#[]:=Array.eq_empty_of_size_eq_zero (by have:=e1.length;simp at this;exact this.symm)
 have hvr:=zbk ht hvs
 obtain ⟨l',k1,k2,k3,k4,k5,k6,k7,k8⟩:=zh2 g hl hLc
 have hgl:∀(w:World) (lr:Loop),w.heap[Lc.blk]?=some (.loop lr)→(Instr.getLoop Lc.blk).run P w=.ok lr w:=fun w lr h=>by
  simp [Instr.getLoop,getObj,Sem.run,h]
 have hrun:(execOp a.eval o).run P w=.ok (.round Lc.blk l'.fn (((l'.params.zip (args.map a.eval)).foldl (fun tmps (x:Tmp×Value)=>tmps.setIfInBounds x.1 x.2) l'.tmps)) l'.assign l'.body) w:=by
  unfold execOp
  have hsz:(args.map a.eval).size=l'.params.size:=by
   have:=hvr.length
   simp at this
   rw [k5,←hn,this];simp
  simp only [ho,resolve,hev,Deferred.ofValue,Sem.run_bind,Sem.run_pure,Result.andThen_ok,invoke,Instr.yield,hgl w l' k1,hys,Array.empty_append,hsz,ne_eq,not_true_eq_false,if_false]
 rw [Oper.semAt_eq _ _ _ (fun c hc=>by rw [ho] at hc;cases hc),hrun]
 refine ⟨fun h0=>by simp [fw,Fence.wide] at h0,?_⟩
 refine roundIn_of_wpIn (F:=fw rc) trivial ?_
 rw [k6,k7]
 have ht0:qI φ (kR L.params.toList vs L.tmps.toList) ((l'.params.zip (args.map a.eval)).foldl (fun tmps (x:Tmp×Value)=>tmps.setIfInBounds x.1 x.2) l'.tmps):=by
  rw [k5,←Array.foldl_toList,Array.toList_zip]
  exact zjb (by simpa using hvr) k4
 have hw1:=h1.2 φ w K {tmps:=(l'.params.zip (args.map a.eval)).foldl (fun tmps (x:Tmp×Value)=>tmps.setIfInBounds x.1 x.2) l'.tmps,defers:=[]} (some Lc.blk) g (hf.left h2.1) ht0 trivial ⟨Lc,hLc,rfl⟩
 refine wpIn_mono hw1 ?_
 rintro e a1 w1 ⟨rfl,φ1,x1,x2,x3,x4,x5⟩
 rw [he1]
 have hLc1:=x1.1 _ _ hLc
 obtain ⟨l1',y1,y2,y3,y4,y5,y6,y7,y8⟩:=zh2 x2 hl1 hLc1
 obtain ⟨z1,z2⟩:=y8 .busy L1.pending
 have hsame:({l1' with state:=.busy,pending:=L1.pending}:Loop)={l1' with state:=.busy}:=by rw [←y3]
 rw [hsame] at z1 z2
 refine ⟨_,by simp [Instr.beginRound,hgl w1 l1' y1,setObj,Sem.run,y1,y2,hst,Sem.run_bind];rfl,?_⟩
 have hd1':a1.defers=[]:=by rw [hd1] at x4;revert x4;cases a1.defers<;>simp [gb]
 have hw2:=h2.2 φ1 _ K a1 (some Lc.blk) z1 (hf.right x1 h1.1) x3 (by rw [hd1'];trivial) ⟨Lc,hLc1,rfl⟩
 refine wpIn_mono hw2 ?_
 rintro e a2 w2 ⟨rfl,φ2,u1,u2,u3,u4,u5⟩
 have hLc2:=u1.1 _ _ hLc1
 obtain ⟨l2',v1,v2,v3,v4,v5,v6,v7,v8⟩:=zh2 u2 hl2 hLc2
 have fin:∀(jump:Option Code),p=jump→(s=if jump.isNone then .ready else .done)→b=jump.isNone→∃v w',(Instr.endRound Lc.blk jump).run P w2=.ok v w'∧(fun e w''=>match e with
   |.returned v=>next (a.put o.dst v) w''
   |.panicked chain=>Q (.panic chain) a w''
   |.outgrown=>LetsOut Q:Ending→World→Prop) (.returned v) w':=by
  rintro jump rfl rfl rfl
  obtain ⟨q1,q2⟩:=v8 (if p.isNone then .ready else .done) p
  refine ⟨.bool p.isNone,{w2 with heap:=w2.heap.setIfInBounds Lc.blk (.loop {l2' with state:=if p.isNone then .ready else .done,pending:=p})},?_,?_⟩
  ·simp only [Instr.endRound,Sem.run_bind,hgl w2 l2' v1,Result.andThen_ok,setObj,Sem.run,v1,Sem.run_pure]
  exact hk _ φ2 _ (.bool _) (x1.trans u1 h1.1 h2.1) q1 (((x5.trans z2).trans u5).trans q2)
 cases hE:R2.e with
 |normal=>rw [hE] at he2;cases he2;exact fin none rfl rfl rfl
 |ret=>rw [hE] at he2;cases he2;exact fin (some .ret) rfl rfl rfl
 |exit i=>rw [hE] at he2;cases he2;exact fin (some (.exit i)) rfl rfl rfl
 |goto i=>rw [hE] at he2;cases he2;exact fin (some (.goto i)) rfl rfl rfl
 |panic c=>rw [hE] at he2;cases he2
 |outgrown=>rw [hE] at he2;cases he2
def ls (l:List Value) (i:Nat) (v:Value):List Value:=List.rec (motive:=fun _=>Nat→List Value) (fun _=>[]) (fun x r ih i=>Nat.rec (motive:=fun _=>List Value) (v::r) (fun m _=>x::ih m) i) l i
theorem zvt (v:Value):∀(l:List Value) (i:Nat),ls l i v=l.set i v
 |[],_=>by simp [ls]
 |x::l,0=>rfl
 |x::l,i+1=>by
  show x::ls l i v=_
  rw [zvt v l i];simp
def gp (tm:List Value) (dst:Option Tmp) (v:Value):List Value:=
 match dst with
 |some d=>ls tm d v
 |none=>tm
theorem zcl (tm:List Value) (d:Tmp) (v:Value):gp tm (some d) v=tm.set d v:=zvt v tm d
theorem zh4 {tm:List Value} {a:Act} (ht:qI φ tm a.tmps) (dst:Option Tmp) {v v':Value} (hv:zr φ v v'):qI φ (gp tm dst v) (a.put dst v').tmps:=by
 cases dst with
 |none=>exact ht
 |some d=>rw [zcl];exact ht.set d hv
theorem zdS (a:Act) (dst:Option Tmp) (v:Value):(a.put dst v).defers=a.defers:=by cases dst<;>rfl
def vh (ops:Array Oper) (tm:List Value) (o:Oper):Option Bool:=
 match o.guard with
 |none=>some true
 |some (j,want)=>match ((ops[j]?).bind (·.dst)).bind (lg tm ·) with
  |some (.bool b)=>some (b == want)
  |some (.tuple _)=>some false
  |_=>none
theorem zh5 {ops:Array Oper} {tm:List Value} {a:Act} {o:Oper} {b:Bool} (ht:qI φ tm a.tmps) (h:vh ops tm o=some b):Region.wanted o (yielded ops a.tmps)=b:=by
 unfold vh at h
 unfold Region.wanted
 cases hg:o.guard with
 |none=>simp [hg] at h;subst h;rfl
 |some p=>
  obtain ⟨j,want⟩:=p
  simp only [hg] at h ⊢
  unfold yielded
  cases hd:(ops[j]?).bind (·.dst) with
  |none=>simp [hd] at h
  |some d=>
   simp only [hd,Option.bind_some,zdO] at h ⊢
   cases hv:tm[d]? with
   |none=>simp [hv] at h
   |some v=>
    rw [hv] at h
    rcases ht.2 d v hv with rfl | ⟨v',h1,h2⟩
    ·simp [junk] at h
    ·rw [h1]
     cases v with
     |bool c=>cases h2;simp at h;subst h;cases c<;>cases want<;>rfl
     |tuple xs=>
      obtain ⟨ys,rfl,_⟩:=h2.tuple_inv
      simp at h;subst h;cases want<;>rfl
     |_=>simp at h
def zdT (P:Program) (r:Option Nat) (ops:Array Oper) (l:List Nat) (tm:List Value) (H:Hp) (nx:Nat) (tm':List Value) (H':Hp) (nx':Nat):Prop:=
 nx≤nx'∧∀(φ:Ren) (w:World) (K:Nat→Prop) (a:Act) (rc:Option Nat) (Q:Exit→Act→World→Prop),zF φ H K w→yX φ nx nx'→qI φ tm a.tmps→Ve φ r rc→
  (∀φ' a' w',Ext K φ φ' nx nx'→zF φ' H' K w'→qI φ' tm' a'.tmps→a'.defers=a.defers→qw K w w'→Q .normal a' w')→wpOpsIn (fw rc) 0 P ops Q l a w
theorem zAP {r:Option Nat} {ops:Array Oper} {tm:List Value} {nx:Nat}:zdT P r ops [] tm H nx tm H nx:=
 ⟨Nat.le_refl _,fun φ w K a rc Q g hf ht hr hk=>hk φ a w (Ext.refl _ _ _ _) g ht rfl (qw.refl _ _)⟩
theorem zzw {r:Option Nat} {ops:Array Oper} {i:Nat} {l:List Nat} {o:Oper} {tm tm':List Value} {H1 H':Hp} {nx nx1 nx':Nat} {v:Value} (hi:ops[i]?=some o) (hw:vh ops tm o=some true)
  (h1:Kn P r o tm H nx v H1 nx1) (h2:zdT P r ops l (gp tm o.dst v) H1 nx1 tm' H' nx'):zdT P r ops (i::l) tm H nx tm' H' nx':=by
 refine ⟨Nat.le_trans h1.1 h2.1,fun φ w K a rc Q g hf ht hr hk=>?_⟩
 simp only [wpOpsIn,hi]
 rw [if_pos (zh5 ht hw)]
 refine h1.2 φ w K a rc _ Q g (hf.left h2.1) ht hr fun v' φ1 w1 x1 x2 x3 x4=>?_
 refine h2.2 φ1 w1 K (a.put o.dst v') rc Q x3 (hf.right x2 h1.1) (zh4 (ht.mono x2.1) o.dst x1) (hr.mono x2.1) fun φ2 a2 w2 y1 y2 y3 y4 y5=>?_
 exact hk φ2 a2 w2 (x2.trans y1 h1.1 h2.1) y2 y3 (by rw [y4,zdS]) (x4.trans y5)
theorem zzx {r:Option Nat} {ops:Array Oper} {i:Nat} {l:List Nat} {o:Oper} {tm tm':List Value} {H':Hp} {nx nx':Nat} (hi:ops[i]?=some o) (hw:vh ops tm o=some false)
  (h2:zdT P r ops l (gp tm o.dst undef) H nx tm' H' nx'):zdT P r ops (i::l) tm H nx tm' H' nx':=by
 refine ⟨h2.1,fun φ w K a rc Q g hf ht hr hk=>?_⟩
 simp only [wpOpsIn,hi]
 rw [if_neg (by rw [zh5 ht hw];simp)]
 refine ⟨zbm,?_⟩
 have hu:zr φ undef undef:=.tuple' (by simp [zw])
 refine h2.2 φ w K (a.put o.dst undef) rc Q g hf (zh4 ht o.dst hu) hr fun φ2 a2 w2 y1 y2 y3 y4 y5=>?_
 exact hk φ2 a2 w2 y1 y2 y3 (by rw [y4,zdS]) y5
theorem zuv {r:Option Nat} {id:Nat} {ops:Array Oper} {tm tm':List Value} {ds:List Nat} {H':Hp} {nx nx':Nat} (h:zdT P r ops (List.range ops.size) tm H nx tm' H' nx') :
  jb P r (.region id ops false) tm ds H nx ⟨.normal,tm',ds,H',nx'⟩:=by
 refine ⟨h.1,fun φ w K a rc g hf ht hd hr=>wpIn_region ?_⟩
 exact h.2 φ w K a rc _ g hf ht hr fun φ1 a1 w1 x1 x2 x3 x4 x5=>⟨rfl,φ1,x1,x2,x3,by rw [x4];exact hd.mono x1.1,x5⟩
theorem zof (g:zF φ H K w) {n:Nat} (hn:φ n=none) (hz:n < FZ) (o:Obj) {k:Blk} (hk:jo (φ.put n ⟨w.heap.size,0,0,#[]⟩) (w.alloc o) ⟨w.heap.size,0,0,#[]⟩ k) :
  zF (φ.put n ⟨w.heap.size,0,0,#[]⟩) ((n,k)::H) K (w.alloc o):=g.new hn hz o rfl hk
theorem GJ (w:World) (o:Obj):(w.alloc o).heap[w.heap.size]?=some o:=by
 show (w.heap.push o)[w.heap.size]?=_
 simp
def Xw (tm:List Value) (ps:Array Tmp) (assign body:Code) (d:Nat):Loop:=
 {state:=.ready,pending:=none,fn:=0,tmps:=tm.toArray,params:=ps,assign:=assign,body:=body,defers:=d}
def gS (L:Loop) (tm:List Value) (ds:List Nat) (H:Hp) (nx:Nat):Option Res:=
 match L.state,L.pending with
 |.busy,_=>none
 |_,none=>some ⟨.normal,tm,ds,H,nx⟩
 |_,some .ret=>some ⟨.ret,tm,ds,H,nx⟩
 |_,some (.exit i)=>some ⟨.exit i,tm,ds,H,nx⟩
 |_,some (.goto i)=>some ⟨.goto i,tm,ds,H,nx⟩
 |_,_=>none
theorem zpX {r:Option Nat} {tm:List Value} {ds:List Nat} {nx:Nat} {l:Nat} {L:Loop} {Lc:Loc} {R:Res} (g:zF φ H K w) (hl:H.get l=some (.loop L)) (hL:φ l=some Lc) (ha:gS L tm ds (H.del l) nx=some R)
    {a:Act} {rc:Option Nat} (ht:qI φ tm a.tmps) (hd:gb φ ds a.defers) (hr:Ve φ r rc) :
    ∃jump w4,(Instr.endLoop Lc.blk).run P w=.ok jump w4∧(match jump with
       |none=>WE φ K w nx R .normal a w4
       |some c=>c.wpIn (fw rc) 0 P (WE φ K w nx R) a w4):=by
  obtain ⟨l',k1,k2,k3,k4,k5,k6,k7,k8⟩:=zh2 g hl hL
  obtain ⟨q1,q2⟩:=k8 .exhausted L.pending
  have hsame:({l' with state:=.exhausted,pending:=L.pending}:Loop)={l' with state:=.exhausted}:=by rw [←k3]
  rw [hsame] at q1 q2
  have hgl:(Instr.getLoop Lc.blk).run P w=.ok l' w:=by simp [Instr.getLoop,getObj,Sem.run,k1]
  have hnb:(l'.state == .busy)=false:=by
    rw [k2]
    unfold gS at ha
    cases hs:L.state<;>simp [hs] at ha ⊢
  have hg:zF φ (H.del l) K {w with heap:=w.heap.setIfInBounds Lc.blk (.loop {l' with state:=.exhausted})}:=q1.sub fun b k hb=>by
    rw [Hp.get_del] at hb
    rw [Hp.get_set]
    split at hb
    · cases hb
    · rename_i hne;simp only [hne,if_false];exact hb
  obtain ⟨w4,hw4⟩:∃w4:World,w4={w with heap:=w.heap.setIfInBounds Lc.blk (.loop {l' with state:=.exhausted})}:=⟨_,rfl⟩
  rw [←hw4] at hg q2
  refine ⟨l'.pending,w4,by rw [hw4];simp only [Instr.endLoop,Sem.run_bind,hgl,Result.andThen_ok,hnb,Bool.false_eq_true,if_false,Sem.run_pure,setObj,Sem.run,k1],?_⟩
  rw [k3]
  unfold gS at ha
  cases hp:L.pending with
  |none=>
    have:R=⟨.normal,tm,ds,H.del l,nx⟩:=by cases hs:L.state<;>simp [hs,hp] at ha<;>exact ha.symm
    subst this
    exact ⟨rfl,φ,Ext.refl _ _ _ _,hg,ht,hd,q2⟩
  |some c=>
    cases c with
    |ret=>
      have:R=⟨.ret,tm,ds,H.del l,nx⟩:=by cases hs:L.state<;>simp [hs,hp] at ha<;>exact ha.symm
      subst this
      exact wpIn_ret ⟨rfl,φ,Ext.refl _ _ _ _,hg,ht,hd,q2⟩
    |exit i=>
      have:R=⟨.exit i,tm,ds,H.del l,nx⟩:=by cases hs:L.state<;>simp [hs,hp] at ha<;>exact ha.symm
      subst this
      exact wpIn_exit ⟨rfl,φ,Ext.refl _ _ _ _,hg,ht,hd,q2⟩
    |goto i=>
      have:R=⟨.goto i,tm,ds,H.del l,nx⟩:=by cases hs:L.state<;>simp [hs,hp] at ha<;>exact ha.symm
      subst this
      exact wpIn_goto ⟨rfl,φ,Ext.refl _ _ _ _,hg,ht,hd,q2⟩
    |_=>cases hs:L.state<;>simp [hs,hp] at ha
theorem zkB {L:Loop} {tm:List Value} {ds:List Nat} {nx:Nat} {R:Res} (h:gS L tm ds H nx=some R):R.nx=nx:=by
 unfold gS at h
 (repeat' split at h)<;>first | (cases h;done) | (cases h;rfl)
theorem zog {g:Operand} {ps:Array Tmp} {assign body:Code} {tm:List Value} {ds:List Nat} {nx:Nat} {f:FuncId} {fn:Func} {fs cs:Array Value} {v:Value} {H1:Hp} {nx1:Nat} {L:Loop} {R:Res}
  (hs:vK P) (hfn:P.funcs[f]?=some fn) (hb:fn.body.isSome=true) (hgv:opv tm g=some (.func (.func f) fs cs))
  (hc:Qj P f (fs.toList++[.func (.yield (nx+1)) #[] #[]]++cs.toList) ((nx+1,.loop (Xw tm ps assign body nx))::(nx,.defd)::H) (nx+2) v H1 nx1)
  (hl:H1.get (nx+1)=some (.loop L)) (ha:gS L tm (nx::ds) (H1.del (nx+1)) nx1=some R) :
  jb P none (.rangeFunc g ps assign body) tm ds H nx R:=by
 have hRnx:=zkB ha
 have hle:=hc.1
 refine ⟨by omega,fun φ w K a rc gd hf ht hd hr=>?_⟩
 have hrc:rc=none:=by cases rc<;>simp [Ve] at hr ⊢
 subst hrc
 refine wpIn_rangeFunc fun fnid _=>?_
 have hn0:φ nx=none:=hf.2 nx (by omega) (by omega)
 have hz0:nx < FZ:=(hf.at (b:=nx) (by omega) (by omega)).2
 have hz1:nx+1 < FZ:=(hf.at (b:=nx+1) (by omega) (by omega)).2
 have hn1:φ (nx+1)=none:=hf.2 (nx+1) (by omega) (by omega)
 have g1:=zof gd hn0 hz0 (.deferred (some [])) (k:=.defd) (GJ w _)
 have hp1:(φ.put nx ⟨w.heap.size,0,0,#[]⟩) (nx+1)=none:=by rw [Ren.put_other _ _ (by omega)];exact hn1
 have hgv':=qb ht hgv
 obtain ⟨fn',ys,us,hev,hfr,e1,e2⟩:=hgv'.func_inv
 cases hfr
 have le1:=Ren.put_le hn0 ⟨w.heap.size,0,0,#[]⟩
 have le2:=Ren.put_le hp1 ⟨(w.alloc (.deferred (some []))).heap.size,0,0,#[]⟩
 have hlp:Loop.mk .ready none fnid a.tmps ps assign body w.heap.size={state:=.ready,pending:=none,fn:=fnid,tmps:=a.tmps,params:=ps,assign:=assign,body:=body,defers:=w.heap.size}:=rfl
 have g2:=zof g1 hp1 hz1 (.loop {state:=.ready,pending:=none,fn:=fnid,tmps:=a.tmps,params:=ps,assign:=assign,body:=body,defers:=w.heap.size}) (k:=.loop (Xw tm ps assign body nx))
  ⟨_,GJ _ _,rfl,rfl,by simpa [Xw] using (ht.mono le1).mono le2,rfl,rfl,rfl,⟨w.heap.size,0,0,#[]⟩,le2 _ _ (Ren.put_same _ _ _),rfl⟩
 have ext1:Ext K φ ((φ.put nx ⟨w.heap.size,0,0,#[]⟩).put (nx+1) ⟨(w.alloc (.deferred (some []))).heap.size,0,0,#[]⟩) nx (nx+2):=(Ext.put hn0 hz0 _).trans (Ext.put hp1 hz1 _) (by omega) (by omega)
 have w1:qw K w ((w.alloc (.deferred (some []))).alloc (.loop {state:=.ready,pending:=none,fn:=fnid,tmps:=a.tmps,params:=ps,assign:=assign,body:=body,defers:=w.heap.size})):=(qw.alloc gd _).trans (qw.alloc g1 _)
 obtain ⟨w2,hw2⟩:∃w2:World,w2=(w.alloc (.deferred (some []))).alloc (.loop {state:=.ready,pending:=none,fn:=fnid,tmps:=a.tmps,params:=ps,assign:=assign,body:=body,defers:=w.heap.size}):=⟨_,rfl⟩
 rw [←hw2] at g2 w1
 have run1:(Instr.enterLoop fnid a.tmps ps assign body none).run P w=.ok (w.heap.size+1,[{target:=.collected w.heap.size,args:=#[]}]) w2:=by
  rw [hw2];simp [Instr.enterLoop]
 have run2:(resolve a.eval (rangeCall g (w.heap.size+1)) 0).run P w2=.ok {target:=.fn (.func f) us,args:=ys++#[.func (.yield (w.heap.size+1)) #[] #[]]} w2:=by
  show (Deferred.ofValue (a.eval g) _).run P w2=_
  have em:(rangeCall g (w.heap.size+1)).args.map a.eval=#[.func (.yield (w.heap.size+1)) #[] #[]]:=by simp [Act.eval]
  rw [hev,em];rfl
 have run3:(invoke (.fn (.func f) us) (ys++#[.func (.yield (w.heap.size+1)) #[] #[]])).run P w2=.ok (.enter f (ys++#[.func (.yield (w.heap.size+1)) #[] #[]]++us)) w2:=by
  simp only [invoke,zep hs hfn hb]
 refine ⟨w.heap.size+1,[{target:=.collected w.heap.size,args:=#[]}],w2,_,w2,f,_,w2,run1,run2,fun _ _=>trivial,run3,(fun h0=>by simp [fw,Fence.wide] at h0),?_⟩
 ·have hy:zw ((φ.put nx ⟨w.heap.size,0,0,#[]⟩).put (nx+1) ⟨(w.alloc (.deferred (some []))).heap.size,0,0,#[]⟩) [Value.func (.yield (nx+1)) #[] #[]] [Value.func (.yield (w.heap.size+1)) #[] #[]]:=by
   refine ⟨.func' ?_ (by simp [zw]) (by simp [zw]),trivial⟩
   have:=VJ.yield (φ:=(φ.put nx ⟨w.heap.size,0,0,#[]⟩).put (nx+1) ⟨(w.alloc (.deferred (some []))).heap.size,0,0,#[]⟩) (nx+1) _ (Ren.put_same _ _ _)
   simpa using this
  have hcall:=hc.2 _ _ K (ys.toList++[Value.func (.yield (w.heap.size+1)) #[] #[]]++us.toList) g2 ⟨by have:=hf.1;omega,fun b h1 h2=>by rw [ext1.2.1 b (by have:=hf.1;omega) (.inr h1)];exact hf.2 b (by omega) (by omega)⟩
   ((((e1.mono le1).mono le2).append hy).append ((e2.mono le1).mono le2))
  have ea:(ys.toList++[Value.func (.yield (w.heap.size+1)) #[] #[]]++us.toList).toArray=ys++#[Value.func (.yield (w.heap.size+1)) #[] #[]]++us:=by apply Array.ext';simp
  rw [ea] at hcall
  refine (zh1 hcall).mono ?_
  rintro e w3 ⟨v',φ3,rfl,x1,x2,x3,x4⟩
  have hLl:=x2.1 _ _ (Ren.put_same (φ.put nx ⟨w.heap.size,0,0,#[]⟩) (nx+1) ⟨(w.alloc (.deferred (some []))).heap.size,0,0,#[]⟩)
  have hLd:=x2.1 _ _ (le2 _ _ (Ren.put_same φ nx ⟨w.heap.size,0,0,#[]⟩))
  have le3:φ.le φ3:=Ren.le_trans (Ren.le_trans le1 le2) x2.1
  obtain ⟨jump,w4,y1,y2⟩:=zpX (P:=P) (r:=none) (rc:=none) (a:={a with defers:=[{target:=.collected w.heap.size,args:=#[]}]++a.defers}) x3 hl hLl ha (ht.mono le3) ⟨⟨_,hLd,rfl⟩,hd.mono le3⟩ trivial
  simp only [World.size_alloc] at y1
  refine ⟨jump,w4,y1,?_⟩
  have fin:∀e a' w',WE φ3 K w3 nx1 R e a' w'→WE φ K w nx R e a' w':=fun e a' w' hp=>WE.after ((ext1.trans x2 (by omega) hle)) (w1.trans x4) (by omega) (by omega) hp
  cases jump with
  |none=>exact fin _ _ _ y2
  |some c=>exact wpIn_mono y2 fin
theorem zjU {l0:Nat} {g:Operand} {ps:Array Tmp} {assign body:Code} {tm:List Value} {ds:List Nat} {nx:Nat} {f:FuncId} {fn:Func} {fs cs:Array Value} {v:Value} {H1:Hp} {nx1:Nat} {L0 L:Loop} {R:Res}
  (hs:vK P) (hfn:P.funcs[f]?=some fn) (hb:fn.body.isSome=true) (hgv:opv tm g=some (.func (.func f) fs cs)) (hl0:H.get l0=some (.loop L0))
  (hc:Qj P f (fs.toList++[.func (.yield nx) #[] #[]]++cs.toList) ((nx,.loop (Xw tm ps assign body L0.defers))::H) (nx+1) v H1 nx1)
  (hl:H1.get nx=some (.loop L)) (ha:gS L tm ds (H1.del nx) nx1=some R) :
  jb P (some l0) (.rangeFunc g ps assign body) tm ds H nx R:=by
 have hRnx:=zkB ha
 have hle:=hc.1
 refine ⟨by omega,fun φ w K a rc gd hf ht hd hr=>?_⟩
 cases rc with
 |none=>exact hr.elim
 |some c0=>
 obtain ⟨Lc0,hLc0,hbc⟩:=hr
 refine wpIn_rangeFunc fun fnid _=>?_
 have hn0:φ nx=none:=hf.2 nx (by omega) (by omega)
 have hz0:nx < FZ:=(hf.at (b:=nx) (by omega) (by omega)).2
 obtain ⟨l0',q1,q2,q3,q4,q5,q6,q7,D,q8,q9⟩:=gd.at hl0 hLc0
 have hgv':=qb ht hgv
 obtain ⟨fn',ys,us,hev,hfr,e1,e2⟩:=hgv'.func_inv
 cases hfr
 have le1:=Ren.put_le hn0 ⟨w.heap.size,0,0,#[]⟩
 have g2:=zof gd hn0 hz0 (.loop {state:=.ready,pending:=none,fn:=fnid,tmps:=a.tmps,params:=ps,assign:=assign,body:=body,defers:=l0'.defers}) (k:=.loop (Xw tm ps assign body L0.defers))
  ⟨_,GJ _ _,rfl,rfl,by simpa [Xw] using ht.mono le1,rfl,rfl,rfl,D,le1 _ _ q8,q9⟩
 have ext1:=Ext.put (K:=K) hn0 hz0 ⟨w.heap.size,0,0,#[]⟩
 have w1:=qw.alloc gd (.loop {state:=.ready,pending:=none,fn:=fnid,tmps:=a.tmps,params:=ps,assign:=assign,body:=body,defers:=l0'.defers})
 obtain ⟨w2,hw2⟩:∃w2:World,w2=w.alloc (.loop {state:=.ready,pending:=none,fn:=fnid,tmps:=a.tmps,params:=ps,assign:=assign,body:=body,defers:=l0'.defers}):=⟨_,rfl⟩
 rw [←hw2] at g2 w1
 have run1:(Instr.enterLoop fnid a.tmps ps assign body (some c0)).run P w=.ok (w.heap.size,[]) w2:=by
  rw [hw2,←hbc]
  have hgl:(Instr.getLoop Lc0.blk).run P w=.ok l0' w:=by simp [Instr.getLoop,getObj,Sem.run,q1]
  simp [Instr.enterLoop,hgl]
 have run2:(resolve a.eval (rangeCall g w.heap.size) 0).run P w2=.ok {target:=.fn (.func f) us,args:=ys++#[.func (.yield w.heap.size) #[] #[]]} w2:=by
  show (Deferred.ofValue (a.eval g) _).run P w2=_
  have em:(rangeCall g w.heap.size).args.map a.eval=#[.func (.yield w.heap.size) #[] #[]]:=by simp [Act.eval]
  rw [hev,em];rfl
 have run3:(invoke (.fn (.func f) us) (ys++#[.func (.yield w.heap.size) #[] #[]])).run P w2=.ok (.enter f (ys++#[.func (.yield w.heap.size) #[] #[]]++us)) w2:=by
  simp only [invoke,zep hs hfn hb]
 refine ⟨w.heap.size,[],w2,_,w2,f,_,w2,run1,run2,fun _ _=>trivial,run3,(fun h0=>by simp [fw,Fence.wide] at h0),?_⟩
 have hy:zw (φ.put nx ⟨w.heap.size,0,0,#[]⟩) [Value.func (.yield nx) #[] #[]] [Value.func (.yield w.heap.size) #[] #[]]:=
  ⟨.func' (VJ.yield (φ:=φ.put nx ⟨w.heap.size,0,0,#[]⟩) nx _ (Ren.put_same _ _ _)) (by simp [zw]) (by simp [zw]),trivial⟩
 have hcall:=hc.2 _ _ K (ys.toList++[Value.func (.yield w.heap.size) #[] #[]]++us.toList) g2 ⟨by have:=hf.1;omega,fun b h1 h2=>by rw [ext1.2.1 b (by have:=hf.1;omega) (.inr h1)];exact hf.2 b (by omega) (by omega)⟩
  (((e1.mono le1).append hy).append (e2.mono le1))
 have ea:(ys.toList++[Value.func (.yield w.heap.size) #[] #[]]++us.toList).toArray=ys++#[Value.func (.yield w.heap.size) #[] #[]]++us:=by apply Array.ext';simp
 rw [ea] at hcall
 refine (zh1 hcall).mono ?_
 rintro e w3 ⟨v',φ3,rfl,x1,x2,x3,x4⟩
 have hLl:=x2.1 _ _ (Ren.put_same φ nx ⟨w.heap.size,0,0,#[]⟩)
 have le3:φ.le φ3:=Ren.le_trans le1 x2.1
 obtain ⟨jump,w4,y1,y2⟩:=zpX (P:=P) (r:=some l0) (rc:=some c0) (a:={a with defers:=[]++a.defers}) x3 hl hLl ha (ht.mono le3) (hd.mono le3) ⟨Lc0,le3 _ _ hLc0,hbc⟩
 refine ⟨jump,w4,y1,?_⟩
 have fin:∀e a' w',WE φ3 K w3 nx1 R e a' w'→WE φ K w nx R e a' w':=fun e a' w' hp=>WE.after ((ext1.trans x2 (by omega) hle)) (w1.trans x4) (by omega) (by omega) hp
 cases jump with
 |none=>exact fin _ _ _ y2
 |some c=>exact wpIn_mono y2 fin
def zcK (P:Program) (H:Hp) (tm:List Value):List ResultVar→Option (List Value)
 |[]=>some []
 |.tmp t::rs=>match opv tm (.tmp t),zcK P H tm rs with
  |some v,some vs=>some (v::vs)
  |_,_=>none
 |.cell a t::rs=>match (opv tm (.tmp a)).bind (gk P H t),zcK P H tm rs with
  |some v,some vs=>some (v::vs)
  |_,_=>none
def WG:List Value→Value
 |[v]=>v
 |vs=>.tuple vs.toArray
theorem zr9 {H:Hp} {t:TypeId} {u u' v:Value} (h:gk P H t u=some v) (hr:zr φ u u') (w:World):∃a,(asAddr u').run P w=.ok a w∧Instr.sureAddr u'=pure a:=by
 unfold gk at h
 split at h
 ·cases hr;exact ⟨_,rfl,rfl⟩
 ·cases h
theorem zsa (g:zF φ H K w) {tm:List Value} {a:Act} (ht:qI φ tm a.tmps):∀{rs:List ResultVar} {vs:List Value},zcK P H tm rs=some vs→
  ∃us,(rs.mapM (fun | .tmp t=>pure (a.tmps.getD t undef) | .cell b t=>do loadVar t (←asAddr (a.tmps.getD b undef)):ResultVar→Sem Value)).run P w=.ok us w∧zw φ vs us
 |[],vs,h=>by simp [zcK] at h;subst h;exact ⟨[],by simp,trivial⟩
 |.tmp t::rs,vs,h=>by
  simp only [zcK] at h
  split at h
  ·rename_i v us h1 h2
   cases h
   obtain ⟨us',h3,h4⟩:=zsa g ht h2
   have hv:=qb ht h1
   refine ⟨a.eval (.tmp t)::us',?_,hv,h4⟩
   rw [List.mapM_cons]
   simp only [Sem.run_bind,Sem.run_pure,Result.andThen_ok,h3]
   rfl
  ·cases h
 |.cell b t::rs,vs,h=>by
  simp only [zcK] at h
  split at h
  ·rename_i v us h1 h2
   cases h
   simp only [Option.bind_eq_some_iff] at h1
   obtain ⟨u,hu,h1⟩:=h1
   obtain ⟨us',h3,h4⟩:=zsa g ht h2
   have hv:=qb ht hu
   obtain ⟨v',h5,h6⟩:=ztG g h1 hv
   obtain ⟨ad,h7,h8⟩:=zr9 h1 hv w
   refine ⟨v'::us',?_,h6,h4⟩
   have h9:(loadVar t ad).run P w=.ok v' w:=by
    have:=h5
    simp only [Instr.loadAt,h8] at this
    simpa using this
   have h10:(asAddr (a.tmps.getD b undef)).run P w=.ok ad w:=h7
   rw [List.mapM_cons]
   simp only [Sem.run_bind,Sem.run_pure,Result.andThen_ok,h3,h10,h9]
  ·cases h
def zcm:List Nat→Hp→Option Hp
 |[],H=>some H
 |d::ds,H=>match H.get d with
  |some .defd=>zcm ds (H.del d)
  |_=>none
theorem zAQ (g:zF φ H K w) {d:Nat} {k:Blk} {L:Loc} (hd:H.get d=some k) (hrw:k.rw=true) (hL:φ d=some L) (o:Obj) :
  zF φ (H.del d) K (w.putObj L.blk o)∧qw K w (w.putObj L.blk o):=by
 have hoth:∀c,c≠L.blk→(w.putObj L.blk o).heap[c]?=w.heap[c]?:=fun c hc=>by
  show (w.heap.setIfInBounds L.blk o)[c]?=_
  rw [Array.getElem?_setIfInBounds,if_neg (fun e=>hc e.symm)]
 have hsz:(w.putObj L.blk o).heap.size=w.heap.size:=by show (w.heap.setIfInBounds L.blk o).size=_;simp
 refine ⟨⟨fun b x hb=>?_,fun b c x y M N hb hc=>?_,fun b x M hb=>?_,fun c hc=>by rw [hsz];exact g.kin c hc,fun c M hM=>(g.fz c M hM).congr (hoth c fun e=>g.fsep d k L c M hd hrw hL hM e.symm),fun b x M c N hb=>?_⟩,⟨rfl,rfl,rfl,Nat.le_of_eq hsz.symm,fun c hc=>hoth c (fun e=>g.prot d k L hd hrw hL (e▸hc))⟩⟩
 ·rw [Hp.get_del] at hb
  split at hb
  ·cases hb
  ·rename_i hne
   obtain ⟨M,hM,hr⟩:=g.rel b x hb
   exact ⟨M,hM,hr.congr (hoth _ (fun e=>g.sep d b k x L M hd hb (fun e=>hne e.symm) hrw hL hM e.symm))⟩
 ·rw [Hp.get_del] at hb hc
  split at hb
  ·cases hb
  ·split at hc
   ·cases hc
   ·exact g.sep b c x y M N hb hc
 ·rw [Hp.get_del] at hb
  split at hb
  ·cases hb
  ·exact g.prot b x M hb
 ·rw [Hp.get_del] at hb
  split at hb
  ·cases hb
  ·exact g.fsep b x M c N hb
theorem ztL {fn:Func} {tmps:Array Value} {Rr:Ending→World→Prop}:∀{ds:List Nat} {xs:List Deferred} {H H':Hp} {w:World},gb φ ds xs→zF φ H K w→zcm ds H=some H'→
  (∀w',zF φ H' K w'→qw K w w'→∃v,(results fn tmps).run P w'=.ok v w'∧Rr (.returned v) w')→LeavesInM (fw none) 0 P fn tmps Rr xs .returning w
 |[],[],H,H',w,_,g,hk,h=>by
  simp [zcm] at hk;subst hk
  exact h w g (qw.refl _ _)
 |d::ds,x::xs,H,H',w,hd,g,hk,h=>by
  obtain ⟨⟨L,hL,rfl⟩,hd⟩:=hd
  simp only [zcm] at hk
  split at hk
  ·rename_i hb
   have hbr:w.heap[L.blk]?=some (.deferred (some [])):=g.at hb hL
   obtain ⟨g',hw'⟩:=zAQ g hb rfl hL (.deferred none)
   refine ⟨by simp,.inl ⟨L.blk,_,rfl,run_takeDeferred hbr,?_⟩⟩
   exact ztL hd g' hk fun w' g2 h2=>h w' g2 (hw'.trans h2)
  ·cases hk
 |[],_::_,_,_,_,h,_,_,_=>h.elim
 |_::_,[],_,_,_,h,_,_,_=>h.elim
theorem zAR {f:FuncId} {fn:Func} {c:Code} {args:List Value} {nx:Nat} {R:Res} {H1 H2:Hp} {vs:List Value} (hfn:P.funcs[f]?=some fn) (hb:fn.body=some c)
  (h:jb P none c (args++List.replicate (fn.ntmps - args.length) undef) [] H nx R) (he:R.e=.normal∨R.e=.ret) (hk:zcm R.ds R.H=some H1) (hr:zcK P H1 R.tm fn.results.toList=some vs)
  (hs:∀b k,H2.get b=some k→H1.get b=some k):Qj P f args H nx (WG vs) H2 R.nx:=by
 refine ⟨h.1,fun φ w K us g hf hl=>?_⟩
 have hcin:CallsIn (fw none) 0 P f us.toArray w fun e w'=>∃v' φ',e=.returned v'∧zr φ' (WG vs) v'∧Ext K φ φ' nx R.nx∧zF φ' H2 K w'∧qw K w w':=by
  refine callsIn_of_wp_marks hfn hb trivial ?_
  have hlen:=hl.length
  have ht:qI φ (args++List.replicate (fn.ntmps - args.length) undef) (us.toArray++Array.replicate (fn.ntmps - us.toArray.size) undef):=by
   have hu:zr φ undef undef:=.tuple' (by simp [zw])
   have hrep:∀n,zw φ (List.replicate n undef) (List.replicate n undef):=by
    intro n;induction n with
    |zero=>trivial
    |succ n ih=>exact ⟨hu,ih⟩
   have hall:=hl.append (hrep (fn.ntmps - args.length))
   refine ⟨by simp [hlen],fun i v hv=>.inr ?_⟩
   obtain ⟨v',h1,h2⟩:=hall.get hv
   refine ⟨v',?_,h2⟩
   rw [←h1,←Array.getElem?_toList]
   simp [hlen]
  refine wpIn_mono (h.2 φ w K {tmps:=us.toArray++Array.replicate (fn.ntmps - us.toArray.size) undef,defers:=[]} none g hf ht trivial trivial) ?_
  rintro e a1 w1 ⟨rfl,φ1,x1,x2,x3,x4,x5⟩
  have key:LeavesInM (fw none) 0 P fn a1.tmps (fun e w'=>∃v' φ',e=.returned v'∧zr φ' (WG vs) v'∧Ext K φ φ' nx R.nx∧zF φ' H2 K w'∧qw K w w') a1.defers .returning w1:=by
   refine ztL x4 x2 hk fun w' g' hw'=>?_
   obtain ⟨us',h1,h2⟩:=zsa (P:=P) g' x3 hr
   have h1':(fn.results.mapM (fun | .tmp t=>pure (a1.tmps.getD t undef) | .cell b t=>do loadVar t (←asAddr (a1.tmps.getD b undef)):ResultVar→Sem Value)).run P w'=.ok us'.toArray w':=by
    rw [←Array.toArray_toList (xs:=fn.results),List.mapM_toArray]
    simp only [Sem.run_map,h1,Result.andThen_ok]
   have hlen2:=h2.length
   refine ⟨WG us',?_,WG us',φ1,rfl,?_,x1,g'.sub hs,x5.trans hw'⟩
   ·unfold results
    simp only [Sem.run_bind]
    erw [h1']
    simp only [Result.andThen_ok,Sem.run_pure]
    congr 1
    match us' with
    |[]=>rfl
    |[v]=>rfl
    |_::_::_=>simp [WG]
   ·match vs,us',h2 with
    |[],[],_=>exact .tuple' (by simp [zw])
    |[v],[v'],h2=>exact h2.1
    |_::_::_,_::_::_,h2=>exact .tuple' (by simpa [WG] using h2)
  rcases he with he | he<;>(rw [he];exact key)
 exact callsIn_wide.1 hcin
end Go.Fz
end
