/- Parts of a proof, joined. -/
import Derived.Lib.SlicesCompact
import Derived.Sort.Grow
import Derived.Sort.Row
import Derived.Test.YtleloebnggepoaaGreatS33
set_option linter.unusedSectionVars false
set_option linter.unusedVariables false
set_option linter.unusedSimpArgs false
set_option maxHeartbeats 0
set_option maxRecDepth 100000
noncomputable section
namespace Go.Fz.Sy
variable {P:Program} {φ:Ren} {K:Nat→Prop} {w:World} {R:Type}
abbrev WB:Int→Value:=Value.int .i64
def Xn (l:List Int):List Int:=l.mergeSort fun x y=>decide (x≤y)
def zmV (l:List Int):List Int:=Lib.compact l
def zqb (l:List Int):Bool:=Nat.ble l.length 1000000000
structure zjg (P:Program) (f:FuncId):Prop where
 fn:∃fn,P.funcs[f]?=some fn∧fn.body.isSome=true
 run:∀(blk off cap:Nat) (L:List Int) (w:World),Sort.Holds WB w blk off L.toArray→blk < w.heap.size→L.length < 4611686018427387904→
  Calls P f #[.slice (some ⟨blk,off,none⟩) L.length cap] w fun e w'=>e=.returned (.tuple #[])∧∃n os,w'=Sort.grow (Sort.putRow WB (Sort.ahead w n) blk off (L.mergeSort fun x y=>decide (x≤y)).toArray) os
 nil:∀(a:Option Addr) (cap:Nat) (w:World),Calls P f #[.slice a 0 cap] w fun e w'=>e=.returned (.tuple #[])∧w'=w
structure zjh (P:Program) (f:FuncId):Prop where
 fn:∃fn,P.funcs[f]?=some fn∧fn.body.isSome=true
 run:∀(blk off cap:Nat) (L:List Int) (w:World),Sort.Holds WB w blk off L.toArray→L.length≤9223372036854775807→L.length≤cap→
  Calls P f #[.slice (some ⟨blk,off,none⟩) L.length cap] w fun e w'=>e=.returned (.slice (some ⟨blk,off,none⟩) (Lib.compact L).length cap)∧∃q,w'=Sort.putRow WB (Sort.ahead w q) blk off (Lib.compact L++List.replicate (L.length - (Lib.compact L).length) 0).toArray
 nil:∀(a:Option Addr) (cap:Nat) (w:World),Calls P f #[.slice a 0 cap] w fun e w'=>e=.returned (.slice a 0 cap)∧w'=w
abbrev ztx:=List (FuncId×Bool)
def zAP (P:Program) (f:FuncId):Bool→Prop
 |true=>zjg P f
 |false=>zjh P f
def zhV (P:Program) (s:ztx):Prop:=∀x∈s,zAP P x.1 x.2
def zwc (s:ztx) (f:FuncId):Option Bool:=match s with
 |[]=>none
 |x::r=>bif Nat.beq x.1 f then some x.2 else zwc r f
theorem zxu {f:FuncId} {b:Bool}:∀{s:ztx},zhV P s→zwc s f=some b→zAP P f b
 |[],_,h=>by cases h
 |x::r,hs,h=>by
  have h:(bif Nat.beq x.1 f then some x.2 else zwc r f)=some b:=h
  cases hb:Nat.beq x.1 f with
  |true=>
   rw [hb] at h
   cases h
   have:=Nat.eq_of_beq_eq_true hb
   subst this
   exact hs x (by simp)
  |false=>
   rw [hb] at h
   exact zxu (fun y hy=>hs y (List.mem_cons_of_mem _ hy)) h
def zEf (kind:Bool) (args:List SV) (H:SH) (nx:Nat) (k:KO R):Option R:=match args with
 |[.nils]=>bif kind then k (.tup []) H nx else k .nils H nx
 |[.own b]=>match zk H b with
  |some (.arr nn (.int .i64) l)=>bif zqb l then bif kind then k (.tup []) (jW H b (.arr nn (.int .i64) (Xn l))) nx
    else match Wy (jW H b (.gone (rsz nn (.int .i64) l) l.length)) nx (.arr nn (.int .i64) (zmV l)) with
     |some H2=>k (.own nx) H2 (nx+1)
     |none=>none
   else none
  |_=>none
 |_=>none
theorem zuY (w:World) (os:Array Obj) {c:Nat} (h:c < w.heap.size):(Sort.grow w os).heap[c]?=w.heap[c]?:=by
 show (w.heap++os)[c]?=_
 rw [Array.getElem?_append_left h]
theorem zmW {H:Hp} {w':World} (g:zA φ H K w) (hs:w.heap.size≤w'.heap.size) (h:∀c,c < w.heap.size→w'.heap[c]?=w.heap[c]?):zA φ H K w':=by
 refine ⟨fun b k hb=>?_,g.sep,g.prot,fun c hc=>by have:=g.kin c hc;omega,fun b L hL=>?_,g.fsep⟩
 ·obtain ⟨L,h1,h2⟩:=g.rel b k hb
  exact ⟨L,h1,h2.congr (h _ h2.lt)⟩
 ·have h2:=g.fz b L hL
  obtain ⟨q1,q2,a,el,fr,q3,q4⟩:=h2
  have hlt:b < w.heap.size:=(Array.getElem?_eq_some_iff.1 q3).1
  exact ⟨q1,q2,a,el,fr,by rw [h b hlt];exact q3,q4⟩
theorem zdQ (w:World) (blk off:Nat) (d:Array Int) (c:Nat) (h:c≠blk):(Sort.putRow WB w blk off d).heap[c]?=w.heap[c]?:=by
 show (w.heap.modify blk _)[c]?=_
 rw [Array.getElem?_modify]
 rw [if_neg (fun e=>h e.symm)]
theorem ziu (w:World) (blk off:Nat) (d:Array Int):(Sort.putRow WB w blk off d).heap.size=w.heap.size:=by
 show (w.heap.modify blk _).size=_
 simp
theorem zwd (l:List Int):zX (.int .i64) l=l.map WB:=by
 unfold zX
 induction l with
 |nil=>rfl
 |cons x r ih=>rw [List.flatMap_cons,List.map_cons,ih];rfl
theorem zCj {H:Hp} {b:Nat} {l:List Int} {M:Loc} (g:zA φ H K w) (hb:H.get b=some (.cells (l.map WB) false)) (hM:φ b=some M) :
  ∃arr el,w.heap[M.blk]?=some (.cells arr el (0,0))∧M.lim≤arr.size∧Sort.Holds WB w M.blk M.off l.toArray∧∀j,j < l.length→M.off+j < arr.size:=by
 obtain ⟨arr,el,fr,e1,e2,e3⟩:=g.at hb hM
 obtain ⟨rfl,e4⟩:=e3 rfl
 have hcell:∀j (hj:j < l.length),arr[M.off+j]?=some (WB l[j]):=fun j hj=>by
  have hv:(l.map WB)[j]?=some (WB l[j]):=by simp [hj]
  obtain ⟨v',q1,q2⟩:=e2 j _ hv
  cases q2
  exact q1
 refine ⟨arr,el,e1,e4,fun j hj=>?_,fun j hj=>(Array.getElem?_eq_some_iff.1 (hcell j hj)).1⟩
 have hj:j < l.length:=by simpa using hj
 refine ⟨?_,?_⟩
 ·show (match w.heap[M.blk]? with | some (.cells c _ _)=>if (none:Option Nat).isSome then none else c[M.off+j]? | _=>none)=_
  rw [e1]
  have:=hcell j hj
  simp [this,hj]
 ·show (match w.heap[M.blk]? with | some (.cells _ _ (lo,hi))=>decide (lo≤M.off+j)&&decide (M.off+j < hi) | _=>false)=_
  rw [e1]
  simp
theorem zzB {M:Loc} {arr:Array Value} {el:TypeId} {n:Nat} {d:Array Int} {l:List Int} (e1:w.heap[M.blk]?=some (.cells arr el (0,0))) (e4:M.lim≤arr.size) (hin:∀j,j < d.size→M.off+j < arr.size) (hl:∀(j:Nat) (x:Int),l[j]?=some x→d[j]?=some x) :
  jN φ (Sort.putRow WB (Sort.ahead w n) M.blk M.off d) M (.cells (l.map WB) false):=by
 refine ⟨Sort.putCells WB M.off d arr,el,(0,0),?_,fun j v hv=>?_,fun _=>⟨rfl,?_⟩⟩
 ·show ((Sort.ahead w n).heap.modify M.blk _)[M.blk]?=_
  rw [Array.getElem?_modify,if_pos rfl]
  show Option.map _ w.heap[M.blk]?=_
  rw [e1];rfl
 ·rw [List.getElem?_map] at hv
  cases hx:l[j]? with
  |none=>rw [hx] at hv;cases hv
  |some x=>
   rw [hx] at hv
   simp only [Option.map_some,Option.some.injEq] at hv
   subst hv
   have hd:=hl j x hx
   have hj:=(Array.getElem?_eq_some_iff.1 hd).1
   have hin:=hin j hj
   refine ⟨WB x,?_,.int _ _⟩
   unfold Sort.putCells
   rw [Array.getElem?_mapIdx,Array.getElem?_eq_getElem hin]
   have hc:M.off≤M.off+j∧M.off+j < M.off+d.size:=by omega
   simp only [Option.map_some,if_pos hc,Nat.add_sub_cancel_left]
   have:d[j]! = x:=by
    rw [getElem!_pos d j hj]
    exact (Array.getElem?_eq_some_iff.1 hd).2
   rw [this]
 ·unfold Sort.putCells
  simpa using e4
theorem zxv {f:FuncId} (hs:zjg P f) {arg:Value} (ha:∀(φ:Ren) v',zo φ arg v'→∃a c,v'=.slice a 0 c) (H:Hp) (nx:Nat):gN P f [arg] H nx (.tuple #[]) H nx:=by
 refine ⟨Nat.le_refl _,fun φ w K us g hf hl=>?_⟩
 match us,hl with
 |[u],hl=>
  obtain ⟨a,c',rfl⟩:=ha φ u hl.1
  refine Calls.mono (hs.nil a c' w) ?_
  rintro e w' ⟨rfl,rfl⟩
  exact ⟨_,φ,rfl,.tuple' trivial,Ext.refl _ _ _ _,g,qC.refl _ _⟩
theorem zzC {ν:Nat→Bool} {H:SH} {b:Nat} {nn:Bool} (hb:zk H b=some (.arr nn (.int .i64) [])) (φ:Ren) (v':Value) (h:zo φ (rho ν H b) v'):∃a c,v'=.slice a 0 c:=by
 rw [QQ ν (nn:=nn) (t:=.int .i64) (l:=[]) (by rw [hb];rfl)] at h
 cases nn with
 |false=>cases h;exact ⟨_,_,rfl⟩
 |true=>
  have h:zo φ (.slice (some ⟨b,0,none⟩) 0 (qc+1)) v':=h
  cases h<;>exact ⟨_,_,rfl⟩
theorem zCk {ν:Nat→Bool} {H:SH} {b:Nat} {nn:Bool} {l:List Int} (hb:zk H b=some (.arr nn (.int .i64) l)) (h0:l≠[]) {φ:Ren} {v':Value} (h:zo φ (rho ν H b) v') :
  ∃M c',φ b=some M∧v'=.slice (some ⟨M.blk,M.off,none⟩) l.length c'∧l.length≤c'∧∀(φ':Ren) b' n,φ' b'=some M→n≤c'→zo φ' (.slice (some ⟨b',0,none⟩) n (qc+1)) (.slice (some ⟨M.blk,M.off,none⟩) n c'):=by
 have hl:0 < l.length:=List.length_pos_iff.2 h0
 rw [QQ ν (nn:=nn) (t:=.int .i64) (l:=l) (by rw [hb];rfl)] at h
 have hn:jP nn l=false:=by
  cases l with
  |nil=>exact absurd rfl h0
  |cons x r=>cases nn<;>rfl
 rw [hn,cond_false] at h
 have h:zo φ (.slice (some ⟨b,0,none⟩) l.length (qc+1)) v':=h
 generalize hnL:l.length=nL at h hl
 generalize hcc:qc+1=cc at h
 cases h with
 |sl _ _ _ _ M h hc=>exact absurd hc (by omega)
 |slO _ _ _ _ c' M h9 hc hn hl=>exact ⟨M,c',h9,by simp,hn,fun φ' b' n hb' hn'=>by have:=zo.slO b' 0 n cc c' M hb' hc hn' hl;simpa using this⟩
 |slE=>omega
theorem zks (l:List Int):(Xn l).length=l.length:=List.length_mergeSort l
theorem zxw {l l':List Int} (nn:Bool) (h:l'.length=l.length):jP nn l'=jP nn l:=by
 cases nn<;>cases l<;>cases l'<;>first | rfl | simp at h
theorem zAQ {f:FuncId} (hs:zjg P f) {b:Nat} {H:SH} {nx:Nat} {nn:Bool} {l:List Int} (hb:zk H b=some (.arr nn (.int .i64) l)) (hq:zqb l=true):zhS P f [.own b] H nx (.tup []) (jW H b (.arr nn (.int .i64) (Xn l))) nx:=by
 have hlen:l.length≤1000000000:=Nat.le_of_ble_eq_true hq
 have hreg:∀c,reg (zk (jW H b (.arr nn (.int .i64) (Xn l))) c)=reg (zk H c):=fun c=>by
  rw [qE]
  by_cases hc:c=b
  ·subst hc
   rw [if_pos rfl,hb]
   show some ((Xn l).length,rsz nn (.int .i64) (Xn l))=some (l.length,rsz nn (.int .i64) l)
   unfold rsz
   rw [zks,zxw nn (zks l)]
  ·rw [if_neg hc]
 have hnn:∀c,jc (zk (jW H b (.arr nn (.int .i64) (Xn l))) c)=true→jc (zk H c)=true:=fun c hc=>by
  rw [qE] at hc
  by_cases hcb:c=b
  ·subst hcb;rw [if_pos rfl,hb] at hc;rw [hb];exact hc
  ·rwa [if_neg hcb] at hc
 refine ⟨hs.fn,fun c z hz=>by rw [hreg c];exact hz,YU hb (fun L=>by simp),Nat.le_refl _,fun ν hv=>⟨gQ hreg hnn hv,?_⟩⟩
 have hgood:∀φ K w,zA φ ((zw ν H).set b (.cells ((Xn l).map WB) false)) K w→jP nn l=false→zA φ (zw ν (jW H b (.arr nn (.int .i64) (Xn l)))) K w:=fun φ K w g hn=>g.sub fun c k hc=>by
  rw [zF,qE,yx hreg] at hc
  rw [Hp.get_set]
  by_cases hcb:c=b
  ·subst hcb
   rw [if_pos rfl,hb] at hc
   simp only [Option.map_some,Option.bind_some,zT,zxw nn (zks l),hn,cond_false,Option.some.injEq] at hc
   rw [if_pos rfl,zF,hb]
   simp only [Option.bind_some,zT,hn,cond_false,Option.map_some,←hc,zwd]
  ·rw [if_neg hcb] at hc ⊢
   rw [zF];exact hc
 rw [yx hreg]
 by_cases h0:l=[]
 ·subst h0
  have h1:=zxv hs (arg:=rho ν H b) (zzC hb) (zw ν H) nx
  have e:jW H b (.arr nn (.int .i64) (Xn []))=jW H b (.arr nn (.int .i64) []):=by simp [Xn]
  refine ⟨Nat.le_refl _,fun φ w K us g hf hl=>Calls.mono (h1.2 φ w K us g hf (by simpa [zp,den] using hl)) ?_⟩
  rintro e w' ⟨v',φ',rfl,k1,k2,k3,k4⟩
  refine ⟨v',φ',rfl,by simpa [den,zp] using k1,k2,k3.sub fun c k hc=>?_,k4⟩
  rw [zF,qE,yx hreg] at hc
  by_cases hcb:c=b
  ·subst hcb
   rw [if_pos rfl,hb] at hc
   rw [zF,hb]
   simpa [Xn] using hc
  ·rw [if_neg hcb] at hc
   rw [zF];exact hc
 ·have hn:jP nn l=false:=by
   cases l with
   |nil=>exact absurd rfl h0
   |cons x r=>cases nn<;>rfl
  have hd:(zw ν H).get b=some (.cells (l.map WB) false):=by rw [zF,hb];simp [zT,hn,zwd]
  refine ⟨Nat.le_refl _,fun φ w K us g hf hl=>?_⟩
  match us,hl with
  |[u],hl=>
   obtain ⟨hu,_⟩:=hl
   have hu:zo φ (rho ν H b) u:=by simpa only [den] using hu
   obtain ⟨M,c',hM,rfl,hcl,_⟩:=zCk hb h0 hu
   obtain ⟨arr,el,e1,e4,hH,hin⟩:=zCj g hd hM
   have hlt:M.blk < w.heap.size:=(Array.getElem?_eq_some_iff.1 e1).1
   refine Calls.mono (hs.run M.blk M.off c' l w hH hlt (by omega)) ?_
   rintro e w' ⟨rfl,n,os,rfl⟩
   have hbr:=zzB (φ:=φ) (n:=n) (d:=(Xn l).toArray) (l:=Xn l) e1 e4 (fun j hj=>hin j (by rw [←zks];simpa using hj)) (fun j x hx=>by simpa using hx)
   have hM2:¬K M.blk:=g.prot b _ M hd rfl hM
   have ga:zA φ (zw ν H) K (Sort.ahead w n):=zmW g (Nat.le_refl _) fun c _=>rfl
   have g2:=zA.upd ga hd rfl hM (fun c hc=>zdQ _ _ _ (Xn l).toArray c hc) (ziu _ _ _ _) hbr
   refine ⟨.tuple #[],φ,rfl,by simp only [den,zp];exact .tuple' trivial,Ext.refl _ _ _ _,hgood φ K _ (zmW g2 (by show _≤(_++os).size;simp) fun c hc=>zuY _ os hc) hn,?_⟩
   refine ⟨rfl,rfl,rfl,?_,fun c hc=>?_⟩
   ·show w.heap.size≤((w.heap.modify M.blk _)++os).size
    simp
   ·have hne:c≠M.blk:=fun e=>hM2 (e▸hc)
    have hcs:=g.kin c hc
    show (Sort.grow (Sort.putRow WB (Sort.ahead w n) M.blk M.off (Xn l).toArray) os).heap[c]?=_
    rw [zuY _ _ (by rw [ziu];exact hcs),zdQ _ _ _ _ c hne]
    rfl
theorem zEg (l:List Int):(Lib.compact l).length≤l.length:=by
 unfold Lib.compact Lib.compactUpTo
 rw [List.length_map]
 have:=List.length_filter_le (Lib.keeps l.toArray) (List.range l.length)
 simpa using this
theorem zF2 {l:List Int} (h:l≠[]):Lib.compact l≠[]:=fun e=>by
 have hl:0 < l.length:=List.length_pos_iff.2 h
 unfold Lib.compact Lib.compactUpTo at e
 have h1:=List.map_eq_nil_iff.1 e
 have h2:=(List.filter_eq_nil_iff.1 h1) 0 (by simpa using hl)
 exact h2 (by simp [Lib.keeps])
theorem zAR {f:FuncId} (hs:zjh P f) {b:Nat} {H H2:SH} {nx:Nat} {nn:Bool} {l:List Int} (hb:zk H b=some (.arr nn (.int .i64) l)) (hq:zqb l=true)
  (hnew:Wy (jW H b (.gone (rsz nn (.int .i64) l) l.length)) nx (.arr nn (.int .i64) (zmV l))=some H2):zhS P f [.own b] H nx (.own nx) H2 (nx+1):=by
 have hlen:l.length≤1000000000:=Nat.le_of_ble_eq_true hq
 obtain ⟨q1,q2,q3⟩:=zw0 hb hnew
 refine ⟨hs.fn,q1,q2,Nat.le_succ _,fun ν hv=>?_⟩
 obtain ⟨q4,q5,q6,q7⟩:=q3 ν hv
 refine ⟨q4,Nat.le_succ _,fun φ w K us g hf hl=>?_⟩
 match us,hl with
 |[u],hl=>
  obtain ⟨hu,_⟩:=hl
  have hu:zo φ (rho ν H b) u:=by simpa only [den] using hu
  have hfr:=hf.at (Nat.le_refl nx) (Nat.lt_succ_self nx)
  have c0:Lib.compact ([]:List Int)=[]:=rfl
  by_cases h0:l=[]
  ·subst h0
   obtain ⟨a,c,rfl⟩:=zzC hb φ u hu
   refine Calls.mono (hs.nil a c w) ?_
   rintro e w' ⟨rfl,rfl⟩
   cases nn with
   |false=>
    obtain ⟨e1,e2⟩:=q7 rfl
    rw [QQ ν (nn:=false) (t:=.int .i64) (l:=[]) (by rw [hb];rfl)] at hu
    exact ⟨_,φ,rfl,by simp only [den];rw [e1];exact hu,Ext.refl _ _ _ _,e2 φ K w' g,qC.refl _ _⟩
   |true=>
    have hd:(zw ν H).get b=some (.cells [] false):=by rw [zF,hb];rfl
    obtain ⟨φ',f1,f2,f3⟩:=zmF g hfr.1 hfr.2 hd
    rw [QQ ν (nn:=true) (t:=.int .i64) (l:=[]) (by rw [hb];rfl)] at hu
    have hu:zo φ (.slice (some ⟨b,0,none⟩) 0 (qc+1)) (.slice a 0 c):=hu
    refine ⟨_,φ',rfl,?_,f1,q6 φ' K w' (by simpa [zmV,c0,zX] using f2),qC.refl _ _⟩
    simp only [den]
    rw [q5 rfl]
    show zo φ' (.slice (some ⟨nx,0,none⟩) 0 (qc+1)) (.slice a 0 c)
    generalize hcc:qc+1=cc at hu ⊢
    generalize hz:(0:Nat)=z at hu ⊢
    cases hu with
    |sl _ _ _ _ M h hc=>exact absurd hc (by omega)
    |slO _ _ _ _ c' M h9 hc hn hl=>exact .slO nx _ _ cc c M (f3 M h9) hc hn hl
    |slE _ _ _ a' M h9 hc=>exact .slE nx _ cc a' M (f3 M h9) hc
  ·have hn:jP nn l=false:=by
    cases l with
    |nil=>exact absurd rfl h0
    |cons x r=>cases nn<;>rfl
   have hd:(zw ν H).get b=some (.cells (l.map WB) false):=by rw [zF,hb];simp [zT,hn,zwd]
   obtain ⟨M,c',hM,rfl,hcl,hmk⟩:=zCk hb h0 hu
   obtain ⟨arr,el,e1,e4,hH,hin⟩:=zCj g hd hM
   obtain ⟨φ',f1,f2,f3⟩:=zmF g hfr.1 hfr.2 hd
   refine Calls.mono (hs.run M.blk M.off c' l w hH (by omega) hcl) ?_
   rintro e w' ⟨rfl,n,rfl⟩
   have hle:(Lib.compact l).length≤l.length:=zEg l
   have hne:Lib.compact l≠[]:=zF2 h0
   have hnc:jP nn (zmV l)=false:=by
    unfold zmV
    cases hc:Lib.compact l with
    |nil=>exact absurd hc hne
    |cons x r=>cases nn<;>rfl
   obtain ⟨d,hdd⟩:∃d,d=(Lib.compact l++List.replicate (l.length - (Lib.compact l).length) 0).toArray:=⟨_,rfl⟩
   rw [←hdd]
   have hds:d.size=l.length:=by rw [hdd];simp;omega
   have hdx:∀(j:Nat) (x:Int),(zmV l)[j]?=some x→d[j]?=some x:=fun j x hx=>by
    have hj:=(List.getElem?_eq_some_iff.1 hx).1
    have hj:j < (Lib.compact l).length:=hj
    rw [hdd]
    simp only [List.getElem?_toArray]
    rw [List.getElem?_append_left hj];exact hx
   clear hdd
   have hbr:=zzB (φ:=φ') (n:=n) (d:=d) (l:=zmV l) e1 e4 (fun j hj=>hin j (by omega)) hdx
   have hb2:Hp.get ((nx,Blk.cells (l.map WB) false)::(zw ν H).del b) nx=some (.cells (l.map WB) false):=by rw [Hp.get_cons];simp
   have hM':=f3 M hM
   have hM2:¬K M.blk:=g.prot b _ M hd rfl hM
   have ga:zA φ' ((nx,Blk.cells (l.map WB) false)::(zw ν H).del b) K (Sort.ahead w n):=zmW f2 (Nat.le_refl _) fun c _=>rfl
   have g2:=zA.upd ga hb2 rfl hM' (fun c hc=>zdQ _ _ _ d c hc) (ziu _ _ _ _) hbr
   refine ⟨_,φ',rfl,?_,f1,q6 φ' K _ (g2.sub fun c k hc=>?_),?_⟩
   ·simp only [den]
    rw [q5 hnc]
    exact hmk φ' nx _ hM' (Nat.le_trans hle hcl)
   ·rw [Hp.get_cons] at hc
    rw [Hp.get_set,hb2,Hp.get_cons]
    by_cases hcn:c=nx
    ·subst hcn
     simp only [beq_self_eq_true,if_true] at hc ⊢
     rw [zwd] at hc
     exact hc
    ·have hbn:(nx == c)=false:=by simpa using fun e=>hcn e.symm
     rw [hbn] at hc
     rw [if_neg hcn,hbn]
     exact hc
   ·refine ⟨rfl,rfl,rfl,?_,fun c hc=>?_⟩
    ·show w.heap.size≤(w.heap.modify M.blk _).size
     simp
    ·have hne:c≠M.blk:=fun e=>hM2 (e▸hc)
     rw [zdQ _ _ _ _ c hne]
     rfl
theorem zF3 {f:FuncId} {kind:Bool} (hs:zAP P f kind) {args:List SV} {H:SH} {nx:Nat} {k:KO R} {r:R} (h:zEf kind args H nx k=some r):∃v H' nx',zhS P f args H nx v H' nx'∧k v H' nx'=some r:=by
 unfold zEf at h
 split at h
 ·cases kind with
  |true=>
   refine ⟨_,_,_,⟨zjg.fn hs,wN.refl H,wT.refl H,Nat.le_refl _,fun ν hv=>⟨hv,?_⟩⟩,h⟩
   simpa [zp,den] using zxv (arg:=.slice none 0 0) hs (fun φ v' hv=>by cases hv;exact ⟨_,_,rfl⟩) (zw ν H) nx
  |false=>
   refine ⟨_,_,_,⟨zjh.fn hs,wN.refl H,wT.refl H,Nat.le_refl _,fun ν hv=>⟨hv,Nat.le_refl _,fun φ w K us g hf hl=>?_⟩⟩,h⟩
   match us,hl with
   |[u],hl=>
    obtain ⟨hu,_⟩:=hl
    have hu:zo φ (.slice none 0 0) u:=by simpa only [den] using hu
    cases hu
    refine Calls.mono (zjh.nil hs none 0 w) ?_
    rintro e w' ⟨rfl,rfl⟩
    exact ⟨_,φ,rfl,by simp only [den];exact .slN _ _,Ext.refl _ _ _ _,g,qC.refl _ _⟩
 ·split at h
  case h_2=>cases h
  rename_i b nn l hb
  have h6:=zx h
  clear h
  obtain ⟨hq,h⟩:=h6
  cases kind with
  |true=>exact ⟨_,_,_,zAQ hs hb hq,h⟩
  |false=>
   simp only [cond_false] at h
   split at h
   case h_2=>cases h
   rename_i H2 hnew
   exact ⟨_,_,_,zAR hs hb hq hnew,h⟩
 ·cases h
theorem zEh {f:FuncId} {args cs cs':List Value} {Hd:Hp} {nx':Nat} {v:Value} (hz:nx'≤FZ) (h:gN P f (.pointer (some ⟨0,0,none⟩)::args) [(0,.cells cs false)] 1 v Hd nx') (hd:Hd.get 0=some (.cells cs' false))
  (ha:∀φ φ0:Ren,(∀b L,φ (FZ+b)=some L→φ0 (FZ+b)=some L)→∀us,zy φ args us→zy φ0 args us)
  (hv:∀φ φ0:Ren,(∀b L,φ (FZ+b)=some L→φ0 (FZ+b)=some L)→∀v',zo φ v v'→zo φ0 v v')
  (hc:∀φ φ0:Ren,(∀b L,φ (FZ+b)=some L→φ0 (FZ+b)=some L)→∀(j:Nat) c v',cs[j]?=some c→zo φ c v'→zo φ0 c v')
  (hc':∀φ φ0:Ren,(∀b L,φ (FZ+b)=some L→φ0 (FZ+b)=some L)→∀(j:Nat) c v',cs'[j]?=some c→zo φ c v'→zo φ0 c v')
  {H:Hp} {b:Nat} (hb:H.get b=some (.cells cs false)) (nx:Nat):gN P f (.pointer (some ⟨b,0,none⟩)::args) H nx v (H.set b (.cells cs' false)) nx:=by
 refine ⟨Nat.le_refl _,fun φ w K us g hf hl=>?_⟩
 obtain ⟨L,hL,hB⟩:=g.rel b _ hb
 have hFZ:0 < FZ:=by
  delta FZ
  generalize 2048=m
  exact Nat.two_pow_pos m
 let φ0:Ren:=fun n=>if FZ≤n then φ n else if n=0 then some L else none
 have e0:∀n,φ0 (FZ+n)=φ (FZ+n):=fun n=>if_pos (Nat.le_add_right FZ n)
 have e00:φ0 0=some L:=(if_neg (Nat.not_le_of_gt hFZ)).trans (if_pos rfl)
 let K0:Nat→Prop:=fun c=>c < w.heap.size∧c≠L.blk
 have hget:∀c k,Hp.get [(0,Blk.cells cs false)] c=some k→c=0∧k=.cells cs false:=fun c k hk=>by
  rw [Hp.get_cons] at hk
  by_cases h0:c=0
  ·subst h0;simp at hk;exact ⟨rfl,hk.symm⟩
  ·have:(0 == c)=false:=by simpa using fun e=>h0 e.symm
   rw [this] at hk;simp [Hp.get_nil] at hk
 have hBF:∀(φa φb:Ren) (w:World) (ds:List Value),(∀(j:Nat) c v',ds[j]?=some c→zo φa c v'→zo φb c v')→jN φa w L (.cells ds false)→jN φb w L (.cells ds false):=fun φa φb w ds hh hB=>by
  obtain ⟨arr,el,fr,b1,b2,b3⟩:=hB
  exact ⟨arr,el,fr,b1,fun j v hj=>let ⟨v',q1,q2⟩:=b2 j v hj;⟨v',q1,hh j v v' hj q2⟩,b3⟩
 have g0:zA φ0 [(0,.cells cs false)] K0 w:=by
  refine ⟨fun c k hk=>?_,fun c d k k' M M' hk hk' hne=>?_,fun c k M hk hr hM=>?_,fun c hk=>hk.1,fun c M hM=>g.fz c M (by rw [←e0];exact hM),fun c k M d N hk hr hM hN=>?_⟩
  ·obtain ⟨rfl,rfl⟩:=hget c k hk
   exact ⟨L,e00,hBF φ φ0 w cs (hc φ φ0 fun n M hM=>by rw [e0];exact hM) hB⟩
  ·obtain ⟨rfl,_⟩:=hget c k hk
   obtain ⟨rfl,_⟩:=hget d k' hk'
   exact absurd rfl hne
  ·obtain ⟨rfl,rfl⟩:=hget c k hk
   rw [e00] at hM;cases hM
   exact fun h=>h.2 rfl
  ·obtain ⟨rfl,rfl⟩:=hget c k hk
   rw [e00] at hM;cases hM
   exact g.fsep b _ L d N hb rfl hL (by rw [←e0];exact hN)
 match us,hl with
 |u::us,hl=>
 obtain ⟨hu,hl⟩:=hl
 have hu2:zo φ0 (.pointer (some ⟨0,0,none⟩)) u:=by
  cases hu with
  |ptr _ _ M hM=>rw [hL] at hM;cases hM;exact .ptr 0 0 L e00
 refine Calls.mono (h.2 φ0 w K0 (u::us) g0 ⟨hz,fun n hn hn2=>by simp only [φ0,show ¬FZ≤n by omega,if_false,show ¬n=0 by omega]⟩ ⟨hu2,ha φ φ0 (fun n M hM=>by rw [e0];exact hM) us hl⟩) ?_
 rintro e w' ⟨v',φ',rfl,x1,x2,x3,x4⟩
 let φ2:Ren:=fun n=>if FZ≤n then φ' n else φ n
 have e2:∀n,φ2 (FZ+n)=φ' (FZ+n):=fun n=>if_pos (Nat.le_add_right FZ n)
 have e3:∀n,n < FZ→φ2 n=φ n:=fun n hn=>by simp only [φ2,show ¬FZ≤n by omega,if_false]
 have hle:φ.le φ2:=fun n M hn=>by
  by_cases hz:FZ≤n
  ·simp only [φ2,hz,if_true]
   exact x2.1 n M (by simp only [φ0,hz,if_true];exact hn)
  ·simp only [φ2,hz,if_false];exact hn
 have f0:φ' 0=some L:=by rw [x2.2.1 0 hFZ (.inl (by omega))];exact e00
 have hfs:∀c M,φ' (FZ+c)=some M→L.blk≠c:=fun c M hM=>x3.fsep 0 _ L c M hd rfl f0 hM
 have hnew:∀c M,φ2 (FZ+c)=some M→φ (FZ+c)=some M∨¬c < w.heap.size:=fun c M hM=>by
  rw [e2] at hM
  rcases x2.2.2 c M hM with h1 | h1
  ·rw [e0] at h1;exact .inl h1
  ·refine .inr fun h2=>h1 ⟨h2,fun e=>hfs c M hM e.symm⟩
 have hφ2:∀c k M,H.get c=some k→φ2 c=some M→φ c=some M:=fun c k M hk hM=>by
  obtain ⟨N,hN,_⟩:=g.rel c k hk
  have:=hle c N hN
  rw [hM] at this;cases this;exact hN
 have hset:∀c k,(H.set b (.cells cs' false)).get c=some k→(c=b∧k=.cells cs' false)∨(c≠b∧H.get c=some k):=fun c k hk=>by
  rw [Hp.get_set] at hk
  by_cases h0:c=b
  ·subst h0;rw [if_pos rfl,hb] at hk;simp at hk;exact .inl ⟨rfl,hk.symm⟩
  ·rw [if_neg h0] at hk;exact .inr ⟨h0,hk⟩
 have hold:∀c k,(H.set b (.cells cs' false)).get c=some k→∃k0,H.get c=some k0∧k.rw=k0.rw:=fun c k hk=>by
  rcases hset c k hk with ⟨rfl,rfl⟩ | ⟨_,h2⟩
  ·exact ⟨_,hb,rfl⟩
  ·exact ⟨k,h2,rfl⟩
 have hKL:¬K L.blk:=g.prot b _ L hb rfl hL
 refine ⟨v',φ2,rfl,hv φ' φ2 (fun n M hM=>by rw [e2];exact hM) v' x1,⟨hle,fun n hn _=>e3 n hn,fun n M hM=>(hnew n M hM).imp id fun h1 h2=>h1 (g.kin n h2)⟩,?_,⟨x4.os,x4.tape,x4.output,x4.size,fun c hc=>x4.kept c ⟨g.kin c hc,fun e=>hKL (e▸hc)⟩⟩⟩
 refine ⟨fun c k hk=>?_,fun c d k k' M M' hk hk' hne hkr hM hM'=>?_,fun c k M hk hkr hM=>?_,fun c hc=>Nat.lt_of_lt_of_le (g.kin c hc) x4.size,fun c M hM=>x3.fz c M (by rw [←e2];exact hM),fun c k M d N hk hkr hM hN=>?_⟩
 ·rcases hset c k hk with ⟨rfl,rfl⟩ | ⟨hne,h2⟩
  ·refine ⟨L,hle c L hL,?_⟩
   obtain ⟨L',q1,q2⟩:=x3.rel 0 _ hd
   rw [f0] at q1;cases q1
   exact hBF φ' φ2 w' cs' (hc' φ' φ2 fun n M hM=>by rw [e2];exact hM) q2
  ·obtain ⟨M,hM,hB2⟩:=g.rel c k h2
   have hne2:L.blk≠M.blk:=g.sep b c _ k L M hb h2 (fun e=>hne e.symm) rfl hL hM
   exact ⟨M,hle c M hM,(hB2.congr (x4.kept M.blk ⟨hB2.lt,fun e=>hne2 e.symm⟩)).mono hle⟩
 ·obtain ⟨k0,h1,h1r⟩:=hold c k hk
  obtain ⟨k1,h2,_⟩:=hold d k' hk'
  exact g.sep c d k0 k1 M M' h1 h2 hne (by rw [←h1r];exact hkr) (hφ2 c k0 M h1 hM) (hφ2 d k1 M' h2 hM')
 ·obtain ⟨k0,h1,h1r⟩:=hold c k hk
  exact g.prot c k0 M h1 (by rw [←h1r];exact hkr) (hφ2 c k0 M h1 hM)
 ·obtain ⟨k0,h1,h1r⟩:=hold c k hk
  have hL1:=hφ2 c k0 M h1 hM
  rcases hnew d N hN with h3 | h3
  ·exact g.fsep c k0 M d N h1 (by rw [←h1r];exact hkr) hL1 h3
  ·have:=(g.at h1 hL1).lt
   omega
structure yC where
 ty:Ty
 args:List VT
 res:List VT
 F:T ty→T (zJ args)→Option (T ty×T (zJ res))
def yC.Ok (P:Program) (f:FuncId) (c:yC):Prop:=(∃fn,P.funcs[f]?=some fn∧fn.body.isSome=true)∧
 ∀x y z,c.F x y=some z→∃Hd nx',nx'≤FZ∧gN P f (.pointer (some ⟨0,0,none⟩)::zp (fun _=>bad) (wa c.args y)) [(0,.cells (qn c.ty x) false)] 1 (den (fun _=>bad) (zaN (wa c.res z.2))) Hd nx'∧Hd.get 0=some (.cells (qn c.ty z.1) false)
theorem zty {arr:Array Value}:∀(cs:List Value) (off:Nat),(∀(j:Nat) v,cs[j]?=some v→∃v',arr[off+j]?=some v'∧zo φ v v')→∃us,zy φ cs us∧∀(j:Nat) u,us[j]?=some u→arr[off+j]?=some u
 |[],off,_=>⟨[],trivial,fun j u h=>by simp at h⟩
 |c::cs,off,h=>by
  obtain ⟨v',h1,h2⟩:=h 0 c rfl
  obtain ⟨us,h3,h4⟩:=zty cs (off+1) fun j v hj=>by
   have:=h (j+1) v (by rw [List.getElem?_cons_succ];exact hj)
   rwa [show off+(j+1)=off+1+j by omega] at this
  refine ⟨v'::us,⟨h2,h3⟩,fun j u hu=>?_⟩
  cases j with
  |zero=>simp at hu;subst hu;exact h1
  |succ j=>
   rw [List.getElem?_cons_succ] at hu
   have:=h4 j u hu
   rwa [show off+1+j=off+(j+1) by omega] at this
theorem zCl {t:Ty} {l:List SV} {H H':SH} {x:T t} (h:cvE t (cvC t l H)=some (x,H')):vy H H'∧∀ν,zGX ν H H' l (qn t x):=by
 unfold cvE at h
 split at h
 case h_2=>cases h
 rename_i x' H1 hc
 cases h
 obtain ⟨cs,h1,h2,h3⟩:=zak t hc
 rw [List.append_nil] at h1
 subst h1
 exact ⟨h2,h3⟩
theorem zxx {H H':SH} (h:GLe H H') {b:Nat} {cs:List SV} (hb:zk H b=some (.vars cs)):zk H' b=some (.vars cs):=by
 rcases h b with h1 | ⟨nn,t,l,h1,_⟩
 ·rw [h1];exact hb
 ·rw [hb] at h1;cases h1
def pcK (c:yC) (args:List SV) (H:SH) (nx:Nat) (k:KO R):Option R:=match args with
 |.ptr b o::rest=>bif Nat.beq o 0 then match zk H b with
   |some (.vars cs)=>match cvE c.ty (cvC c.ty cs H) with
    |some (x,H1)=>match XV c.args rest H1 with
     |some (y,H2)=>opt (c.F x y) fun z=>k (zaN (wa c.res (p2 z))) (jW H2 b (.vars (wJ c.ty (p1 z)))) nx
     |none=>none
    |none=>none
   |_=>none
  else none
 |_=>none
theorem zG6 {f:FuncId} {c:yC} (hc:c.Ok P f) {args:List SV} {H:SH} {nx:Nat} {k:KO R} {r:R} (h:pcK c args H nx k=some r):∃v H' nx',zhS P f args H nx v H' nx'∧k v H' nx'=some r:=by
 unfold pcK at h
 split at h
 case h_2=>cases h
 rename_i b o rest
 have h6:=zx h
 clear h
 obtain ⟨ho,h⟩:=h6
 have:=Nat.eq_of_beq_eq_true ho
 subst this
 split at h
 case h_2=>cases h
 rename_i cs hb
 split at h
 case h_2=>cases h
 rename_i x H1 hx
 split at h
 case h_2=>cases h
 rename_i y H2 hy
 obtain ⟨z,hz,h2⟩:=JI h
 obtain ⟨hg1,hr1⟩:=zCl hx
 obtain ⟨hg2,hr2⟩:=zd8 hy
 have hg:=hg1.trans hg2
 have hb2:zk H2 b=some (.vars cs):=zxx hg.1 hb
 obtain ⟨Hd,n1,hzn,hcall,hd0⟩:=hc.2 x y z hz
 have hreg:=fun cc=>zaw (ds:=wJ c.ty z.1) hb2 cc
 refine ⟨_,_,_,⟨hc.1,fun cc q hq=>by rw [hreg];exact hg.1.regLe cc q hq,hg.1.lkeep.trans (YU hb2 fun L=>by simp),Nat.le_refl _,fun ν hv=>⟨gQ hreg (zmB hb2) (hg.1.vn hv),Nat.le_refl _,fun φ w K us g hf hl=>?_⟩⟩,h2⟩
 obtain ⟨φ1,e1,g1⟩:=hg.2 ν φ K w g
 match us,hl with
 |u::us,hl=>
 obtain ⟨hu,hl⟩:=hl
 have hvn:=hg.1.vn hv
 have hru:rho ν H2=rho ν H:=by funext q;exact congrFun (hg.1.rho ν) q
 have hl1:=hr2 ν H2 (GLe.refl _) φ1 K w nx us g1 hvn (by rw [show rho ν H1=rho ν H from hg1.1.rho ν];exact hl.mono (e1 0).1) (fun _=>bad)
 have hd1:(zw ν H2).get b=some (.cells (zp (rho ν H2) cs) false):=by rw [zF,hb2];rfl
 obtain ⟨L,hL,hB⟩:=g1.rel b _ hd1
 have hB2:jN φ1 w L (.cells (qn c.ty x) false):=by
  obtain ⟨arr,el,fr,b1,b2,b3⟩:=hB
  obtain ⟨ws,q1,q2⟩:=zty _ _ b2
  have q3:=hr1 ν H2 hg2.1 φ1 K w nx ws g1 hvn (by rw [←hru];exact q1)
  refine ⟨arr,el,fr,b1,fun j v hj=>?_,b3⟩
  obtain ⟨v',s1,s2⟩:=q3.get hj
  exact ⟨v',q2 j v' s1,s2⟩
 have g2:zA φ1 ((zw ν H2).set b (.cells (qn c.ty x) false)) K w:=zA.upd g1 hd1 rfl hL (fun _ _=>rfl) rfl hB2
 have hbx:((zw ν H2).set b (.cells (qn c.ty x) false)).get b=some (.cells (qn c.ty x) false):=by rw [Hp.get_set,if_pos rfl,hd1];rfl
 have hone:=zEh hzn hcall hd0 (fun φ φ0 hF us h=>UP hF c.args y h) (fun φ φ0 hF v' h=>zrH hF c.res z.2 h)
  (fun φ φ0 hF j cc v' hj h=>ZN hF c.ty x cc (List.mem_of_getElem? hj) v' h) (fun φ φ0 hF j cc v' hj h=>ZN hF c.ty z.1 cc (List.mem_of_getElem? hj) v' h) hbx nx
 have hu1:zo φ1 (.pointer (some ⟨b,0,none⟩)) u:=by
  have:zo φ (.pointer (some ⟨b,0,none⟩)) u:=by simpa only [den] using hu
  exact this.mono (e1 0).1
 refine Calls.mono (hone.2 φ1 w K (u::us) g2 (zhN (mid:=0) hf e1) ⟨hu1,hl1⟩) ?_
 rintro e w' ⟨v',φ',rfl,x1,x2,x3,x4⟩
 refine ⟨v',φ',rfl,?_,(e1 nx).comp x2,x3.sub fun cc kk hk=>?_,x4⟩
 ·show zo φ' (den _ (zaN (wa c.res z.2))) v'
  rw [UO] at x1 ⊢
  rwa [zgo c.res z.2 _ (fun _=>bad)]
 ·rw [zF,qE,yx hreg] at hk
  rw [Hp.get_set,Hp.get_set]
  by_cases hcb:cc=b
  ·subst hcb
   rw [if_pos rfl,hb2] at hk
   simp only [Option.map_some,Option.bind_some,zT,Option.some.injEq] at hk
   rw [if_pos rfl,if_pos rfl,hd1]
   simp only [Option.map_some,Option.some.injEq,←hk,qA]
   rw [yH]
  ·rw [if_neg hcb] at hk
   rw [if_neg hcb,Hp.get_set,if_neg hcb,zF];exact hk
abbrev zxy:=List (FuncId×yC)
def zAS:zxy→FuncId→Option yC:=fun t f=>List.rec (motive:=fun _=>Option yC) none (fun x _ ih=>bif Nat.beq x.1 f then some x.2 else ih) t
theorem zEi {t:zxy} (h:∀x∈t,x.2.Ok P x.1) {f:FuncId} {c:yC}:zAS t f=some c→c.Ok P f:=by
 induction t with
 |nil=>intro hf;cases hf
 |cons x r ih=>
  intro hf
  have hf:(bif Nat.beq x.1 f then some x.2 else zAS r f)=some c:=hf
  cases hb:Nat.beq x.1 f with
  |true=>
   rw [hb] at hf
   cases hf
   have:=Nat.eq_of_beq_eq_true hb
   subst this
   exact h x (by simp)
  |false=>
   rw [hb] at hf
   exact ih (fun y hy=>h y (List.mem_cons_of_mem _ hy)) hf
structure Lbs where
 s:ztx
 p:zxy
structure zoy (P:Program) (l:Lbs):Prop where
 s:zhV P l.s
 p:∀x∈l.p,x.2.Ok P x.1
def zEj (l:Lbs) (f:FuncId) (args:List SV) (H:SH) (nx:Nat) (k:KO R) (e:Option R):Option R:=match zwc l.s f with
 |some b=>zEf b args H nx k
 |none=>match zAS l.p f with
  |some c=>pcK c args H nx k
  |none=>e
theorem zF4 {l:Lbs} (hl:zoy P l) {f:FuncId} {args:List SV} {H:SH} {nx:Nat} {k:KO R} {e:Option R} {r:R} (h:zEj l f args H nx k e=some r):(∃v H' nx',zhS P f args H nx v H' nx'∧k v H' nx'=some r)∨e=some r:=by
 unfold zEj at h
 split at h
 ·rename_i b hb;exact .inl (zF3 (zxu hl.s hb) h)
 ·split at h
  ·rename_i c hc;exact .inl (zG6 (zEi hl.p hc) h)
  ·exact .inr h
theorem qW:∀x∈([]:zxy),x.2.Ok P x.1:=fun x hx=>by cases hx
theorem zP {f:FuncId} {c:yC} {t:zxy} (h:c.Ok P f) (ht:∀x∈t,x.2.Ok P x.1):∀x∈(f,c)::t,x.2.Ok P x.1:=fun x hx=>by
 rcases List.mem_cons.1 hx with rfl | hx
 ·exact h
 ·exact ht x hx
def qb {X S:Type} (B:S→Option (X ⊕ S)) (n:Nat):S→Option X:=
 Nat.rec (motive:=fun _=>S→Option X) (fun _=>none) (fun _ ih s=>match B s with
  |some (.inl x)=>some x
  |some (.inr s')=>ih s'
  |none=>none) n
theorem Kp {X S:Type} (B:S→Option (X ⊕ S)) (n:Nat) (s:S):qb B (n+1) s=match B s with
  |some (.inl x)=>some x
  |some (.inr s')=>qb B n s'
  |none=>none:=rfl
theorem zpw {X S:Type} {B:S→Option (X ⊕ S)} {c:Code} {F:Fence} {Inv:S→Act→World→Prop} {Fin:X→Exit→Act→World→Prop}
  (h:∀s r,B s=some r→∀a w,Inv s a w→c.wpIn F 0 P (fun e a' w'=>match r with | .inl x=>e≠.normal∧Fin x e a' w' | .inr s'=>e=.normal∧Inv s' a' w') a w) :
  ∀(N:Nat) (s:S) (x:X),qb B N s=some x→∀a w,Inv s a w→Code.roundsIn F 0 P c (Fin x) N a w
 |0,s,x,hi,a,w,hI=>by cases hi
 |N+1,s,x,hi,a,w,hI=>by
  rw [Kp] at hi
  rw [roundsIn_succ]
  split at hi
  ·rename_i y hB
   cases hi
   refine wpIn_mono (h s _ hB a w hI) ?_
   intro e a' w' hq
   obtain ⟨he,hf⟩:=hq
   cases e<;>first | exact absurd rfl he | exact hf
  ·rename_i s' hB
   refine wpIn_mono (h s _ hB a w hI) ?_
   intro e a' w' hq
   obtain ⟨rfl,hI'⟩:=hq
   exact zpw h N s' x hi a' w' hI'
  ·cases hi
theorem zCm {φ2 φ3:Ren} {Hs Ht:Hp} (g:zA φ2 Hs K w) (src:Nat→Nat)
  (h:∀b k,Ht.get b=some k→(∃k',Hs.get (src b)=some k'∧φ3 b=φ2 (src b)∧k'.rw=true∧∀L,jN φ2 w L k'→jN φ3 w L k)∨(k.rw=false∧∃L,φ3 b=some L∧jN φ3 w L k∧K L.blk))
  (hi:∀b c k k',Ht.get b=some k→Ht.get c=some k'→k.rw=true→k'.rw=true→b≠c→src b≠src c)
  (hrw:∀b k,Ht.get b=some k→k.rw=false→(∃L,φ3 b=some L∧jN φ3 w L k∧K L.blk))
  (hf:∀b,φ3 (FZ+b)=φ2 (FZ+b)):zA φ3 Ht K w:=by
 have hT:∀b k,Ht.get b=some k→k.rw=true→∃k',Hs.get (src b)=some k'∧φ3 b=φ2 (src b)∧k'.rw=true∧∀L,jN φ2 w L k'→jN φ3 w L k:=fun b k hb hk=>by
  rcases h b k hb with h1 | ⟨h1,_⟩
  ·exact h1
  ·rw [hk] at h1;cases h1
 refine ⟨fun b k hb=>?_,fun b c k k' L L' hb hc hne hk hL hL'=>?_,fun b k L hb hk hL=>?_,g.kin,fun b L hL=>g.fz b L (by rw [←hf];exact hL),fun b k L c M hb hk hL hM=>?_⟩
 ·rcases h b k hb with ⟨k',h1,h2,h3,h4⟩ | ⟨_,L,h1,h2,_⟩
  ·obtain ⟨L,hL,hB⟩:=g.rel _ _ h1
   exact ⟨L,by rw [h2];exact hL,h4 L hB⟩
  ·exact ⟨L,h1,h2⟩
 ·obtain ⟨kb,b1,b2,b3,b4⟩:=hT b k hb hk
  cases hk':k'.rw with
  |true=>
   obtain ⟨kc,c1,c2,c3,c4⟩:=hT c k' hc hk'
   exact g.sep _ _ _ _ L L' b1 c1 (hi b c k k' hb hc hk hk' hne) b3 (by rw [←b2];exact hL) (by rw [←c2];exact hL')
  |false=>
   obtain ⟨M,m1,m2,m3⟩:=hrw c k' hc hk'
   rw [hL'] at m1;cases m1
   intro e
   exact g.prot _ _ L b1 b3 (by rw [←b2];exact hL) (by rw [e];exact m3)
 ·obtain ⟨kb,b1,b2,b3,b4⟩:=hT b k hb hk
  exact g.prot _ _ L b1 b3 (by rw [←b2];exact hL)
 ·obtain ⟨kb,b1,b2,b3,b4⟩:=hT b k hb hk
  exact g.fsep _ _ L c M b1 b3 (by rw [←b2];exact hL) (by rw [←hf];exact hM)
def KX (K:Nat→Prop) (φE:Ren) (HR:Hp) (n:Nat):Prop:=K n∨∃b k L,HR.get b=some k∧φE b=some L∧L.blk=n
theorem zxz {φE φ1:Ren} {HE HR H1 H2:Hp} {wE:World} (gE:zA φE HE K wE) (hle:φE.le φ1) (hfz:∀b L,φ1 (FZ+b)=some L→φE (FZ+b)=some L∨¬KX K φE HR b)
  (hw:qC (KX K φE HR) wE w) (g:zA φ1 H1 (KX K φE HR) w)
  (h:∀b k,H2.get b=some k→(H1.get b=some k∧k.rw=true)∨(HE.get b=some k∧∃k',HR.get b=some k')):zA φ1 H2 K w:=by
 have hE:∀b k,HE.get b=some k→(∃k',HR.get b=some k')→∃L,φE b=some L∧φ1 b=some L∧jN φ1 w L k∧KX K φE HR L.blk:=fun b k hb hr=>by
  obtain ⟨k',hr⟩:=hr
  obtain ⟨L,hL,hB⟩:=gE.rel b k hb
  have hK:KX K φE HR L.blk:=.inr ⟨b,k',L,hr,hL,rfl⟩
  exact ⟨L,hL,hle b L hL,(jN.congr (hw.kept _ hK) hB).mono hle,hK⟩
 refine ⟨fun b k hb=>?_,fun b c k k' L L' hb hc hne hk hL hL'=>?_,fun b k L hb hk hL=>?_,fun c hc=>g.kin c (.inl hc),g.fz,fun b k L c M hb hk hL hM=>?_⟩
 ·rcases h b k hb with ⟨h1,_⟩ | ⟨h1,h2⟩
  ·exact g.rel b k h1
  ·obtain ⟨L,e1,e2,e3,e4⟩:=hE b k h1 h2
   exact ⟨L,e2,e3⟩
 ·rcases h b k hb with ⟨h1,hk1⟩ | ⟨h1,h2⟩
  ·rcases h c k' hc with ⟨c1,_⟩ | ⟨c1,c2⟩
   ·exact g.sep b c k k' L L' h1 c1 hne hk hL hL'
   ·obtain ⟨M,e1,e2,e3,e4⟩:=hE c k' c1 c2
    rw [hL'] at e2;cases e2
    intro e
    exact g.prot b k L h1 hk hL (by rw [e];exact e4)
  ·obtain ⟨M,e1,e2,e3,e4⟩:=hE b k h1 h2
   rw [hL] at e2;cases e2
   rcases h c k' hc with ⟨c1,ck⟩ | ⟨c1,c2⟩
   ·intro e
    exact g.prot c k' L' c1 ck hL' (by rw [←e];exact e4)
   ·obtain ⟨M',e1',e2',_,_⟩:=hE c k' c1 c2
    rw [hL'] at e2';cases e2'
    exact gE.sep b c k k' L L' h1 c1 hne hk e1 e1'
 ·rcases h b k hb with ⟨h1,_⟩ | ⟨h1,h2⟩
  ·exact fun hK=>g.prot b k L h1 hk hL (.inl hK)
  ·obtain ⟨M,e1,e2,e3,e4⟩:=hE b k h1 h2
   rw [hL] at e2;cases e2
   exact gE.prot b k L h1 hk e1
 ·rcases h b k hb with ⟨h1,_⟩ | ⟨h1,h2⟩
  ·exact g.fsep b k L c M h1 hk hL hM
  ·obtain ⟨M',e1,e2,e3,e4⟩:=hE b k h1 h2
   rw [hL] at e2;cases e2
   rcases hfz c M hM with h3 | h3
   ·exact gE.fsep b k L c M h1 hk e1 h3
   ·intro e;exact h3 (by rw [←e];exact e4)
def vf (l:List Nat) (n:Nat):Bool:=List.rec (motive:=fun _=>Bool) false (fun x _ ih=>bif Nat.beq x n then true else ih) l
theorem zCn (x:Nat) (l:List Nat) (n:Nat):vf (x::l) n=if x=n then true else vf l n:=by
 show (bif Nat.beq x n then true else vf l n)=_
 rw [zmx]
theorem kU (n:Nat):∀l:List Nat,vf l n=true↔n∈l
 |[]=>by simp [vf]
 |x::l=>by
  rw [zCn]
  by_cases h:x=n
  ·simp [h]
  ·rw [if_neg h,kU n l]
   simp [Ne.symm h]
mutual
def zaO (ns:List Nat) (lo:Nat):SV→Bool
 |.agg cs=>uk ns lo cs
 |.tup cs=>uk ns lo cs
 |.ptr b _=>Nat.blt b lo
 |.own b=>vf ns b
 |.elp b _ _ _=>Nat.blt b lo
 |.fn _ fs cs=>uk ns lo fs&&uk ns lo cs
 |.yld l=>Nat.blt l lo
 |.mp b=>Nat.blt b lo
 |.slv b _=>Nat.blt b lo
 |_=>true
def uk (ns:List Nat) (lo:Nat):List SV→Bool
 |[]=>true
 |v::r=>zaO ns lo v&&uk ns lo r
end
theorem zCo {φ φ0:Ren} (hF:∀b L,φ (FZ+b)=some L→φ0 (FZ+b)=some L) (t:Ty) (l:List (T t)) (full:Bool) {v':Value} (h:zo φ (fzV (sz t) full (l.map (yB t))) v'):zo φ0 (fzV (sz t) full (l.map (yB t))) v':=by
 cases full with
 |false=>exact ZN hF (.list t) l _ (by simp [qn,yB,fzV]) v' h
 |true=>
  unfold fzV at h ⊢
  simp only [cond_true] at h ⊢
  generalize hs:sz t=s at h ⊢
  generalize he:(List.map (yB t) l).toArray=es at h ⊢
  cases h with
  |fq _ _ b o L hL hn ho hsz h=>
   refine .fq _ _ b o L (hF b L hL) hn ho hsz fun j k e u u' h1 h2 h3=>?_
   rw [←he] at h1
   simp only [List.getElem?_toArray,List.getElem?_map,Option.map_eq_some_iff] at h1
   obtain ⟨x,hx,rfl⟩:=h1
   refine ZN hF t x u ?_ u' (h j k (yB t x) u u' (by rw [←he];simp [hx]) h2 h3)
   simp only [yB,Value.cells,List.getElem?_toArray] at h2
   exact List.mem_of_getElem? h2
  |fq0 _ a=>exact .fq0 _ _
theorem zCp {φ φ0:Ren} (hF:∀b L,φ (FZ+b)=some L→φ0 (FZ+b)=some L) (t:Ty) (x:T t) (k:Nat) {v':Value} (h:zo φ (.iface k (.iface 0 (yB t x))) v'):zo φ0 (.iface k (.iface 0 (yB t x))) v':=by
 generalize he:yB t x=e at h ⊢
 cases h with
 |fp _ _ b o L hL ho h=>
  refine .fp _ _ b o L (hF b L hL) ho fun j u u' h1 h2=>?_
  subst he
  refine ZN hF t x u ?_ u' (h j u u' h1 h2)
  simp only [yB,Value.cells,List.getElem?_toArray] at h1
  exact List.mem_of_getElem? h1
theorem zuZ {φ2 φ3:Ren} {b o n c:Nat} (h:φ3 b=φ2 b) {v':Value} (hv:zo φ2 (.slice (some ⟨b,o,none⟩) n c) v'):zo φ3 (.slice (some ⟨b,o,none⟩) n c) v':=by
 cases hv with
 |sl _ _ _ _ L hL hc=>exact .sl _ _ _ _ L (by rw [h];exact hL) hc
 |slO _ _ _ _ c' L hL hc hn hl=>exact .slO _ _ _ _ c' L (by rw [h];exact hL) hc hn hl
 |slE _ _ _ a' L hL hc=>exact .slE _ _ _ a' L (by rw [h];exact hL) hc
theorem zF5 {φ2 φ3:Ren} {ν:Nat→Bool} {H:SH} {b:Nat} (h:φ3 b=φ2 b) {v':Value} (hv:zo φ2 (rho ν H b) v'):zo φ3 (rho ν H b) v':=by
 unfold rho at hv ⊢
 split at hv
 ·cases hv;exact .slN _ _
 ·exact zuZ h hv
 ·exact (zpq hv).elim
section
variable {φ2 φ3:Ren} {ν:Nat→Bool} {H2 H3:SH} {ns:List Nat} {lo:Nat}
 (hφ:∀b,b < lo→φ3 b=φ2 b) (hF:∀b L,φ2 (FZ+b)=some L→φ3 (FZ+b)=some L)
 (hns:∀b∈ns,b < lo) (hr:∀b∈ns,reg (zk H3 b)=reg (zk H2 b))
include hφ hF hns hr
mutual
theorem zoz:∀(v:SV) (v':Value),zaO ns lo v=true→zo φ2 (den (rho ν H2) v) v'→zo φ3 (den (rho ν H3) v) v'
 |.bool _,_,_,hv=>by simp only [den] at hv ⊢;cases hv;exact .bool _
 |.int _ _,_,_,hv=>by simp only [den] at hv ⊢;cases hv;exact .int _ _
 |.str _,_,_,hv=>by simp only [den] at hv ⊢;cases hv;exact .str _
 |.agg cs,v',hl,hv=>by
  simp only [den] at hv ⊢
  simp only [zaO] at hl
  obtain ⟨ys,rfl,hq⟩:=hv.agg_inv
  exact .agg' (by simpa using zdc cs ys.toList hl (by simpa using hq))
 |.tup cs,v',hl,hv=>by
  simp only [den] at hv ⊢
  simp only [zaO] at hl
  obtain ⟨ys,rfl,hq⟩:=hv.tuple_inv
  exact .tuple' (by simpa using zdc cs ys.toList hl (by simpa using hq))
 |.ptr b o,_,hl,hv=>by
  simp only [den] at hv ⊢
  simp only [zaO,Nat.blt_eq] at hl
  cases hv with
  |ptr _ _ L hL=>exact .ptr _ _ L (by rw [hφ b hl];exact hL)
 |.nilp,_,_,hv=>by simp only [den] at hv ⊢;cases hv;exact .ptrN
 |.lst t l f,_,_,hv=>by simp only [den] at hv ⊢;exact zCo hF t l f hv
 |.own b,_,hl,hv=>by
  simp only [den] at hv ⊢
  simp only [zaO] at hl
  have hb:=(kU _ _).1 hl
  have:rho ν H3 b=rho ν H2 b:=by unfold rho;rw [hr b hb]
  rw [this]
  exact zF5 (hφ b (hns b hb)) hv
 |.nils,_,_,hv=>by simp only [den] at hv ⊢;cases hv;exact .slN _ _
 |.elp b s i k,_,hl,hv=>by
  simp only [den] at hv ⊢
  simp only [zaO,Nat.blt_eq] at hl
  cases hv with
  |ptr _ _ L hL=>exact .ptr _ _ L (by rw [hφ b hl];exact hL)
 |.fel t x k,_,_,hv=>by simp only [den] at hv ⊢;exact zCp hF t x k hv
 |.fn f fs cs,v',hl,hv=>by
  simp only [den] at hv ⊢
  simp only [zaO,Bool.and_eq_true] at hl
  obtain ⟨fn',ys,us,rfl,hf,h1,h2⟩:=hv.func_inv
  refine .func' ?_ (by simpa using zdc fs ys.toList hl.1 (by simpa using h1)) (by simpa using zdc cs us.toList hl.2 (by simpa using h2))
  cases hf;exact .func _
 |.yld l,_,hl,hv=>by
  simp only [den] at hv ⊢
  simp only [zaO,Nat.blt_eq] at hl
  obtain ⟨fn',ys,us,rfl,hf,h1,h2⟩:=hv.func_inv
  cases hf with
  |yield _ L hL=>exact .func' (.yield _ L (by rw [hφ l hl];exact hL)) (by have:=h1.length;simp at this;simp [List.eq_nil_of_length_eq_zero this.symm,zy]) (by have:=h2.length;simp at this;simp [List.eq_nil_of_length_eq_zero this.symm,zy])
 |.nilf,_,_,hv=>by simp only [den] at hv ⊢;cases hv;exact .nilFunc
 |.nilm,_,_,hv=>by simp only [den] at hv ⊢;cases hv;exact .mapN
 |.mp b,_,hl,hv=>by
  simp only [den] at hv ⊢
  simp only [zaO,Nat.blt_eq] at hl
  cases hv with
  |map _ L hL=>exact .map _ L (by rw [hφ b hl];exact hL)
 |.slv b n,_,hl,hv=>by
  simp only [den] at hv ⊢
  simp only [zaO,Nat.blt_eq] at hl
  exact zuZ (hφ b hl) hv
 |.junk,_,_,hv=>by simp only [den] at hv;exact (UE hv).elim
theorem zdc:∀(vs:List SV) (us:List Value),uk ns lo vs=true→zy φ2 (zp (rho ν H2) vs) us→zy φ3 (zp (rho ν H3) vs) us
 |[],[],_,hr=>trivial
 |[],_::_,_,hr=>by simp [zp,zy] at hr
 |v::vs,[],_,hr=>by simp [zp,zy] at hr
 |v::vs,u::us,hl,hr=>by
  simp only [uk,Bool.and_eq_true] at hl
  simp only [zp,zy] at hr ⊢
  exact ⟨zoz v u hl.1 hr.1,zdc vs us hl.2 hr.2⟩
end
end
theorem zfQ {ν:Nat→Bool} {H:SH} {v:SV} (h:den (rho ν H) v=Fz.junk):v=.junk:=by
 cases v<;>simp only [den,Fz.junk,reduceCtorEq] at h
 ·simp [fzV] at h
 ·exact absurd h (gO ν H _)
 ·rfl
end Go.Fz.Sy
namespace Go.Fz.Sy
variable {P:Program} {φ:Ren} {K:Nat→Prop} {w:World} {R:Type}
inductive CK where
 |d (t:Ty)
 |o (c:Nat) (nn:Bool) (t:Ty)
@[reducible] def CK.T:CK→Type
 |.d t=>Sy.T t
 |.o _ _ t=>List (Sy.T t)
@[reducible] def CS (l:List CK):Type:=List.rec (motive:=fun _=>Type) Unit (fun a _ ih=>a.T×ih) l
inductive DPl where
 |tmp (i:Nat) (vt:VT)
 |blk (b:Nat) (t:Ty)
 |frz (b:Nat) (ks:List CK)
 |npt (i:Nat)
inductive OPl where
 |otmp (i c:Nat) (nn:Bool) (t:Ty)
 |sblk (b:Nat) (ks:List CK)
 |arr (b:Nat) (nn:Bool) (t:Ty)
 |lp (l:Nat) (L:SL)
 |dfd (b:Nat)
 |mpl (b:Nat) (k:IntKind) (ag:Bool) (t:Ty)
@[reducible] def DPl.T:DPl→Type
 |.tmp _ vt=>Sy.T vt.ty
 |.blk _ t=>Sy.T t
 |.frz _ _=>Unit
 |.npt _=>Unit
@[reducible] def OPl.T:OPl→Type
 |.otmp _ _ _ t=>List (Sy.T t)
 |.sblk _ ks=>CS ks
 |.arr _ _ t=>List (Sy.T t)
 |.lp _ _=>Unit
 |.dfd _=>Unit
 |.mpl _ _ _ t=>List (Int×Sy.T t)
@[reducible] def DS (l:List DPl):Type:=List.rec (motive:=fun _=>Type) Unit (fun a _ ih=>a.T×ih) l
@[reducible] def OS (l:List OPl):Type:=List.rec (motive:=fun _=>Type) Unit (fun a _ ih=>a.T×ih) l
abbrev LSt:=LoopState×Option Code
def tmD:(dl:List DPl)→DS dl→List SV→List SV
 |[],_,tm=>tm
 |.tmp i vt::r,x,tm=>tmD r (p2 x) (lsS tm i (mkV vt (p1 x)))
 |.blk _ _::r,x,tm=>tmD r (p2 x) tm
 |.frz _ _::r,x,tm=>tmD r (p2 x) tm
 |.npt i::r,x,tm=>tmD r (p2 x) (lsS tm i .nilp)
def tmO:(ol:List OPl)→OS ol→List SV→List SV
 |[],_,tm=>tm
 |.otmp i c _ _::r,y,tm=>tmO r (p2 y) (lsS tm i (.own c))
 |.sblk _ _::r,y,tm=>tmO r (p2 y) tm
 |.arr _ _ _::r,y,tm=>tmO r (p2 y) tm
 |.lp _ _::r,y,tm=>tmO r (p2 y) tm
 |.dfd _::r,y,tm=>tmO r (p2 y) tm
 |.mpl _ _ _ _::r,y,tm=>tmO r (p2 y) tm
def hpD:(dl:List DPl)→DS dl→SH
 |[],_=>[]
 |.tmp _ _::r,x=>hpD r (p2 x)
 |.blk b t::r,x=>(b,.vars (wJ t (p1 x)))::hpD r (p2 x)
 |.frz _ _::r,x=>hpD r (p2 x)
 |.npt _::r,x=>hpD r (p2 x)
def zdd:(ks:List CK)→CS ks→List SV
 |[],_=>[]
 |.d t::r,x=>wJ t (p1 x)++zdd r (p2 x)
 |.o c _ _::r,x=>.own c::zdd r (p2 x)
def Jh:(ks:List CK)→CS ks→SH
 |[],_=>[]
 |.d _::r,x=>Jh r (p2 x)
 |.o c nn t::r,x=>(c,.arr nn t (p1 x))::Jh r (p2 x)
def stO (L:SL):List LSt→SL
 |[]=>L
 |s::_=>{L with st:=s.1,pend:=s.2}
def hpO:(ol:List OPl)→List LSt→OS ol→SH
 |[],_,_=>[]
 |.otmp _ c nn t::r,vs,y=>(c,.arr nn t (p1 y))::hpO r vs (p2 y)
 |.sblk b ks::r,vs,y=>(b,.vars (zdd ks (p1 y)))::(Jh ks (p1 y)++hpO r vs (p2 y))
 |.arr b nn t::r,vs,y=>(b,.arr nn t (p1 y))::hpO r vs (p2 y)
 |.lp l L::r,vs,y=>(l,.loop (stO L vs))::hpO r vs.tail (p2 y)
 |.dfd b::r,vs,y=>(b,.defd)::hpO r vs (p2 y)
 |.mpl b k ag t::r,vs,y=>(b,.mpb k ag t (p1 y))::hpO r vs (p2 y)
def zmX:(ks:List CK)→List SV→SH→Option SH
 |[],_,H=>some H
 |.d t::r,us,H=>match cvC t us H with
  |some (_,us1,H1)=>zmX r us1 H1
  |none=>none
 |.o _ _ _::r,_::us,H=>zmX r us H
 |.o _ _ _::_,[],_=>none
theorem zkt:∀{ks:List CK} {us:List SV} {H H1:SH},zmX ks us H=some H1→vy H H1
 |[],us,H,H1,h=>by simp only [zmX] at h;cases h;exact vy.refl _
 |.d t::r,us,H,H1,h=>by
  simp only [zmX] at h
  split at h
  ·rename_i x us1 H2 h2
   obtain ⟨cs,_,g,_⟩:=zak t h2
   exact g.trans (zkt h)
  ·cases h
 |.o _ _ _::r,u::us,H,H1,h=>by
  simp only [zmX] at h
  exact zkt h
 |.o _ _ _::_,[],_,_,h=>by simp [zmX] at h
def pcC:(t:Ty)→List SV→SH→Option (T t×List SV)
 |.unit,l,H=>some ((),l)
 |.bool,l,H=>match l with
  |.bool b::r=>some (b,r)
  |_=>none
 |.int k,l,H=>match l with
  |.int k' n::r=>bif Wv k k' then some (n,r) else none
  |_=>none
 |.str,l,H=>match l with
  |.str s::r=>some (s,r)
  |_=>none
 |.list t,l,H=>match l with
  |.lst t' x _::r=>if h:t'=t then some (YR h x,r) else none
  |.nils::r=>some (([]:List (T t)),r)
  |.own b::r=>match zk H b with
   |some (.fro _ t' x)=>if h:t'=t then bif Nat.blt 0 (sz t) then some (YR h x,r) else none else none
   |_=>none
  |_=>none
 |.pair a b,l,H=>match pcC a l H with
  |some (x,l1)=>match pcC b l1 H with
   |some (y,l2)=>some ((x,y),l2)
   |none=>none
  |none=>none
theorem zxA:∀(t:Ty) {l r:List SV} {H:SH} {x:T t},pcC t l H=some (x,r)→cvC t l H=some (x,r,H)
 |.unit,l,r,H,x,h=>by simp only [pcC] at h;cases h;rfl
 |.bool,l,r,H,x,h=>by
  simp only [pcC] at h
  split at h
  ·cases h;rfl
  ·cases h
 |.int k,l,r,H,x,h=>by
  simp only [pcC] at h
  split at h
  ·rename_i k' n r'
   obtain ⟨hk,h2⟩:=zx h
   cases h2
   simp only [cvC,hk,cond_true]
  ·cases h
 |.str,l,r,H,x,h=>by
  simp only [pcC] at h
  split at h
  ·cases h;rfl
  ·cases h
 |.list t,l,r,H,x,h=>by
  simp only [pcC] at h
  split at h
  ·split at h
   ·rename_i ht;cases h;simp only [cvC,ht,dif_pos]
   ·cases h
  ·cases h;rfl
  ·split at h
   ·rename_i hb
    split at h
    ·rename_i ht
     obtain ⟨hp,h⟩:=zx h
     cases h
     simp only [cvC,hb,ht,dif_pos,hp,cond_true]
    ·cases h
   ·cases h
  ·cases h
 |.pair a b,l,r,H,x,h=>by
  simp only [pcC] at h
  split at h
  case h_2=>cases h
  rename_i h1
  split at h
  case h_2=>cases h
  rename_i h2
  cases h
  simp only [cvC,zxA a h1,zxA b h2]
def bkD:(dl:List DPl)→List SV→SH→Option (DS dl×SH)
 |[],_,H=>some ((),H)
 |.tmp i vt::r,tm,H=>match gl tm i with
  |some u=>match u with
   |.junk=>none
   |u=>match cvV vt u H with
    |some (x,H1)=>match bkD r tm H1 with
     |some (y,H2)=>some ((x,y),H2)
     |none=>none
    |none=>none
  |none=>none
 |.blk b t::r,tm,H=>match zk H b with
  |some (.vars cs)=>match cvE t (cvC t cs H) with
   |some (x,H1)=>match bkD r tm H1 with
    |some (y,H2)=>some ((x,y),H2)
    |none=>none
   |none=>none
  |_=>none
 |.frz b ks::r,tm,H=>match zk H b with
  |some (.vars us)=>match zmX ks us H with
   |some H1=>match bkD r tm H1 with
    |some (y,H2)=>some (((),y),H2)
    |none=>none
   |none=>none
  |_=>none
 |.npt i::r,tm,H=>match gl tm i with
  |some .nilp=>match bkD r tm H with
   |some (y,H2)=>some (((),y),H2)
   |none=>none
  |_=>none
def zHN {a b:Ty} (h:a=b) (x:List (Int×T a)):List (Int×T b):=Eq.rec (motive:=fun b _=>List (Int×T b)) x h
def zAT (a b:Bool):Bool:=bif a then b else !b
theorem zji {a b:Bool} (h:zAT a b=true):a=b:=by cases a<;>cases b<;>first | rfl | cases h
def rdO (nn:Bool) (t:Ty) (H:SH) (c:Nat):SV→Option (List (T t)×List (Nat×Nat))
 |.nils=>bif nn then none else some ([],[])
 |.own c'=>match zk H c' with
  |some (.arr nn' t' l)=>if h:t'=t then bif zAT nn' nn then some (YR h l,[(c,c')]) else none else none
  |_=>none
 |_=>none
def rdK:(ks:List CK)→List SV→SH→Option (CS ks×List (Nat×Nat))
 |[],[],_=>some ((),[])
 |.d t::r,us,H=>match pcC t us H with
  |some (x,us1)=>match rdK r us1 H with
   |some (y,s)=>some ((x,y),s)
   |none=>none
  |none=>none
 |.o c nn t::r,u::us,H=>match rdO nn t H c u with
  |some (x,s1)=>match rdK r us H with
   |some (y,s)=>some ((x,y),s1++s)
   |none=>none
  |none=>none
 |_,_,_=>none
def zAU:Option Code→Option Code→Bool
 |none,none=>true
 |some .ret,some .ret=>true
 |some (.exit i),some (.exit j)=>Nat.beq i j
 |some (.goto i),some (.goto j)=>Nat.beq i j
 |_,_=>false
theorem zEk {a b:Option Code} (h:zAU a b=true):a=b:=by
 unfold zAU at h
 split at h<;>first | rfl | (rw [Nat.eq_of_beq_eq_true h]) | cases h
def zxB:LoopState→LoopState→Bool
 |.ready,.ready=>true
 |.busy,.busy=>true
 |.done,.done=>true
 |_,_=>false
theorem zCq {a b:LoopState} (h:zxB a b=true):a=b:=by
 unfold zxB at h
 split at h<;>first | rfl | cases h
def stQ (L:SL):List LSt→Bool
 |[]=>false
 |s::_=>zxB L.st s.1&&zAU L.pend s.2
def bkO:(ol:List OPl)→List LSt→List SV→SH→Option (OS ol×List (Nat×Nat))
 |[],_,_,_=>some ((),[])
 |.otmp i c nn t::r,vs,tm,H=>match gl tm i with
  |some u=>match rdO nn t H c u with
   |some (x,s)=>match bkO r vs tm H with
    |some (y,σ)=>some ((x,y),s++σ)
    |none=>none
   |none=>none
  |none=>none
 |.sblk b ks::r,vs,tm,H=>match zk H b with
  |some (.vars us)=>match rdK ks us H with
   |some (x,s)=>match bkO r vs tm H with
    |some (y,σ)=>some ((x,y),(b,b)::(s++σ))
    |none=>none
   |none=>none
  |_=>none
 |.arr b nn t::r,vs,tm,H=>match zk H b with
  |some (.arr nn' t' l)=>if h:t'=t then bif zAT nn' nn then match bkO r vs tm H with
    |some (y,σ)=>some ((YR h l,y),(b,b)::σ)
    |none=>none
   else none
   else none
  |_=>none
 |.lp l _::r,vs,tm,H=>match zk H l with
  |some (.loop L')=>bif stQ L' vs then match bkO r vs.tail tm H with
    |some (y,σ)=>some (((),y),(l,l)::σ)
    |none=>none
   else none
  |_=>none
 |.dfd b::r,vs,tm,H=>match zk H b with
  |some .defd=>match bkO r vs tm H with
   |some (y,σ)=>some (((),y),(b,b)::σ)
   |none=>none
  |_=>none
 |.mpl b k ag t::r,vs,tm,H=>match zk H b with
  |some (.mpb k' ag' t' l)=>if h:t'=t then bif Wv k' k&&zAT ag' ag then match bkO r vs tm H with
    |some (y,σ)=>some ((zHN h l,y),(b,b)::σ)
    |none=>none
   else none
   else none
  |_=>none
theorem ZO:∀{dl:List DPl} {tm:List SV} {H H':SH} {x:DS dl},bkD dl tm H=some (x,H')→vy H H'
 |[],tm,H,H',x,h=>by simp only [bkD] at h;cases h;exact vy.refl _
 |.tmp i vt::r,tm,H,H',x,h=>by
  simp only [bkD] at h
  split at h
  case h_2=>cases h
  split at h
  ·cases h
  ·split at h
   case h_2=>cases h
   rename_i h1
   split at h
   case h_2=>cases h
   rename_i h2
   cases h
   exact (zrn h1).1.trans (ZO h2)
 |.blk b t::r,tm,H,H',x,h=>by
  simp only [bkD] at h
  split at h
  case h_2=>cases h
  split at h
  case h_2=>cases h
  rename_i h1
  split at h
  case h_2=>cases h
  rename_i h2
  cases h
  obtain ⟨cs1,he,g1,r1⟩:=zak _ (zki h1)
  exact g1.trans (ZO h2)
 |.frz b ks::r,tm,H,H',x,h=>by
  simp only [bkD] at h
  split at h
  case h_2=>cases h
  split at h
  case h_2=>cases h
  rename_i h1
  split at h
  case h_2=>cases h
  rename_i h2
  cases h
  exact (zkt h1).trans (ZO h2)
 |.npt i::r,tm,H,H',x,h=>by
  simp only [bkD] at h
  split at h
  case h_2=>cases h
  split at h
  case h_2=>cases h
  rename_i h2
  cases h
  exact ZO h2
theorem ztz {tm:List Value} {ts:Array Value} {i:Nat} {v v':Value} (h:qY φ tm ts) (h1:ts[i]?=some v') (h2:zo φ v v'):qY φ (tm.set i v) ts:=by
 refine ⟨by simpa using h.1,fun j u hu=>?_⟩
 rw [List.getElem?_set] at hu
 by_cases hij:i=j
 ·subst hij
  rw [if_pos rfl] at hu
  split at hu
  ·cases hu;exact .inr ⟨v',h1,h2⟩
  ·cases hu
 ·rw [if_neg hij] at hu
  exact h.2 j u hu
theorem zgp {φ2 φ3:Ren} {ν:Nat→Bool} {G:SH} {nx:Nat} {ρ3:Nat→Value} {ts:Array Value} (g:zA φ2 (zw ν G) K w) (hv:VN ν nx G) (hF:∀b L,φ2 (FZ+b)=some L→φ3 (FZ+b)=some L) :
  ∀{dl:List DPl} {tm:List SV} {H H':SH} {x:DS dl},bkD dl tm H=some (x,H')→GLe H' G→qY φ2 (zp (rho ν G) tm) ts→∀{tm0:List SV},qY φ3 (zp ρ3 tm0) ts→qY φ3 (zp ρ3 (tmD dl x tm0)) ts
 |[],tm,H,H',x,h,hG,ht,tm0,h0=>by simpa only [tmD] using h0
 |.tmp i vt::r,tm,H,H',x,h,hG,ht,tm0,h0=>by
  simp only [bkD] at h
  split at h
  case h_2=>cases h
  rename_i u hu
  split at h
  ·cases h
  ·rename_i hj
   split at h
   case h_2=>cases h
   rename_i x1 H1 h1
   split at h
   case h_2=>cases h
   rename_i y H2 h2
   cases h
   simp only [tmD]
   refine zgp g hv hF h2 hG ht ?_
   obtain ⟨g1,r1⟩:=zrn h1
   have g2:=ZO h2
   rw [ke] at hu
   have hH:rho ν H=rho ν G:=by rw [hG.rho ν,g2.1.rho ν,g1.1.rho ν]
   rcases ht.2 i (den (rho ν G) u) (by rw [yI,hu];rfl) with hq | ⟨v',q1,q2⟩
   ·exact absurd (zfQ hq) hj
   ·have key:=zuX (ρ:=ρ3) hF vt x1 (r1 ν G (g2.1.trans hG) φ2 K w nx v' g hv (by rw [hH];exact q2) ρ3)
    rw [Qg]
    have:zp ρ3 (tm0.set i (mkV vt x1))=(zp ρ3 tm0).set i (den ρ3 (mkV vt x1)):=by simp [qA,List.map_set]
    rw [this]
    exact ztz h0 q1 key
 |.blk b t::r,tm,H,H',x,h,hG,ht,tm0,h0=>by
  simp only [bkD] at h
  split at h
  case h_2=>cases h
  split at h
  case h_2=>cases h
  rename_i h1
  split at h
  case h_2=>cases h
  rename_i h2
  cases h
  simp only [tmD]
  exact zgp g hv hF h2 hG ht h0
 |.frz b ks::r,tm,H,H',x,h,hG,ht,tm0,h0=>by
  simp only [bkD] at h
  split at h
  case h_2=>cases h
  split at h
  case h_2=>cases h
  split at h
  case h_2=>cases h
  rename_i h2
  cases h
  simp only [tmD]
  exact zgp g hv hF h2 hG ht h0
 |.npt i::r,tm,H,H',x,h,hG,ht,tm0,h0=>by
  simp only [bkD] at h
  split at h
  case h_2=>cases h
  rename_i hu
  split at h
  case h_2=>cases h
  rename_i h2
  cases h
  simp only [tmD]
  refine zgp g hv hF h2 hG ht ?_
  rw [ke] at hu
  rcases ht.2 i (den (rho ν G) .nilp) (by rw [yI,hu];rfl) with hq | ⟨v',q1,q2⟩
  ·have:=zfQ hq
   cases this
  ·rw [Qg]
   have:zp ρ3 (tm0.set i .nilp)=(zp ρ3 tm0).set i (den ρ3 .nilp):=by simp [qA,List.map_set]
   rw [this]
   refine ztz h0 q1 ?_
   simp only [den] at q2 ⊢
   cases q2
   exact .ptrN
theorem zde {ν:Nat→Bool} {G:SH}:∀{dl:List DPl} {tm:List SV} {H H':SH} {x:DS dl},bkD dl tm H=some (x,H')→GLe H' G→∀{b:Nat} {k:SB},zk (hpD dl x) b=some k→
   ∃(t:Ty) (y:T t) (cs:List SV),k=.vars (wJ t y)∧zk G b=some (.vars cs)∧∀(φ:Ren) (K:Nat→Prop) (w:World) (nx:Nat) (us:List Value),zA φ (zw ν G) K w→VN ν nx G→zy φ (zp (rho ν G) cs) us→zy φ (qn t y) us
 |[],tm,H,H',x,h,hG,b,k,hk=>by simp [hpD,UJ] at hk
 |.tmp i vt::r,tm,H,H',x,h,hG,b,k,hk=>by
  simp only [bkD] at h
  split at h
  case h_2=>cases h
  split at h
  ·cases h
  ·split at h
   case h_2=>cases h
   split at h
   case h_2=>cases h
   rename_i h2
   cases h
   simp only [hpD] at hk
   exact zde h2 hG hk
 |.blk b0 t::r,tm,H,H',x,h,hG,b,k,hk=>by
  simp only [bkD] at h
  split at h
  case h_2=>cases h
  rename_i cs hcs
  split at h
  case h_2=>cases h
  rename_i x1 H1 h1
  split at h
  case h_2=>cases h
  rename_i y H2 h2
  cases h
  simp only [hpD] at hk
  rw [zG] at hk
  by_cases hb:b0=b
  ·subst hb
   simp only [if_true,Option.some.injEq] at hk
   subst hk
   obtain ⟨cs1,he,g1,r1⟩:=zak _ (zki h1)
   simp only [List.append_nil] at he
   subst he
   have g2:=ZO h2
   have hg:=(g1.1.trans g2.1).trans hG
   refine ⟨t,x1,cs,rfl,?_,fun φ K w nx us g hv hr=>?_⟩
   ·rcases hg b0 with h3 | ⟨nn,t',l,h3,_⟩
    ·rw [h3];exact hcs
    ·rw [hcs] at h3;cases h3
   ·exact r1 ν G (g2.1.trans hG) φ K w nx us g hv (by rw [←hg.rho ν];exact hr)
  ·rw [if_neg hb] at hk
   exact zde h2 hG hk
 |.frz b0 ks::r,tm,H,H',x,h,hG,b,k,hk=>by
  simp only [bkD] at h
  split at h
  case h_2=>cases h
  split at h
  case h_2=>cases h
  split at h
  case h_2=>cases h
  rename_i h2
  cases h
  simp only [hpD] at hk
  exact zde h2 hG hk
 |.npt i::r,tm,H,H',x,h,hG,b,k,hk=>by
  simp only [bkD] at h
  split at h
  case h_2=>cases h
  split at h
  case h_2=>cases h
  rename_i h2
  cases h
  simp only [hpD] at hk
  exact zde h2 hG hk
def nmD:List DPl→List Nat
 |[]=>[]
 |.tmp _ _::r=>nmD r
 |.blk b _::r=>b::nmD r
 |.frz _ _::r=>nmD r
 |.npt _::r=>nmD r
def nmK:List CK→List Nat
 |[]=>[]
 |.d _::r=>nmK r
 |.o c _ _::r=>c::nmK r
def nmO:List OPl→List Nat
 |[]=>[]
 |.otmp _ c _ _::r=>c::nmO r
 |.sblk b ks::r=>b::(nmK ks++nmO r)
 |.arr b _ _::r=>b::nmO r
 |.lp l _::r=>l::nmO r
 |.dfd b::r=>b::nmO r
 |.mpl b _ _ _::r=>b::nmO r
theorem Qk {n:Nat}:∀{dl:List DPl} {x:DS dl},n∉nmD dl→zk (hpD dl x) n=none
 |[],x,h=>rfl
 |.tmp _ _::r,x,h=>Qk (dl:=r) (x:=x.2) h
 |.blk b t::r,x,h=>by
  simp only [nmD,List.mem_cons,not_or] at h
  simp only [hpD]
  rw [zG,if_neg (Ne.symm h.1)]
  exact Qk h.2
 |.frz b ks::r,x,h=>Qk (dl:=r) (x:=x.2) h
 |.npt _::r,x,h=>Qk (dl:=r) (x:=x.2) h
theorem zbS {n:Nat}:∀{ks:List CK} {x:CS ks},n∉nmK ks→zk (Jh ks x) n=none
 |[],x,h=>rfl
 |.d t::r,x,h=>zbS (ks:=r) (x:=x.2) h
 |.o c nn t::r,x,h=>by
  simp only [nmK,List.mem_cons,not_or] at h
  simp only [Jh]
  rw [zG,if_neg (Ne.symm h.1)]
  exact zbS h.2
theorem JK {n:Nat}:∀{ol:List OPl} {vs:List LSt} {y:OS ol},n∉nmO ol→zk (hpO ol vs y) n=none
 |[],vs,y,h=>rfl
 |.otmp _ c nn t::r,vs,y,h=>by
  simp only [nmO,List.mem_cons,not_or] at h
  simp only [hpO]
  rw [zG,if_neg (Ne.symm h.1)]
  exact JK h.2
 |.sblk b ks::r,vs,y,h=>by
  simp only [nmO,List.mem_cons,List.mem_append,not_or] at h
  simp only [hpO]
  rw [zG,if_neg (Ne.symm h.1),zU,zbS h.2.1]
  exact JK h.2.2
 |.arr b nn t::r,vs,y,h=>by
  simp only [nmO,List.mem_cons,not_or] at h
  simp only [hpO]
  rw [zG,if_neg (Ne.symm h.1)]
  exact JK h.2
 |.lp b L::r,vs,y,h=>by
  simp only [nmO,List.mem_cons,not_or] at h
  simp only [hpO]
  rw [zG,if_neg (Ne.symm h.1)]
  exact JK h.2
 |.dfd b::r,vs,y,h=>by
  simp only [nmO,List.mem_cons,not_or] at h
  simp only [hpO]
  rw [zG,if_neg (Ne.symm h.1)]
  exact JK h.2
 |.mpl b _ _ _::r,vs,y,h=>by
  simp only [nmO,List.mem_cons,not_or] at h
  simp only [hpO]
  rw [zG,if_neg (Ne.symm h.1)]
  exact JK h.2
def ztA (HT:SH):(ks:List CK)→CS ks→Prop
 |[],_=>True
 |.d _::r,x=>ztA HT r x.2
 |.o c nn t::r,x=>zk HT c=some (.arr nn t x.1)∧ztA HT r x.2
theorem ztB:∀(ks:List CK) (x:CS ks) (pre post:SH),(nmK ks).Nodup→(∀n∈nmK ks,zk pre n=none)→ztA (pre++(Jh ks x++post)) ks x
 |[],x,pre,post,hn,hp=>trivial
 |.d t::r,x,pre,post,hn,hp=>ztB r x.2 pre post hn hp
 |.o c nn t::r,x,pre,post,hn,hp=>by
  simp only [nmK,List.nodup_cons] at hn
  simp only [nmK,List.mem_cons,forall_eq_or_imp] at hp
  refine ⟨?_,?_⟩
  ·simp only [Jh]
   rw [zU,hp.1]
   simp [zG]
  ·have:=ztB r x.2 (pre++[(c,.arr nn t x.1)]) post hn.2 (fun n hm=>by
    rw [zU,hp.2 n hm]
    show zk [(c,_)] n=none
    rw [zG,if_neg (fun e=>hn.1 (by rw [e];exact hm))];rfl)
   have e:pre++[(c,SB.arr nn t x.1)]++(Jh r x.2++post)=pre++(Jh (.o c nn t::r) x++post):=by simp [Jh]
   rw [e] at this;exact this
def YY (HT:SH):(ol:List OPl)→OS ol→Prop
 |[],_=>True
 |.otmp _ c nn t::r,y=>zk HT c=some (.arr nn t y.1)∧YY HT r y.2
 |.sblk _ ks::r,y=>ztA HT ks y.1∧YY HT r y.2
 |.arr b nn t::r,y=>zk HT b=some (.arr nn t y.1)∧YY HT r y.2
 |.lp _ _::r,y=>YY HT r y.2
 |.dfd _::r,y=>YY HT r y.2
 |.mpl _ _ _ _::r,y=>YY HT r y.2
theorem UQ:∀(ol:List OPl) (vs:List LSt) (y:OS ol) (pre post:SH),(nmO ol).Nodup→(∀n∈nmO ol,zk pre n=none)→YY (pre++(hpO ol vs y++post)) ol y
 |[],vs,y,pre,post,hn,hp=>trivial
 |.otmp i c nn t::r,vs,y,pre,post,hn,hp=>by
  simp only [nmO,List.nodup_cons] at hn
  simp only [nmO,List.mem_cons,forall_eq_or_imp] at hp
  refine ⟨?_,?_⟩
  ·simp only [hpO]
   rw [zU,hp.1]
   simp [zG]
  ·have:=UQ r vs y.2 (pre++[(c,.arr nn t y.1)]) post hn.2 (fun n hm=>by
    rw [zU,hp.2 n hm]
    show zk [(c,_)] n=none
    rw [zG,if_neg (fun e=>hn.1 (by rw [e];exact hm))];rfl)
   have e:pre++[(c,SB.arr nn t y.1)]++(hpO r vs y.2++post)=pre++(hpO (.otmp i c nn t::r) vs y++post):=by simp [hpO]
   rw [e] at this;exact this
 |.sblk b ks::r,vs,y,pre,post,hn,hp=>by
  simp only [nmO,List.nodup_cons,List.mem_append,not_or,List.nodup_append] at hn
  simp only [nmO,List.mem_cons,List.mem_append,forall_eq_or_imp] at hp
  refine ⟨?_,?_⟩
  ·have:=ztB ks y.1 (pre++[(b,.vars (zdd ks y.1))]) (hpO r vs y.2++post) hn.2.1 (fun n hm=>by
    rw [zU,hp.2 n (.inl hm)]
    show zk [(b,_)] n=none
    rw [zG,if_neg (fun e=>hn.1.1 (by rw [e];exact hm))];rfl)
   have e:(pre++[(b,SB.vars (zdd ks y.1))])++(Jh ks y.1++(hpO r vs y.2++post))=pre++(hpO (.sblk b ks::r) vs y++post):=by
    simp [hpO]
   rw [e] at this;exact this
  ·have:=UQ r vs y.2 (pre++(b,.vars (zdd ks y.1))::Jh ks y.1) post hn.2.2.1 (fun n hm=>by
    rw [zU,hp.2 n (.inr hm)]
    show zk ((b,_)::_) n=none
    rw [zG,if_neg (fun e=>hn.1.2 (by rw [e];exact hm))]
    exact zbS (fun h=>hn.2.2.2 n h n hm rfl))
   have e:(pre++(b,.vars (zdd ks y.1))::Jh ks y.1)++(hpO r vs y.2++post)=pre++(hpO (.sblk b ks::r) vs y++post):=by
    simp [hpO]
   rw [e] at this;exact this
 |.arr b nn t::r,vs,y,pre,post,hn,hp=>by
  simp only [nmO,List.nodup_cons] at hn
  simp only [nmO,List.mem_cons,forall_eq_or_imp] at hp
  refine ⟨?_,?_⟩
  ·simp only [hpO]
   rw [zU,hp.1]
   simp [zG]
  ·have:=UQ r vs y.2 (pre++[(b,.arr nn t y.1)]) post hn.2 (fun n hm=>by
    rw [zU,hp.2 n hm]
    show zk [(b,_)] n=none
    rw [zG,if_neg (fun e=>hn.1 (by rw [e];exact hm))];rfl)
   have e:(pre++[(b,SB.arr nn t y.1)])++(hpO r vs y.2++post)=pre++(hpO (.arr b nn t::r) vs y++post):=by simp [hpO]
   rw [e] at this;exact this
 |.lp b L::r,vs,y,pre,post,hn,hp=>by
  simp only [nmO,List.nodup_cons] at hn
  simp only [nmO,List.mem_cons,forall_eq_or_imp] at hp
  have:=UQ r vs.tail y.2 (pre++[(b,.loop (stO L vs))]) post hn.2 (fun n hm=>by
    rw [zU,hp.2 n hm]
    show zk [(b,_)] n=none
    rw [zG,if_neg (fun e=>hn.1 (by rw [e];exact hm))];rfl)
  have e:(pre++[(b,SB.loop (stO L vs))])++(hpO r vs.tail y.2++post)=pre++(hpO (.lp b L::r) vs y++post):=by simp [hpO]
  rw [e] at this;exact this
 |.dfd b::r,vs,y,pre,post,hn,hp=>by
  simp only [nmO,List.nodup_cons] at hn
  simp only [nmO,List.mem_cons,forall_eq_or_imp] at hp
  have:=UQ r vs y.2 (pre++[(b,.defd)]) post hn.2 (fun n hm=>by
    rw [zU,hp.2 n hm]
    show zk [(b,_)] n=none
    rw [zG,if_neg (fun e=>hn.1 (by rw [e];exact hm))];rfl)
  have e:(pre++[(b,SB.defd)])++(hpO r vs y.2++post)=pre++(hpO (.dfd b::r) vs y++post):=by simp [hpO]
  rw [e] at this;exact this
 |.mpl b k ag t::r,vs,y,pre,post,hn,hp=>by
  simp only [nmO,List.nodup_cons] at hn
  simp only [nmO,List.mem_cons,forall_eq_or_imp] at hp
  have:=UQ r vs y.2 (pre++[(b,.mpb k ag t y.1)]) post hn.2 (fun n hm=>by
    rw [zU,hp.2 n hm]
    show zk [(b,_)] n=none
    rw [zG,if_neg (fun e=>hn.1 (by rw [e];exact hm))];rfl)
  have e:(pre++[(b,SB.mpb k ag t y.1)])++(hpO r vs y.2++post)=pre++(hpO (.mpl b k ag t::r) vs y++post):=by simp [hpO]
  rw [e] at this;exact this
theorem zAV {φ2 φ3:Ren} {b b' o n c:Nat} (h:φ3 b=φ2 b') {v':Value} (hv:zo φ2 (.slice (some ⟨b',o,none⟩) n c) v'):zo φ3 (.slice (some ⟨b,o,none⟩) n c) v':=by
 cases hv with
 |sl _ _ _ _ L hL hc=>exact .sl _ _ _ _ L (by rw [h];exact hL) hc
 |slO _ _ _ _ c' L hL hc hn hl=>exact .slO _ _ _ _ c' L (by rw [h];exact hL) hc hn hl
 |slE _ _ _ a' L hL hc=>exact .slE _ _ _ a' L (by rw [h];exact hL) hc
theorem zzD {φ2 φ3:Ren} {ν:Nat→Bool} {nx c:Nat} {nn:Bool} {t:Ty} {H HT:SH} {u:SV} {x:List (T t)} {s:List (Nat×Nat)} (h:rdO nn t H c u=some (x,s)) (hv:VN ν nx H) (hv3:∀b,jc (zk HT b)=true→ν b=false)
  (hs:∀p∈s,φ3 p.1=φ2 p.2) (hT:zk HT c=some (.arr nn t x)) {v':Value} (hr:zo φ2 (den (rho ν H) u) v'):zo φ3 (den (rho ν HT) (.own c)) v':=by
 unfold rdO at h
 simp only [den]
 rw [QQ ν (nn:=nn) (t:=t) (l:=x) (by rw [hT];rfl)]
 split at h
 ·cases nn with
  |true=>cases h
  |false=>cases h;simp only [den] at hr;cases hr;exact .slN _ _
 ·rename_i c'
  split at h
  ·rename_i nn' t' l hc'
   split at h
   ·rename_i ht
    subst ht
    have h6:=zx h
    clear h
    obtain ⟨hq,h⟩:=h6
    have:=zji hq
    subst this
    cases h
    simp only [den] at hr
    rw [QQ ν (nn:=nn') (t:=t') (l:=l) (by rw [hc'];rfl)] at hr
    have he:YR rfl l=l:=rfl
    rw [he]
    cases hn:jP nn' l with
    |true=>rw [hn] at hr;cases hr;exact .slN _ _
    |false=>rw [hn] at hr;exact zAV (hs (c,c') (by simp)) hr
   ·cases h
  ·cases h
 ·cases h
theorem ztC {φ2 φ3:Ren} {ν:Nat→Bool} {nx:Nat} {H HT:SH} (g:zA φ2 (zw ν H) K w) (hv:VN ν nx H) (hv3:∀b,jc (zk HT b)=true→ν b=false) (hF:∀b L,φ2 (FZ+b)=some L→φ3 (FZ+b)=some L) :
  ∀{ks:List CK} {us:List SV} {x:CS ks} {s:List (Nat×Nat)},rdK ks us H=some (x,s)→(∀p∈s,φ3 p.1=φ2 p.2)→ztA HT ks x→∀{vs:List Value},zy φ2 (zp (rho ν H) us) vs→zy φ3 (zp (rho ν HT) (zdd ks x)) vs
 |[],[],x,s,h,hs,hT,vs,hr=>by
  match vs,hr with
  |[],_=>trivial
  |_::_,hr=>simp [zp,zy] at hr
 |.d t::r,us,x,s,h,hs,hT,vs,hr=>by
  simp only [rdK] at h
  split at h
  case h_2=>cases h
  rename_i z us1 h1
  split at h
  case h_2=>cases h
  rename_i y s' h2
  cases h
  obtain ⟨cs,rfl,_,hc⟩:=zak t (zxA t h1)
  rw [qA,List.map_append] at hr
  have hlen:=hr.length
  obtain ⟨u1,u2,rfl,hl1⟩:∃u1 u2,vs=u1++u2∧u1.length=cs.length:=⟨vs.take cs.length,vs.drop cs.length,by simp,by simp at hlen ⊢;omega⟩
  have hsplit:zy φ2 (cs.map (den (rho ν H))) u1∧zy φ2 (us1.map (den (rho ν H))) u2:=by
   have h3:=hr.take (cs.length)
   have h4:=hr.drop (cs.length)
   rw [List.take_append_of_le_length (by simp),List.take_append_of_le_length (by omega),List.take_of_length_le (by simp),List.take_of_length_le (by omega)] at h3
   rw [List.drop_append_of_le_length (by simp),List.drop_append_of_le_length (by omega),List.drop_eq_nil_of_le (by simp),List.drop_eq_nil_of_le (by omega)] at h4
   exact ⟨h3,h4⟩
  simp only [zdd]
  rw [qA,List.map_append,yH]
  refine zy.append ?_ ?_
  ·exact zfP hF (hc ν H (GLe.refl _) φ2 K w nx u1 g hv (by rw [qA];exact hsplit.1))
  ·have:=ztC g hv hv3 hF h2 (fun p hp=>hs p hp) hT (vs:=u2) (by rw [qA];exact hsplit.2)
   rw [qA] at this;exact this
 |.o c nn t::r,u::us,x,s,h,hs,hT,vs,hr=>by
  simp only [rdK] at h
  split at h
  case h_2=>cases h
  rename_i z s1 h1
  split at h
  case h_2=>cases h
  rename_i y s' h2
  cases h
  match vs,hr with
  |[],hr=>simp [zp,zy] at hr
  |v::vs,hr=>
   simp only [zp,zy,zdd] at hr ⊢
   exact ⟨zzD h1 hv hv3 (fun p hp=>hs p (by simp [hp])) hT.1 hr.1,ztC g hv hv3 hF h2 (fun p hp=>hs p (by simp [hp])) hT.2 hr.2⟩
 |[],_::_,_,_,h,_,_,_,_=>by simp [rdK] at h
 |.o _ _ _::_,[],_,_,h,_,_,_,_=>by simp [rdK] at h
theorem zF6 {nn:Bool} {t:Ty} {H:SH} {c:Nat} {x:List (T t)×List (Nat×Nat)} (h:rdO nn t H c .junk=some x):False:=by simp [rdO] at h
theorem zaP {φ2 φ3:Ren} {ν:Nat→Bool} {H HT:SH} {nx:Nat} {ts:Array Value} (hv:VN ν nx H) (hv3:∀b,jc (zk HT b)=true→ν b=false) {tm:List SV} (ht:qY φ2 (zp (rho ν H) tm) ts) :
  ∀{ol:List OPl} {vs:List LSt} {y:OS ol} {σ:List (Nat×Nat)},bkO ol vs tm H=some (y,σ)→YY HT ol y→(∀p∈σ,φ3 p.1=φ2 p.2)→∀{tm0:List SV},qY φ3 (zp (rho ν HT) tm0) ts→qY φ3 (zp (rho ν HT) (tmO ol y tm0)) ts
 |[],vs,y,σ,h,hO,hσ,tm0,h0=>by simpa only [tmO] using h0
 |.otmp i c nn t::r,vs,y,σ,h,hO,hσ,tm0,h0=>by
  simp only [bkO] at h
  split at h
  case h_2=>cases h
  rename_i u hu
  split at h
  case h_2=>cases h
  rename_i x s h1
  split at h
  case h_2=>cases h
  rename_i y' σ' h2
  cases h
  simp only [tmO]
  refine zaP hv hv3 ht h2 hO.2 (fun p hp=>hσ p (by simp [hp])) ?_
  rw [ke] at hu
  rcases ht.2 i (den (rho ν H) u) (by rw [yI,hu];rfl) with hq | ⟨v',q1,q2⟩
  ·have:=zfQ hq;subst this;exact (zF6 h1).elim
  ·rw [Qg]
   have:zp (rho ν HT) (tm0.set i (.own c))=(zp (rho ν HT) tm0).set i (den (rho ν HT) (.own c)):=by simp [qA,List.map_set]
   rw [this]
   exact ztz h0 q1 (zzD h1 hv hv3 (fun p hp=>hσ p (by simp [hp])) hO.1 q2)
 |.sblk b ks::r,vs,y,σ,h,hO,hσ,tm0,h0=>by
  simp only [bkO] at h
  split at h
  case h_2=>cases h
  split at h
  case h_2=>cases h
  split at h
  case h_2=>cases h
  rename_i h2
  cases h
  simp only [tmO]
  exact zaP hv hv3 ht h2 hO.2 (fun p hp=>hσ p (by simp [hp])) h0
 |.arr b nn t::r,vs,y,σ,h,hO,hσ,tm0,h0=>by
  simp only [bkO] at h
  split at h
  case h_2=>cases h
  split at h
  case isFalse=>cases h
  obtain ⟨_,h⟩:=zx h
  split at h
  case h_2=>cases h
  rename_i h2
  cases h
  simp only [tmO]
  exact zaP hv hv3 ht h2 hO.2 (fun p hp=>hσ p (by simp [hp])) h0
 |.lp b L::r,vs,y,σ,h,hO,hσ,tm0,h0=>by
  simp only [bkO] at h
  split at h
  case h_2=>cases h
  have h6:=zx h
  clear h
  obtain ⟨hq,h⟩:=h6
  split at h
  case h_2=>cases h
  rename_i h2
  cases h
  simp only [tmO]
  exact zaP hv hv3 ht h2 hO (fun p hp=>hσ p (by simp [hp])) h0
 |.dfd b::r,vs,y,σ,h,hO,hσ,tm0,h0=>by
  simp only [bkO] at h
  split at h
  case h_2=>cases h
  split at h
  case h_2=>cases h
  rename_i h2
  cases h
  simp only [tmO]
  exact zaP hv hv3 ht h2 hO (fun p hp=>hσ p (by simp [hp])) h0
 |.mpl b k ag t::r,vs,y,σ,h,hO,hσ,tm0,h0=>by
  simp only [bkO] at h
  split at h
  case h_2=>cases h
  split at h
  case isFalse=>cases h
  obtain ⟨_,h⟩:=zx h
  split at h
  case h_2=>cases h
  rename_i h2
  cases h
  simp only [tmO]
  exact zaP hv hv3 ht h2 hO (fun p hp=>hσ p (by simp [hp])) h0
inductive zdR (H HT:SH) (ol:List OPl) (σ:List (Nat×Nat)) (b s:Nat):SB→Prop
 |arr (nn:Bool) (t:Ty) (l:List (T t)) (h:zk H s=some (.arr nn t l)):zdR H HT ol σ b s (.arr nn t l)
 |own (ks:List CK) (us:List SV) (x:CS ks) (s':List (Nat×Nat)) (hs:s=b) (h:zk H b=some (.vars us)) (hr:rdK ks us H=some (x,s')) (hσ:∀p∈s',p∈σ) (hT:ztA HT ks x):zdR H HT ol σ b s (.vars (zdd ks x))
 |lp (L L':SL) (vs:List LSt) (hs:s=b) (hL:OPl.lp b L∈ol) (h:zk H b=some (.loop L')) (hq:stQ L' vs=true):zdR H HT ol σ b s (.loop (stO L vs))
 |dfd (hs:s=b) (h:zk H b=some .defd):zdR H HT ol σ b s .defd
 |mp (k:IntKind) (ag:Bool) (t:Ty) (l:List (Int×T t)) (hs:s=b) (h:zk H b=some (.mpb k ag t l)):zdR H HT ol σ b s (.mpb k ag t l)
theorem zdR.more {H HT:SH} {ol:List OPl} {p:OPl} {σ σ':List (Nat×Nat)} (hσ:∀q∈σ,q∈σ') {b s:Nat} {k:SB} (h:zdR H HT ol σ b s k):zdR H HT (p::ol) σ' b s k:=by
 cases h with
 |arr nn t l h=>exact .arr nn t l h
 |own ks us x s' hs h hr h1 hT=>exact .own ks us x s' hs h hr (fun q hq=>hσ q (h1 q hq)) hT
 |lp L L' vs hs hL h hq=>exact .lp L L' vs hs (List.mem_cons_of_mem _ hL) h hq
 |dfd hs h=>exact .dfd hs h
 |mp k ag t l hs h=>exact .mp k ag t l hs h
theorem zxC {nn:Bool} {t:Ty} {H:SH} {c:Nat} {u:SV} {l:List (T t)} {s:List (Nat×Nat)} (h:rdO nn t H c u=some (l,s)):(nn=false∧l=[])∨∃c',s=[(c,c')]∧zk H c'=some (.arr nn t l):=by
 unfold rdO at h
 split at h
 ·cases nn with
  |true=>cases h
  |false=>cases h;exact .inl ⟨rfl,rfl⟩
 ·rename_i c'
  split at h
  ·rename_i nn' t' l' hc'
   split at h
   ·rename_i ht
    subst ht
    have h6:=zx h
    clear h
    obtain ⟨hq,h⟩:=h6
    have:=zji hq
    subst this
    cases h
    exact .inr ⟨c',rfl,hc'⟩
   ·cases h
  ·cases h
 ·cases h
def zEl (k:SB):Prop:=∃t,k=.arr false t []
theorem ztD {H:SH}:∀{ks:List CK} {us:List SV} {x:CS ks} {s:List (Nat×Nat)},rdK ks us H=some (x,s)→∀{b:Nat} {k:SB},zk (Jh ks x) b=some k→zEl k∨∃s',(b,s')∈s∧∃(nn:Bool) (t:Ty) (l:List (T t)),k=.arr nn t l∧zk H s'=some (.arr nn t l)
 |[],us,x,s,h,b,k,hk=>by simp [Jh,UJ] at hk
 |.d t::r,us,x,s,h,b,k,hk=>by
  simp only [rdK] at h
  split at h
  case h_2=>cases h
  split at h
  case h_2=>cases h
  rename_i y s' h2
  cases h
  exact ztD h2 hk
 |.o c nn t::r,u::us,x,s,h,b,k,hk=>by
  simp only [rdK] at h
  split at h
  case h_2=>cases h
  rename_i z s1 h1
  split at h
  case h_2=>cases h
  rename_i y s' h2
  cases h
  simp only [Jh] at hk
  rw [zG] at hk
  by_cases hb:c=b
  ·subst hb
   simp only [if_true,Option.some.injEq] at hk
   subst hk
   rcases zxC h1 with ⟨rfl,rfl⟩ | ⟨c',rfl,h3⟩
   ·exact .inl ⟨t,rfl⟩
   ·exact .inr ⟨c',by simp,nn,t,z,rfl,h3⟩
  ·rw [if_neg hb] at hk
   rcases ztD h2 hk with h3 | ⟨s2,h3,h4⟩
   ·exact .inl h3
   ·exact .inr ⟨s2,by simp [h3],h4⟩
 |.o _ _ _::_,[],_,_,h,_,_,_=>by simp [rdK] at h
theorem UR {tm:List SV} {H HT:SH}:∀{ol:List OPl} {vs:List LSt} {y:OS ol} {σ:List (Nat×Nat)},bkO ol vs tm H=some (y,σ)→YY HT ol y→∀{b:Nat} {k:SB},zk (hpO ol vs y) b=some k→zEl k∨∃s,(b,s)∈σ∧zdR H HT ol σ b s k
 |[],vs,y,σ,h,hO,b,k,hk=>by simp [hpO,UJ] at hk
 |.otmp i c nn t::r,vs,y,σ,h,hO,b,k,hk=>by
  simp only [bkO] at h
  split at h
  case h_2=>cases h
  rename_i u hu
  split at h
  case h_2=>cases h
  rename_i x s h1
  split at h
  case h_2=>cases h
  rename_i y' σ' h2
  cases h
  simp only [hpO] at hk
  rw [zG] at hk
  by_cases hb:c=b
  ·subst hb
   simp only [if_true,Option.some.injEq] at hk
   subst hk
   rcases zxC h1 with ⟨rfl,rfl⟩ | ⟨c',rfl,h3⟩
   ·exact .inl ⟨t,rfl⟩
   ·exact .inr ⟨c',by simp,.arr nn t x h3⟩
  ·rw [if_neg hb] at hk
   rcases UR h2 hO.2 hk with h3 | ⟨s',h3,h4⟩
   ·exact .inl h3
   ·exact .inr ⟨s',by simp [h3],h4.more fun q hq=>by simp [hq]⟩
 |.sblk b0 ks::r,vs,y,σ,h,hO,b,k,hk=>by
  simp only [bkO] at h
  split at h
  case h_2=>cases h
  rename_i us hu
  split at h
  case h_2=>cases h
  rename_i x s h1
  split at h
  case h_2=>cases h
  rename_i y' σ' h2
  cases h
  simp only [hpO] at hk
  have rest:zk (hpO r vs y') b=some k→zEl k∨∃s',(b,s')∈(b0,b0)::(s++σ')∧zdR H HT (.sblk b0 ks::r) ((b0,b0)::(s++σ')) b s' k:=fun hk=>by
   rcases UR h2 hO.2 hk with h3 | ⟨s',h3,h4⟩
   ·exact .inl h3
   ·exact .inr ⟨s',by simp [h3],h4.more fun q hq=>by simp [hq]⟩
  rw [zG] at hk
  by_cases hb0:b0=b
  ·subst hb0
   simp only [if_true,Option.some.injEq] at hk
   subst hk
   exact .inr ⟨b0,by simp,.own ks us x s rfl hu h1 (fun p hp=>by simp [hp]) hO.1⟩
  ·rw [if_neg hb0,zU] at hk
   split at hk
   ·rename_i kk hkk
    cases hk
    rcases ztD h1 hkk with h3 | ⟨s',h3,nn,t,l,rfl,h4⟩
    ·exact .inl h3
    ·exact .inr ⟨s',by simp [h3],.arr nn t l h4⟩
   ·exact rest hk
 |.arr b0 nn t::r,vs,y,σ,h,hO,b,k,hk=>by
  simp only [bkO] at h
  split at h
  case h_2=>cases h
  rename_i nn' t' l hl
  split at h
  case isFalse=>cases h
  rename_i ht
  subst ht
  have h6:=zx h
  clear h
  obtain ⟨hq,h⟩:=h6
  have:=zji hq
  subst this
  split at h
  case h_2=>cases h
  rename_i y' σ' h2
  cases h
  simp only [hpO] at hk
  rw [zG] at hk
  by_cases hb0:b0=b
  ·subst hb0
   simp only [if_true,Option.some.injEq] at hk
   subst hk
   exact .inr ⟨b0,by simp,.arr _ _ _ hl⟩
  ·rw [if_neg hb0] at hk
   rcases UR h2 hO.2 hk with h3 | ⟨s',h3,h4⟩
   ·exact .inl h3
   ·exact .inr ⟨s',by simp [h3],h4.more fun q hq=>by simp [hq]⟩
 |.lp b0 L::r,vs,y,σ,h,hO,b,k,hk=>by
  simp only [bkO] at h
  split at h
  case h_2=>cases h
  rename_i L' hl
  have h6:=zx h
  clear h
  obtain ⟨hq,h⟩:=h6
  split at h
  case h_2=>cases h
  rename_i y' σ' h2
  cases h
  simp only [hpO] at hk
  rw [zG] at hk
  by_cases hb0:b0=b
  ·subst hb0
   simp only [if_true,Option.some.injEq] at hk
   subst hk
   exact .inr ⟨b0,by simp,.lp L L' vs rfl (by simp) hl hq⟩
  ·rw [if_neg hb0] at hk
   rcases UR h2 hO hk with h3 | ⟨s',h3,h4⟩
   ·exact .inl h3
   ·exact .inr ⟨s',by simp [h3],h4.more fun q hq=>by simp [hq]⟩
 |.dfd b0::r,vs,y,σ,h,hO,b,k,hk=>by
  simp only [bkO] at h
  split at h
  case h_2=>cases h
  rename_i hl
  split at h
  case h_2=>cases h
  rename_i y' σ' h2
  cases h
  simp only [hpO] at hk
  rw [zG] at hk
  by_cases hb0:b0=b
  ·subst hb0
   simp only [if_true,Option.some.injEq] at hk
   subst hk
   exact .inr ⟨b0,by simp,.dfd rfl hl⟩
  ·rw [if_neg hb0] at hk
   rcases UR h2 hO hk with h3 | ⟨s',h3,h4⟩
   ·exact .inl h3
   ·exact .inr ⟨s',by simp [h3],h4.more fun q hq=>by simp [hq]⟩
 |.mpl b0 k0 ag t::r,vs,y,σ,h,hO,b,k,hk=>by
  simp only [bkO] at h
  split at h
  case h_2=>cases h
  rename_i k' ag' t' l hl
  split at h
  case isFalse=>cases h
  rename_i ht
  subst ht
  have h6:=zx h
  clear h
  obtain ⟨hq,h⟩:=h6
  simp only [Bool.and_eq_true] at hq
  have:=Jf hq.1
  subst this
  have:=zji hq.2
  subst this
  split at h
  case h_2=>cases h
  rename_i y' σ' h2
  cases h
  simp only [hpO] at hk
  rw [zG] at hk
  by_cases hb0:b0=b
  ·subst hb0
   simp only [if_true,Option.some.injEq] at hk
   subst hk
   exact .inr ⟨b0,by simp,.mp _ _ _ _ rfl hl⟩
  ·rw [if_neg hb0] at hk
   rcases UR h2 hO hk with h3 | ⟨s',h3,h4⟩
   ·exact .inl h3
   ·exact .inr ⟨s',by simp [h3],h4.more fun q hq=>by simp [hq]⟩
def lkS (σ:List (Nat×Nat)) (b:Nat):Nat:=List.rec (motive:=fun _=>Nat) b (fun p _ ih=>bif Nat.beq p.1 b then p.2 else ih) σ
def idD (dl:List DPl):List (Nat×Nat):=(nmD dl).map fun b=>(b,b)
def zaQ (σ:List (Nat×Nat)):Bool:=σ.all fun p=>Nat.beq (lkS σ p.1) p.2&&σ.all fun q=>Nat.beq p.1 q.1||!Nat.beq p.2 q.2
theorem zoA {σ:List (Nat×Nat)} (h:zaQ σ=true) {b s:Nat} (hp:(b,s)∈σ):lkS σ b=s:=by
 unfold zaQ at h
 rw [List.all_eq_true] at h
 have:=h _ hp
 simp only [Bool.and_eq_true] at this
 exact Nat.eq_of_beq_eq_true this.1
theorem zEm {σ:List (Nat×Nat)} (h:zaQ σ=true) {b c s:Nat} (hp:(b,s)∈σ) (hq:(c,s)∈σ):b=c:=by
 unfold zaQ at h
 rw [List.all_eq_true] at h
 have:=h _ hp
 simp only [Bool.and_eq_true] at this
 have h2:=this.2
 rw [List.all_eq_true] at h2
 have h3:=h2 _ hq
 simp only [Bool.or_eq_true] at h3
 rcases h3 with h3 | h3
 ·exact Nat.eq_of_beq_eq_true h3
 ·have:Nat.beq s s=true:=Nat.beq_refl s
  simp [] at h3
theorem zu0 {φ:Ren} {arr:Array Value}:∀{cs:List Value} {o:Nat},(∀(j:Nat) v,cs[j]?=some v→∃v',arr[o+j]?=some v'∧zo φ v v')→∃us,zy φ cs us∧∀(j:Nat) u,us[j]?=some u→arr[o+j]?=some u
 |[],o,h=>⟨[],trivial,fun j u hu=>by simp at hu⟩
 |c::cs,o,h=>by
  obtain ⟨v',h1,h2⟩:=h 0 c rfl
  obtain ⟨us,h3,h4⟩:=zu0 (cs:=cs) (o:=o+1) (fun j v hv=>by
   obtain ⟨u,q1,q2⟩:=h (j+1) v (by simpa using hv)
   exact ⟨u,by rw [←q1];congr 1;omega,q2⟩)
  refine ⟨v'::us,⟨h2,h3⟩,fun j u hu=>?_⟩
  cases j with
  |zero=>simp at hu;subst hu;exact h1
  |succ j=>simp at hu;have:=h4 j u hu;rw [←this];congr 1;omega
theorem zbT {φ2 φ3:Ren} {L:Loc} {cs ds:List Value} {ro:Bool} (h:jN φ2 w L (.cells cs ro)) (hc:∀us,zy φ2 cs us→zy φ3 ds us):jN φ3 w L (.cells ds ro):=by
 obtain ⟨arr,el,fr,h1,h2,h3⟩:=h
 obtain ⟨us,q1,q2⟩:=zu0 h2
 refine ⟨arr,el,fr,h1,fun j v hv=>?_,h3⟩
 obtain ⟨u,e1,e2⟩:=(hc us q1).get hv
 exact ⟨u,q2 j u e1,e2⟩
theorem zAW {φ φ0:Ren} (hF:∀b L,φ (FZ+b)=some L→φ0 (FZ+b)=some L) {t:Ty} {l:List (T t)} {us:List Value} (h:zy φ (zX t l) us):zy φ0 (zX t l) us:=by
 refine zy.of_get h.length fun i v v' hv hv'=>?_
 obtain ⟨u,h1,h2⟩:=h.get hv
 rw [hv'] at h1;cases h1
 have hm:=List.mem_of_getElem? hv
 unfold zX at hm
 rw [List.mem_flatMap] at hm
 obtain ⟨x,hx,hc⟩:=hm
 exact ZN hF t x v hc _ h2
theorem zEn {φ φ0:Ren} (hF:∀b L,φ (FZ+b)=some L→φ0 (FZ+b)=some L) (ag:Bool) (t:Ty) (x:T t) {v':Value} (h:zo φ (mvV ag t x) v'):zo φ0 (mvV ag t x) v':=by
 cases ag with
 |true=>
  simp only [mvV,cond_true,yB] at h ⊢
  obtain ⟨ys,rfl,hl⟩:=h.agg_inv
  exact .agg' (by simpa using zfP hF (by simpa using hl))
 |false=>
  simp only [mvV,cond_false] at h ⊢
  cases hc:qn t x with
  |nil=>rw [hc] at h;exact (by simp only [List.headD_nil,Fz.junk] at h;cases h)
  |cons a r=>
   rw [hc] at h
   simp only [List.headD_cons] at h ⊢
   exact ZN hF t x a (by rw [hc];simp) _ h
theorem zrI {φ φ0:Ren} (hF:∀b L,φ (FZ+b)=some L→φ0 (FZ+b)=some L) {k:IntKind} {ag:Bool} {t:Ty}:∀{l:List (Int×T t)} {i:Nat} {xs:List MapEntry},JG φ (Qc k ag t l i) xs→JG φ0 (Qc k ag t l i) xs
 |[],i,[],h=>trivial
 |[],i,_::_,h=>h.elim
 |p::r,i,[],h=>h.elim
 |p::r,i,e::xs,h=>⟨h.1,zEn hF ag t p.2 h.2.1,zrI hF h.2.2⟩
theorem zF7 {φ φ0:Ren} (hF:∀b L,φ (FZ+b)=some L→φ0 (FZ+b)=some L) {L:Loc} {k:IntKind} {ag:Bool} {t:Ty} {l:List (Int×T t)} {i n:Nat} (h:jN φ w L (.mp (Qc k ag t l i) n)):jN φ0 w L (.mp (Qc k ag t l i) n):=by
 obtain ⟨xs,h1,⟨⟨ys,q1,q2⟩,q3⟩,h3⟩:=h
 exact ⟨xs,h1,⟨⟨ys,q1,zrI hF q2⟩,q3⟩,h3⟩
section
variable {φ2 φ3:Ren} {ν:Nat→Bool} {lo nx:Nat} {KA K':Nat→Prop} {Hs:Hp} {H HS HR HT:SH} {dl:List DPl} {ol:List OPl} {vs:List LSt} {tm:List SV} {x:DS dl} {y:OS ol} {σ:List (Nat×Nat)} {ns:List Nat}
theorem zCr (eT:HT=hpD dl x++(hpO ol vs y++HR)) (gA:zA φ2 (zw ν HS) KA w) (gB:zA φ2 Hs K' w) (hv:VN ν nx HS) (hv3:∀b,jc (zk HT b)=true→ν b=false)
  (hD:bkD dl tm H=some (x,HS)) (hO:bkO ol vs tm HS=some (y,σ)) (hQ:zaQ (idD dl++σ)=true) (hs:∀p∈idD dl++σ,Hs.get p.2=(zw ν HS).get p.2)
  (h3:∀p∈idD dl++σ,φ3 p.1=φ2 p.2) (hφ:∀b,b < lo→φ3 b=φ2 b) (hF:∀b,φ3 (FZ+b)=φ2 (FZ+b)) (hOR:YY HT ol y)
  (hns:∀b∈ns,b < lo) (hr:∀b∈ns,reg (zk HT b)=reg (zk HS b))
  (hL:∀l L,OPl.lp l L∈ol→uk ns lo L.tm=true∧L.dfr < lo∧∀L',zk HS l=some (.loop L')→∃s p,L'={L with st:=s,pend:=p})
  (hR:∀b k,zk HR b=some k→∀kd,zT (rho ν HT) (ν b) k=some kd→kd.rw=false∧∃L,φ3 b=some L∧jN φ3 w L kd∧K' L.blk):zA φ3 (zw ν HT) K' w:=by
 have hF2:∀b L,φ2 (FZ+b)=some L→φ3 (FZ+b)=some L:=fun b L h=>by rw [hF];exact h
 have key:∀b k,zk (hpD dl x) b=some k∨zk (hpO ol vs y) b=some k→∀kd,zT (rho ν HT) (ν b) k=some kd→(jc (some k)=true→ν b=false)→∃s,(b,s)∈idD dl++σ∧kd.rw=true∧∃kd',(zw ν HS).get s=some kd'∧kd'.rw=true∧∀L,jN φ2 w L kd'→jN φ3 w L kd:=by
  intro b k hk kd hkd hnn
  rcases hk with hk | hk
  ·obtain ⟨t,z,cs,rfl,h1,h2⟩:=zde hD (GLe.refl _) hk
   have hm:b∈nmD dl:=by
    apply Classical.byContradiction
    intro hn;rw [Qk hn] at hk;cases hk
   simp only [zT,Option.some.injEq] at hkd
   subst hkd
   refine ⟨b,by simp [idD,hm],rfl,.cells (zp (rho ν HS) cs) false,by rw [zF,h1];rfl,rfl,fun L hb=>zbT hb fun us hu=>?_⟩
   have:=zfP hF2 (h2 φ2 KA w nx us gA hv hu)
   rw [←yH (rho ν HT) t z] at this
   rw [qA];exact this
  ·rcases UR hO hOR hk with ⟨t,rfl⟩ | ⟨s,hm,hc⟩
   ·simp [zT,jP] at hkd
   refine ⟨s,by simp [hm],?_⟩
   cases hc with
   |arr nn t l h=>
    simp only [zT] at hkd
    cases e2:jP nn l with
    |true=>rw [e2] at hkd;cases hkd
    |false=>
     rw [e2] at hkd
     simp only [cond_false,Option.some.injEq] at hkd
     subst hkd
     exact ⟨rfl,.cells (zX t l) false,by rw [zF,h];simp [zT,e2],rfl,fun L hb=>zbT hb fun us hu=>zAW hF2 hu⟩
   |own ks us0 z s' hs' h hr' hσ hT=>
    subst hs'
    simp only [zT,Option.some.injEq] at hkd
    subst hkd
    exact ⟨rfl,.cells (zp (rho ν HS) us0) false,by rw [zF,h];rfl,rfl,fun L hb=>zbT hb fun us hu=>ztC gA hv hv3 hF2 hr' (fun p hp=>h3 p (by simp [hσ p hp])) hT hu⟩
   |lp L L' vs' hs' hL' h hq=>
    subst hs'
    simp only [zT,Option.some.injEq] at hkd
    subst hkd
    obtain ⟨l1,l2,l3⟩:=hL _ _ hL'
    obtain ⟨s1,p1,rfl⟩:=l3 _ h
    refine ⟨rfl,.loop (xf (rho ν HS) {L with st:=s1,pend:=p1}),by rw [zF,h];rfl,rfl,fun M hb=>?_⟩
    have hst:s1=(stO L vs').st∧p1=(stO L vs').pend:=by
     cases vs' with
     |nil=>simp [stQ] at hq
     |cons v r=>
      simp only [stQ,Bool.and_eq_true] at hq
      exact ⟨zCq hq.1,zEk hq.2⟩
    have hrest:(stO L vs').tm=L.tm∧(stO L vs').params=L.params∧(stO L vs').assign=L.assign∧(stO L vs').body=L.body∧(stO L vs').dfr=L.dfr:=by
     cases vs'<;>exact ⟨rfl,rfl,rfl,rfl,rfl⟩
    obtain ⟨l',f1,f2,f3,f4,f5,f6,f7,D,f8,f9⟩:=hb
    refine ⟨l',f1,?_,?_,?_,?_,?_,?_,D,?_,f9⟩
    ·rw [f2];exact hst.1
    ·rw [f3];exact hst.2
    ·refine ⟨?_,fun i v hv'=>?_⟩
     ·have:=f4.1
      simp only [xf,wU] at this ⊢
      rw [hrest.1];exact this
     ·simp only [xf,hrest.1] at hv'
      rw [yI,Option.map_eq_some_iff] at hv'
      obtain ⟨u,hu,rfl⟩:=hv'
      rcases f4.2 i (den (rho ν HS) u) (by simp only [xf];rw [yI,hu];rfl) with hq' | ⟨v',q1,q2⟩
      ·exact .inl (zkh (gO ν HS) hq')
      ·refine .inr ⟨v',q1,zoz hφ hF2 hns hr u v' ?_ q2⟩
       have:∀(l:List SV) (i:Nat) u,uk ns lo l=true→l[i]?=some u→zaO ns lo u=true:=by
        intro l
        induction l with
        |nil=>intro i u _ h;simp at h
        |cons a l ih=>
         intro i u hl hi
         simp only [uk,Bool.and_eq_true] at hl
         cases i with
         |zero=>simp at hi;subst hi;exact hl.1
         |succ i=>exact ih i u hl.2 (by simpa using hi)
       exact this _ _ _ l1 hu
    ·simp only [xf,hrest.2.1];exact f5
    ·simp only [xf,hrest.2.2.1];exact f6
    ·simp only [xf,hrest.2.2.2.1];exact f7
    ·simp only [xf,hrest.2.2.2.2]
     rw [hφ _ l2];exact f8
   |dfd hs' h=>
    subst hs'
    simp only [zT,Option.some.injEq] at hkd
    subst hkd
    exact ⟨rfl,.defd,by rw [zF,h];rfl,rfl,fun L hb=>hb⟩
   |mp k ag t l hs' h=>
    subst hs'
    simp only [zT,Option.some.injEq] at hkd
    subst hkd
    exact ⟨rfl,.mp (Qc k ag t l 0) l.length,by rw [zF,h];rfl,rfl,fun L hb=>zF7 hF2 hb⟩
 have split:∀b kd,(zw ν HT).get b=some kd→(∃s,(b,s)∈idD dl++σ∧kd.rw=true∧∃kd',Hs.get s=some kd'∧kd'.rw=true∧∀L,jN φ2 w L kd'→jN φ3 w L kd)∨(kd.rw=false∧∃L,φ3 b=some L∧jN φ3 w L kd∧K' L.blk):=by
  intro b kd hb
  rw [zF] at hb
  cases hk:zk HT b with
  |none=>rw [hk] at hb;cases hb
  |some k=>
   rw [hk] at hb
   simp only [Option.bind_some] at hb
   have hnn:jc (some k)=true→ν b=false:=fun h=>hv3 b (by rw [hk];exact h)
   rw [eT,zU,zU] at hk
   have fin:(zk (hpD dl x) b=some k∨zk (hpO ol vs y) b=some k)→(∃s,(b,s)∈idD dl++σ∧kd.rw=true∧∃kd',Hs.get s=some kd'∧kd'.rw=true∧∀L,jN φ2 w L kd'→jN φ3 w L kd)∨(kd.rw=false∧∃L,φ3 b=some L∧jN φ3 w L kd∧K' L.blk):=fun h=>by
    obtain ⟨s,e1,e2,kd',e3,e4,e5⟩:=key b k h kd hb hnn
    exact Or.inl ⟨s,e1,e2,kd',by rw [hs _ e1];exact e3,e4,e5⟩
   split at hk
   ·rename_i h1;cases hk;exact fin (.inl h1)
   ·split at hk
    ·rename_i h1;cases hk;exact fin (.inr h1)
    ·exact .inr (hR b k hk kd hb)
 refine zCm gB (lkS (idD dl++σ)) (fun b k hb=>?_) (fun b c k k' hb hc hk hk' hne=>?_) (fun b k hb hk=>?_) hF
 ·rcases split b k hb with ⟨s,e1,e2,kd',e3,e4,e5⟩ | h
  ·rw [zoA hQ e1]
   exact .inl ⟨kd',e3,h3 _ e1,e4,e5⟩
  ·exact .inr h
 ·rcases split b k hb with ⟨s,e1,_⟩ | ⟨h,_⟩
  ·rcases split c k' hc with ⟨s',e1',_⟩ | ⟨h,_⟩
   ·rw [zoA hQ e1,zoA hQ e1']
    intro e;subst e
    exact hne (zEm hQ e1 e1')
   ·rw [hk'] at h;cases h
  ·rw [hk] at h;cases h
 ·rcases split b k hb with ⟨s,e1,e2,_⟩ | ⟨_,h⟩
  ·rw [hk] at e2;cases e2
  ·exact h
end
end Go.Fz.Sy
namespace Go.Fz.Sy
variable {P:Program} {φ:Ren} {K:Nat→Prop} {w:World} {R:Type}
def zqc (pn:List Nat) (f:Nat→SB→SB):SH→SH
 |[]=>[]
 |(b,k)::r=>bif vf pn b then zqc pn f r else (b,f b k)::zqc pn f r
theorem vg (pn:List Nat) (f:Nat→SB→SB) (n:Nat):∀H:SH,zk (zqc pn f H) n=if n∈pn then none else (zk H n).map (f n)
 |[]=>by simp [zqc,UJ]
 |(b,k)::r=>by
  have ih:=vg pn f n r
  simp only [zqc]
  cases hm:vf pn b with
  |true=>
   rw [cond_true,ih]
   have hb:=(kU _ _).1 hm
   by_cases hn:n∈pn
   ·simp [hn]
   ·have:b≠n:=fun e=>hn (e▸hb)
    rw [if_neg hn,if_neg hn,zG,if_neg this]
  |false=>
   rw [cond_false,zG,zG]
   by_cases hbn:b=n
   ·subst hbn
    have hb:b∉pn:=fun h=>by rw [(kU _ _).2 h] at hm;cases hm
    simp [hb]
   ·rw [if_neg hbn,if_neg hbn,ih]
def xb (ns mv:List Nat) (lo:Nat) (b:Nat):SB→SB
 |.vars cs=>bif uk ns lo cs then .ro cs else .hid
 |.ro cs=>bif uk ns lo cs then .ro cs else .hid
 |.arr nn t l=>bif vf mv b then .gone (rsz nn t l) l.length else .roa nn t l
 |.roa nn t l=>.roa nn t l
 |.fro nn t l=>.fro nn t l
 |.gone s n=>.gone s n
 |.abs=>.abs
 |_=>.hid
def zku (mv:List Nat) (b:Nat):SB→SB
 |.arr nn t l=>bif vf mv b then .gone (rsz nn t l) l.length else .arr nn t l
 |k=>k
theorem zmY (ns mv:List Nat) (lo b:Nat) (k:SB):reg (some (xb ns mv lo b k))=reg (some k):=by
 cases k with
 |vars cs=>simp only [xb];cases uk ns lo cs<;>rfl
 |ro cs=>simp only [xb];cases uk ns lo cs<;>rfl
 |arr nn t l=>simp only [xb];cases vf mv b<;>first | rfl | exact zgj _ _ _
 |_=>rfl
theorem zu1 (mv:List Nat) (b:Nat) (k:SB):reg (some (zku mv b k))=reg (some k):=by
 cases k with
 |arr nn t l=>simp only [zku];cases vf mv b<;>first | rfl | exact zgj _ _ _
 |_=>rfl
def ziv:List OPl→List Nat
 |[]=>[]
 |.arr b _ _::r=>b::ziv r
 |.otmp _ _ _ _::r=>ziv r
 |.sblk _ _::r=>ziv r
 |.lp _ _::r=>ziv r
 |.dfd _::r=>ziv r
 |.mpl _ _ _ _::r=>ziv r
def Gy (lo n0:Nat) (σ:List (Nat×Nat)):Bool:=σ.all fun p=>Nat.blt p.1 n0&&(Nat.ble lo p.1||Nat.beq p.1 p.2)
def zEo (ns:List Nat) (dl:List DPl) (ol:List OPl):Bool:=ns.all fun b=>!vf (nmD dl) b&&(vf (ziv ol) b||!vf (nmO ol) b)
theorem zaR {HS HT:SH} {tm:List SV}:∀{ol:List OPl} {vs:List LSt} {y:OS ol} {σ:List (Nat×Nat)},bkO ol vs tm HS=some (y,σ)→YY HT ol y→∀b∈ziv ol,reg (zk HT b)=reg (zk HS b)
 |[],vs,y,σ,h,hO,b,hb=>by cases hb
 |.otmp i c nn t::r,vs,y,σ,h,hO,b,hb=>by
  simp only [bkO] at h
  split at h
  case h_2=>cases h
  split at h
  case h_2=>cases h
  split at h
  case h_2=>cases h
  rename_i h2
  cases h
  exact zaR h2 hO.2 b hb
 |.sblk b0 ks::r,vs,y,σ,h,hO,b,hb=>by
  simp only [bkO] at h
  split at h
  case h_2=>cases h
  split at h
  case h_2=>cases h
  split at h
  case h_2=>cases h
  rename_i h2
  cases h
  exact zaR h2 hO.2 b hb
 |.arr b0 nn t::r,vs,y,σ,h,hO,b,hb=>by
  simp only [bkO] at h
  split at h
  case h_2=>cases h
  rename_i nn' t' l hl
  split at h
  case isFalse=>cases h
  rename_i ht
  subst ht
  have h6:=zx h
  clear h
  obtain ⟨hq,h⟩:=h6
  have:=zji hq
  subst this
  split at h
  case h_2=>cases h
  rename_i h2
  cases h
  rcases List.mem_cons.1 hb with rfl | hb
  ·rw [hO.1,hl];rfl
  ·exact zaR h2 hO.2 b hb
 |.lp b0 L::r,vs,y,σ,h,hO,b,hb=>by
  simp only [bkO] at h
  split at h
  case h_2=>cases h
  have h6:=zx h
  clear h
  obtain ⟨hq,h⟩:=h6
  split at h
  case h_2=>cases h
  rename_i h2
  cases h
  exact zaR h2 hO b hb
 |.dfd b0::r,vs,y,σ,h,hO,b,hb=>by
  simp only [bkO] at h
  split at h
  case h_2=>cases h
  split at h
  case h_2=>cases h
  rename_i h2
  cases h
  exact zaR h2 hO b hb
 |.mpl b0 k ag t::r,vs,y,σ,h,hO,b,hb=>by
  simp only [bkO] at h
  split at h
  case h_2=>cases h
  split at h
  case isFalse=>cases h
  obtain ⟨_,h⟩:=zx h
  split at h
  case h_2=>cases h
  rename_i h2
  cases h
  exact zaR h2 hO b hb
structure Frm where
 dl:List DPl
 ol:List OPl
 tm0:List SV
 ns:List Nat
 mv:List Nat
 lo:Nat
 n0:Nat
 H1:SH
def Frm.pn (F:Frm):List Nat:=nmD F.dl++nmO F.ol
def Frm.HR (F:Frm):SH:=zqc F.pn (xb F.ns F.mv F.lo) F.H1
def Frm.HF (F:Frm):SH:=zqc F.pn (zku F.mv) F.H1
def Frm.hp (F:Frm) (HX:SH) (vs:List LSt) (x:DS F.dl) (y:OS F.ol):SH:=hpD F.dl x++(hpO F.ol vs y++HX)
def Frm.tm (F:Frm) (x:DS F.dl) (y:OS F.ol):List SV:=tmO F.ol y (tmD F.dl x F.tm0)
structure Frm.Ok (F:Frm):Prop where
 names:F.pn.Nodup
 nsl:∀b∈F.ns,b < F.lo
 nsr:zEo F.ns F.dl F.ol=true
 lps:∀l L,OPl.lp l L∈F.ol→uk F.ns F.lo L.tm=true∧L.dfr < F.lo∧zk F.H1 l=some (.loop L)
 tml:uk F.ns F.lo F.tm0=true
 le:F.lo≤F.n0
def Frm.KX (F:Frm) (K:Nat→Prop) (φ1:Ren) (ν:Nat→Bool):Nat→Prop:=Sy.KX K φ1 (kG ν (rho ν F.H1) F.HR)
theorem zxD {ns:List Nat} {lo:Nat}:∀{l:List SV} {i:Nat} {u:SV},uk ns lo l=true→l[i]?=some u→zaO ns lo u=true
 |[],i,u,_,h=>by simp at h
 |a::l,i,u,hl,hi=>by
  simp only [uk,Bool.and_eq_true] at hl
  cases i with
  |zero=>simp at hi;subst hi;exact hl.1
  |succ i=>exact zxD (l:=l) (i:=i) hl.2 (by simpa using hi)
theorem zAX {H HT:SH} {ol:List OPl} {vs:List LSt} {y:OS ol} {σ:List (Nat×Nat)} {tm:List SV} (h:bkO ol vs tm H=some (y,σ)) (hO:YY HT ol y) {b:Nat} (hk:jc (zk (hpO ol vs y) b)=true):∃s t l,(b,s)∈σ∧zk H s=some (.arr true t l):=by
 cases hs:zk (hpO ol vs y) b with
 |none=>rw [hs] at hk;cases hk
 |some k=>
  rw [hs] at hk
  rcases UR h hO hs with ⟨t,rfl⟩ | ⟨s,h1,h2⟩
  ·cases hk
  cases h2 with
  |arr nn t l h=>
   have hk:nn=true:=hk
   subst hk
   exact ⟨s,t,l,h1,h⟩
  |own=>cases hk
  |lp=>cases hk
  |dfd=>cases hk
  |mp=>cases hk
structure Frm.Seen (F:Frm) (K:Nat→Prop) (φ1:Ren) (wE:World) (ν:Nat→Bool) (HX:SH) (vs:List LSt) (x:DS F.dl) (y:OS F.ol) (φ3:Ren) (w:World) (ts:Array Value):Prop where
 good:zA φ3 (zw ν (F.hp HX vs x y)) (F.KX K φ1 ν) w
 tms:qY φ3 (zp (rho ν (F.hp HX vs x y)) (F.tm x y)) ts
 ext:Ext (F.KX K φ1 ν) φ1 φ3 F.lo F.n0
 vn:VN ν F.n0 (F.hp HX vs x y)
 regs:∀b∈F.ns,reg (zk (F.hp HX vs x y) b)=reg (zk F.H1 b)
 went:qC (F.KX K φ1 ν) wE w
section
variable {F:Frm} {φ1 φ2:Ren} {wE:World} {ν:Nat→Bool} {K KA:Nat→Prop} {M nx2:Nat}
theorem zbi (hF:F.Ok) (hvE:VN ν F.lo F.H1)
  {HS0 HS:SH} {tmS:List SV} {vs:List LSt} {x:DS F.dl} {y:OS F.ol} {σ:List (Nat×Nat)} (hv:VN ν nx2 HS)
  (hD:bkD F.dl tmS HS0=some (x,HS)) (hO:bkO F.ol vs tmS HS=some (y,σ)) (hN:Gy F.lo F.n0 (idD F.dl++σ)=true)
  (hregs:∀b∈F.ns,reg (zk HS b)=reg (zk F.H1 b)) :
  YY (F.hp F.HR vs x y) F.ol y∧(∀b,b∉F.pn→zk (F.hp F.HR vs x y) b=(zk F.H1 b).map (xb F.ns F.mv F.lo b))∧(∀b∈F.ns,reg (zk (F.hp F.HR vs x y) b)=reg (zk F.H1 b))∧VN ν F.n0 (F.hp F.HR vs x y):=by
 have hOR:YY (F.hp F.HR vs x y) F.ol y:=by
  have hn:=hF.names
  unfold Frm.pn at hn
  rw [List.nodup_append] at hn
  exact UQ F.ol vs y (hpD F.dl x) F.HR hn.2.1 fun n hm=>Qk fun h=>hn.2.2 n h n hm rfl
 have hRget:∀b,b∉F.pn→zk F.HR b=(zk F.H1 b).map (xb F.ns F.mv F.lo b):=fun b hb=>by
  unfold Frm.HR;rw [vg,if_neg hb]
 have hTget:∀b,b∉F.pn→zk (F.hp F.HR vs x y) b=(zk F.H1 b).map (xb F.ns F.mv F.lo b):=fun b hb=>by
  have h1:b∉nmD F.dl:=fun h=>hb (by simp [Frm.pn,h])
  have h2:b∉nmO F.ol:=fun h=>hb (by simp [Frm.pn,h])
  unfold Frm.hp
  rw [zU,Qk h1,zU,JK h2]
  exact hRget b hb
 have hnsq:∀b∈F.ns,b∉nmD F.dl∧(b∈ziv F.ol∨b∉nmO F.ol):=fun b hb=>by
  have:=hF.nsr
  unfold zEo at this
  rw [List.all_eq_true] at this
  have h2:=this b hb
  simp only [Bool.and_eq_true,Bool.or_eq_true,Bool.not_eq_true'] at h2
  refine ⟨fun h=>?_,?_⟩
  ·rw [(kU _ _).2 h] at h2;cases h2.1
  ·rcases h2.2 with h3 | h3
   ·exact .inl ((kU _ _).1 h3)
   ·refine .inr fun h=>?_
    rw [(kU _ _).2 h] at h3;cases h3
 have hreg:∀b∈F.ns,reg (zk (F.hp F.HR vs x y) b)=reg (zk F.H1 b):=fun b hb=>by
  obtain ⟨h1,h2⟩:=hnsq b hb
  by_cases hm:b∈nmO F.ol
  ·have h3:b∈ziv F.ol:=by rcases h2 with h | h;exact h;exact absurd hm h
   rw [zaR hO hOR b h3,hregs b hb]
  ·rw [hTget b (by simp [Frm.pn,h1,hm])]
   cases hk:zk F.H1 b with
   |none=>rfl
   |some k=>exact zmY _ _ _ _ k
 have hnn:∀b,jc (zk (F.hp F.HR vs x y) b)=true→ν b=false:=fun b hb=>by
  by_cases hp:b∈F.pn
  ·unfold Frm.hp at hb
   rw [zU] at hb
   cases hs1:zk (hpD F.dl x) b with
   |some k=>
    rw [hs1] at hb
    obtain ⟨t,z,cs,rfl,_⟩:=zde (ν:=ν) hD (GLe.refl _) hs1
    cases hb
   |none=>
    rw [hs1] at hb
    simp only at hb
    rw [zU] at hb
    cases hs2:zk (hpO F.ol vs y) b with
    |some k=>
     rw [hs2] at hb
     simp only at hb
     obtain ⟨s,t,l,h1,h2⟩:=zAX hO hOR (b:=b) (by rw [hs2];exact hb)
     have hN':=hN
     unfold Gy at hN'
     rw [List.all_eq_true] at hN'
     have:=hN' (b,s) (by simp [h1])
     simp only [Bool.and_eq_true,Bool.or_eq_true,Nat.blt_eq,Nat.ble_eq] at this
     rcases this.2 with h3 | h3
     ·exact hvE.old b h3
     ·have:=Nat.eq_of_beq_eq_true h3
      subst this
      exact hv.nn b (by rw [h2];rfl)
    |none=>
     rw [hs2] at hb
     simp only at hb
     unfold Frm.HR at hb
     rw [vg,if_pos hp] at hb
     cases hb
  ·rw [hTget b hp] at hb
   cases hk:zk F.H1 b with
   |none=>rw [hk] at hb;cases hb
   |some k=>
    rw [hk] at hb
    refine hvE.nn b ?_
    rw [hk]
    cases k with
    |arr nn t l=>
     simp only [Option.map_some,xb] at hb
     cases hm:vf F.mv b with
     |true=>rw [hm] at hb;cases hb
     |false=>rw [hm] at hb;exact hb
    |roa nn t l=>exact hb
    |vars cs=>
     simp only [Option.map_some,xb] at hb
     cases hm:uk F.ns F.lo cs<;>rw [hm] at hb<;>cases hb
    |ro cs=>
     simp only [Option.map_some,xb] at hb
     cases hm:uk F.ns F.lo cs<;>rw [hm] at hb<;>cases hb
    |_=>cases hb
 have hvT:VN ν F.n0 (F.hp F.HR vs x y):=by
  exact ⟨fun b n hr=>zaL hr,fun b hb=>hvE.old b (Nat.le_trans hF.le hb),hnn⟩
 exact ⟨hOR,hTget,hreg,hvT⟩
theorem zmZ (hF:F.Ok) (gE:zA φ1 (zw ν F.H1) K wE) (hfr:vv φ1 F.lo M) (hM:F.n0≤M) (hvE:VN ν F.lo F.H1)
  {HS0 HS:SH} {Hs:Hp} {tmS:List SV} {ts:Array Value} {vs:List LSt} {x:DS F.dl} {y:OS F.ol} {σ:List (Nat×Nat)}
  (e2:Ext (F.KX K φ1 ν) φ1 φ2 F.lo M) (hw:qC (F.KX K φ1 ν) wE w) (gA:zA φ2 (zw ν HS) KA w) (gB:zA φ2 Hs (F.KX K φ1 ν) w) (hv:VN ν nx2 HS)
  (hD:bkD F.dl tmS HS0=some (x,HS)) (hO:bkO F.ol vs tmS HS=some (y,σ)) (hQ:zaQ (idD F.dl++σ)=true) (hN:Gy F.lo F.n0 (idD F.dl++σ)=true)
  (hs:∀p∈idD F.dl++σ,Hs.get p.2=(zw ν HS).get p.2) (hregs:∀b∈F.ns,reg (zk HS b)=reg (zk F.H1 b))
  (ht:qY φ2 (zp (rho ν HS) tmS) ts) (hlen:tmS.length=F.tm0.length) (hsame:∀(i:Nat) u,F.tm0[i]?=some u→u≠.junk→tmS[i]?=some u)
  (hlp:∀l L,OPl.lp l L∈F.ol→∀L',zk HS l=some (.loop L')→∃s p,L'={L with st:=s,pend:=p}) :
  ∃φ3,F.Seen K φ1 wE ν F.HR vs x y φ3 w ts:=by
 let σ':=idD F.dl++σ
 let φ3:Ren:=fun b=>if b < FZ then (if F.lo≤b∧b < F.n0 then φ2 (lkS σ' b) else φ1 b) else φ2 b
 have hz:F.n0≤FZ:=Nat.le_trans hM hfr.1
 have f1:∀b,φ3 (FZ+b)=φ2 (FZ+b):=fun b=>by
  have:¬FZ+b < FZ:=by omega
  simp only [φ3,this,if_false]
 have f2:∀b,b < F.lo→φ3 b=φ1 b:=fun b hb=>by
  have h1:b < FZ:=by have:=hF.le;omega
  have h2:¬(F.lo≤b∧b < F.n0):=by omega
  simp only [φ3,h1,h2,if_true,if_false]
 have f3:∀b,b < F.lo→φ3 b=φ2 b:=fun b hb=>by
  rw [f2 b hb,e2.2.1 b (by have:=hF.le;omega) (.inl hb)]
 have f4:∀p∈σ',φ3 p.1=φ2 p.2:=fun p hp=>by
  have hN':=hN
  unfold Gy at hN'
  rw [List.all_eq_true] at hN'
  have:=hN' p hp
  simp only [Bool.and_eq_true,Bool.or_eq_true,Nat.blt_eq,Nat.ble_eq] at this
  obtain ⟨h1,h2⟩:=this
  by_cases hlo:F.lo≤p.1
  ·have h3:p.1 < FZ:=by omega
   simp only [φ3,h3,if_true,hlo,h1,and_self]
   rw [show lkS σ' p.1=p.2 from zoA hQ hp]
  ·have h4:p.1=p.2:=by
    rcases h2 with h2 | h2
    ·exact absurd h2 hlo
    ·exact Nat.eq_of_beq_eq_true h2
   rw [f3 _ (by omega),h4]
 have e3:Ext (F.KX K φ1 ν) φ1 φ3 F.lo F.n0:=by
  refine ⟨fun b L hL=>?_,fun b hb hb2=>?_,fun b L hL=>?_⟩
  ·by_cases hb:b < FZ
   ·have h2:¬(F.lo≤b∧b < F.n0):=fun h=>by
     rw [hfr.2 b h.1 (by omega)] at hL;cases hL
    simp only [φ3,hb,h2,if_true,if_false];exact hL
   ·simp only [φ3,hb,if_false];exact e2.1 b L hL
  ·have h2:¬(F.lo≤b∧b < F.n0):=by omega
   simp only [φ3,hb,h2,if_true,if_false]
  ·rw [f1] at hL;exact e2.2.2 b L hL
 obtain ⟨hOR,hTget,hreg,hvT⟩:=zbi hF hvE hv hD hO hN hregs
 have hnn:=hvT.nn
 have hRget:∀b,b∉F.pn→zk F.HR b=(zk F.H1 b).map (xb F.ns F.mv F.lo b):=fun b hb=>by
  unfold Frm.HR;rw [vg,if_neg hb]
 have hFz:∀b L,φ1 (FZ+b)=some L→φ3 (FZ+b)=some L:=fun b L h=>e3.1 _ L h
 have hlow:∀(v:SV) (v':Value),zaO F.ns F.lo v=true→zo φ1 (den (rho ν F.H1) v) v'→zo φ3 (den (rho ν (F.hp F.HR vs x y)) v) v':=zoz (fun b hb=>f2 b hb) hFz hF.nsl hreg
 have hlowL:∀(vs':List SV) (us:List Value),uk F.ns F.lo vs'=true→zy φ1 (zp (rho ν F.H1) vs') us→zy φ3 (zp (rho ν (F.hp F.HR vs x y)) vs') us:=zdc (fun b hb=>f2 b hb) hFz hF.nsl hreg
 refine ⟨φ3,?_,?_,e3,hvT,hreg,hw⟩
 ·refine zCr rfl gA gB hv hnn hD hO hQ hs f4 f3 f1 hOR hF.nsl (fun b hb=>by rw [hreg b hb,hregs b hb]) (fun l L hL=>⟨(hF.lps l L hL).1,(hF.lps l L hL).2.1,hlp l L hL⟩) ?_
  intro b k hk kd hkd
  have hp:b∉F.pn:=fun h=>by
   unfold Frm.HR at hk
   rw [vg,if_pos h] at hk;cases hk
  rw [hRget b hp] at hk
  rw [Option.map_eq_some_iff] at hk
  obtain ⟨kH,hkH,rfl⟩:=hk
  have base:∀kE,zT (rho ν F.H1) (ν b) kH=some kE→(∃kv,zT (rho ν F.H1) (ν b) (xb F.ns F.mv F.lo b kH)=some kv)→∃L,φ3 b=some L∧jN φ1 w L kE∧F.KX K φ1 ν L.blk:=fun kE hkE hkv=>by
   obtain ⟨kv,hkv⟩:=hkv
   obtain ⟨L,hL,hB⟩:=gE.rel b kE (by rw [zF,hkH];exact hkE)
   have hK:F.KX K φ1 ν L.blk:=.inr ⟨b,kv,L,by rw [uu,hRget b hp,hkH];exact hkv,hL,rfl⟩
   exact ⟨L,e3.1 b L hL,jN.congr (hw.kept _ hK) hB,hK⟩
  have hidE:∀kE,zT (rho ν F.H1) (ν b) kH=some kE→xb F.ns F.mv F.lo b kH=.hid→kd.rw=false∧∃L,φ3 b=some L∧jN φ3 w L kd∧F.KX K φ1 ν L.blk:=fun kE hkE hh=>by
   rw [hh] at hkd
   simp only [zT,Option.some.injEq] at hkd
   subst hkd
   obtain ⟨L,h1,h2,h3⟩:=base kE hkE ⟨.hid,by rw [hh];rfl⟩
   exact ⟨rfl,L,h1,(jN.hid_of h2).mono e3.1,h3⟩
  cases kH with
  |vars cs=>
   cases hl:uk F.ns F.lo cs with
   |false=>exact hidE _ rfl (by simp only [xb,hl,cond_false])
   |true=>
    simp only [xb,hl,cond_true,zT,Option.some.injEq] at hkd
    subst hkd
    obtain ⟨L,h1,h2,h3⟩:=base _ rfl ⟨.cells (zp (rho ν F.H1) cs) true,by simp only [xb,hl,cond_true,zT]⟩
    obtain ⟨arr,el,fr,q1,q2,q3⟩:=h2
    exact ⟨rfl,L,h1,zbT (cs:=zp (rho ν F.H1) cs) ⟨arr,el,fr,q1,q2,fun h=>by cases h⟩ (fun us hu=>hlowL cs us hl hu),h3⟩
  |ro cs=>
   cases hl:uk F.ns F.lo cs with
   |false=>exact hidE _ rfl (by simp only [xb,hl,cond_false])
   |true=>
    simp only [xb,hl,cond_true,zT,Option.some.injEq] at hkd
    subst hkd
    obtain ⟨L,h1,h2,h3⟩:=base _ rfl ⟨.cells (zp (rho ν F.H1) cs) true,by simp only [xb,hl,cond_true,zT]⟩
    exact ⟨rfl,L,h1,zbT (cs:=zp (rho ν F.H1) cs) h2 (fun us hu=>hlowL cs us hl hu),h3⟩
  |arr nn t l=>
   cases hm:vf F.mv b with
   |true=>simp only [xb,hm,cond_true,zT,reduceCtorEq] at hkd
   |false=>
    simp only [xb,hm,cond_false,zT] at hkd
    cases hn:jP nn l with
    |true=>rw [hn] at hkd;cases hkd
    |false=>
     rw [hn] at hkd
     simp only [cond_false,Option.some.injEq] at hkd
     subst hkd
     obtain ⟨L,h1,h2,h3⟩:=base (.cells (zX t l) false) (by simp only [zT,hn,cond_false]) ⟨.cells (zX t l) true,by simp only [xb,hm,cond_false,zT,hn]⟩
     obtain ⟨arr,el,fr,q1,q2,q3⟩:=h2
     exact ⟨rfl,L,h1,jN.mono e3.1 (k:=.cells (zX t l) true) ⟨arr,el,fr,q1,q2,fun h=>by cases h⟩,h3⟩
  |roa nn t l=>
   simp only [xb,zT] at hkd
   cases hn:jP nn l with
   |true=>rw [hn] at hkd;cases hkd
   |false=>
    rw [hn] at hkd
    simp only [cond_false,Option.some.injEq] at hkd
    subst hkd
    obtain ⟨L,h1,h2,h3⟩:=base (.cells (zX t l) true) (by simp only [zT,hn,cond_false]) ⟨.cells (zX t l) true,by simp only [xb,zT,hn,cond_false]⟩
    exact ⟨rfl,L,h1,h2.mono e3.1,h3⟩
  |fro nn t l=>
   simp only [xb,zT] at hkd
   cases hn:jP nn l with
   |true=>rw [hn] at hkd;cases hkd
   |false=>
    rw [hn] at hkd
    simp only [cond_false,Option.some.injEq] at hkd
    subst hkd
    obtain ⟨L,h1,h2,h3⟩:=base (.fzc (zX t l)) (by simp only [zT,hn,cond_false]) ⟨.fzc (zX t l),by simp only [xb,zT,hn,cond_false]⟩
    exact ⟨rfl,L,h1,h2.mono e3.1,h3⟩
  |gone s n=>simp only [xb,zT,reduceCtorEq] at hkd
  |loop L=>exact hidE _ rfl rfl
  |defd=>exact hidE _ rfl rfl
  |hid=>exact hidE _ rfl rfl
  |mpb k ag t l=>exact hidE _ rfl rfl
  |mpf k l=>exact hidE _ rfl rfl
  |abs=>simp only [xb,zT,reduceCtorEq] at hkd
 ·have hF2:∀b L,φ2 (FZ+b)=some L→φ3 (FZ+b)=some L:=fun b L h=>by rw [f1];exact h
  have hlow2:∀(v:SV) (v':Value),zaO F.ns F.lo v=true→zo φ2 (den (rho ν HS) v) v'→zo φ3 (den (rho ν (F.hp F.HR vs x y)) v) v':=zoz f3 hF2 hF.nsl (fun b hb=>by rw [hreg b hb,hregs b hb])
  have h0:qY φ3 (zp (rho ν (F.hp F.HR vs x y)) F.tm0) ts:=by
   refine ⟨by have:=ht.1;rw [wU] at this ⊢;omega,fun i v hv'=>?_⟩
   rw [yI,Option.map_eq_some_iff] at hv'
   obtain ⟨u,hu,rfl⟩:=hv'
   by_cases hj:u=.junk
   ·subst hj;exact .inl (by simp [den])
   ·rcases ht.2 i (den (rho ν HS) u) (by rw [yI,hsame i u hu hj];rfl) with hq | ⟨v',q1,q2⟩
    ·exact absurd (zfQ hq) hj
    ·exact .inr ⟨v',q1,hlow2 u v' (zxD hF.tml hu) q2⟩
  unfold Frm.tm
  refine zaP hv hnn ht hO hOR (fun p hp=>f4 p (by simp [σ',hp])) ?_
  exact zgp gA hv hF2 hD (GLe.refl _) ht h0
end
end Go.Fz.Sy
namespace Go.Fz.Sy
variable {P:Program} {φ:Ren} {K:Nat→Prop} {w:World} {R:Type}
theorem zkv {X S:Type} {B:S→Option (X ⊕ S)} {I:S→Prop} {J:X→Prop} (h:∀s r,B s=some r→I s→match r with | .inl x=>J x | .inr s'=>I s'):∀(N:Nat) (s:S) (x:X),qb B N s=some x→I s→J x
 |0,s,x,hi,hI=>by cases hi
 |N+1,s,x,hi,hI=>by
  rw [Kp] at hi
  split at hi
  ·rename_i y hB;cases hi;exact h s _ hB hI
  ·rename_i s' hB;exact zkv h N s' x hi (h s _ hB hI)
  ·cases hi
theorem bigNS:∃n:Nat,1180591620717411303424≤n:=⟨1180591620717411303424,Nat.le_refl _⟩
def qw:Nat:=Classical.choose bigNS
theorem zzE:1180591620717411303424≤qw:=Classical.choose_spec bigNS
def zgq (ol:List OPl) (y:OS ol) (f:OS ol→Option R):Option R:=f y
theorem VW (ol:List OPl) (y:OS ol) (f:OS ol→Option R):zgq ol y f=f y:=rfl
def zkw:List DPl→List Nat
 |[]=>[]
 |.tmp i _::r=>i::zkw r
 |.blk _ _::r=>zkw r
 |.frz _ _::r=>zkw r
 |.npt i::r=>i::zkw r
def ziw:List OPl→List Nat
 |[]=>[]
 |.otmp i _ _ _::r=>i::ziw r
 |.sblk _ _::r=>ziw r
 |.arr _ _ _::r=>ziw r
 |.lp _ _::r=>ziw r
 |.dfd _::r=>ziw r
 |.mpl _ _ _ _::r=>ziw r
theorem zjj {i:Nat}:∀{dl:List DPl} {x:DS dl} {tm:List SV},i∉zkw dl→(tmD dl x tm)[i]?=tm[i]?
 |[],x,tm,h=>rfl
 |.tmp j vt::r,x,tm,h=>by
  simp only [zkw,List.mem_cons,not_or] at h
  simp only [tmD]
  rw [zjj h.2,Qg,List.getElem?_set,if_neg (Ne.symm h.1)]
 |.blk b t::r,x,tm,h=>by simp only [tmD];exact zjj (dl:=r) h
 |.frz b t::r,x,tm,h=>by simp only [tmD];exact zjj (dl:=r) h
 |.npt j::r,x,tm,h=>by
  simp only [zkw,List.mem_cons,not_or] at h
  simp only [tmD]
  rw [zjj h.2,Qg,List.getElem?_set,if_neg (Ne.symm h.1)]
theorem zdf {i:Nat}:∀{ol:List OPl} {y:OS ol} {tm:List SV},i∉ziw ol→(tmO ol y tm)[i]?=tm[i]?
 |[],y,tm,h=>rfl
 |.otmp j c nn t::r,y,tm,h=>by
  simp only [ziw,List.mem_cons,not_or] at h
  simp only [tmO]
  rw [zdf h.2,Qg,List.getElem?_set,if_neg (Ne.symm h.1)]
 |.sblk b ks::r,y,tm,h=>by simp only [tmO];exact zdf (ol:=r) h
 |.arr b nn t::r,y,tm,h=>by simp only [tmO];exact zdf (ol:=r) h
 |.lp b t::r,y,tm,h=>by simp only [tmO];exact zdf (ol:=r) h
 |.dfd b::r,y,tm,h=>by simp only [tmO];exact zdf (ol:=r) h
 |.mpl _ _ _ _::r,y,tm,h=>by simp only [tmO];exact zdf (ol:=r) h
theorem zjk:∀{dl:List DPl} {x:DS dl} {tm:List SV},(tmD dl x tm).length=tm.length
 |[],x,tm=>rfl
 |.tmp j vt::r,x,tm=>by simp only [tmD];rw [zjk,Qg];simp
 |.blk b t::r,x,tm=>by simp only [tmD];exact zjk
 |.frz b t::r,x,tm=>by simp only [tmD];exact zjk
 |.npt j::r,x,tm=>by simp only [tmD];rw [zjk,Qg];simp
theorem zdg:∀{ol:List OPl} {y:OS ol} {tm:List SV},(tmO ol y tm).length=tm.length
 |[],y,tm=>rfl
 |.otmp j c nn t::r,y,tm=>by simp only [tmO];rw [zdg,Qg];simp
 |.sblk b ks::r,y,tm=>by simp only [tmO];exact zdg (ol:=r)
 |.arr b nn t::r,y,tm=>by simp only [tmO];exact zdg (ol:=r)
 |.lp b t::r,y,tm=>by simp only [tmO];exact zdg (ol:=r)
 |.dfd b::r,y,tm=>by simp only [tmO];exact zdg (ol:=r)
 |.mpl _ _ _ _::r,y,tm=>by simp only [tmO];exact zdg (ol:=r)
def Gz (zIn:List Nat):Nat→List SV→List SV
 |_,[]=>[]
 |i,v::r=>(bif vf zIn i then .junk else v)::Gz zIn (i+1) r
theorem Wa (zIn:List Nat):∀(l:List SV) (i j:Nat),(Gz zIn i l)[j]?=(l[j]?).map fun v=>if i+j∈zIn then .junk else v
 |[],i,j=>by simp [Gz]
 |v::l,i,0=>by
  simp only [Gz,List.getElem?_cons_zero,Option.map_some,Nat.add_zero]
  cases h:vf zIn i with
  |true=>simp [(kU _ _).1 h]
  |false=>
   have:i∉zIn:=fun e=>by rw [(kU _ _).2 e] at h;cases h
   simp [this]
 |v::l,i,j+1=>by
  simp only [Gz,List.getElem?_cons_succ]
  rw [Wa zIn l (i+1) j]
  have:i+1+j=i+(j+1):=by omega
  rw [this]
theorem YZ (zIn:List Nat):∀(l:List SV) (i:Nat),(Gz zIn i l).length=l.length
 |[],i=>rfl
 |v::l,i=>by simp [Gz,YZ zIn l]
theorem zgr {l:Nat} {L:SL}:∀(ol:List OPl) (vs:List LSt) (y:OS ol) (pre post:SH),(nmO ol).Nodup→(∀n∈nmO ol,zk pre n=none)→OPl.lp l L∈ol→∃vs',zk (pre++(hpO ol vs y++post)) l=some (.loop (stO L vs'))
 |[],vs,y,pre,post,hn,hp,hm=>by cases hm
 |.otmp i c nn t::r,vs,y,pre,post,hn,hp,hm=>by
  simp only [nmO,List.nodup_cons] at hn
  simp only [nmO,List.mem_cons,forall_eq_or_imp] at hp
  have hm:OPl.lp l L∈r:=by simpa using hm
  have:=zgr r vs y.2 (pre++[(c,.arr nn t y.1)]) post hn.2 (fun n hm=>by
    rw [zU,hp.2 n hm]
    show zk [(c,_)] n=none
    rw [zG,if_neg (fun e=>hn.1 (by rw [e];exact hm))];rfl) hm
  have e:pre++[(c,SB.arr nn t y.1)]++(hpO r vs y.2++post)=pre++(hpO (.otmp i c nn t::r) vs y++post):=by simp [hpO]
  rw [e] at this;exact this
 |.sblk b ks::r,vs,y,pre,post,hn,hp,hm=>by
  simp only [nmO,List.nodup_cons,List.mem_append,not_or,List.nodup_append] at hn
  simp only [nmO,List.mem_cons,List.mem_append,forall_eq_or_imp] at hp
  have hm:OPl.lp l L∈r:=by simpa using hm
  have:=zgr r vs y.2 (pre++(b,.vars (zdd ks y.1))::Jh ks y.1) post hn.2.2.1 (fun n hm=>by
    rw [zU,hp.2 n (.inr hm)]
    show zk ((b,_)::_) n=none
    rw [zG,if_neg (fun e=>hn.1.2 (by rw [e];exact hm))]
    exact zbS (fun h=>hn.2.2.2 n h n hm rfl)) hm
  have e:(pre++(b,.vars (zdd ks y.1))::Jh ks y.1)++(hpO r vs y.2++post)=pre++(hpO (.sblk b ks::r) vs y++post):=by
   simp [hpO]
  rw [e] at this;exact this
 |.arr b nn t::r,vs,y,pre,post,hn,hp,hm=>by
  simp only [nmO,List.nodup_cons] at hn
  simp only [nmO,List.mem_cons,forall_eq_or_imp] at hp
  have hm:OPl.lp l L∈r:=by simpa using hm
  have:=zgr r vs y.2 (pre++[(b,.arr nn t y.1)]) post hn.2 (fun n hm=>by
    rw [zU,hp.2 n hm]
    show zk [(b,_)] n=none
    rw [zG,if_neg (fun e=>hn.1 (by rw [e];exact hm))];rfl) hm
  have e:(pre++[(b,SB.arr nn t y.1)])++(hpO r vs y.2++post)=pre++(hpO (.arr b nn t::r) vs y++post):=by simp [hpO]
  rw [e] at this;exact this
 |.lp b L'::r,vs,y,pre,post,hn,hp,hm=>by
  simp only [nmO,List.nodup_cons] at hn
  simp only [nmO,List.mem_cons,forall_eq_or_imp] at hp
  rcases List.mem_cons.1 hm with he | hm
  ·cases he
   refine ⟨vs,?_⟩
   simp only [hpO]
   rw [zU,hp.1]
   simp [zG]
  ·have:=zgr r vs.tail y.2 (pre++[(b,.loop (stO L' vs))]) post hn.2 (fun n hm=>by
    rw [zU,hp.2 n hm]
    show zk [(b,_)] n=none
    rw [zG,if_neg (fun e=>hn.1 (by rw [e];exact hm))];rfl) hm
   have e:(pre++[(b,SB.loop (stO L' vs))])++(hpO r vs.tail y.2++post)=pre++(hpO (.lp b L'::r) vs y++post):=by simp [hpO]
   rw [e] at this;exact this
 |.dfd b::r,vs,y,pre,post,hn,hp,hm=>by
  simp only [nmO,List.nodup_cons] at hn
  simp only [nmO,List.mem_cons,forall_eq_or_imp] at hp
  have hm:OPl.lp l L∈r:=by simpa using hm
  have:=zgr r vs y.2 (pre++[(b,.defd)]) post hn.2 (fun n hm=>by
    rw [zU,hp.2 n hm]
    show zk [(b,_)] n=none
    rw [zG,if_neg (fun e=>hn.1 (by rw [e];exact hm))];rfl) hm
  have e:(pre++[(b,SB.defd)])++(hpO r vs y.2++post)=pre++(hpO (.dfd b::r) vs y++post):=by simp [hpO]
  rw [e] at this;exact this
 |.mpl b k ag t::r,vs,y,pre,post,hn,hp,hm=>by
  simp only [nmO,List.nodup_cons] at hn
  simp only [nmO,List.mem_cons,forall_eq_or_imp] at hp
  have hm:OPl.lp l L∈r:=by simpa using hm
  have:=zgr r vs y.2 (pre++[(b,.mpb k ag t y.1)]) post hn.2 (fun n hm=>by
    rw [zU,hp.2 n hm]
    show zk [(b,_)] n=none
    rw [zG,if_neg (fun e=>hn.1 (by rw [e];exact hm))];rfl) hm
  have e:(pre++[(b,SB.mpb k ag t y.1)])++(hpO r vs y.2++post)=pre++(hpO (.mpl b k ag t::r) vs y++post):=by simp [hpO]
  rw [e] at this;exact this
def Frm.S (F:Frm):Type:=DS F.dl×OS F.ol
def rdy:List OPl→List LSt
 |[]=>[]
 |.lp _ _::r=>(.ready,none)::rdy r
 |.otmp _ _ _ _::r=>rdy r
 |.sblk _ _::r=>rdy r
 |.arr _ _ _::r=>rdy r
 |.dfd _::r=>rdy r
 |.mpl _ _ _ _::r=>rdy r
def Kq (F:Frm) (vs:List LSt) (tm:List SV) (H:SH):Option F.S:=match bkD F.dl tm H with
 |some (x,H1)=>match bkO F.ol vs tm H1 with
  |some (y,σ)=>bif zaQ (idD F.dl++σ)&&Gy F.lo F.n0 (idD F.dl++σ) then some (x,y) else none
  |none=>none
 |none=>none
theorem zrJ {F:Frm} {vs:List LSt} {tm:List SV} {H:SH} {s:F.S} (h:Kq F vs tm H=some s):∃H1 σ,bkD F.dl tm H=some (s.1,H1)∧bkO F.ol vs tm H1=some (s.2,σ)∧zaQ (idD F.dl++σ)=true∧Gy F.lo F.n0 (idD F.dl++σ)=true:=by
 unfold Kq at h
 split at h
 case h_2=>cases h
 rename_i x H1 h1
 split at h
 case h_2=>cases h
 rename_i y σ h2
 have h6:=zx h
 obtain ⟨hq,h3⟩:=h6
 simp only [Bool.and_eq_true] at hq
 cases h3
 exact ⟨H1,σ,h1,h2,hq.1,hq.2⟩
def zdS:Exit→Exit→Bool
 |.normal,.normal=>true
 |.ret,.ret=>true
 |.exit i,.exit j=>Nat.beq i j
 |.goto i,.goto j=>Nat.beq i j
 |_,_=>false
theorem zgs {a b:Exit} (h:zdS a b=true):a=b:=by
 unfold zdS at h
 split at h<;>first | rfl | (rw [Nat.eq_of_beq_eq_true h]) | cases h
def zoB:List Nat→List Nat→Bool
 |[],[]=>true
 |a::r,b::s=>Nat.beq a b&&zoB r s
 |_,_=>false
theorem zkx:∀{a b:List Nat},zoB a b=true→a=b
 |[],[],_=>rfl
 |a::r,b::s,h=>by
  simp only [zoB,Bool.and_eq_true] at h
  rw [Nat.eq_of_beq_eq_true h.1,zkx h.2]
 |[],_::_,h=>by cases h
 |_::_,[],h=>by cases h
abbrev Xs:=List (Exit×List LSt)
def ztE (F:Frm) (S:Ug):Xs→Nat→Option ((Nat×F.S) ⊕ F.S)
 |[],_=>none
 |(e,vs)::r,j=>bif zdS S.e e then match Kq F vs S.tm S.H with
   |some s=>some (.inl (j,s))
   |none=>ztE F S r (j+1)
  else ztE F S r (j+1)
theorem zu2 {F:Frm} {S:Ug} {r:(Nat×F.S) ⊕ F.S}:∀{xs:Xs} {j:Nat},ztE F S xs j=some r→∃i vs s,r=.inl (j+i,s)∧xs[i]?=some (S.e,vs)∧Kq F vs S.tm S.H=some s
 |[],j,h=>by cases h
 |(e,vs)::xs,j,h=>by
  have rec_:ztE F S xs (j+1)=some r→∃i vs' s,r=.inl (j+i,s)∧((e,vs)::xs)[i]?=some (S.e,vs')∧Kq F vs' S.tm S.H=some s:=fun h=>by
   obtain ⟨i,vs',s,h1,h2,h3⟩:=zu2 h
   exact ⟨i+1,vs',s,by rw [h1];congr 2;omega,by simpa using h2,h3⟩
  simp only [ztE] at h
  rcases vB h with ⟨h1,h2⟩ | ⟨_,h2⟩
  ·split at h2
   ·rename_i s hs
    cases h2
    exact ⟨0,vs,s,rfl,by rw [zgs h1];rfl,hs⟩
   ·exact rec_ h2
  ·exact rec_ h2
def zgt (cont:Exit→Bool) (E:(R:Type)→EvS R) (F:Frm) (rd:Option Nat) (c:Code) (ds:List Nat) (M:Nat) (xs:Xs) (s:F.S):Option ((Nat×F.S) ⊕ F.S):=
 zgq F.ol s.2 fun y=>(E _).code rd c (F.tm s.1 y) ds (F.hp F.HR (rdy F.ol) s.1 y) F.n0 fun S=>
  bif
    Nat.ble S.nx M&&zoB ds S.ds then bif cont S.e then match Kq F (rdy F.ol) S.tm S.H with
    |some s'=>some (.inr s')
    |none=>none
   else ztE F S xs 0
  else none
structure Frm.OkC (F:Frm) (c:Code):Prop extends F.Ok where
 nss:∀b∈F.ns,∃x,reg (zk F.H1 b)=some x
 junk:∀i∈asg c,∀u,F.tm0[i]?=some u→u=.junk
 tmn:∀i,i∈zkw F.dl∨i∈ziw F.ol→i∈asg c
theorem Frm.tm_get {F:Frm} {c:Code} (hF:F.OkC c) {x:DS F.dl} {y:OS F.ol} {i:Nat} (hi:i∉asg c):(F.tm x y)[i]?=F.tm0[i]?:=by
 unfold Frm.tm
 rw [zdf (fun h=>hi (hF.tmn i (.inr h))),zjj (fun h=>hi (hF.tmn i (.inl h)))]
theorem Frm.tm_len {F:Frm} {x:DS F.dl} {y:OS F.ol}:(F.tm x y).length=F.tm0.length:=by
 unfold Frm.tm
 rw [zdg,zjk]
def Frm.St1 (F:Frm) (ν:Nat→Bool) (vs:List LSt) (s:F.S):Prop:=VN ν F.n0 (F.hp F.HR vs s.1 s.2)∧∀b∈F.ns,reg (zk (F.hp F.HR vs s.1 s.2) b)=reg (zk F.H1 b)
theorem zu3 {φ1 φ2:Ren} (h:φ1.le φ2):∀{ds:List Nat} {xs ys:List Deferred},ZX φ1 ds xs→ZX φ2 ds ys→ZX φ1 ds ys
 |[],[],ys,_,h2=>by cases ys<;>simp [ZX] at h2 ⊢
 |d::ds,x::xs,y::ys,h1,h2=>by
  obtain ⟨⟨L,a1,a2⟩,a3⟩:=h1
  obtain ⟨⟨M,b1,b2⟩,b3⟩:=h2
  rw [h d L a1] at b1;cases b1
  exact ⟨⟨L,a1,b2⟩,zu3 h a3 b3⟩
 |[],_::_,ys,h1,_=>h1.elim
 |_::_,[],ys,h1,_=>h1.elim
 |d::ds,x::xs,[],_,h2=>h2.elim
section
variable {cont:Exit→Bool} {F:Frm} {c:Code} {rd:Option Nat} {ds:List Nat} {M:Nat} {xs:Xs} {E:(R:Type)→EvS R} {ν:Nat→Bool}
theorem zEp (L:SL) (vs:List LSt):∃s p,stO L vs={L with st:=s,pend:=p}:=by
 cases vs with
 |nil=>exact ⟨L.st,L.pend,rfl⟩
 |cons v r=>exact ⟨v.1,v.2,rfl⟩
theorem Frm.lp_at (hF:F.OkC c) {vs:List LSt} {x:DS F.dl} {y:OS F.ol} {HX:SH} {l:Nat} {L:SL} (hl:OPl.lp l L∈F.ol):∃s p,zk (F.hp HX vs x y) l=some (.loop {L with st:=s,pend:=p}):=by
 have hn:=hF.names
 unfold Frm.pn at hn
 rw [List.nodup_append] at hn
 obtain ⟨vs',h⟩:=zgr F.ol vs y (hpD F.dl x) HX hn.2.1 (fun n hm=>Qk fun h=>hn.2.2 n h n hm rfl) hl
 obtain ⟨s,p,e⟩:=zEp L vs'
 exact ⟨s,p,by rw [←e];exact h⟩
theorem zky (hE:∀R,(E R).Ok P) (hF:F.OkC c) (hvE:VN ν F.lo F.H1) {s:F.S} {r:(Nat×F.S) ⊕ F.S} (h:zgt cont E F rd c ds M xs s=some r) :
  ∃
   S:Ug,Ya P rd c (F.tm s.1 s.2) ds (F.hp F.HR (rdy F.ol) s.1 s.2) F.n0 S∧S.nx≤M∧S.ds=ds∧
   ∃vs s',Kq F vs S.tm S.H=some s'∧((cont S.e=true∧r=.inr s'∧vs=rdy F.ol)∨(cont S.e=false∧∃j,r=.inl (j,s')∧xs[j]?=some (S.e,vs))):=by
 unfold zgt at h
 rw [VW] at h
 obtain ⟨S,h1,h2⟩:=(hE _).code h
 have h6:=zx h2
 clear h2
 obtain ⟨hq,h2⟩:=h6
 simp only [Bool.and_eq_true,Nat.ble_eq] at hq
 refine ⟨S,h1,hq.1,(zkx hq.2).symm,?_⟩
 rcases vB h2 with ⟨he,h2⟩ | ⟨he,h2⟩
 ·split at h2
  case h_2=>cases h2
  rename_i s' hs'
  cases h2
  exact ⟨_,s',hs',.inl ⟨he,rfl,rfl⟩⟩
 ·obtain ⟨i,vs,s',e1,e2,e3⟩:=zu2 h2
  exact ⟨vs,s',e3,.inr ⟨he,i,by rw [e1];simp,e2⟩⟩
theorem zhW (hE:∀R,(E R).Ok P) (hF:F.OkC c) (hvE:VN ν F.lo F.H1) {s:F.S} {S:Ug} (hS:Ya P rd c (F.tm s.1 s.2) ds (F.hp F.HR (rdy F.ol) s.1 s.2) F.n0 S) (h0:F.St1 ν (rdy F.ol) s) {vs:List LSt} {s':F.S} (hb:Kq F vs S.tm S.H=some s'):F.St1 ν vs s':=by
 obtain ⟨H1,σ,b1,b2,b3,b4⟩:=zrJ hb
 obtain ⟨a1,a2,a3,a4,a5⟩:=hS
 have hg:=(ZO b1).1
 obtain ⟨q1,q2,q3,q4⟩:=zbi hF.toOk hvE (hg.vn (a5 ν h0.1).1) b1 b2 b4 (fun b hb=>by
  obtain ⟨z,hz⟩:=hF.nss b hb
  rw [hg.reg b,hz]
  exact a1 b z (by rw [h0.2 b hb];exact hz))
 exact ⟨q4,q3⟩
theorem zhX (hE:∀R,(E R).Ok P) (hF:F.OkC c) {φ1:Ren} {wE:World} (gE:zA φ1 (zw ν F.H1) K wE) (hfr:vv φ1 F.lo M) (hM:F.n0≤M) (hvE:VN ν F.lo F.H1) {rc:Option Nat} (hrd:UI φ1 rd rc)
  {s:F.S} {S:Ug} (hS:Ya P rd c (F.tm s.1 s.2) ds (F.hp F.HR (rdy F.ol) s.1 s.2) F.n0 S) (hnx:S.nx≤M) (hds:S.ds=ds) {vs:List LSt} {s':F.S} (hb:Kq F vs S.tm S.H=some s')
  {φ:Ren} {a:Act} (hI:F.Seen K φ1 wE ν F.HR (rdy F.ol) s.1 s.2 φ w a.tmps) (hd:ZX φ1 ds a.defers) :
  c.wpIn (fw rc) 0 P (fun e a' w'=>e=S.e∧∃φ',F.Seen K φ1 wE ν F.HR vs s'.1 s'.2 φ' w' a'.tmps∧ZX φ1 ds a'.defers) a w:=by
 obtain ⟨H1,σ,b1,b2,b3,b4⟩:=zrJ hb
 obtain ⟨a1,a2,a3,a4,a5⟩:=hS
 obtain ⟨v1,o1⟩:=a5 ν hI.vn
 have hfr2:vv φ F.n0 S.nx:=⟨Nat.le_trans hnx hfr.1,fun b h1 h2=>by
  rw [hI.ext.2.1 b (by have:=hfr.1;omega) (.inr h1)]
  exact hfr.2 b (by have:=hF.le;omega) (by omega)⟩
 refine wpIn_mono (o1.2 φ w _ a rc hI.good hfr2 hI.tms (hd.mono hI.ext.1) (hrd.mono hI.ext.1)) ?_
 rintro e a' w' ⟨rfl,φ',k1,k2,k3,k4,k5⟩
 refine ⟨rfl,?_⟩
 have hg:=ZO b1
 obtain ⟨φ'',m1,m2⟩:=hg.2 ν φ' _ w' k2
 have t3:qY φ'' (zp (rho ν H1) S.tm) a'.tmps:=by rw [hg.1.rho ν];exact k3.mono (m1 0).1
 have hS':wN (F.hp F.HR (rdy F.ol) s.1 s.2) H1:=a1.trans hg.1.regLe
 obtain ⟨φ3,h3⟩:=zmZ (F:=F) (K:=K) (φ1:=φ1) (φ2:=φ'') (wE:=wE) (ν:=ν) (M:=M) (vs:=vs) (x:=s'.1) (y:=s'.2) (ts:=a'.tmps) hF.toOk gE hfr hM hvE
  (((hI.ext.trans k1 hF.le a4).wide (Nat.le_refl _) hnx).comp ((m1 S.nx).wide (by have:=hF.le;omega) hnx)) (hI.went.trans k5) m2 m2 (hg.1.vn v1) b1 b2 b3 b4 (fun p _=>rfl)
  (fun b hb=>by
   obtain ⟨z,hz⟩:=hF.nss b hb
   rw [hz]
   exact hS' b z (by rw [hI.regs b hb];exact hz))
  t3 (by rw [a3.1];exact Frm.tm_len)
  (fun i u hu hj=>by
   have hi:i∉asg c:=fun h=>hj (hF.junk i h u hu)
   rw [a3.2 i hi,Frm.tm_get hF hi];exact hu)
  (fun l L hl L' hL'=>by
   obtain ⟨s0,p0,h0⟩:=Frm.lp_at hF (HX:=F.HR) (vs:=rdy F.ol) (x:=s.1) (y:=s.2) hl
   obtain ⟨s1,p1,h1⟩:=(a2.trans hg.1.lkeep) l _ h0
   rw [hL'] at h1;cases h1
   exact ⟨s1,p1,rfl⟩)
 exact ⟨φ3,h3,zu3 (Ren.le_trans hI.ext.1 k1.1) hd (by rw [←hds];exact k4)⟩
end
end Go.Fz.Sy
namespace Go.Fz.Sy
variable {P:Program} {φ:Ren} {K:Nat→Prop} {w:World} {R:Type}
theorem zm0 (b:Nat) (k:Blk) (r:Hp) (n:Nat):Hp.get ((b,k)::r) n=if b=n then some k else Hp.get r n:=by
 show (bif Nat.beq b n then some k else Hp.get r n)=_
 rw [zmx]
def zbU (l:List Nat):Hp→Hp
 |[]=>[]
 |(b,k)::r=>bif vf l b then (b,k)::zbU l r else zbU l r
theorem zbj (l:List Nat) (n:Nat):∀H:Hp,(zbU l H).get n=if n∈l then H.get n else none
 |[]=>by simp [zbU,Hp.get_nil]
 |(b,k)::r=>by
  have ih:=zbj l n r
  simp only [zbU]
  cases hm:vf l b with
  |true=>
   have hb:=(kU _ _).1 hm
   rw [cond_true,zm0,zm0]
   by_cases h:b=n
   ·subst h;simp [hb]
   ·rw [if_neg h,if_neg h];exact ih
  |false=>
   have hb:b∉l:=fun h=>by rw [(kU _ _).2 h] at hm;cases hm
   rw [cond_false,zm0]
   by_cases h:b=n
   ·subst h;rw [if_neg hb];simpa [hb] using ih
   ·rw [if_neg h];exact ih
theorem zkz {α:Type} {A B C C':SH} {b:Nat} {f:Option SB→α} (h:f (zk C b)=f (zk C' b)):f (zk (A++(B++C)) b)=f (zk (A++(B++C')) b):=by
 cases hA:zk A b with
 |some k=>simp only [zU,hA]
 |none=>cases hB:zk B b with
  |some k=>simp only [zU,hA,hB]
  |none=>simp only [zU,hA,hB];exact h
section
variable {F:Frm} {c:Code} {rd:Option Nat} {ds:List Nat} {M:Nat} {xs:Xs} {E:(R:Type)→EvS R} {ν:Nat→Bool}
theorem zhY {φ1:Ren} {wE:World} {l:List Nat} (gE:zA φ1 (zw ν F.H1) K wE) (hl:∀b∈l,(kG ν (rho ν F.H1) F.HR).get b=none):zA φ1 (zbU l (zw ν F.H1)) (F.KX K φ1 ν) wE:=by
 have hsub:∀b k,(zbU l (zw ν F.H1)).get b=some k→b∈l∧(zw ν F.H1).get b=some k:=fun b k hb=>by
  rw [zbj] at hb
  split at hb
  ·rename_i h;exact ⟨h,hb⟩
  ·cases hb
 have hR:∀b k,(kG ν (rho ν F.H1) F.HR).get b=some k→b∉l∧∃kE,(zw ν F.H1).get b=some kE:=fun b k hb=>by
  have hb0:=hb
  rw [uu] at hb
  cases hk:zk F.HR b with
  |none=>rw [hk] at hb;cases hb
  |some kv=>
   rw [hk] at hb
   refine ⟨fun h=>(by rw [hl b h] at hb0;cases hb0),?_⟩
   have hk0:=hk
   unfold Frm.HR at hk
   rw [vg] at hk
   split at hk
   ·cases hk
   ·rw [Option.map_eq_some_iff] at hk
    obtain ⟨kH,hkH,rfl⟩:=hk
    rw [zF,hkH]
    simp only [Option.bind_some] at hb ⊢
    cases kH with
    |vars cs=>exact ⟨_,rfl⟩
    |ro cs=>exact ⟨_,rfl⟩
    |arr nn t l=>
     cases hm:vf F.mv b with
     |true=>simp [xb,hm,zT] at hb
     |false=>simp only [xb,hm,cond_false,zT] at hb ⊢;cases hn:jP nn l<;>rw [hn] at hb<;>first | cases hb;done | exact ⟨_,rfl⟩
    |roa nn t l=>exact ⟨k,hb⟩
    |fro nn t l=>exact ⟨k,hb⟩
    |gone s n=>simp [xb,zT] at hb
    |loop L=>exact ⟨_,rfl⟩
    |defd=>exact ⟨_,rfl⟩
    |hid=>exact ⟨_,rfl⟩
    |mpb k ag t l=>exact ⟨_,rfl⟩
    |mpf k l=>exact ⟨_,rfl⟩
    |abs=>simp [xb,zT] at hb
 refine ⟨fun b k hb=>gE.rel b k (hsub b k hb).2,fun b c k k' L L' hb hc hne hk hL hL'=>gE.sep b c k k' L L' (hsub b k hb).2 (hsub c k' hc).2 hne hk hL hL',fun b k L hb hk hL=>?_,fun c hc=>?_,gE.fz,fun b k L c M hb hk hL hM=>gE.fsep b k L c M (hsub b k hb).2 hk hL hM⟩
 ·obtain ⟨h1,h2⟩:=hsub b k hb
  rintro (h | ⟨b',k',L',q1,q2,q3⟩)
  ·exact gE.prot b k L h2 hk hL h
  ·obtain ⟨e1,kE,e2⟩:=hR b' k' q1
   exact gE.sep b b' k kE L L' h2 e2 (fun e=>e1 (e▸h1)) hk hL q2 q3.symm
 ·rcases hc with h | ⟨b',k',L',q1,q2,q3⟩
  ·exact gE.kin c h
  ·obtain ⟨e1,kE,e2⟩:=hR b' k' q1
   rw [←q3]
   exact (gE.at e2 q2).lt
theorem zm1 {vs:List LSt} {x:DS F.dl} {y:OS F.ol} (b:Nat):reg (zk (F.hp F.HF vs x y) b)=reg (zk (F.hp F.HR vs x y) b):=by
 refine zkz (f:=reg) ?_
 unfold Frm.HF Frm.HR
 rw [vg,vg]
 split
 ·rfl
 ·cases zk F.H1 b with
  |none=>rfl
  |some k=>simp only [Option.map_some];rw [zmY,zu1]
theorem zkA (hF:F.OkC c) {φ1 φ3:Ren} {wE:World} (gE:zA φ1 (zw ν F.H1) K wE) (hvE:VN ν F.lo F.H1) {vs:List LSt} {s:F.S} {ts:Array Value} (hall:∀b x,reg (zk F.H1 b)=some x→b∈F.ns)
  (h:F.Seen K φ1 wE ν F.HR vs s.1 s.2 φ3 w ts) (hrw:∀b k,b∈F.pn→(zw ν (F.hp F.HR vs s.1 s.2)).get b=some k→k.rw=true) :
  zA φ3 (zw ν (F.hp F.HF vs s.1 s.2)) K w∧qY φ3 (zp (rho ν (F.hp F.HF vs s.1 s.2)) (F.tm s.1 s.2)) ts:=by
 have hreg:∀b,reg (zk (F.hp F.HF vs s.1 s.2) b)=reg (zk (F.hp F.HR vs s.1 s.2) b):=fun b=>by
  refine zkz (f:=reg) ?_
  unfold Frm.HF Frm.HR
  rw [vg,vg]
  split
  ·rfl
  ·cases zk F.H1 b with
   |none=>rfl
   |some k=>simp only [Option.map_some];rw [zmY,zu1]
 have hrho:rho ν (F.hp F.HF vs s.1 s.2)=rho ν (F.hp F.HR vs s.1 s.2):=yx hreg ν
 have hle:RLe (rho ν F.H1) (rho ν (F.hp F.HR vs s.1 s.2)):=zgk ν fun b x hx=>by rw [h.regs b (hall b x hx)];exact hx
 have gE':zA φ1 (kG ν (rho ν (F.hp F.HR vs s.1 s.2)) F.H1) K wE:=zwK (gO ν F.H1) hle gE
 refine ⟨?_,by rw [hrho];exact h.tms⟩
 have hKX:F.KX K φ1 ν=KX K φ1 (kG ν (rho ν F.H1) F.HR):=rfl
 refine zxz (HE:=kG ν (rho ν (F.hp F.HR vs s.1 s.2)) F.H1) (HR:=kG ν (rho ν F.H1) F.HR) (H1:=zw ν (F.hp F.HR vs s.1 s.2)) gE' h.ext.1 (fun b L hL=>h.ext.2.2 b L hL) h.went h.good ?_
 intro b k hb
 rw [zF,hrho] at hb
 by_cases hp:b∈F.pn
 ·have e:zk (F.hp F.HF vs s.1 s.2) b=zk (F.hp F.HR vs s.1 s.2) b:=by
   refine zkz (f:=id) ?_
   unfold Frm.HF Frm.HR
   rw [vg,vg,if_pos hp,if_pos hp]
  rw [e] at hb
  have hb2:(zw ν (F.hp F.HR vs s.1 s.2)).get b=some k:=by rw [zF];exact hb
  exact .inl ⟨hb2,hrw b k hp hb2⟩
 ·have h1:b∉nmD F.dl:=fun h=>hp (by simp [Frm.pn,h])
  have h2:b∉nmO F.ol:=fun h=>hp (by simp [Frm.pn,h])
  unfold Frm.hp at hb
  rw [zU,Qk h1] at hb
  simp only at hb
  rw [zU,JK h2] at hb
  simp only at hb
  unfold Frm.HF at hb
  rw [vg,if_neg hp] at hb
  cases hk:zk F.H1 b with
  |none=>rw [hk] at hb;cases hb
  |some kH=>
   rw [hk] at hb
   simp only [Option.map_some,Option.bind_some] at hb
   have hkb:zT (rho ν (F.hp F.HR vs s.1 s.2)) (ν b) kH=some k:=by
    cases kH with
    |arr nn t l=>
     cases hm:vf F.mv b with
     |true=>simp [zku,hm,zT] at hb
     |false=>simp only [zku,hm,cond_false] at hb;exact hb
    |_=>exact hb
   refine .inr ⟨by rw [uu,hk];exact hkb,?_⟩
   rw [uu]
   have:zk F.HR b=some (xb F.ns F.mv F.lo b kH):=by
    unfold Frm.HR
    rw [vg,if_neg hp,hk];rfl
   rw [this]
   simp only [Option.bind_some]
   cases kH with
   |vars cs=>simp only [xb];cases uk F.ns F.lo cs<;>exact ⟨_,rfl⟩
   |ro cs=>simp only [xb];cases uk F.ns F.lo cs<;>exact ⟨_,rfl⟩
   |arr nn t l=>
    cases hm:vf F.mv b with
    |true=>simp [zku,hm,zT] at hb
    |false=>
     simp only [zT] at hkb
     simp only [xb,hm,cond_false,zT]
     cases hn:jP nn l<;>rw [hn] at hkb<;>first | cases hkb;done | exact ⟨_,rfl⟩
   |roa nn t l=>exact ⟨k,hkb⟩
   |fro nn t l=>exact ⟨k,hkb⟩
   |gone s n=>simp [zT] at hkb
   |loop L=>exact ⟨_,rfl⟩
   |defd=>exact ⟨_,rfl⟩
   |hid=>exact ⟨_,rfl⟩
   |mpb k ag t l=>exact ⟨_,rfl⟩
   |mpf k l=>exact ⟨_,rfl⟩
   |abs=>simp [zT] at hkb
theorem zwe {vs:List LSt} {x:DS F.dl} {y:OS F.ol} {b:Nat} {k:Blk} (hp:b∈F.pn) (h:(zw ν (F.hp F.HR vs x y)).get b=some k):k.rw=true:=by
 rw [zF] at h
 cases hk:zk (F.hp F.HR vs x y) b with
 |none=>rw [hk] at h;cases h
 |some kS=>
  rw [hk] at h
  simp only [Option.bind_some] at h
  have hD:∀(dl:List DPl) (x:DS dl),zk (hpD dl x) b=some kS→∃cs,kS=.vars cs:=by
   intro dl
   induction dl with
   |nil=>intro x h;cases h
   |cons p r ih=>
    intro x h
    cases p with
    |tmp i vt=>exact ih x.2 h
    |blk b0 t=>
     simp only [hpD] at h
     rw [zG] at h
     split at h
     ·cases h;exact ⟨_,rfl⟩
     ·exact ih x.2 h
    |frz b0 ks=>exact ih x.2 h
    |npt i=>exact ih x.2 h
  have hO:∀(ol:List OPl) (vs:List LSt) (y:OS ol),zk (hpO ol vs y) b=some kS→(∃cs,kS=.vars cs)∨(∃nn t l,kS=.arr nn t l)∨(∃L,kS=.loop L)∨kS=.defd∨∃k' ag t l,kS=.mpb k' ag t l:=by
   intro ol
   induction ol with
   |nil=>intro vs y h;cases h
   |cons p r ih=>
    intro vs y h
    cases p with
    |otmp i c nn t=>
     simp only [hpO] at h
     rw [zG] at h
     split at h
     ·cases h;exact .inr (.inl ⟨_,_,_,rfl⟩)
     ·exact ih _ _ h
    |sblk b0 ks=>
     simp only [hpO] at h
     rw [zG] at h
     split at h
     ·cases h;exact .inl ⟨_,rfl⟩
     ·rw [zU] at h
      split at h
      ·rename_i kk hkk
       cases h
       have hk2:∀(ks:List CK) (x:CS ks),zk (Jh ks x) b=some kS→∃nn t l,kS=.arr nn t l:=fun ks=>by
        induction ks with
        |nil=>intro x h;cases h
        |cons q ks ihk=>
         intro x h
         cases q with
         |d t=>exact ihk _ h
         |o c nn t=>
          simp only [Jh] at h
          rw [zG] at h
          split at h
          ·cases h;exact ⟨_,_,_,rfl⟩
          ·exact ihk _ h
       exact .inr (.inl (hk2 _ _ hkk))
      ·exact ih _ _ h
    |arr b0 nn t=>
     simp only [hpO] at h
     rw [zG] at h
     split at h
     ·cases h;exact .inr (.inl ⟨_,_,_,rfl⟩)
     ·exact ih _ _ h
    |lp b0 L=>
     simp only [hpO] at h
     rw [zG] at h
     split at h
     ·cases h;exact .inr (.inr (.inl ⟨_,rfl⟩))
     ·exact ih _ _ h
    |dfd b0=>
     simp only [hpO] at h
     rw [zG] at h
     split at h
     ·cases h;exact .inr (.inr (.inr (.inl rfl)))
     ·exact ih _ _ h
    |mpl b0 k0 ag0 t0=>
     simp only [hpO] at h
     rw [zG] at h
     split at h
     ·cases h;exact .inr (.inr (.inr (.inr ⟨_,_,_,_,rfl⟩)))
     ·exact ih _ _ h
  unfold Frm.hp at hk
  rw [zU] at hk
  have fin:((∃cs,kS=.vars cs)∨(∃nn t l,kS=.arr nn t l)∨(∃L,kS=.loop L)∨kS=.defd∨∃k' ag t l,kS=.mpb k' ag t l)→k.rw=true:=by
   rintro (⟨cs,rfl⟩ | ⟨nn,t,l,rfl⟩ | ⟨L,rfl⟩ | rfl | ⟨k',ag,t,l,rfl⟩)
   ·simp only [zT,Option.some.injEq] at h;subst h;rfl
   ·simp only [zT] at h
    cases hn:jP nn l<;>rw [hn] at h<;>cases h
    rfl
   ·simp only [zT,Option.some.injEq] at h;subst h;rfl
   ·simp only [zT,Option.some.injEq] at h;subst h;rfl
   ·simp only [zT,Option.some.injEq] at h;subst h;rfl
  split at hk
  ·rename_i h1;cases hk;exact fin (.inl (hD _ _ h1))
  ·rw [zU] at hk
   split at hk
   ·rename_i h1;cases hk;exact fin (hO _ _ _ h1)
   ·unfold Frm.HR at hk
    rw [vg,if_pos hp] at hk;cases hk
end
end Go.Fz.Sy
namespace Go.Fz.Sy
variable {P:Program} {φ:Ren} {K:Nat→Prop} {w:World} {R:Type}
abbrev zZ:=Code→List SV→SH→Nat→Option (List DPl×List OPl×Nat)
def kf (ns:List Nat) (lo:Nat) (H:SH):List Nat→List OPl
 |[]=>[]
 |l::r=>match zk H l with
  |some (.loop L)=>bif uk ns lo L.tm&&(Nat.blt L.dfr lo&&stQ L [(.ready,none)]) then .lp l L::kf ns lo H r else kf ns lo H r
  |some .defd=>.dfd l::kf ns lo H r
  |_=>kf ns lo H r
theorem US {ns:List Nat} {lo:Nat} {H:SH} {l:Nat} {L:SL}:∀{ls:List Nat},OPl.lp l L∈kf ns lo H ls→uk ns lo L.tm=true∧L.dfr < lo∧zk H l=some (.loop L)
 |[],h=>by cases h
 |m::r,h=>by
  simp only [kf] at h
  split at h
  ·rename_i L' hL
   rw [show (bif uk ns lo L'.tm&&(Nat.blt L'.dfr lo&&stQ L' [(.ready,none)]) then OPl.lp m L'::kf ns lo H r else kf ns lo H r)=if (uk ns lo L'.tm&&(Nat.blt L'.dfr lo&&stQ L' [(.ready,none)]))=true then OPl.lp m L'::kf ns lo H r else kf ns lo H r from by cases (uk ns lo L'.tm&&(Nat.blt L'.dfr lo&&stQ L' [(.ready,none)]))<;>rfl] at h
   split at h
   ·rename_i hq
    rcases List.mem_cons.1 h with he | h
    ·cases he
     simp only [Bool.and_eq_true,Nat.blt_eq] at hq
     exact ⟨hq.1,hq.2.1,hL⟩
    ·exact US h
   ·exact US h
  ·have h:OPl.lp l L∈kf ns lo H r:=by simpa using h
   exact US h
  ·exact US h
def uX (H:SH):List Nat→List Nat
 |[]=>[]
 |b::r=>match reg (zk H b) with
  |some _=>b::uX H r
  |none=>uX H r
theorem zdh {H:SH} {b:Nat}:∀{l:List Nat},b∈uX H l→∃x,reg (zk H b)=some x
 |[],h=>by cases h
 |c::r,h=>by
  simp only [uX] at h
  split at h
  ·rename_i x hx
   rcases List.mem_cons.1 h with he | h
   ·subst he;exact ⟨x,hx⟩
   ·exact zdh h
  ·exact zdh h
theorem zdi {H:SH} {b:Nat} {x:Nat×Nat} (hx:reg (zk H b)=some x):∀{l:List Nat},b∈l→b∈uX H l
 |[],h=>by cases h
 |c::r,h=>by
  simp only [uX]
  rcases List.mem_cons.1 h with he | h
  ·subst he;rw [hx];simp
  ·split
   ·exact List.mem_cons_of_mem _ (zdi hx h)
   ·exact zdi hx h
theorem GA {b:Nat} {k:SB}:∀{H:SH},zk H b=some k→b∈qS H
 |[],h=>by cases h
 |(c,x)::r,h=>by
  rw [zG] at h
  split at h
  ·rename_i he;simp [qS,he]
  ·simp [qS,GA h]
def zrK:List Nat→Bool
 |[]=>true
 |a::r=>!vf r a&&zrK r
theorem zu4:∀{l:List Nat},zrK l=true→l.Nodup
 |[],_=>List.nodup_nil
 |a::r,h=>by
  simp only [zrK,Bool.and_eq_true,Bool.not_eq_true'] at h
  refine List.nodup_cons.2 ⟨fun hm=>?_,zu4 h.2⟩
  rw [(kU _ _).2 hm] at h;cases h.1
def zix:List OPl→Bool
 |[]=>true
 |.lp _ _::_=>false
 |.otmp _ _ _ _::r=>zix r
 |.sblk _ _::r=>zix r
 |.arr _ _ _::r=>zix r
 |.dfd _::r=>zix r
 |.mpl _ _ _ _::r=>zix r
theorem GB {l:Nat} {L:SL}:∀{ol:List OPl},zix ol=true→OPl.lp l L∉ol
 |[],_,h=>by cases h
 |.lp _ _::r,h,_=>by simp [zix] at h
 |.otmp _ _ _ _::r,h,hm=>GB (ol:=r) h (by simpa using hm)
 |.sblk _ _::r,h,hm=>GB (ol:=r) h (by simpa using hm)
 |.arr _ _ _::r,h,hm=>GB (ol:=r) h (by simpa using hm)
 |.dfd _::r,h,hm=>GB (ol:=r) h (by simpa using hm)
 |.mpl _ _ _ _::r,h,hm=>GB (ol:=r) h (by simpa using hm)
def lpN:List OPl→List Nat
 |[]=>[]
 |.lp l _::r=>l::lpN r
 |.otmp _ _ _ _::r=>lpN r
 |.sblk _ _::r=>lpN r
 |.arr _ _ _::r=>lpN r
 |.dfd _::r=>lpN r
 |.mpl _ _ _ _::r=>lpN r
theorem zdj {l:Nat}:∀{ol:List OPl},l∈lpN ol→∃L,OPl.lp l L∈ol
 |[],h=>by cases h
 |.lp m L::r,h=>by
  simp only [lpN,List.mem_cons] at h
  rcases h with rfl | h
  ·exact ⟨L,by simp⟩
  ·obtain ⟨L',h'⟩:=zdj h;exact ⟨L',List.mem_cons_of_mem _ h'⟩
 |.otmp _ _ _ _::r,h=>by obtain ⟨L',h'⟩:=zdj (ol:=r) h;exact ⟨L',List.mem_cons_of_mem _ h'⟩
 |.sblk _ _::r,h=>by obtain ⟨L',h'⟩:=zdj (ol:=r) h;exact ⟨L',List.mem_cons_of_mem _ h'⟩
 |.arr _ _ _::r,h=>by obtain ⟨L',h'⟩:=zdj (ol:=r) h;exact ⟨L',List.mem_cons_of_mem _ h'⟩
 |.dfd _::r,h=>by obtain ⟨L',h'⟩:=zdj (ol:=r) h;exact ⟨L',List.mem_cons_of_mem _ h'⟩
 |.mpl _ _ _ _::r,h=>by obtain ⟨L',h'⟩:=zdj (ol:=r) h;exact ⟨L',List.mem_cons_of_mem _ h'⟩
def zxE (F:Frm) (c:Code):Bool:=
 zrK F.pn&&(F.ns.all (fun b=>Nat.blt b F.lo)&&(zEo F.ns F.dl F.ol&&(uk F.ns F.lo F.tm0&&((zkw F.dl++ziw F.ol).all (vf (asg c))&&(qS F.H1).all fun l=>match zk F.H1 l with
  |some (.loop _)=>vf (lpN F.ol) l||!vf F.pn l
  |_=>true))))
def zgu (F:Frm) (σ:List (Nat×Nat)):Bool:=σ.all fun p=>match zk F.HR p.2 with
 |none=>true
 |some (.gone _ _)=>true
 |_=>false
def zEq:List (Nat×Nat)→List Nat
 |[]=>[]
 |p::r=>bif Nat.beq p.1 p.2 then zEq r else p.2::zEq r
def zG7 (e:Exit) (l:List Exit):List Exit:=bif l.any (zdS e) then l else e::l
def zEr:List Exit→List Exit→List Exit
 |[],l=>l
 |e::r,l=>zG7 e (zEr r l)
def UT:Code→List Exit
 |.exit i=>[.exit i]
 |.goto i=>[.goto i]
 |.ret=>[.ret]
 |.seq a b=>zEr (UT a) (UT b)
 |.cond _ a b=>zEr (UT a) (UT b)
 |.block i c=>(UT c).filter fun e=>!zdS e (.exit i)
 |.loop c=>UT c
 |.scope c=>UT c
 |.rangeFunc _ _ _ b=>UT b
 |_=>[]
def zEs:List Exit→List LSt
 |[]=>[]
 |e::r=>match zj9 e with
  |some (_,s,p)=>(s,p)::zEs r
  |none=>zEs r
def zhZ:List OPl→List (List LSt)
 |[]=>[[]]
 |.lp _ L::r=>match zhZ r with
  |vs=>((.ready,none)::zEs (UT L.body)).flatMap fun s=>vs.map fun v=>s::v
 |.otmp _ _ _ _::r=>zhZ r
 |.sblk _ _::r=>zhZ r
 |.arr _ _ _::r=>zhZ r
 |.dfd _::r=>zhZ r
 |.mpl _ _ _ _::r=>zhZ r
def zEt (xq:Exit→Bool) (c:Code) (ol:List OPl):Xs:=((UT c).filter xq).flatMap fun e=>(zhZ ol).map fun v=>(e,v)
def zrL:Xs→Nat→Nat→(Exit×List LSt→Option R)→Option R
 |[],_,_,_=>none
 |[v],_,_,f=>f v
 |v::u::r,i,j,f=>bif Nat.beq j i then f v else zrL (u::r) (i+1) j f
theorem zkB {f:Exit×List LSt→Option R} {v:Exit×List LSt}:∀{xs:Xs} {i n:Nat},xs[n]?=some v→zrL xs i (i+n) f=f v
 |[],i,n,h=>by simp at h
 |[u],i,n,h=>by
  cases n with
  |zero=>simp at h;subst h;rfl
  |succ n=>simp at h
 |a::b::r,i,n,h=>by
  simp only [zrL]
  rw [zmx]
  cases n with
  |zero=>simp at h;subst h;simp
  |succ n=>
   rw [if_neg (by omega)]
   have:=zkB (f:=f) (xs:=b::r) (i:=i+1) (n:=n) (by simpa using h)
   rw [←this];congr 1;omega
def zrM (cont:Exit→Bool) (E:(R:Type)→EvS R) (F:Frm) (rd:Option Nat) (c:Code) (ds:List Nat) (M:Nat) (xs:Xs) (s0:F.S) (k:KC R):Option R:=
 match qb (zgt cont E F rd c ds M xs) qw s0 with
 |some (j,s)=>zgq F.ol s.2 fun y=>zrL xs 0 j fun v=>k ⟨v.1,F.tm s.1 y,ds,F.hp F.HF v.2 s.1 y,M⟩
 |none=>none
def Xa (dl:List DPl) (ol:List OPl) (g:Nat) (c:Code) (tm:List SV) (nx:Nat) (H1:SH) (ns:List Nat) (σ:List (Nat×Nat)):Frm:=⟨dl,ol,Gz (asg c) 0 tm,ns,zEq σ,nx,nx+g,H1⟩
def zAY (cont:Exit→Bool) (xq:Exit→Bool) (E:(R:Type)→EvS R) (dl:List DPl) (ol0:List OPl) (g:Nat) (rd:Option Nat) (c:Code) (tm:List SV) (ds:List Nat) (nx sp:Nat) (x0:DS dl) (H1:SH) (k:KC R):Option R:=
 match uX H1 (qS H1) with
 |ns=>match kf ns nx H1 (qS H1) with
  |lps=>match bkO (ol0++lps) (rdy (ol0++lps)) tm H1 with
   |some (y0,σ)=>bif zix ol0&&(zxE (Xa dl (ol0++lps) g c tm nx H1 ns σ) c&&(zaQ (idD dl++σ)&&(Gy nx (nx+g) (idD dl++σ)&&zgu (Xa dl (ol0++lps) g c tm nx H1 ns σ) (idD dl++σ)))) then
     zrM cont E (Xa dl (ol0++lps) g c tm nx H1 ns σ) rd c ds (nx+g+sp) (zEt xq c (ol0++lps)) (x0,y0) k
    else none
   |none=>none
def zoC (cont:Exit→Bool) (xq:Exit→Bool) (E:(R:Type)→EvS R) (pl:zZ) (rd:Option Nat) (c:Code) (tm:List SV) (ds:List Nat) (H:SH) (nx sp:Nat) (k:KC R):Option R:=match pl c tm H nx with
 |some (dl,ol0,g)=>match bkD dl tm H with
  |some (x0,H1)=>zAY cont xq E dl ol0 g rd c tm ds nx sp x0 H1 k
  |none=>none
 |none=>none
theorem zoD {F:Frm} {c:Code} (h:zxE F c=true) (hle:F.lo≤F.n0) (hlp:∀l L,OPl.lp l L∈F.ol→uk F.ns F.lo L.tm=true∧L.dfr < F.lo∧zk F.H1 l=some (.loop L)) (hns:∀b∈F.ns,∃x,reg (zk F.H1 b)=some x) {tm:List SV} (htm:F.tm0=Gz (asg c) 0 tm) :
  F.OkC c∧∀l L,zk F.H1 l=some (.loop L)→l∈F.pn→OPl.lp l L∈F.ol:=by
 unfold zxE at h
 simp only [Bool.and_eq_true] at h
 obtain ⟨h1,h2,h3,h4,h5,h6⟩:=h
 rw [List.all_eq_true] at h2 h5 h6
 refine ⟨⟨⟨zu4 h1,fun b hb=>by have:=h2 b hb;simpa using this,h3,hlp,h4,hle⟩,hns,fun i hi u hu=>?_,fun i hi=>?_⟩,fun l L hl hp=>?_⟩
 ·rw [htm,Wa] at hu
  rw [Option.map_eq_some_iff] at hu
  obtain ⟨v,hv,rfl⟩:=hu
  simp [hi]
 ·have:=h5 i (by simpa using hi)
  exact (kU _ _).1 this
 ·have:=h6 l (GA hl)
  rw [hl] at this
  simp only [Bool.or_eq_true,Bool.not_eq_true'] at this
  rcases this with h7 | h7
  ·obtain ⟨L',h8⟩:=zdj ((kU _ _).1 h7)
   have:=(hlp l L' h8).2.2
   rw [hl] at this;cases this
   exact h8
  ·rw [(kU _ _).2 hp] at h7;cases h7
def zoE:Exit→Bool
 |.goto _=>false
 |_=>true
theorem zG8 {xq:Exit→Bool} {c:Code} {ol:List OPl} {j:Nat} {e:Exit} {vs:List LSt} (h:(zEt xq c ol)[j]?=some (e,vs)):xq e=true:=by
 have:=List.mem_of_getElem? h
 unfold zEt at this
 rw [List.mem_flatMap] at this
 obtain ⟨e',h1,h2⟩:=this
 rw [List.mem_map] at h2
 obtain ⟨v,h3,h4⟩:=h2
 cases h4
 exact (List.mem_filter.1 h1).2
theorem zpx {F:Fence} {c:Code} {Q Q':Exit→Act→World→Prop} (h:∀e a w,Q e a w→Q' e a w):∀(m:Nat) (a:Act) (w:World),Code.roundsIn F 0 P c Q m a w→Code.roundsIn F 0 P c Q' m a w
 |0,a,w,hq=>hq
 |m+1,a,w,hq=>by
  rw [roundsIn_succ] at hq ⊢
  refine wpIn_mono hq ?_
  intro e a2 w2 hq
  cases e<;>first | exact zpx h m _ _ hq | exact h _ _ _ hq
theorem zwf {F:Frm} {ν:Nat→Bool} {M:Nat} (hvE:VN ν F.lo F.H1) (hM:F.n0≤M) {vs:List LSt} {x:DS F.dl} {y:OS F.ol} (h:VN ν F.n0 (F.hp F.HR vs x y)):VN ν M (F.hp F.HF vs x y):=by
 refine ⟨fun b n hr=>h.empty b n (by rw [←zm1];exact hr),fun b hb=>h.old b (Nat.le_trans hM hb),fun b hb=>?_⟩
 unfold Frm.hp at hb
 rw [zU] at hb
 have fin:∀k,zk (F.hp F.HR vs x y) b=some k→jc (some k)=true→ν b=false:=fun k hk hn=>h.nn b (by rw [hk];exact hn)
 unfold Frm.hp at fin
 rw [zU] at fin
 cases h1:zk (hpD F.dl x) b with
 |some k=>rw [h1] at hb fin;exact fin k rfl hb
 |none=>
  rw [h1] at hb fin
  simp only at hb fin
  rw [zU] at hb fin
  cases h2:zk (hpO F.ol vs y) b with
  |some k=>rw [h2] at hb fin;exact fin k rfl hb
  |none=>
   rw [h2] at hb
   simp only at hb
   unfold Frm.HF at hb
   rw [vg] at hb
   split at hb
   ·cases hb
   ·refine hvE.nn b ?_
    cases hk:zk F.H1 b with
    |none=>rw [hk] at hb;cases hb
    |some k=>
     rw [hk] at hb
     simp only [Option.map_some] at hb
     cases k with
     |arr nn t l=>
      simp only [zku] at hb
      cases hm:vf F.mv b with
      |true=>rw [hm] at hb;cases hb
      |false=>rw [hm] at hb;exact hb
     |_=>exact hb
theorem zEu {cont:Exit→Bool} (hcont:∀e,cont e=true↔e=.normal) {E:(R:Type)→EvS R} (hE:∀R,(E R).Ok P) {F:Frm} {c:Code} (hF:F.OkC c) (hkeep:∀l L,zk F.H1 l=some (.loop L)→l∈F.pn→OPl.lp l L∈F.ol) (hall:∀b x,reg (zk F.H1 b)=some x→b∈F.ns)
  {rd:Option Nat} {tm:List SV} {ds:List Nat} {H:SH} {M:Nat} {xs:Xs} {k:KC R} {r:R} {x0:DS F.dl} {y0:OS F.ol} {σ:List (Nat×Nat)} (hM:F.n0≤M) (htm:F.tm0=Gz (asg c) 0 tm)
  (hD:bkD F.dl tm H=some (x0,F.H1)) (hO:bkO F.ol (rdy F.ol) tm F.H1=some (y0,σ)) (hQ:zaQ (idD F.dl++σ)=true) (hN:Gy F.lo F.n0 (idD F.dl++σ)=true) (hR:zgu F (idD F.dl++σ)=true)
  (h:zrM cont E F rd c ds M xs (x0,y0) k=some r):∃S,zrD P rd c tm ds H F.lo S∧k S=some r:=by
 unfold zrM at h
 split at h
 case h_2=>cases h
 rename_i j s hit
 rw [VW] at h
 have hg:=ZO hD
 have hvE:∀ν,VN ν F.lo H→VN ν F.lo F.H1:=fun ν hv=>hg.1.vn hv
 have hst0:∀ν,VN ν F.lo F.H1→F.St1 ν (rdy F.ol) (x0,y0):=fun ν hv=>by
  obtain ⟨q1,q2,q3,q4⟩:=zbi hF.toOk hv hv hD hO hN (fun b _=>rfl)
  exact ⟨q4,q3⟩
 have hst:∀ν,VN ν F.lo F.H1→∃e vs,xs[j]?=some (e,vs)∧F.St1 ν vs s:=fun ν hv=>by
  refine zkv (B:=zgt cont E F rd c ds M xs) (I:=fun s=>F.St1 ν (rdy F.ol) s) (J:=fun x=>∃e vs,xs[x.1]?=some (e,vs)∧F.St1 ν vs x.2) ?_ qw (x0,y0) (j,s) hit (hst0 ν hv)
  intro s0 r0 hr0 hI
  obtain ⟨S,s1,s2,s3,vs,s',s4,s5⟩:=zky hE hF hv hr0
  have:=zhW hE hF hv s1 hI s4
  rcases s5 with ⟨_,rfl,rfl⟩ | ⟨_,j',rfl,hj⟩
  ·exact this
  ·exact ⟨_,vs,hj,this⟩
 have hv0:VN (fun _=>false) F.lo F.H1:=⟨fun b n hr=>zaL hr,(fun _ _=>rfl),(fun _ _=>rfl)⟩
 obtain ⟨e,vs,hj,hstf⟩:=hst _ hv0
 have hp:=zkB (f:=fun v=>k ⟨v.1,F.tm s.1 s.2,ds,F.hp F.HF v.2 s.1 s.2,M⟩) (i:=0) hj
 rw [Nat.zero_add] at hp
 rw [hp] at h
 refine ⟨⟨e,F.tm s.1 s.2,ds,F.hp F.HF vs s.1 s.2,M⟩,⟨fun b z hz=>?_,fun l L hl=>?_,⟨?_,fun i hi=>?_⟩,Nat.le_trans hF.le hM,fun ν hv=>⟨zwf (hvE ν hv) hM ?_,(show F.lo≤M from Nat.le_trans hF.le hM),qw,fun φ w K a rc g hf ht hd hr=>?_⟩⟩,h⟩
 ·have h1:reg (zk F.H1 b)=some z:=by rw [hg.1.reg b];exact hz
  show reg (zk (F.hp F.HF vs s.1 s.2) b)=some z
  rw [zm1,hstf.2 b (hall b z h1)];exact h1
 ·obtain ⟨s0,p0,h0⟩:=hg.1.lkeep l L hl
  by_cases hpn:l∈F.pn
  ·have:=hkeep l _ h0 hpn
   obtain ⟨s1,p1,h1⟩:=Frm.lp_at hF (HX:=F.HF) (vs:=vs) (x:=s.1) (y:=s.2) this
   exact ⟨s1,p1,h1⟩
  ·have h1:l∉nmD F.dl:=fun h=>hpn (by simp [Frm.pn,h])
   have h2:l∉nmO F.ol:=fun h=>hpn (by simp [Frm.pn,h])
   refine ⟨s0,p0,?_⟩
   show zk (F.hp F.HF vs s.1 s.2) l=_
   unfold Frm.hp
   rw [zU,Qk h1]
   simp only
   rw [zU,JK h2]
   simp only
   unfold Frm.HF
   rw [vg,if_neg hpn,h0]
   rfl
 ·show (F.tm s.1 s.2).length=tm.length
  rw [Frm.tm_len,htm,YZ]
 ·show (F.tm s.1 s.2)[i]?=tm[i]?
  rw [Frm.tm_get hF hi,htm,Wa]
  simp [hi]
 ·obtain ⟨e',vs',hj',hst'⟩:=hst ν (hvE ν hv)
  rw [hj] at hj';cases hj'
  exact hst'.1
 ·
  have hvE':=hvE ν hv
  obtain ⟨φ1,m1,g1⟩:=hg.2 ν φ K w g
  have hout:∀b,b < FZ→φ1 b=φ b:=fun b hb=>(m1 (b+1)).2.1 b hb (.inl (by omega))
  have hfr:vv φ1 F.lo M:=⟨hf.1,fun b h1 h2=>by rw [hout b (by have:=hf.1;exact Nat.lt_of_lt_of_le h2 this)];exact hf.2 b h1 h2⟩
  have hle:=(m1 0).1
  have hsrc:∀b,b∈(idD F.dl++σ).map (·.2)→(kG ν (rho ν F.H1) F.HR).get b=none:=fun b hb=>by
   rw [List.mem_map] at hb
   obtain ⟨p,hp,rfl⟩:=hb
   unfold zgu at hR
   rw [List.all_eq_true] at hR
   have:=hR p hp
   rw [uu]
   cases hk:zk F.HR p.2 with
   |none=>rfl
   |some kk=>
    rw [hk] at this
    cases kk<;>first | rfl | cases this
  have hlps:∀l L,OPl.lp l L∈F.ol→∀L',zk F.H1 l=some (.loop L')→∃s p,L'={L with st:=s,pend:=p}:=fun l L hl L' hL'=>by
   rw [(hF.lps l L hl).2.2] at hL';cases hL'
   exact ⟨L.st,L.pend,rfl⟩
  obtain ⟨φ3,hseen⟩:=zmZ (F:=F) (K:=K) (KA:=K) (φ1:=φ1) (φ2:=φ1) (wE:=w) (ν:=ν) (M:=M) (vs:=rdy F.ol) (x:=x0) (y:=y0) (ts:=a.tmps) (HS0:=H) (HS:=F.H1) (Hs:=zbU ((idD F.dl++σ).map (·.2)) (zw ν F.H1)) hF.toOk g1 hfr hM hvE'
   (Ext.refl _ _ _ _) (qC.refl _ _) g1 (zhY g1 hsrc) hvE' hD hO hQ hN
   (fun p hp=>by rw [zbj,if_pos (List.mem_map.2 ⟨p,hp,rfl⟩)]) (fun b _=>rfl) (by rw [hg.1.rho ν];exact ht.mono hle) (by rw [htm,YZ])
   (fun i u hu hj'=>by
    rw [htm,Wa,Option.map_eq_some_iff] at hu
    obtain ⟨v,hv',rfl⟩:=hu
    by_cases hi:0+i∈asg c
    ·rw [if_pos hi] at hj';exact absurd rfl hj'
    ·rw [if_neg hi];exact hv') hlps
  have hd1:ZX φ1 ds a.defers:=hd.mono hle
  have hr1:UI φ1 rd rc:=hr.mono hle
  have key:=zpw (P:=P) (B:=zgt cont E F rd c ds M xs) (c:=c) (F:=fw rc)
   (Inv:=fun s a w'=>∃φ',F.Seen K φ1 w ν F.HR (rdy F.ol) s.1 s.2 φ' w' a.tmps∧ZX φ1 ds a.defers)
   (Fin:=fun x e a w'=>∃vs φ',xs[x.1]?=some (e,vs)∧F.Seen K φ1 w ν F.HR vs x.2.1 x.2.2 φ' w' a.tmps∧ZX φ1 ds a.defers)
   (fun s0 r0 hr0 a0 w0 hI=>by
    obtain ⟨φ',hI,hd0⟩:=hI
    obtain ⟨S,s1,s2,s3,vs',s',s4,s5⟩:=zky hE hF hvE' hr0
    refine wpIn_mono (zhX hE hF g1 hfr hM hvE' hr1 s1 s2 s3 s4 hI hd0) ?_
    rintro e' a' w' ⟨rfl,φ'',q1,q2⟩
    rcases s5 with ⟨he,rfl,rfl⟩ | ⟨he,j',rfl,hj'⟩
    ·exact ⟨(hcont _).1 he,φ'',q1,q2⟩
    ·exact ⟨(fun e=>by rw [(hcont _).2 e] at he;cases he),vs',φ'',hj',q1,q2⟩) qw (x0,y0) (j,s) hit a w ⟨φ3,hseen,hd1⟩
  refine zpx ?_ _ _ _ key
  rintro e' a' w' ⟨vs',φ',q1,q2,q3⟩
  rw [hj] at q1;cases q1
  obtain ⟨t1,t2⟩:=zkA hF g1 hvE' hall q2 (fun b kk hb hk=>zwe hb hk)
  refine ⟨rfl,φ',?_,t1,t2,q3.mono q2.ext.1,⟨q2.went.os,q2.went.tape,q2.went.output,q2.went.size,fun b hb=>q2.went.kept b (.inl hb)⟩⟩
  have e1:Ext K φ φ1 F.lo M:=(m1 F.lo).wide (Nat.le_refl _) (Nat.le_trans hF.le hM)
  have e2:Ext K φ1 φ' F.lo M:=(q2.ext.weak (fun b hb=>.inl hb)).wide (Nat.le_refl _) hM
  exact e1.comp e2
theorem zrN {X S:Type} {B:S→Option (X ⊕ S)} {C x:Code} {lb:Nat} (hfl:findLabel C lb=some x) {Inv:S→Act→World→Prop} {Fin:X→Exit→Act→World→Prop}
  (h:∀s r,B s=some r→∀a w,Inv s a w→x.wp P (fun e a' w'=>match r with | .inl y=>zoE e=true∧Fin y e a' w' | .inr s'=>e=.goto lb∧Inv s' a' w') a w) :
  ∀(N:Nat) (s:S) (y:X),qb B N s=some y→∀a w,Inv s a w→zc3 P C (Fin y) N x a w
 |0,s,x,hi,a,w,hI=>by cases hi
 |N+1,s,y,hi,a,w,hI=>by
  rw [Kp] at hi
  split at hi
  ·rename_i y' hB
   cases hi
   refine Code.wp_mono ?_ (h s _ hB a w hI)
   intro e a' w' hq
   obtain ⟨he,hf⟩:=hq
   cases e<;>first | exact hf | cases he
  ·rename_i s' hB
   refine Code.wp_mono ?_ (h s _ hB a w hI)
   intro e a' w' hq
   obtain ⟨rfl,hI'⟩:=hq
   simp only [hfl]
   exact zrN hfl h N s' y hi a' w' hI'
  ·cases hi
theorem zCs {cont:Exit→Bool} {C:Code} {lb:Nat} (hcont:∀e,cont e=true→e=.goto lb) {E:(R:Type)→EvS R} (hE:∀R,(E R).Ok P) {F:Frm} {c:Code} (hF:F.OkC c) (hkeep:∀l L,zk F.H1 l=some (.loop L)→l∈F.pn→OPl.lp l L∈F.ol) (hall:∀b x,reg (zk F.H1 b)=some x→b∈F.ns)
  {tm:List SV} {ds:List Nat} {H:SH} {M:Nat} {xs:Xs} {k:KC R} {r:R} {x0:DS F.dl} {y0:OS F.ol} {σ:List (Nat×Nat)} (hM:F.n0≤M) (hfl:findLabel C lb=some c) (hasgC:∀i∈asg c,i∈asg C) (hxs:∀(j:Nat) e vs,xs[j]?=some (e,vs)→zoE e=true) (htm:F.tm0=Gz (asg c) 0 tm)
  (hD:bkD F.dl tm H=some (x0,F.H1)) (hO:bkO F.ol (rdy F.ol) tm F.H1=some (y0,σ)) (hQ:zaQ (idD F.dl++σ)=true) (hN:Gy F.lo F.n0 (idD F.dl++σ)=true) (hR:zgu F (idD F.dl++σ)=true)
  (h:zrM cont E F none c ds M xs (x0,y0) k=some r):∃S,zEc P C c tm ds H F.lo S∧k S=some r:=by
 unfold zrM at h
 split at h
 case h_2=>cases h
 rename_i j s hit
 rw [VW] at h
 have hg:=ZO hD
 have hvE:∀ν,VN ν F.lo H→VN ν F.lo F.H1:=fun ν hv=>hg.1.vn hv
 have hst0:∀ν,VN ν F.lo F.H1→F.St1 ν (rdy F.ol) (x0,y0):=fun ν hv=>by
  obtain ⟨q1,q2,q3,q4⟩:=zbi hF.toOk hv hv hD hO hN (fun b _=>rfl)
  exact ⟨q4,q3⟩
 have hst:∀ν,VN ν F.lo F.H1→∃e vs,xs[j]?=some (e,vs)∧F.St1 ν vs s:=fun ν hv=>by
  refine zkv (B:=zgt cont E F none c ds M xs) (I:=fun s=>F.St1 ν (rdy F.ol) s) (J:=fun x=>∃e vs,xs[x.1]?=some (e,vs)∧F.St1 ν vs x.2) ?_ qw (x0,y0) (j,s) hit (hst0 ν hv)
  intro s0 r0 hr0 hI
  obtain ⟨S,s1,s2,s3,vs,s',s4,s5⟩:=zky hE hF hv hr0
  have:=zhW hE hF hv s1 hI s4
  rcases s5 with ⟨_,rfl,rfl⟩ | ⟨_,j',rfl,hj⟩
  ·exact this
  ·exact ⟨_,vs,hj,this⟩
 have hv0:VN (fun _=>false) F.lo F.H1:=⟨fun b n hr=>zaL hr,(fun _ _=>rfl),(fun _ _=>rfl)⟩
 obtain ⟨e,vs,hj,hstf⟩:=hst _ hv0
 have hp:=zkB (f:=fun v=>k ⟨v.1,F.tm s.1 s.2,ds,F.hp F.HF v.2 s.1 s.2,M⟩) (i:=0) hj
 rw [Nat.zero_add] at hp
 rw [hp] at h
 refine ⟨⟨e,F.tm s.1 s.2,ds,F.hp F.HF vs s.1 s.2,M⟩,⟨fun b z hz=>?_,fun l L hl=>?_,⟨?_,fun i hi=>?_⟩,Nat.le_trans hF.le hM,fun ν hv=>⟨zwf (hvE ν hv) hM ?_,(show F.lo≤M from Nat.le_trans hF.le hM),qw,fun φ w K a g hf ht hd=>?_⟩⟩,h⟩
 ·have h1:reg (zk F.H1 b)=some z:=by rw [hg.1.reg b];exact hz
  show reg (zk (F.hp F.HF vs s.1 s.2) b)=some z
  rw [zm1,hstf.2 b (hall b z h1)];exact h1
 ·obtain ⟨s0,p0,h0⟩:=hg.1.lkeep l L hl
  by_cases hpn:l∈F.pn
  ·have:=hkeep l _ h0 hpn
   obtain ⟨s1,p1,h1⟩:=Frm.lp_at hF (HX:=F.HF) (vs:=vs) (x:=s.1) (y:=s.2) this
   exact ⟨s1,p1,h1⟩
  ·have h1:l∉nmD F.dl:=fun h=>hpn (by simp [Frm.pn,h])
   have h2:l∉nmO F.ol:=fun h=>hpn (by simp [Frm.pn,h])
   refine ⟨s0,p0,?_⟩
   show zk (F.hp F.HF vs s.1 s.2) l=_
   unfold Frm.hp
   rw [zU,Qk h1]
   simp only
   rw [zU,JK h2]
   simp only
   unfold Frm.HF
   rw [vg,if_neg hpn,h0]
   rfl
 ·show (F.tm s.1 s.2).length=tm.length
  rw [Frm.tm_len,htm,YZ]
 ·show (F.tm s.1 s.2)[i]?=tm[i]?
  have hi:i∉asg c:=fun h=>hi (hasgC i h)
  rw [Frm.tm_get hF hi,htm,Wa]
  simp [hi]
 ·obtain ⟨e',vs',hj',hst'⟩:=hst ν (hvE ν hv)
  rw [hj] at hj';cases hj'
  exact hst'.1
 ·
  have hvE':=hvE ν hv
  obtain ⟨φ1,m1,g1⟩:=hg.2 ν φ K w g
  have hout:∀b,b < FZ→φ1 b=φ b:=fun b hb=>(m1 (b+1)).2.1 b hb (.inl (by omega))
  have hfr:vv φ1 F.lo M:=⟨hf.1,fun b h1 h2=>by rw [hout b (by have:=hf.1;exact Nat.lt_of_lt_of_le h2 this)];exact hf.2 b h1 h2⟩
  have hle:=(m1 0).1
  have hsrc:∀b,b∈(idD F.dl++σ).map (·.2)→(kG ν (rho ν F.H1) F.HR).get b=none:=fun b hb=>by
   rw [List.mem_map] at hb
   obtain ⟨p,hp,rfl⟩:=hb
   unfold zgu at hR
   rw [List.all_eq_true] at hR
   have:=hR p hp
   rw [uu]
   cases hk:zk F.HR p.2 with
   |none=>rfl
   |some kk=>
    rw [hk] at this
    cases kk<;>first | rfl | cases this
  have hlps:∀l L,OPl.lp l L∈F.ol→∀L',zk F.H1 l=some (.loop L')→∃s p,L'={L with st:=s,pend:=p}:=fun l L hl L' hL'=>by
   rw [(hF.lps l L hl).2.2] at hL';cases hL'
   exact ⟨L.st,L.pend,rfl⟩
  obtain ⟨φ3,hseen⟩:=zmZ (F:=F) (K:=K) (KA:=K) (φ1:=φ1) (φ2:=φ1) (wE:=w) (ν:=ν) (M:=M) (vs:=rdy F.ol) (x:=x0) (y:=y0) (ts:=a.tmps) (HS0:=H) (HS:=F.H1) (Hs:=zbU ((idD F.dl++σ).map (·.2)) (zw ν F.H1)) hF.toOk g1 hfr hM hvE'
   (Ext.refl _ _ _ _) (qC.refl _ _) g1 (zhY g1 hsrc) hvE' hD hO hQ hN
   (fun p hp=>by rw [zbj,if_pos (List.mem_map.2 ⟨p,hp,rfl⟩)]) (fun b _=>rfl) (by rw [hg.1.rho ν];exact ht.mono hle) (by rw [htm,YZ])
   (fun i u hu hj'=>by
    rw [htm,Wa,Option.map_eq_some_iff] at hu
    obtain ⟨v,hv',rfl⟩:=hu
    by_cases hi:0+i∈asg c
    ·rw [if_pos hi] at hj';exact absurd rfl hj'
    ·rw [if_neg hi];exact hv') hlps
  have hd1:ZX φ1 ds a.defers:=hd.mono hle
  have hr1:UI φ1 none none:=trivial
  have key:=zrN (P:=P) (B:=zgt cont E F none c ds M xs) hfl
   (Inv:=fun s a w'=>∃φ',F.Seen K φ1 w ν F.HR (rdy F.ol) s.1 s.2 φ' w' a.tmps∧ZX φ1 ds a.defers)
   (Fin:=fun x e a w'=>∃vs φ',xs[x.1]?=some (e,vs)∧F.Seen K φ1 w ν F.HR vs x.2.1 x.2.2 φ' w' a.tmps∧ZX φ1 ds a.defers)
   (fun s0 r0 hr0 a0 w0 hI=>by
    obtain ⟨φ',hI,hd0⟩:=hI
    obtain ⟨S,s1,s2,s3,vs',s',s4,s5⟩:=zky hE hF hvE' hr0
    refine (wpIn_wide (n:=0)).1 (wpIn_mono (zhX (rc:=none) hE hF g1 hfr hM hvE' hr1 s1 s2 s3 s4 hI hd0) ?_)
    rintro e' a' w' ⟨rfl,φ'',q1,q2⟩
    rcases s5 with ⟨he,rfl,rfl⟩ | ⟨he,j',rfl,hj'⟩
    ·exact ⟨hcont _ he,φ'',q1,q2⟩
    ·exact ⟨hxs _ _ _ hj',vs',φ'',hj',q1,q2⟩) qw (x0,y0) (j,s) hit a w ⟨φ3,hseen,hd1⟩
  refine zgf ?_ _ _ _ _ key
  rintro e' a' w' ⟨vs',φ',q1,q2,q3⟩
  rw [hj] at q1;cases q1
  obtain ⟨t1,t2⟩:=zkA hF g1 hvE' hall q2 (fun b kk hb hk=>zwe hb hk)
  refine ⟨rfl,φ',?_,t1,t2,q3.mono q2.ext.1,⟨q2.went.os,q2.went.tape,q2.went.output,q2.went.size,fun b hb=>q2.went.kept b (.inl hb)⟩⟩
  have e1:Ext K φ φ1 F.lo M:=(m1 F.lo).wide (Nat.le_refl _) (Nat.le_trans hF.le hM)
  have e2:Ext K φ1 φ' F.lo M:=(q2.ext.weak (fun b hb=>.inl hb)).wide (Nat.le_refl _) hM
  exact e1.comp e2
theorem zEv {cont:Exit→Bool} (hcont:∀e,cont e=true↔e=.normal) {xq:Exit→Bool} {E:(R:Type)→EvS R} (hE:∀R,(E R).Ok P) {pl:zZ} {rd:Option Nat} {c:Code} {tm:List SV} {ds:List Nat} {H:SH} {nx sp:Nat} {k:KC R} {r:R} (h:zoC cont xq E pl rd c tm ds H nx sp k=some r):∃S,zrD P rd c tm ds H nx S∧k S=some r:=by
 unfold zoC at h
 split at h
 case h_2=>cases h
 rename_i dl ol0 g hpl
 split at h
 case h_2=>cases h
 rename_i x0 H1 hD
 unfold zAY at h
 dsimp only at h
 split at h
 case h_2=>cases h
 rename_i y0 σ hO
 have h6:=zx h
 clear h
 obtain ⟨hc,h⟩:=h6
 simp only [Bool.and_eq_true] at hc
 obtain ⟨c1,c2,c3,c4,c5⟩:=hc
 have hlps:∀l L,OPl.lp l L∈(ol0++kf (uX H1 (qS H1)) nx H1 (qS H1))→uk (uX H1 (qS H1)) nx L.tm=true∧L.dfr < nx∧zk H1 l=some (.loop L):=fun l L hl=>by
  rcases List.mem_append.1 hl with hl | hl
  ·exact absurd hl (GB c1)
  ·exact US hl
 obtain ⟨hF,hkeep⟩:=zoD (F:=Xa dl (ol0++kf (uX H1 (qS H1)) nx H1 (qS H1)) g c tm nx H1 (uX H1 (qS H1)) σ) c2 (Nat.le_add_right _ _) hlps (fun b hb=>zdh hb) (tm:=tm) rfl
 exact zEu hcont (F:=Xa dl (ol0++kf (uX H1 (qS H1)) nx H1 (qS H1)) g c tm nx H1 (uX H1 (qS H1)) σ) hE hF hkeep
  (fun b x hx=>by
   have:∃k,zk H1 b=some k:=by
    cases hk:zk H1 b with
    |none=>exact absurd hx (by show reg (zk H1 b)≠_;rw [hk];simp [reg])
    |some k=>exact ⟨k,rfl⟩
   obtain ⟨k,hk⟩:=this
   exact zdi hx (GA hk)) (Nat.le_add_right _ _) rfl hD hO c3 c4 c5 h
theorem zCt {cont:Exit→Bool} {C:Code} {lb:Nat} (hcont:∀e,cont e=true→e=.goto lb) {E:(R:Type)→EvS R} (hE:∀R,(E R).Ok P) {pl:zZ} {c:Code} {tm:List SV} {ds:List Nat} {H:SH} {nx sp:Nat} {k:KC R} {r:R} (hfl:findLabel C lb=some c) (hasgC:∀i∈asg c,i∈asg C) (h:zoC cont zoE E pl none c tm ds H nx sp k=some r):∃S,zEc P C c tm ds H nx S∧k S=some r:=by
 unfold zoC at h
 split at h
 case h_2=>cases h
 rename_i dl ol0 g hpl
 split at h
 case h_2=>cases h
 rename_i x0 H1 hD
 unfold zAY at h
 dsimp only at h
 split at h
 case h_2=>cases h
 rename_i y0 σ hO
 have h6:=zx h
 clear h
 obtain ⟨hc,h⟩:=h6
 simp only [Bool.and_eq_true] at hc
 obtain ⟨c1,c2,c3,c4,c5⟩:=hc
 have hlps:∀l L,OPl.lp l L∈(ol0++kf (uX H1 (qS H1)) nx H1 (qS H1))→uk (uX H1 (qS H1)) nx L.tm=true∧L.dfr < nx∧zk H1 l=some (.loop L):=fun l L hl=>by
  rcases List.mem_append.1 hl with hl | hl
  ·exact absurd hl (GB c1)
  ·exact US hl
 obtain ⟨hF,hkeep⟩:=zoD (F:=Xa dl (ol0++kf (uX H1 (qS H1)) nx H1 (qS H1)) g c tm nx H1 (uX H1 (qS H1)) σ) c2 (Nat.le_add_right _ _) hlps (fun b hb=>zdh hb) (tm:=tm) rfl
 exact zCs hcont (F:=Xa dl (ol0++kf (uX H1 (qS H1)) nx H1 (qS H1)) g c tm nx H1 (uX H1 (qS H1)) σ) hE hF hkeep
  (fun b x hx=>by
   have:∃k,zk H1 b=some k:=by
    cases hk:zk H1 b with
    |none=>exact absurd hx (by show reg (zk H1 b)≠_;rw [hk];simp [reg])
    |some k=>exact ⟨k,rfl⟩
   obtain ⟨k,hk⟩:=this
   exact zdi hx (GA hk)) (Nat.le_add_right _ _) hfl hasgC (fun j e vs hj=>zG8 hj) rfl hD hO c3 c4 c5 h
def ztF (F:Frm) (S:Ug):Xs→Nat→Option (Nat×F.S)
 |[],_=>none
 |(e,vs)::r,j=>bif zdS S.e e then match Kq F vs S.tm S.H with
   |some s=>some (j,s)
   |none=>ztF F S r (j+1)
  else ztF F S r (j+1)
theorem zu5 {F:Frm} {S:Ug}:∀{xs:Xs} {j:Nat} {r:Nat×F.S},ztF F S xs j=some r→∃i vs,r.1=j+i∧xs[i]?=some (S.e,vs)∧Kq F vs S.tm S.H=some r.2
 |[],j,r,h=>by cases h
 |(e,vs)::xs,j,r,h=>by
  have rec_:ztF F S xs (j+1)=some r→∃i vs',r.1=j+i∧((e,vs)::xs)[i]?=some (S.e,vs')∧Kq F vs' S.tm S.H=some r.2:=fun h=>by
   obtain ⟨i,vs',h1,h2,h3⟩:=zu5 h
   exact ⟨i+1,vs',by rw [h1];omega,by simpa using h2,h3⟩
  simp only [ztF] at h
  rcases vB h with ⟨h1,h2⟩ | ⟨_,h2⟩
  ·split at h2
   ·rename_i s hs
    cases h2
    exact ⟨0,vs,rfl,by rw [zgs h1];rfl,hs⟩
   ·exact rec_ h2
  ·exact rec_ h2
def zxF (E:(R:Type)→EvS R) (F:Frm) (rd:Option Nat) (c:Code) (ds:List Nat) (M:Nat) (xs:Xs) (s:F.S):Option (Nat×F.S):=
 zgq F.ol s.2 fun y=>(E _).code0 rd c (F.tm s.1 y) ds (F.hp F.HR (rdy F.ol) s.1 y) F.n0 fun S=>
  bif Nat.ble S.nx M&&zoB ds S.ds then ztF F S xs 0 else none
theorem zCu {E:(R:Type)→EvS R} (hE:∀R,(E R).Ok P) {F:Frm} {c:Code} {rd:Option Nat} {ds:List Nat} {M:Nat} {xs:Xs} {s:F.S} {j:Nat} {s':F.S} (h:zxF E F rd c ds M xs s=some (j,s')) :
  ∃
   S:Ug,Ya P rd c (F.tm s.1 s.2) ds (F.hp F.HR (rdy F.ol) s.1 s.2) F.n0 S∧S.nx≤M∧S.ds=ds∧
   ∃vs,Kq F vs S.tm S.H=some s'∧xs[j]?=some (S.e,vs):=by
 unfold zxF at h
 rw [VW] at h
 obtain ⟨S,h1,h2⟩:=(hE _).code0 h
 have h6:=zx h2
 clear h2
 obtain ⟨hq,h2⟩:=h6
 simp only [Bool.and_eq_true,Nat.ble_eq] at hq
 obtain ⟨i,vs,e1,e2,e3⟩:=zu5 h2
 refine ⟨S,h1,hq.1,(zkx hq.2).symm,vs,e3,?_⟩
 have:j=i:=by simpa using e1
 rw [this];exact e2
def zAZ (E:(R:Type)→EvS R) (F:Frm) (rd:Option Nat) (c:Code) (ds:List Nat) (M:Nat) (xs:Xs) (s0:F.S) (k:KC R):Option R:=
 match zxF E F rd c ds M xs s0 with
 |some (j,s)=>zgq F.ol s.2 fun y=>zrL xs 0 j fun v=>k ⟨v.1,F.tm s.1 y,ds,F.hp F.HF v.2 s.1 y,M⟩
 |none=>none
theorem zEw {E:(R:Type)→EvS R} (hE:∀R,(E R).Ok P) {F:Frm} {c:Code} (hF:F.OkC c) (hkeep:∀l L,zk F.H1 l=some (.loop L)→l∈F.pn→OPl.lp l L∈F.ol) (hall:∀b x,reg (zk F.H1 b)=some x→b∈F.ns)
  {rd:Option Nat} {tm:List SV} {ds:List Nat} {H:SH} {M:Nat} {xs:Xs} {k:KC R} {r:R} {x0:DS F.dl} {y0:OS F.ol} {σ:List (Nat×Nat)} (hM:F.n0≤M) (htm:F.tm0=Gz (asg c) 0 tm)
  (hD:bkD F.dl tm H=some (x0,F.H1)) (hO:bkO F.ol (rdy F.ol) tm F.H1=some (y0,σ)) (hQ:zaQ (idD F.dl++σ)=true) (hN:Gy F.lo F.n0 (idD F.dl++σ)=true) (hR:zgu F (idD F.dl++σ)=true)
  (h:zAZ E F rd c ds M xs (x0,y0) k=some r):∃S,Ya P rd c tm ds H F.lo S∧k S=some r:=by
 unfold zAZ at h
 split at h
 case h_2=>cases h
 rename_i j s hit
 rw [VW] at h
 have hg:=ZO hD
 have hvE:∀ν,VN ν F.lo H→VN ν F.lo F.H1:=fun ν hv=>hg.1.vn hv
 have hst0:∀ν,VN ν F.lo F.H1→F.St1 ν (rdy F.ol) (x0,y0):=fun ν hv=>by
  obtain ⟨q1,q2,q3,q4⟩:=zbi hF.toOk hv hv hD hO hN (fun b _=>rfl)
  exact ⟨q4,q3⟩
 obtain ⟨S0,p1,p2,p3,vs0,p4,p5⟩:=zCu hE hit
 have hst:∀ν,VN ν F.lo F.H1→F.St1 ν vs0 s:=fun ν hv=>zhW hE hF hv p1 (hst0 ν hv) p4
 have hv0:VN (fun _=>false) F.lo F.H1:=⟨fun b n hr=>zaL hr,(fun _ _=>rfl),(fun _ _=>rfl)⟩
 have hstf:=hst _ hv0
 have hp:=zkB (f:=fun v=>k ⟨v.1,F.tm s.1 s.2,ds,F.hp F.HF v.2 s.1 s.2,M⟩) (i:=0) p5
 rw [Nat.zero_add] at hp
 rw [hp] at h
 refine ⟨⟨S0.e,F.tm s.1 s.2,ds,F.hp F.HF vs0 s.1 s.2,M⟩,⟨fun b z hz=>?_,fun l L hl=>?_,⟨?_,fun i hi=>?_⟩,Nat.le_trans hF.le hM,fun ν hv=>⟨zwf (hvE ν hv) hM ?_,(show F.lo≤M from Nat.le_trans hF.le hM),fun φ w K a rc g hf ht hd hr=>?_⟩⟩,h⟩
 ·have h1:reg (zk F.H1 b)=some z:=by rw [hg.1.reg b];exact hz
  show reg (zk (F.hp F.HF vs0 s.1 s.2) b)=some z
  rw [zm1,hstf.2 b (hall b z h1)];exact h1
 ·obtain ⟨s0,p0,h0⟩:=hg.1.lkeep l L hl
  by_cases hpn:l∈F.pn
  ·have:=hkeep l _ h0 hpn
   obtain ⟨s1,p1,h1⟩:=Frm.lp_at hF (HX:=F.HF) (vs:=vs0) (x:=s.1) (y:=s.2) this
   exact ⟨s1,p1,h1⟩
  ·have h1:l∉nmD F.dl:=fun h=>hpn (by simp [Frm.pn,h])
   have h2:l∉nmO F.ol:=fun h=>hpn (by simp [Frm.pn,h])
   refine ⟨s0,p0,?_⟩
   show zk (F.hp F.HF vs0 s.1 s.2) l=_
   unfold Frm.hp
   rw [zU,Qk h1]
   simp only
   rw [zU,JK h2]
   simp only
   unfold Frm.HF
   rw [vg,if_neg hpn,h0]
   rfl
 ·show (F.tm s.1 s.2).length=tm.length
  rw [Frm.tm_len,htm,YZ]
 ·show (F.tm s.1 s.2)[i]?=tm[i]?
  rw [Frm.tm_get hF hi,htm,Wa]
  simp [hi]
 ·exact (hst ν (hvE ν hv)).1
 ·
  have hvE':=hvE ν hv
  obtain ⟨φ1,m1,g1⟩:=hg.2 ν φ K w g
  have hout:∀b,b < FZ→φ1 b=φ b:=fun b hb=>(m1 (b+1)).2.1 b hb (.inl (by omega))
  have hfr:vv φ1 F.lo M:=⟨hf.1,fun b h1 h2=>by rw [hout b (by have:=hf.1;exact Nat.lt_of_lt_of_le h2 this)];exact hf.2 b h1 h2⟩
  have hle:=(m1 0).1
  have hsrc:∀b,b∈(idD F.dl++σ).map (·.2)→(kG ν (rho ν F.H1) F.HR).get b=none:=fun b hb=>by
   rw [List.mem_map] at hb
   obtain ⟨p,hp,rfl⟩:=hb
   unfold zgu at hR
   rw [List.all_eq_true] at hR
   have:=hR p hp
   rw [uu]
   cases hk:zk F.HR p.2 with
   |none=>rfl
   |some kk=>
    rw [hk] at this
    cases kk<;>first | rfl | cases this
  have hlps:∀l L,OPl.lp l L∈F.ol→∀L',zk F.H1 l=some (.loop L')→∃s p,L'={L with st:=s,pend:=p}:=fun l L hl L' hL'=>by
   rw [(hF.lps l L hl).2.2] at hL';cases hL'
   exact ⟨L.st,L.pend,rfl⟩
  obtain ⟨φ3,hseen⟩:=zmZ (F:=F) (K:=K) (KA:=K) (φ1:=φ1) (φ2:=φ1) (wE:=w) (ν:=ν) (M:=M) (vs:=rdy F.ol) (x:=x0) (y:=y0) (ts:=a.tmps) (HS0:=H) (HS:=F.H1) (Hs:=zbU ((idD F.dl++σ).map (·.2)) (zw ν F.H1)) hF.toOk g1 hfr hM hvE'
   (Ext.refl _ _ _ _) (qC.refl _ _) g1 (zhY g1 hsrc) hvE' hD hO hQ hN
   (fun p hp=>by rw [zbj,if_pos (List.mem_map.2 ⟨p,hp,rfl⟩)]) (fun b _=>rfl) (by rw [hg.1.rho ν];exact ht.mono hle) (by rw [htm,YZ])
   (fun i u hu hj'=>by
    rw [htm,Wa,Option.map_eq_some_iff] at hu
    obtain ⟨v,hv',rfl⟩:=hu
    by_cases hi:0+i∈asg c
    ·rw [if_pos hi] at hj';exact absurd rfl hj'
    ·rw [if_neg hi];exact hv') hlps
  have hd1:ZX φ1 ds a.defers:=hd.mono hle
  have hr1:UI φ1 rd rc:=hr.mono hle
  refine wpIn_mono (zhX hE hF g1 hfr hM hvE' hr1 p1 p2 p3 p4 hseen hd1) ?_
  rintro e' a' w' ⟨rfl,φ',q2,q3⟩
  obtain ⟨t1,t2⟩:=zkA hF g1 hvE' hall q2 (fun b kk hb hk=>zwe hb hk)
  refine ⟨rfl,φ',?_,t1,t2,q3.mono q2.ext.1,⟨q2.went.os,q2.went.tape,q2.went.output,q2.went.size,fun b hb=>q2.went.kept b (.inl hb)⟩⟩
  have e1:Ext K φ φ1 F.lo M:=(m1 F.lo).wide (Nat.le_refl _) (Nat.le_trans hF.le hM)
  have e2:Ext K φ1 φ' F.lo M:=(q2.ext.weak (fun b hb=>.inl hb)).wide (Nat.le_refl _) hM
  exact e1.comp e2
def xsJ (c:Code) (ol:List OPl):Xs:=(zG7 .normal (UT c)).flatMap fun e=>(zhZ ol).map fun v=>(e,v)
def zFi (E:(R:Type)→EvS R) (dl:List DPl) (ol0:List OPl) (g:Nat) (rd:Option Nat) (c:Code) (tm:List SV) (ds:List Nat) (nx sp:Nat) (x0:DS dl) (H1:SH) (k:KC R):Option R:=
 match uX H1 (qS H1) with
 |ns=>match kf ns nx H1 (qS H1) with
  |lps=>match bkO (ol0++lps) (rdy (ol0++lps)) tm H1 with
   |some (y0,σ)=>bif zix ol0&&(zxE (Xa dl (ol0++lps) g c tm nx H1 ns σ) c&&(zaQ (idD dl++σ)&&(Gy nx (nx+g) (idD dl++σ)&&zgu (Xa dl (ol0++lps) g c tm nx H1 ns σ) (idD dl++σ)))) then
     zAZ E (Xa dl (ol0++lps) g c tm nx H1 ns σ) rd c ds (nx+g+sp) (xsJ c (ol0++lps)) (x0,y0) k
    else none
   |none=>none
def zA0 (E:(R:Type)→EvS R) (pl:zZ) (rd:Option Nat) (c:Code) (tm:List SV) (ds:List Nat) (H:SH) (nx sp:Nat) (k:KC R):Option R:=match pl c tm H nx with
 |some (dl,ol0,g)=>match bkD dl tm H with
  |some (x0,H1)=>zFi E dl ol0 g rd c tm ds nx sp x0 H1 k
  |none=>none
 |none=>none
theorem zEx {E:(R:Type)→EvS R} (hE:∀R,(E R).Ok P) {pl:zZ} {rd:Option Nat} {c:Code} {tm:List SV} {ds:List Nat} {H:SH} {nx sp:Nat} {k:KC R} {r:R} (h:zA0 E pl rd c tm ds H nx sp k=some r):∃S,Ya P rd c tm ds H nx S∧k S=some r:=by
 unfold zA0 at h
 split at h
 case h_2=>cases h
 rename_i dl ol0 g hpl
 split at h
 case h_2=>cases h
 rename_i x0 H1 hD
 unfold zFi at h
 dsimp only at h
 split at h
 case h_2=>cases h
 rename_i y0 σ hO
 have h6:=zx h
 clear h
 obtain ⟨hc,h⟩:=h6
 simp only [Bool.and_eq_true] at hc
 obtain ⟨c1,c2,c3,c4,c5⟩:=hc
 have hlps:∀l L,OPl.lp l L∈(ol0++kf (uX H1 (qS H1)) nx H1 (qS H1))→uk (uX H1 (qS H1)) nx L.tm=true∧L.dfr < nx∧zk H1 l=some (.loop L):=fun l L hl=>by
  rcases List.mem_append.1 hl with hl | hl
  ·exact absurd hl (GB c1)
  ·exact US hl
 obtain ⟨hF,hkeep⟩:=zoD (F:=Xa dl (ol0++kf (uX H1 (qS H1)) nx H1 (qS H1)) g c tm nx H1 (uX H1 (qS H1)) σ) c2 (Nat.le_add_right _ _) hlps (fun b hb=>zdh hb) (tm:=tm) rfl
 exact zEw (F:=Xa dl (ol0++kf (uX H1 (qS H1)) nx H1 (qS H1)) g c tm nx H1 (uX H1 (qS H1)) σ) hE hF hkeep
  (fun b x hx=>by
   have:∃k,zk H1 b=some k:=by
    cases hk:zk H1 b with
    |none=>exact absurd hx (by show reg (zk H1 b)≠_;rw [hk];simp [reg])
    |some k=>exact ⟨k,rfl⟩
   obtain ⟨k,hk⟩:=this
   exact zdi hx (GA hk)) (Nat.le_add_right _ _) rfl hD hO c3 c4 c5 h
theorem zpy {S:Type} {B:S→Option (S ⊕ S)} {c:Code} {F:Fence} {Inv:S→Act→World→Prop} {Q:Exit→Act→World→Prop}
  (hB:∀s t,B s=some (.inl t)→t=s)
  (h:∀s s',B s=some (.inr s')→∀a w,Inv s a w→c.wpIn F 0 P (fun e a' w'=>e=.normal∧Inv s' a' w') a w) :
  ∀(N:Nat) (s x:S),qb B N s=some x→(∀a w,Inv x a w→c.wpIn F 0 P (fun e a' w'=>e≠.normal∧Q e a' w') a w)→∀a w,Inv s a w→Code.roundsIn F 0 P c Q N a w
 |0,s,x,hi,hl,a,w,hI=>by cases hi
 |N+1,s,x,hi,hl,a,w,hI=>by
  rw [Kp] at hi
  rw [roundsIn_succ]
  split at hi
  ·rename_i y hy
   cases hi
   have:=hB _ _ hy
   subst this
   refine wpIn_mono (hl a w hI) ?_
   intro e a' w' hq
   obtain ⟨he,hf⟩:=hq
   cases e<;>first | exact absurd rfl he | exact hf
  ·rename_i s' hs
   refine wpIn_mono (h s _ hs a w hI) ?_
   intro e a' w' hq
   obtain ⟨rfl,hI'⟩:=hq
   exact zpy hB h N s' x hi hl a' w' hI'
  ·cases hi
def zgv (E:(R:Type)→EvS R) (F:Frm) (rd:Option Nat) (c:Code) (ds:List Nat) (M:Nat) (s:F.S):Option (F.S ⊕ F.S):=
 zgq F.ol s.2 fun y=>(E _).code rd c (F.tm s.1 y) ds (F.hp F.HR (rdy F.ol) s.1 y) F.n0 fun S=>
  bif
    zdS .normal S.e then (bif Nat.ble S.nx M&&zoB ds S.ds then match Kq F (rdy F.ol) S.tm S.H with
    |some s'=>some (.inr s')
    |none=>none
   else none) else some (.inl (s.1,y))
def zxG (E:(R:Type)→EvS R) (F:Frm) (rd:Option Nat) (c:Code) (ds:List Nat) (M:Nat) (s0:F.S) (k:KC R):Option R:=
 match qb (zgv E F rd c ds M) qw s0 with
 |some s=>zgq F.ol s.2 fun y=>(E R).code rd c (F.tm s.1 y) ds (F.hp F.HF (rdy F.ol) s.1 y) M fun S=>bif zdS .normal S.e then none else k S
 |none=>none
theorem zu6 {E:(R:Type)→EvS R} (hE:∀R,(E R).Ok P) {F:Frm} {rd:Option Nat} {c:Code} {ds:List Nat} {M:Nat} {s s':F.S} (h:zgv E F rd c ds M s=some (.inr s')) :
  ∃S:Ug,Ya P rd c (F.tm s.1 s.2) ds (F.hp F.HR (rdy F.ol) s.1 s.2) F.n0 S∧S.nx≤M∧S.ds=ds∧Kq F (rdy F.ol) S.tm S.H=some s'∧S.e=.normal:=by
 unfold zgv at h
 rw [VW] at h
 obtain ⟨S,h1,h2⟩:=(hE _).code h
 rcases vB h2 with ⟨he,h2⟩ | ⟨he,h2⟩
 ·have h6:=zx h2
  clear h2
  obtain ⟨hq,h2⟩:=h6
  simp only [Bool.and_eq_true,Nat.ble_eq] at hq
  split at h2
  case h_2=>cases h2
  rename_i s2 hs2
  cases h2
  exact ⟨S,h1,hq.1,(zkx hq.2).symm,hs2,(zgs he).symm⟩
 ·cases h2
theorem zrO {E:(R:Type)→EvS R} (hE:∀R,(E R).Ok P) {F:Frm} {rd:Option Nat} {c:Code} {ds:List Nat} {M:Nat} {s t:F.S} (h:zgv E F rd c ds M s=some (.inl t)):t=s:=by
 unfold zgv at h
 rw [VW] at h
 obtain ⟨S,h1,h2⟩:=(hE _).code h
 rcases vB h2 with ⟨he,h2⟩ | ⟨he,h2⟩
 ·have h6:=zx h2
  clear h2
  obtain ⟨hq,h2⟩:=h6
  split at h2<;>cases h2
 ·cases h2;rfl
theorem zEy {E:(R:Type)→EvS R} (hE:∀R,(E R).Ok P) {F:Frm} {c:Code} (hF:F.OkC c) (hkeep:∀l L,zk F.H1 l=some (.loop L)→l∈F.pn→OPl.lp l L∈F.ol) (hall:∀b x,reg (zk F.H1 b)=some x→b∈F.ns)
  {rd:Option Nat} {tm:List SV} {ds:List Nat} {H:SH} {M:Nat} {k:KC R} {r:R} {x0:DS F.dl} {y0:OS F.ol} {σ:List (Nat×Nat)} (hM:F.n0≤M) (htm:F.tm0=Gz (asg c) 0 tm)
  (hD:bkD F.dl tm H=some (x0,F.H1)) (hO:bkO F.ol (rdy F.ol) tm F.H1=some (y0,σ)) (hQ:zaQ (idD F.dl++σ)=true) (hN:Gy F.lo F.n0 (idD F.dl++σ)=true) (hR:zgu F (idD F.dl++σ)=true)
  (h:zxG E F rd c ds M (x0,y0) k=some r):∃S,zrD P rd c tm ds H F.lo S∧k S=some r:=by
 unfold zxG at h
 split at h
 case h_2=>cases h
 rename_i s hit
 rw [VW] at h
 obtain ⟨S,⟨a1,a2,a3,a4,a5⟩,h1⟩:=(hE _).code h
 clear h
 rcases vB h1 with ⟨_,h⟩ | ⟨hne,h⟩
 ·cases h
 have hne:S.e≠.normal:=fun e=>by rw [e] at hne;cases hne
 have hg:=ZO hD
 have hvE:∀ν,VN ν F.lo H→VN ν F.lo F.H1:=fun ν hv=>hg.1.vn hv
 have hst0:∀ν,VN ν F.lo F.H1→F.St1 ν (rdy F.ol) (x0,y0):=fun ν hv=>by
  obtain ⟨q1,q2,q3,q4⟩:=zbi hF.toOk hv hv hD hO hN (fun b _=>rfl)
  exact ⟨q4,q3⟩
 have hst:∀ν,VN ν F.lo F.H1→F.St1 ν (rdy F.ol) s:=fun ν hv=>by
  refine zkv (B:=zgv E F rd c ds M) (I:=fun s=>F.St1 ν (rdy F.ol) s) (J:=fun x=>F.St1 ν (rdy F.ol) x) ?_ qw (x0,y0) s hit (hst0 ν hv)
  intro s0 r0 hr0 hI
  cases r0 with
  |inl t=>rw [zrO hE hr0];exact hI
  |inr s'=>
   obtain ⟨S,s1,s2,s3,s4,s5⟩:=zu6 hE hr0
   exact zhW hE hF hv s1 hI s4
 have hv0:VN (fun _=>false) F.lo F.H1:=⟨fun b n hr=>zaL hr,(fun _ _=>rfl),(fun _ _=>rfl)⟩
 have hstf:=hst _ hv0
 refine ⟨S,⟨fun b z hz=>?_,wT.trans (fun l L hl=>?_) a2,⟨?_,fun i hi=>?_⟩,Nat.le_trans (Nat.le_trans hF.le hM) a4,fun ν hv=>?_⟩,h⟩
 ·have h1:reg (zk F.H1 b)=some z:=by rw [hg.1.reg b];exact hz
  refine a1 b z ?_
  rw [zm1,hstf.2 b (hall b z h1)];exact h1
 ·obtain ⟨s0,p0,h0⟩:=hg.1.lkeep l L hl
  by_cases hpn:l∈F.pn
  ·have:=hkeep l _ h0 hpn
   obtain ⟨s1,p1,h1⟩:=Frm.lp_at hF (HX:=F.HF) (vs:=rdy F.ol) (x:=s.1) (y:=s.2) this
   exact ⟨s1,p1,h1⟩
  ·have h1:l∉nmD F.dl:=fun h=>hpn (by simp [Frm.pn,h])
   have h2:l∉nmO F.ol:=fun h=>hpn (by simp [Frm.pn,h])
   refine ⟨s0,p0,?_⟩
   show zk (F.hp F.HF (rdy F.ol) s.1 s.2) l=_
   unfold Frm.hp
   rw [zU,Qk h1]
   simp only
   rw [zU,JK h2]
   simp only
   unfold Frm.HF
   rw [vg,if_neg hpn,h0]
   rfl
 ·rw [a3.1,Frm.tm_len,htm,YZ]
 ·rw [a3.2 i hi,Frm.tm_get hF hi,htm,Wa]
  simp [hi]
 ·have hvE':=hvE ν hv
  obtain ⟨v1,o1⟩:=a5 ν (zwf hvE' hM (hst ν hvE').1)
  refine ⟨v1,(show F.lo≤S.nx from Nat.le_trans (Nat.le_trans hF.le hM) a4),qw,fun φ w K a rc g hf ht hd hr=>?_⟩
  have hfM:vv φ F.lo M:=⟨Nat.le_trans a4 hf.1,fun b h1 h2=>hf.2 b h1 (Nat.lt_of_lt_of_le h2 a4)⟩
  obtain ⟨φ1,m1,g1⟩:=hg.2 ν φ K w g
  have hout:∀b,b < FZ→φ1 b=φ b:=fun b hb=>(m1 (b+1)).2.1 b hb (.inl (by omega))
  have hfr:vv φ1 F.lo M:=⟨hfM.1,fun b h1 h2=>by rw [hout b (by have:=hfM.1;exact Nat.lt_of_lt_of_le h2 this)];exact hfM.2 b h1 h2⟩
  have hle:=(m1 0).1
  have hsrc:∀b,b∈(idD F.dl++σ).map (·.2)→(kG ν (rho ν F.H1) F.HR).get b=none:=fun b hb=>by
   rw [List.mem_map] at hb
   obtain ⟨p,hp,rfl⟩:=hb
   unfold zgu at hR
   rw [List.all_eq_true] at hR
   have:=hR p hp
   rw [uu]
   cases hk:zk F.HR p.2 with
   |none=>rfl
   |some kk=>
    rw [hk] at this
    cases kk<;>first | rfl | cases this
  have hlps:∀l L,OPl.lp l L∈F.ol→∀L',zk F.H1 l=some (.loop L')→∃s p,L'={L with st:=s,pend:=p}:=fun l L hl L' hL'=>by
   rw [(hF.lps l L hl).2.2] at hL';cases hL'
   exact ⟨L.st,L.pend,rfl⟩
  obtain ⟨φ3,hseen⟩:=zmZ (F:=F) (K:=K) (KA:=K) (φ1:=φ1) (φ2:=φ1) (wE:=w) (ν:=ν) (M:=M) (vs:=rdy F.ol) (x:=x0) (y:=y0) (ts:=a.tmps) (HS0:=H) (HS:=F.H1) (Hs:=zbU ((idD F.dl++σ).map (·.2)) (zw ν F.H1)) hF.toOk g1 hfr hM hvE'
   (Ext.refl _ _ _ _) (qC.refl _ _) g1 (zhY g1 hsrc) hvE' hD hO hQ hN
   (fun p hp=>by rw [zbj,if_pos (List.mem_map.2 ⟨p,hp,rfl⟩)]) (fun b _=>rfl) (by rw [hg.1.rho ν];exact ht.mono hle) (by rw [htm,YZ])
   (fun i u hu hj'=>by
    rw [htm,Wa,Option.map_eq_some_iff] at hu
    obtain ⟨v,hv',rfl⟩:=hu
    by_cases hi:0+i∈asg c
    ·rw [if_pos hi] at hj';exact absurd rfl hj'
    ·rw [if_neg hi];exact hv') hlps
  have hd1:ZX φ1 ds a.defers:=hd.mono hle
  have hr1:UI φ1 rd rc:=hr.mono hle
  refine zpy (P:=P) (B:=zgv E F rd c ds M) (c:=c) (F:=fw rc)
   (Inv:=fun s a w'=>∃φ',F.Seen K φ1 w ν F.HR (rdy F.ol) s.1 s.2 φ' w' a.tmps∧ZX φ1 ds a.defers)
   (fun s t hs=>zrO hE hs)
   (fun s0 s' hr0 a0 w0 hI=>by
    obtain ⟨φ',hI,hd0⟩:=hI
    obtain ⟨S,s1,s2,s3,s4,s5⟩:=zu6 hE hr0
    refine wpIn_mono (zhX hE hF g1 hfr hM hvE' hr1 s1 s2 s3 s4 hI hd0) ?_
    rintro e' a' w' ⟨rfl,φ'',q1,q2⟩
    exact ⟨s5,φ'',q1,q2⟩) qw (x0,y0) s hit ?_ a w ⟨φ3,hseen,hd1⟩
  rintro a' w' ⟨φ',q2,q3⟩
  obtain ⟨t1,t2⟩:=zkA hF g1 hvE' hall q2 (fun b kk hb hk=>zwe hb hk)
  have e1:Ext K φ φ1 F.lo M:=(m1 F.lo).wide (Nat.le_refl _) (Nat.le_trans hF.le hM)
  have e2:Ext K φ1 φ' F.lo M:=(q2.ext.weak (fun b hb=>.inl hb)).wide (Nat.le_refl _) hM
  have e3:=e1.comp e2
  have hw:qC K w w':=⟨q2.went.os,q2.went.tape,q2.went.output,q2.went.size,fun b hb=>q2.went.kept b (.inl hb)⟩
  have hfr2:vv φ' M S.nx:=⟨hf.1,fun b h1 h2=>by
   rw [e3.2.1 b (by have h9:S.nx≤FZ:=hf.1;omega) (.inr h1)]
   exact hf.2 b (Nat.le_trans (Nat.le_trans hF.le hM) h1) h2⟩
  refine wpIn_mono (o1.2 φ' w' K a' rc t1 hfr2 t2 (q3.mono q2.ext.1) (hr.mono e3.1)) ?_
  intro e a2 w2 hq
  refine ⟨fun h0=>hne ?_,XS.after e3 hw (Nat.le_trans hF.le hM) a4 hq⟩
  have:=hq.1
  rw [h0] at this
  exact this.symm
def zCv (E:(R:Type)→EvS R) (dl:List DPl) (ol0:List OPl) (g:Nat) (rd:Option Nat) (c:Code) (tm:List SV) (ds:List Nat) (nx sp:Nat) (x0:DS dl) (H1:SH) (k:KC R):Option R:=
 match uX H1 (qS H1) with
 |ns=>match kf ns nx H1 (qS H1) with
  |lps=>match bkO (ol0++lps) (rdy (ol0++lps)) tm H1 with
   |some (y0,σ)=>bif zix ol0&&(zxE (Xa dl (ol0++lps) g c tm nx H1 ns σ) c&&(zaQ (idD dl++σ)&&(Gy nx (nx+g) (idD dl++σ)&&zgu (Xa dl (ol0++lps) g c tm nx H1 ns σ) (idD dl++σ)))) then
     zxG E (Xa dl (ol0++lps) g c tm nx H1 ns σ) rd c ds (nx+g+sp) (x0,y0) k
    else none
   |none=>none
def zxH (E:(R:Type)→EvS R) (pl:zZ) (rd:Option Nat) (c:Code) (tm:List SV) (ds:List Nat) (H:SH) (nx sp:Nat) (k:KC R):Option R:=match pl c tm H nx with
 |some (dl,ol0,g)=>match bkD dl tm H with
  |some (x0,H1)=>zCv E dl ol0 g rd c tm ds nx sp x0 H1 k
  |none=>none
 |none=>none
theorem zCw {E:(R:Type)→EvS R} (hE:∀R,(E R).Ok P) {pl:zZ} {rd:Option Nat} {c:Code} {tm:List SV} {ds:List Nat} {H:SH} {nx sp:Nat} {k:KC R} {r:R} (h:zxH E pl rd c tm ds H nx sp k=some r):∃S,zrD P rd c tm ds H nx S∧k S=some r:=by
 unfold zxH at h
 split at h
 case h_2=>cases h
 rename_i dl ol0 g hpl
 split at h
 case h_2=>cases h
 rename_i x0 H1 hD
 unfold zCv at h
 dsimp only at h
 split at h
 case h_2=>cases h
 rename_i y0 σ hO
 have h6:=zx h
 clear h
 obtain ⟨hc,h⟩:=h6
 simp only [Bool.and_eq_true] at hc
 obtain ⟨c1,c2,c3,c4,c5⟩:=hc
 have hlps:∀l L,OPl.lp l L∈(ol0++kf (uX H1 (qS H1)) nx H1 (qS H1))→uk (uX H1 (qS H1)) nx L.tm=true∧L.dfr < nx∧zk H1 l=some (.loop L):=fun l L hl=>by
  rcases List.mem_append.1 hl with hl | hl
  ·exact absurd hl (GB c1)
  ·exact US hl
 obtain ⟨hF,hkeep⟩:=zoD (F:=Xa dl (ol0++kf (uX H1 (qS H1)) nx H1 (qS H1)) g c tm nx H1 (uX H1 (qS H1)) σ) c2 (Nat.le_add_right _ _) hlps (fun b hb=>zdh hb) (tm:=tm) rfl
 exact zEy (F:=Xa dl (ol0++kf (uX H1 (qS H1)) nx H1 (qS H1)) g c tm nx H1 (uX H1 (qS H1)) σ) hE hF hkeep
  (fun b x hx=>by
   have:∃k,zk H1 b=some k:=by
    cases hk:zk H1 b with
    |none=>exact absurd hx (by show reg (zk H1 b)≠_;rw [hk];simp [reg])
    |some k=>exact ⟨k,rfl⟩
   obtain ⟨k,hk⟩:=this
   exact zdi hx (GA hk)) (Nat.le_add_right _ _) rfl hD hO c3 c4 c5 h
def UU (i:Nat) (S:Ug):Ug:=match S.e with
 |.exit j=>bif Nat.beq j i then {S with e:=.normal} else S
 |_=>S
theorem zxI (ν:Nat→Bool) (i:Nat) (S:Ug):zc8 ν (UU i S)=(zc8 ν S).inBlock i:=by
 unfold UU Res.inBlock
 show _=(match S.e with | .exit j=>if j=i then {zc8 ν S with e:=.normal} else zc8 ν S | _=>zc8 ν S)
 cases hE:S.e with
 |exit j=>
  simp only
  rw [zmx]
  by_cases h:j=i
  ·simp [h,zc8]
  ·simp [h]
 |_=>rfl
def gR (P:Program) (E:EvS R) (rd:Option Nat):Code→List SV→List Nat→SH→Nat→KC R→Option R
 |.skip,tm,ds,H,nx,k=>k ⟨.normal,tm,ds,H,nx⟩
 |.label _,tm,ds,H,nx,k=>k ⟨.normal,tm,ds,H,nx⟩
 |.exit i,tm,ds,H,nx,k=>k ⟨.exit i,tm,ds,H,nx⟩
 |.goto i,tm,ds,H,nx,k=>k ⟨.goto i,tm,ds,H,nx⟩
 |.ret,tm,ds,H,nx,k=>k ⟨.ret,tm,ds,H,nx⟩
 |.seq x y,tm,ds,H,nx,k=>bif E.jq (.seq x y) tm.length then E.join rd (.seq x y) tm ds H nx k else gR P E rd x tm ds H nx fun S=>match S.e with
  |.normal=>gR P E rd y S.tm S.ds S.H S.nx k
  |_=>k S
 |.cond c x y,tm,ds,H,nx,k=>match jX tm H c with
  |some (.bool b)=>bif b then gR P E rd x tm ds H nx k else gR P E rd y tm ds H nx k
  |_=>none
 |.block i c,tm,ds,H,nx,k=>gR P E rd c tm ds H nx fun S=>k (UU i S)
 |.loop c,tm,ds,H,nx,k=>E.loop rd c tm ds H nx k
 |.region _ ops false,tm,ds,H,nx,k=>zxc (opX P E) ops ops.toList tm H nx fun tm' H' nx'=>k ⟨.normal,tm',ds,H',nx'⟩
 |.region _ ops true,tm,ds,H,nx,k=>zAL P (opX P E) ops tm H nx fun tm' H' nx'=>k ⟨.normal,tm',ds,H',nx'⟩
 |.rangeFunc g ps assign body,tm,ds,H,nx,k=>zxr E rd g ps assign body tm ds H nx k
 |.scope c,tm,ds,H,nx,k=>match rd with
  |some _=>none
  |none=>gR P E none c tm ds H nx fun S=>match S.e with
   |.goto l=>match findLabel c l with
    |some rest=>E.scp c l rest S.tm S.ds S.H S.nx k
    |none=>none
   |_=>k S
 |_,_,_,_,_,_=>none
theorem Ya.seq {rd:Option Nat} {x y:Code} {tm:List SV} {ds:List Nat} {H:SH} {nx:Nat} {S1 S:Ug} (h1:Ya P rd x tm ds H nx S1) (he:S1.e=.normal) (h2:Ya P rd y S1.tm S1.ds S1.H S1.nx S):Ya P rd (.seq x y) tm ds H nx S:=by
 obtain ⟨a1,a2,a3,a4,a5⟩:=h1
 obtain ⟨b1,b2,b3,b4,b5⟩:=h2
 refine ⟨a1.trans b1,a2.trans b2,a3.trans b3 (fun i hi=>by simp [asg,hi]) (fun i hi=>by simp [asg,hi]),Nat.le_trans a4 b4,fun ν hv=>?_⟩
 obtain ⟨v1,o1⟩:=a5 ν hv
 obtain ⟨v2,o2⟩:=b5 ν v1
 exact ⟨v2,zAd o1 he o2⟩
theorem zu7 {c rest:Code} {l:Nat} (h:findLabel c l=some rest):∀i∈asg rest,i∈asg c:=by
 induction c generalizing rest with
 |seq a b iha ihb=>
  simp only [findLabel] at h
  cases hA:findLabel a l with
  |some r=>
   rw [hA] at h
   simp only [Option.some.injEq] at h
   subst h
   intro i hi
   simp only [asg,List.mem_append] at hi ⊢
   rcases hi with hi | hi
   ·exact .inl (iha hA i hi)
   ·exact .inr hi
  |none=>
   rw [hA] at h
   simp only [] at h
   intro i hi
   simp only [asg,List.mem_append]
   exact .inr (ihb h i hi)
 |label m=>
  simp only [findLabel] at h
  split at h
  ·cases h;intro i hi;simp [asg] at hi
  ·cases h
 |_=>simp [findLabel] at h
theorem zdk {E:EvS R} (hE:E.Ok P) (hs:vZ P) {rd:Option Nat}:∀(c:Code) {tm:List SV} {ds:List Nat} {H:SH} {nx:Nat} {k:KC R} {r:R},gR P E rd c tm ds H nx k=some r→∃S,Ya P rd c tm ds H nx S∧k S=some r:=by
 intro c
 induction c generalizing rd with
 |skip=>intro tm ds H nx k r h;exact ⟨_,⟨wN.refl H,wT.refl H,JJ.refl _ _,Nat.le_refl _,fun ν hv=>⟨hv,zyO⟩⟩,h⟩
 |label l=>intro tm ds H nx k r h;exact ⟨_,⟨wN.refl H,wT.refl H,JJ.refl _ _,Nat.le_refl _,fun ν hv=>⟨hv,zws⟩⟩,h⟩
 |exit l=>intro tm ds H nx k r h;exact ⟨_,⟨wN.refl H,wT.refl H,JJ.refl _ _,Nat.le_refl _,fun ν hv=>⟨hv,zyP⟩⟩,h⟩
 |goto l=>intro tm ds H nx k r h;exact ⟨_,⟨wN.refl H,wT.refl H,JJ.refl _ _,Nat.le_refl _,fun ν hv=>⟨hv,zyQ⟩⟩,h⟩
 |ret=>intro tm ds H nx k r h;exact ⟨_,⟨wN.refl H,wT.refl H,JJ.refl _ _,Nat.le_refl _,fun ν hv=>⟨hv,zAc⟩⟩,h⟩
 |seq x y ihx ihy=>
  intro tm ds H nx k r h
  simp only [gR] at h
  rcases vB h with ⟨_,h⟩ | ⟨_,h⟩
  ·exact hE.join h
  obtain ⟨S1,s1,h1⟩:=ihx h
  split at h1
  ·rename_i he
   obtain ⟨S,s2,h2⟩:=ihy h1
   exact ⟨S,s1.seq he s2,h2⟩
  ·rename_i he
   obtain ⟨a1,a2,a3,a4,a5⟩:=s1
   exact ⟨S1,⟨a1,a2,a3.mono (fun i hi=>by simp [asg,hi]),a4,fun ν hv=>⟨(a5 ν hv).1,zi6 (a5 ν hv).2 he⟩⟩,h1⟩
 |cond c x y ihx ihy=>
  intro tm ds H nx k r h
  simp only [gR] at h
  split at h
  case h_2=>cases h
  rename_i b hc
  have hc':∀ν,opv (zp (rho ν H) tm) c=some (.bool b):=fun ν=>by have:=zV hc ν;simpa only [den] using this
  rcases vB h with ⟨rfl,h⟩ | ⟨rfl,h⟩
  ·obtain ⟨S,⟨a1,a2,a3,a4,a5⟩,h2⟩:=ihx h
   exact ⟨S,⟨a1,a2,a3.mono (fun i hi=>by simp [asg,hi]),a4,fun ν hv=>⟨(a5 ν hv).1,zpo (hc' ν) (by simpa using (a5 ν hv).2)⟩⟩,h2⟩
  ·obtain ⟨S,⟨a1,a2,a3,a4,a5⟩,h2⟩:=ihy h
   exact ⟨S,⟨a1,a2,a3.mono (fun i hi=>by simp [asg,hi]),a4,fun ν hv=>⟨(a5 ν hv).1,zpo (hc' ν) (by simpa using (a5 ν hv).2)⟩⟩,h2⟩
 |block i c ih=>
  intro tm ds H nx k r h
  simp only [gR] at h
  obtain ⟨S,⟨a1,a2,a3,a4,a5⟩,h2⟩:=ih h
  have e1:(UU i S).H=S.H∧(UU i S).tm=S.tm∧(UU i S).nx=S.nx:=by
   unfold UU
   split
   ·cases Nat.beq _ i<;>exact ⟨rfl,rfl,rfl⟩
   ·exact ⟨rfl,rfl,rfl⟩
  refine ⟨UU i S,⟨by rw [e1.1];exact a1,by rw [e1.1];exact a2,by rw [e1.2.1];exact a3,by rw [e1.2.2];exact a4,fun ν hv=>⟨by rw [e1.1,e1.2.2];exact (a5 ν hv).1,?_⟩⟩,h2⟩
  rw [zxI]
  exact zwt (a5 ν hv).2
 |loop c ih=>
  intro tm ds H nx k r h
  simp only [gR] at h
  obtain ⟨S,⟨b1,b2,b3,b4,b5⟩,h2⟩:=hE.loop h
  exact ⟨S,⟨b1,b2,b3,b4,fun ν hv=>⟨(b5 ν hv).1,zyS (b5 ν hv).2⟩⟩,h2⟩
 |region id ops draw=>
  intro tm ds H nx k r h
  cases draw with
  |false=>
   simp only [gR] at h
   obtain ⟨tm',H',nx',⟨a1,a2,a3,a4,a5⟩,h2⟩:=ztq (zCe hE hs) (j:=0) (ops:=ops) (fun i=>by simp) h
   refine ⟨⟨.normal,tm',ds,H',nx'⟩,⟨a1,a2,a3,a4,fun ν hv=>⟨(a5 ν hv).1,zvo ?_⟩⟩,h2⟩
   have:=(a5 ν hv).2
   rw [List.range_eq_range']
   simpa using this
  |true=>
   simp only [gR] at h
   obtain ⟨tm',H',nx',s1,h2⟩:=zEb (id:=id) (ds:=ds) (zCe hE hs) h
   exact ⟨_,s1,h2⟩
 |rangeFunc g ps assign body iha ihb=>
  intro tm ds H nx k r h
  simp only [gR] at h
  exact zCg hE hs h
 |scope c ih=>
  intro tm ds H nx k r h
  cases rd with
  |some l=>simp [gR] at h
  |none=>
   simp only [gR] at h
   obtain ⟨S1,⟨a1,a2,a3,a4,a5⟩,h1⟩:=ih h
   split at h1
   ·rename_i l he
    split at h1
    case h_2=>cases h1
    rename_i rest hf
    obtain ⟨S,⟨b1,b2,b3,b4,b5⟩,h2⟩:=hE.scp hf (zu7 hf) h1
    refine ⟨S,⟨a1.trans b1,a2.trans b2,a3.trans b3 (fun i hi=>hi) (fun i hi=>hi),Nat.le_trans a4 b4,fun ν hv=>?_⟩,h2⟩
    obtain ⟨v1,o1⟩:=a5 ν hv
    obtain ⟨v2,o2⟩:=b5 ν v1
    exact ⟨v2,zmo (zrj o1 he hf o2)⟩
   ·rename_i he
    exact ⟨S1,⟨a1,a2,a3,a4,fun ν hv=>⟨(a5 ν hv).1,zmo (zuE (a5 ν hv).2 he)⟩⟩,h1⟩
 |refuse s=>intro tm ds H nx k r h;simp [gR] at h
def zA1 (P:Program) (E:EvS R) (rd:Option Nat) (c:Code) (tm:List SV) (ds:List Nat) (H:SH) (nx:Nat) (k:KC R):Option R:=match c with
 |.seq x y=>gR P E rd x tm ds H nx fun S=>match S.e with
  |.normal=>gR P E rd y S.tm S.ds S.H S.nx k
  |_=>k S
 |c=>gR P E rd c tm ds H nx k
theorem zEz {E:EvS R} (hE:E.Ok P) (hs:vZ P) {rd:Option Nat} {c:Code} {tm:List SV} {ds:List Nat} {H:SH} {nx:Nat} {k:KC R} {r:R} (h:zA1 P E rd c tm ds H nx k=some r):∃S,Ya P rd c tm ds H nx S∧k S=some r:=by
 unfold zA1 at h
 split at h
 ·rename_i x y
  obtain ⟨S1,s1,h1⟩:=zdk hE hs _ h
  split at h1
  ·rename_i he
   obtain ⟨S,s2,h2⟩:=zdk hE hs _ h1
   exact ⟨S,s1.seq he s2,h2⟩
  ·rename_i he
   obtain ⟨a1,a2,a3,a4,a5⟩:=s1
   exact ⟨S1,⟨a1,a2,a3.mono (fun i hi=>by simp [asg,hi]),a4,fun ν hv=>⟨(a5 ν hv).1,zi6 (a5 ν hv).2 he⟩⟩,h1⟩
 ·exact zdk hE hs _ h
abbrev Tbl:=List (FuncId×Con)
def zA2:Tbl→FuncId→Option Con:=fun t f=>List.rec (motive:=fun _=>Option Con) none (fun x _ ih=>bif Nat.beq x.1 f then some x.2 else ih) t
def zfR (P:Program) (t:Tbl):Prop:=∀x∈t,x.2.Ok P x.1
theorem zEA {t:Tbl} (h:zfR P t) {f:FuncId} {c:Con}:zA2 t f=some c→c.Ok P f:=by
 induction t with
 |nil=>intro hf;cases hf
 |cons x r ih=>
  intro hf
  have hf:(bif Nat.beq x.1 f then some x.2 else zA2 r f)=some c:=hf
  cases hb:Nat.beq x.1 f with
  |true=>
   rw [hb] at hf
   cases hf
   have:=Nat.eq_of_beq_eq_true hb
   subst this
   exact h x (by simp)
  |false=>
   rw [hb] at hf
   exact ih (fun y hy=>h y (List.mem_cons_of_mem _ hy)) hf
def zFj:Nat→Nat
 |0=>4096
 |n+1=>16*zFj n
def zxJ (P:Program) (t:Tbl) (lib:Lbs) (pl:zZ) (jq:Code→Nat→Bool) (sp:Nat) (E:(R:Type)→EvS R) (R:Type):EvS R where
 call:=fun f args H nx k=>match zA2 t f with
  |some c=>zEe c args H nx k
  |none=>zEj lib f args H nx k (zrG P (E R) f args H nx k)
 code:=fun rd c tm ds H nx k=>gR P (E R) rd c tm ds H nx k
 loop:=fun rd c tm ds H nx k=>match pl c tm H nx with
  |some _=>bif jq (.scope (.loop c)) tm.length then zxH E pl rd c tm ds H nx sp k else zoC (zdS .normal) (fun _=>true) E pl rd c tm ds H nx sp k
  |none=>gR P (E R) rd c tm ds H nx fun S=>match S.e with
   |.normal=>(E R).loop rd c S.tm S.ds S.H S.nx k
   |_=>k S
 scp:=fun c l x tm ds H nx k=>match pl x tm H nx with
  |some _=>zoC (fun e=>zdS e (.goto l)) zoE E pl none x tm ds H nx sp k
  |none=>gR P (E R) none x tm ds H nx fun S=>match S.e with
   |.goto l=>match findLabel c l with
    |some rest=>(E R).scp c l rest S.tm S.ds S.H S.nx k
    |none=>none
   |_=>k S
 join:=fun rd c tm ds H nx k=>zA0 E pl rd c tm ds H nx sp k
 code0:=fun rd c tm ds H nx k=>zA1 P (E R) rd c tm ds H nx k
 jq:=jq
theorem zF8 {t:Tbl} (ht:zfR P t) {lib:Lbs} (hlib:zoy P lib) {pl:zZ} {jq:Code→Nat→Bool} {sp:Nat} {E:(R:Type)→EvS R} (hE:∀R,(E R).Ok P) (hs:vZ P) (R:Type):(zxJ P t lib pl jq sp E R).Ok P:=by
 refine ⟨fun {f args H nx k r} h=>?_,fun h=>zdk (hE R) hs _ h,fun {rd c tm ds H nx k r} h=>?_,fun {c l0 x tm ds H nx k r} hl0 hx h=>?_,fun h=>zEx hE h,fun h=>zEz (hE R) hs h⟩
 ·simp only [zxJ] at h
  split at h
  ·rename_i c hc;exact zF1 (zEA ht hc) h
  ·rcases zF4 hlib h with h | h
   ·exact h
   ·exact zqa (hE R) h
 ·simp only [zxJ] at h
  split at h
  ·rcases vB h with ⟨_,h⟩ | ⟨_,h⟩
   ·exact zCw hE h
   ·exact zEv (fun e=>⟨fun h=>(zgs h).symm,fun h=>by subst h;rfl⟩) hE h
  ·obtain ⟨S1,⟨a1,a2,a3,a4,a5⟩,h1⟩:=zdk (hE R) hs _ h
   split at h1
   ·rename_i he
    obtain ⟨S,⟨b1,b2,b3,b4,b5⟩,h2⟩:=(hE R).loop h1
    refine ⟨S,⟨a1.trans b1,a2.trans b2,a3.trans b3 (fun i hi=>hi) (fun i hi=>hi),Nat.le_trans a4 b4,fun ν hv=>?_⟩,h2⟩
    obtain ⟨v1,o1⟩:=a5 ν hv
    obtain ⟨v2,o2⟩:=b5 ν v1
    exact ⟨v2,zyR o1 he o2⟩
   ·rename_i he
    exact ⟨S1,⟨a1,a2,a3,a4,fun ν hv=>⟨(a5 ν hv).1,zAe (a5 ν hv).2 he⟩⟩,h1⟩
 ·simp only [zxJ] at h
  split at h
  ·exact zCt (fun e h=>zgs h) hE hl0 hx h
  ·obtain ⟨S1,⟨a1,a2,a3,a4,a5⟩,h1⟩:=zdk (hE R) hs _ h
   split at h1
   ·rename_i l he
    split at h1
    case h_2=>cases h1
    rename_i rest hf
    obtain ⟨S,⟨b1,b2,b3,b4,b5⟩,h2⟩:=(hE R).scp hf (zu7 hf) h1
    refine ⟨S,⟨a1.trans b1,a2.trans b2,a3.trans b3 hx (fun i hi=>hi),Nat.le_trans a4 b4,fun ν hv=>?_⟩,h2⟩
    obtain ⟨v1,o1⟩:=a5 ν hv
    obtain ⟨v2,o2⟩:=b5 ν v1
    exact ⟨v2,zrj o1 he hf o2⟩
   ·rename_i he
    exact ⟨S1,⟨a1,a2,a3.mono hx,a4,fun ν hv=>⟨(a5 ν hv).1,zuE (a5 ν hv).2 he⟩⟩,h1⟩
def evS (P:Program) (t:Tbl) (lib:Lbs) (pl:zZ) (jq:Code→Nat→Bool):Nat→(R:Type)→EvS R
 |0=>fun _=>⟨fun _ _ _ _ _=>none,fun _ _ _ _ _ _ _=>none,fun _ _ _ _ _ _ _=>none,fun _ _ _ _ _ _ _ _=>none,fun _ _ _ _ _ _ _=>none,fun _ _ _ _ _ _ _=>none,fun _ _=>false⟩
 |n+1=>fun R=>zxJ P t lib pl jq (zFj n) (evS P t lib pl jq n) R
theorem zxK {t:Tbl} (ht:zfR P t) {lib:Lbs} (hlib:zoy P lib) {pl:zZ} {jq:Code→Nat→Bool} (hs:vZ P):∀n R,(evS P t lib pl jq n R).Ok P
 |0,R=>⟨(fun h=>by cases h),(fun h=>by cases h),(fun h=>by cases h),(fun _ _ h=>by cases h),(fun h=>by cases h),(fun h=>by cases h)⟩
 |n+1,R=>zF8 ht hlib (zxK ht hlib hs n) hs R
def zan:Code→Option Nat
 |.region i _ _=>some i
 |.seq a b=>match zan a with
  |some i=>some i
  |none=>zan b
 |.cond _ a b=>match zan a with
  |some i=>some i
  |none=>zan b
 |.block _ c=>zan c
 |.loop c=>zan c
 |.scope c=>zan c
 |_=>none
def zxL (P:Program) (f:FuncId):Bool:=match zwj P f with
 |some fn=>fn.body.isSome
 |none=>false
def zm2 (b:List VT) (v:SV):List SV:=match b with
 |[_]=>[v]
 |_=>match v with
  |.tup vs=>vs
  |_=>[.junk]
def sFl (P:Program) (lib:Lbs) (t:Tbl) (pl:zZ) (jq:Code→Nat→Bool) (n:Nat) (f:FuncId) (a b:List VT) (x:T (zJ a)):Option (T (zJ b)):=
 zrG P (evS P t lib pl jq n (T (zJ b))) f (wa a x) [] 0 fun v H nx=>bif Nat.ble nx FZ then match XV b (zm2 b v) H with
  |some (y,_)=>some y
  |none=>none
  else none
def sF (P:Program) (t:Tbl) (pl:zZ) (jq:Code→Nat→Bool) (n:Nat) (f:FuncId) (a b:List VT) (x:T (zJ a)):Option (T (zJ b)):=sFl P ⟨[],[]⟩ t pl jq n f a b x
theorem zCx:∀{b:List VT} {v:SV} {H H':SH} {y:T (zJ b)},XV b (zm2 b v) H=some (y,H')→
  ∀(ν:Nat→Bool) (G:SH) (φ:Ren) v',zo φ (den (rho ν G) v) v'→∃us,zy φ (zp (rho ν G) (zm2 b v)) us∧∀φ0 ws,zy φ0 ws us→ws.length=b.length→zo φ0 (XT ws) v'
 |[],v,H,H',y,h=>by
  intro ν G φ v' hv
  cases v with
  |tup vs=>
   simp only [den] at hv
   obtain ⟨ys,rfl,hl⟩:=hv.tuple_inv
   refine ⟨ys.toList,by simpa [zm2] using hl,fun φ0 ws hw hlen=>?_⟩
   have:ws=[]:=List.length_eq_zero_iff.1 hlen
   subst this
   exact .tuple' (by simpa using hw)
  |_=>simp [zm2,XV] at h
 |[a],v,H,H',y,h=>by
  intro ν G φ v' hv
  refine ⟨[v'],⟨hv,trivial⟩,fun φ0 ws hw hlen=>?_⟩
  match ws,hw with
  |[x],hw=>exact hw.1
 |a::b::r,v,H,H',y,h=>by
  intro ν G φ v' hv
  cases v with
  |tup vs=>
   simp only [den] at hv
   obtain ⟨ys,rfl,hl⟩:=hv.tuple_inv
   refine ⟨ys.toList,by simpa [zm2] using hl,fun φ0 ws hw hlen=>?_⟩
   have:XT ws=.tuple ws.toArray:=by
    match ws,hlen with
    |[],hlen=>simp at hlen
    |[x],hlen=>simp at hlen
    |_::_::_,_=>rfl
   rw [this]
   exact .tuple' (by simpa using hw)
  |_=>
   simp only [zm2,XV] at h
   split at h<;>cases h
theorem zkC:∀(l:List VT) (x:T (zJ l)),(wa l x).length=l.length
 |[],_=>rfl
 |a::r,x=>by simp [wa,zkC r x.2]
theorem zgw {lib:Lbs} (hlib:zoy P lib) {t:Tbl} (ht:zfR P t) (hs:vZ P) {pl:zZ} {jq:Code→Nat→Bool} {n:Nat} {f:FuncId} (hf:zxL P f=true) {a b:List VT}:Con.Ok P f ⟨a,b,sFl P lib t pl jq n f a b⟩:=by
 refine ⟨?_,fun x y h=>?_⟩
 ·unfold zxL at hf
  split at hf
  ·rename_i fn h;rw [zs6] at h;exact ⟨fn,h,hf⟩
  ·cases hf
 ·dsimp only at x y h ⊢
  unfold sFl at h
  obtain ⟨v,H',nx',⟨_,a1,a2,a3,a4⟩,h1⟩:=zqa (zxK ht hlib hs n _) h
  have h6:=zx h1
  clear h1
  obtain ⟨hz,h1⟩:=h6
  have hz:=Nat.le_of_ble_eq_true hz
  split at h1
  case h_2=>cases h1
  rename_i y' H2 hcv
  cases h1
  obtain ⟨hg,hr⟩:=zd8 hcv
  let ν:Nat→Bool:=fun _=>false
  have hv0:VN ν 0 []:=⟨(fun b n hb=>zaL hb),(fun b _=>rfl),(fun b hb=>by cases hb)⟩
  obtain ⟨v1,o1⟩:=a4 ν hv0
  refine ⟨zw ν H2,nx',hz,a3,fun φ w K us g hfr hl=>?_⟩
  refine Calls.mono (o1.2 φ w K us g hfr (by rw [zgo a x (rho ν []) (fun _=>bad)];exact hl)) ?_
  rintro e w' ⟨v',φ',rfl,x1,x2,x3,x4⟩
  obtain ⟨φ2,e1,g2⟩:=hg.2 ν φ' K w' x3
  obtain ⟨us',hu1,hu2⟩:=zCx hcv ν H' φ' v' x1
  have hl2:=hr ν H2 (GLe.refl _) φ2 K w' nx' us' g2 (hg.1.vn v1) (hu1.mono (e1 0).1) (fun _=>bad)
  refine ⟨v',φ2,rfl,?_,x2.trans (e1 nx') a3 (Nat.le_refl _),g2,x4⟩
  rw [UO]
  exact hu2 φ2 _ hl2 (by rw [wU,zkC])
theorem qu:zhV P []:=fun x hx=>by cases hx
theorem zA3 {f:FuncId} {s:ztx} (h:zjg P f) (hs:zhV P s):zhV P ((f,true)::s):=fun x hx=>by
 rcases List.mem_cons.1 hx with rfl | hx
 ·exact h
 ·exact hs x hx
theorem zA4 {f:FuncId} {s:ztx} (h:zjh P f) (hs:zhV P s):zhV P ((f,false)::s):=fun x hx=>by
 rcases List.mem_cons.1 hx with rfl | hx
 ·exact h
 ·exact hs x hx
theorem zCy:zoy P ⟨[],[]⟩:=⟨qu,fun x hx=>by cases hx⟩
theorem zv {t:Tbl} (ht:zfR P t) (hs:vZ P) {pl:zZ} {jq:Code→Nat→Bool} {n:Nat} {f:FuncId} (hf:zxL P f=true) {a b:List VT}:Con.Ok P f ⟨a,b,sF P t pl jq n f a b⟩:=zgw zCy ht hs hf
def sP (P:Program) (lib:Lbs) (t:Tbl) (pl:zZ) (jq:Code→Nat→Bool) (n:Nat) (f:FuncId) (ty:Ty) (a b:List VT) (x:T ty) (y:T (zJ a)):Option (T ty×T (zJ b)):=
 zrG P (evS P t lib pl jq n (T ty×T (zJ b))) f (.ptr 0 0::wa a y) [(0,.vars (wJ ty x))] 1 fun v H nx=>bif Nat.ble nx FZ then match XV b (zm2 b v) H with
  |some (r,H1)=>match zk H1 0 with
   |some (.vars cs)=>match cvE ty (cvC ty cs H1) with
    |some (x',_)=>some (x',r)
    |none=>none
   |_=>none
  |none=>none
  else none
theorem xc {lib:Lbs} (hlib:zoy P lib) {t:Tbl} (ht:zfR P t) (hs:vZ P) {pl:zZ} {jq:Code→Nat→Bool} {n:Nat} {f:FuncId} (hf:zxL P f=true) {ty:Ty} {a b:List VT}:yC.Ok P f ⟨ty,a,b,sP P lib t pl jq n f ty a b⟩:=by
 refine ⟨?_,fun x y z h=>?_⟩
 ·unfold zxL at hf
  split at hf
  ·rename_i fn h;rw [zs6] at h;exact ⟨fn,h,hf⟩
  ·cases hf
 ·dsimp only at x y z h ⊢
  unfold sP at h
  obtain ⟨v,H',nx',⟨_,a1,a2,a3,a4⟩,h1⟩:=zqa (zxK ht hlib hs n _) h
  have h6:=zx h1
  clear h1
  obtain ⟨hz,h1⟩:=h6
  have hz:=Nat.le_of_ble_eq_true hz
  split at h1
  case h_2=>cases h1
  rename_i r H2 hcv
  split at h1
  case h_2=>cases h1
  rename_i cs hcs
  split at h1
  case h_2=>cases h1
  rename_i x' H3 hx'
  cases h1
  obtain ⟨hg,hr⟩:=zd8 hcv
  obtain ⟨hg3,hr3⟩:=zCl hx'
  let ν:Nat→Bool:=fun _=>false
  have hr0:∀c,reg (zk [(0,SB.vars (wJ ty x))] c)=none:=fun c=>by
   by_cases hc:c=0
   ·subst hc;rfl
   ·have:zk [(0,SB.vars (wJ ty x))] c=none:=by
     show (bif Nat.beq 0 c then some (SB.vars (wJ ty x)) else none)=none
     cases hq:Nat.beq 0 c with
     |true=>exact absurd (Nat.eq_of_beq_eq_true hq).symm hc
     |false=>rfl
    rw [this];rfl
  have hv0:VN ν 1 [(0,.vars (wJ ty x))]:=⟨(fun c n hb=>by rw [hr0] at hb;cases hb),(fun c _=>rfl),(fun c hb=>by
   by_cases hc:c=0
   ·subst hc;cases hb
   ·have:zk [(0,SB.vars (wJ ty x))] c=none:=by
     show (bif Nat.beq 0 c then some (SB.vars (wJ ty x)) else none)=none
     cases hq:Nat.beq 0 c with
     |true=>exact absurd (Nat.eq_of_beq_eq_true hq).symm hc
     |false=>rfl
    rw [this] at hb<;>cases hb)⟩
  obtain ⟨v1,o1⟩:=a4 ν hv0
  have hc0:zk H3 0=some (.vars cs):=zxx hg3.1 hcs
  have hd0:(zw ν H3).get 0=some (.cells (zp (rho ν H3) cs) false):=by rw [zF,hc0];rfl
  have hden:zw ν [(0,.vars (wJ ty x))]=[(0,.cells (qn ty x) false)]:=by
   show [(0,Blk.cells (zp _ (wJ ty x)) false)]=_
   rw [qA,yH]
  have hfin:((zw ν H3).set 0 (.cells (qn ty x') false)).get 0=some (.cells (qn ty x') false):=by rw [Hp.get_set,if_pos rfl,hd0];rfl
  refine ⟨(zw ν H3).set 0 (.cells (qn ty x') false),nx',hz,⟨a3,fun φ w K us g hfr hl=>?_⟩,hfin⟩
  have hl':zy φ (zp (rho ν [(0,.vars (wJ ty x))]) (.ptr 0 0::wa a y)) us:=by
   show zy φ (.pointer (some ⟨0,0,none⟩)::zp _ (wa a y)) us
   rw [zgo a y _ (fun _=>bad)];exact hl
  refine Calls.mono (o1.2 φ w K us (by rw [hden];exact g) hfr hl') ?_
  rintro e w' ⟨v',φ',rfl,x1,x2,x3,x4⟩
  obtain ⟨φ2,e1,g2⟩:=(hg.trans hg3).2 ν φ' K w' x3
  have hvn:=(hg.trans hg3).1.vn v1
  obtain ⟨us',hu1,hu2⟩:=zCx hcv ν H' φ' v' x1
  have hl2:=hr ν H3 hg3.1 φ2 K w' nx' us' g2 hvn (hu1.mono (e1 0).1) (fun _=>bad)
  obtain ⟨L,hL,hB⟩:=g2.rel 0 _ hd0
  have hB2:jN φ2 w' L (.cells (qn ty x') false):=by
   obtain ⟨arr,el,fr,b1,b2,b3⟩:=hB
   obtain ⟨ws,q1,q2⟩:=zty _ _ b2
   have q3:=hr3 ν H3 (GLe.refl _) φ2 K w' nx' ws g2 hvn (by rw [←show rho ν H3=rho ν H2 from hg3.1.rho ν];exact q1)
   refine ⟨arr,el,fr,b1,fun j v hj=>?_,b3⟩
   obtain ⟨v',s1,s2⟩:=q3.get hj
   exact ⟨v',q2 j v' s1,s2⟩
  refine ⟨v',φ2,rfl,?_,x2.trans (e1 nx') a3 (Nat.le_refl _),zA.upd g2 hd0 rfl hL (fun _ _=>rfl) rfl hB2,x4⟩
  rw [UO]
  exact hu2 φ2 _ hl2 (by rw [wU,zkC])
end Go.Fz.Sy
end
