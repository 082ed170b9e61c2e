/- Parts of a proof, joined. -/
import Derived.Test.YtleloebnggepoaaGreatS37
set_option linter.unusedSectionVars false
set_option linter.unusedVariables false
set_option linter.unusedSimpArgs false
set_option maxHeartbeats 0
set_option maxRecDepth 100000
noncomputable section
namespace Go.Proofs.YtleloebnggepoaaGreat.sg
open Go Go.Fz Go.Fz.Sy
structure J2 (x:qx) (n:Int) (L0:List qx) (s:Sig):Prop where
 wn:(wOf s x.1).2.1=n
 wx:(wOf s x.1).2.2.2.1=x
 ws:(wOf s x.1).2.2.1=1∨(wOf s x.1).2.2.1=2∨(wOf s x.1).2.2.1=3
 oth:∀id,idP id→id≠x.1→(wOf s id).2.2.1≠1∧(wOf s id).2.2.1≠4
 st:((cOf s x.1).2.1 < n∧led s=L0)∨((cOf s x.1).2.1=n∧JU Un L0 x=(L0++[x],0)∧led s=L0++[x]∧((cOf s x.1).2.2.1=1∨(cOf s x.1).2.2.1=2))∨((cOf s x.1).2.1=n∧(JU Un L0 x).2≠0∧led s=L0∧(cOf s x.1).2.2.1=3)
theorem J2.step {k n:Int} {x:qx} {L0:List qx} {s:Sig} {l:Le} {X:List Le} {s':Sig} (iv:Iv k s) (hX:X.length≤1024) (j:J2 x n L0 s) (hl:zcx s l) (hs:Xg (upX s X) l s'):J2 x n L0 s':=by
 obtain ⟨hid,hlo⟩:=hl
 have g:=iv.g l.2.1 hid
 have gn:=g.n0;have gc:=g.c0;have gcw:=g.cw;have gcl:=g.cl;have gcz:=g.cz;have gz:=g.z
 have sh:Shp (upX s X):=iv.sh.upX hX
 have jws:=j.ws;have jst:=j.st;have jn:=j.wn
 have pend:(wOf s l.2.1).2.2.1=1∨(wOf s l.2.1).2.2.1=4→l.2.1=x.1∧(wOf s x.1).2.2.1=1:=fun h=>by
  by_cases e:l.2.1=x.1
  ·rw [e] at h;exact ⟨e,by omega⟩
  ·have:=j.oth _ hid e;omega
 have same:wOf s'=wOf s→cOf s'=cOf s→led s'=led s→J2 x n L0 s':=fun e1 e2 e3=>⟨by rw [e1];exact j.wn,by rw [e1];exact j.wx,by rw [e1];exact j.ws,by rw [e1];exact j.oth,by rw [e2,e3];exact j.st⟩
 cases hs with
 |ask hk hs=>
  cases hs with
  |old h=>exact same rfl rfl rfl
  |same h=>exact same rfl rfl rfl
  |fail h hw e he ha=>
   have h:(cOf s l.2.1).2.1 < l.2.2.1:=h
   obtain ⟨a1,a2,⟨a3,a4,a5,a6⟩ | ⟨a3,_⟩⟩:=Wr g hlo hk h
   rotate_left
   ·rw [hw] at a3;cases a3
   obtain ⟨ei,_⟩:=pend (.inl a4)
   have ec:∀q,cOf (snds (setC (upX s X) (l.2.1,(l.2.2.1,(3,(e,[]))))) (xT (l.2.1,(l.2.2.1,(3,(e,[])))))) q=if q=l.2.1 then (l.2.1,(l.2.2.1,(3,(e,[])))) else cOf s q:=fun q=>KT sh _ q
   rw [ei] at a1 h
   have h2:led s=L0:=by
    rcases jst with h3 | h3 | h3
    ·exact h3.2
    ·omega
    ·omega
   refine ⟨j.wn,j.wx,j.ws,j.oth,.inr (.inr ?_)⟩
   rw [ec,if_pos ei.symm]
   refine ⟨by show l.2.2.1=n;omega,?_,h2,rfl⟩
   have ha:(JU s.1 (led s) l.2.2.2.2.2.1).2=e:=ha
   rw [iv.sh.fab,h2,a5,ei,j.wx] at ha
   rw [ha];exact he
  |put h hw ha hh=>
   have h:(cOf s l.2.1).2.1 < l.2.2.1:=h
   obtain ⟨a1,a2,⟨a3,a4,a5,a6⟩ | ⟨a3,_⟩⟩:=Wr g hlo hk h
   rotate_left
   ·rw [hw] at a3;cases a3
   obtain ⟨ei,_⟩:=pend (.inl a4)
   have ec:∀q,cOf (snds (setC (upL (upX s X) (led s++[l.2.2.2.2.2.1])) (l.2.1,(l.2.2.1,(1,(0,N4))))) (QF (l.2.1,(l.2.2.1,(1,(0,N4)))))) q=if q=l.2.1 then (l.2.1,(l.2.2.1,(1,(0,N4)))) else cOf s q:=fun q=>KT (sh.upL _) _ q
   rw [ei] at a1 h
   have h2:led s=L0:=by
    rcases jst with h3 | h3 | h3
    ·exact h3.2
    ·omega
    ·omega
   have ex:l.2.2.2.2.2.1=x:=by rw [a5,ei,j.wx]
   have ha:JU s.1 (led s) l.2.2.2.2.2.1=(led s++[l.2.2.2.2.2.1],0):=ha
   rw [iv.sh.fab,h2,ex] at ha
   refine ⟨j.wn,j.wx,j.ws,j.oth,.inr (.inl ?_)⟩
   refine ⟨?_,ha,?_,?_⟩
   ·show (cOf (snds (setC (upL (upX s X) (led s++[l.2.2.2.2.2.1])) (l.2.1,(l.2.2.1,(1,(0,N4))))) (QF (l.2.1,(l.2.2.1,(1,(0,N4)))))) x.1).2.1=n
    rw [ec,if_pos ei.symm];show l.2.2.1=n;omega
   ·show led s++[l.2.2.2.2.2.1]=_
    rw [h2,ex]
   ·show (cOf (snds (setC (upL (upX s X) (led s++[l.2.2.2.2.2.1])) (l.2.1,(l.2.2.1,(1,(0,N4))))) (QF (l.2.1,(l.2.2.1,(1,(0,N4)))))) x.1).2.2.1=1∨_
    rw [ec,if_pos ei.symm];exact .inl rfl
  |gone h hw hx=>
   have h:(cOf s l.2.1).2.1 < l.2.2.1:=h
   obtain ⟨a1,a2,⟨a3,_⟩ | ⟨a3,a4,a5⟩⟩:=Wr g hlo hk h
   ·rw [hw] at a3;cases a3
   obtain ⟨ei,h9⟩:=pend (.inr a4)
   rw [ei] at a4
   omega
  |drop h hw y hx hi=>
   have h:(cOf s l.2.1).2.1 < l.2.2.1:=h
   obtain ⟨a1,a2,⟨a3,_⟩ | ⟨a3,a4,a5⟩⟩:=Wr g hlo hk h
   ·rw [hw] at a3;cases a3
   obtain ⟨ei,h9⟩:=pend (.inr a4)
   rw [ei] at a4
   omega
 |ins hk hs=>
  cases hs with
  |old h=>exact same rfl rfl rfl
  |new h=>exact same rfl rfl rfl
 |done hk hs=>
  have n1:1≤l.2.2.1:=by
   unfold LOk at hlo
   rcases hlo with ⟨e,_⟩ | ⟨e,_⟩ | ⟨e,_⟩ | ⟨e,hn,h1,h2⟩ | ⟨e,_⟩ | ⟨e,_⟩ | ⟨e,_⟩
   ·omega
   ·omega
   ·omega
   ·exact h1
   all_goals omega
  cases hs with
  |old h=>exact same rfl rfl rfl
  |wait h hs hw=>
   have h:(cOf s l.2.1).2.1=l.2.2.1:=h
   have hs:(cOf s l.2.1).2.2.1=1∨(cOf s l.2.1).2.2.1=4:=hs
   have hcw:(cOf s l.2.1).2.1=(wOf s l.2.1).2.1:=by
    rcases gc.2 with h3 | h3
    ·exact h3
    ·have:=gcl (by omega) (by omega);omega
   have hp:=gcw (by omega) hcw
   obtain ⟨ei,h9⟩:=pend (by omega)
   have ec:∀q,cOf (setC (upX s X) (l.2.1,(l.2.2.1,((cOf s l.2.1).2.2.1,((cOf s l.2.1).2.2.2.1,(cOf s l.2.1).2.2.2.2.erase l.2.2.2.1))))) q=if q=l.2.1 then (l.2.1,(l.2.2.1,((cOf s l.2.1).2.2.1,((cOf s l.2.1).2.2.2.1,(cOf s l.2.1).2.2.2.2.erase l.2.2.2.1)))) else cOf s q:=fun q=>KT sh _ q
   have e7:(cOf (setC (upX s X) (l.2.1,(l.2.2.1,((cOf s l.2.1).2.2.1,((cOf s l.2.1).2.2.2.1,(cOf s l.2.1).2.2.2.2.erase l.2.2.2.1))))) x.1).2.1=(cOf s x.1).2.1∧(cOf (setC (upX s X) (l.2.1,(l.2.2.1,((cOf s l.2.1).2.2.1,((cOf s l.2.1).2.2.2.1,(cOf s l.2.1).2.2.2.2.erase l.2.2.2.1))))) x.1).2.2.1=(cOf s x.1).2.2.1:=by
    rw [ec,if_pos ei.symm,←ei]
    exact ⟨h.symm,rfl⟩
   refine ⟨j.wn,j.wx,j.ws,j.oth,?_⟩
   show ((cOf (setC (upX s X) (l.2.1,(l.2.2.1,((cOf s l.2.1).2.2.1,((cOf s l.2.1).2.2.2.1,(cOf s l.2.1).2.2.2.2.erase l.2.2.2.1))))) x.1).2.1 < n∧led s=L0)∨((cOf (setC (upX s X) (l.2.1,(l.2.2.1,((cOf s l.2.1).2.2.1,((cOf s l.2.1).2.2.2.1,(cOf s l.2.1).2.2.2.2.erase l.2.2.2.1))))) x.1).2.1=n∧JU Un L0 x=(L0++[x],0)∧led s=L0++[x]∧((cOf (setC (upX s X) (l.2.1,(l.2.2.1,((cOf s l.2.1).2.2.1,((cOf s l.2.1).2.2.2.1,(cOf s l.2.1).2.2.2.2.erase l.2.2.2.1))))) x.1).2.2.1=1∨(cOf (setC (upX s X) (l.2.1,(l.2.2.1,((cOf s l.2.1).2.2.1,((cOf s l.2.1).2.2.2.1,(cOf s l.2.1).2.2.2.2.erase l.2.2.2.1))))) x.1).2.2.1=2))∨((cOf (setC (upX s X) (l.2.1,(l.2.2.1,((cOf s l.2.1).2.2.1,((cOf s l.2.1).2.2.2.1,(cOf s l.2.1).2.2.2.2.erase l.2.2.2.1))))) x.1).2.1=n∧(JU Un L0 x).2≠0∧led s=L0∧(cOf (setC (upX s X) (l.2.1,(l.2.2.1,((cOf s l.2.1).2.2.1,((cOf s l.2.1).2.2.2.1,(cOf s l.2.1).2.2.2.2.erase l.2.2.2.1))))) x.1).2.2.1=3)
   rw [e7.1,e7.2]
   exact jst
  |ready h hs hw=>
   have h:(cOf s l.2.1).2.1=l.2.2.1:=h
   have hs:(cOf s l.2.1).2.2.1=1:=hs
   have hcw:(cOf s l.2.1).2.1=(wOf s l.2.1).2.1:=by
    rcases gc.2 with h3 | h3
    ·exact h3
    ·have:=gcl (by omega) (by omega);omega
   have hp:=gcw (by omega) hcw
   obtain ⟨ei,h9⟩:=pend (by omega)
   have ec:∀q,cOf (snds (setC (upX s X) (l.2.1,(l.2.2.1,(2,((cOf s l.2.1).2.2.2.1,[]))))) (xT (l.2.1,(l.2.2.1,(2,((cOf s l.2.1).2.2.2.1,[])))))) q=if q=l.2.1 then (l.2.1,(l.2.2.1,(2,((cOf s l.2.1).2.2.2.1,[])))) else cOf s q:=fun q=>KT sh _ q
   have hst2:(cOf s x.1).2.1=n∧JU Un L0 x=(L0++[x],0)∧led s=L0++[x]:=by
    rw [ei] at hcw hs
    rcases jst with h3 | h3 | h3
    ·omega
    ·exact ⟨h3.1,h3.2.1,h3.2.2.1⟩
    ·omega
   refine ⟨j.wn,j.wx,j.ws,j.oth,.inr (.inl ⟨?_,hst2.2.1,hst2.2.2,?_⟩)⟩
   ·show (cOf (snds (setC (upX s X) (l.2.1,(l.2.2.1,(2,((cOf s l.2.1).2.2.2.1,[]))))) (xT (l.2.1,(l.2.2.1,(2,((cOf s l.2.1).2.2.2.1,[])))))) x.1).2.1=n
    rw [ec,if_pos ei.symm]
    show l.2.2.1=n
    rw [←h,ei];exact hst2.1
   ·show (cOf (snds (setC (upX s X) (l.2.1,(l.2.2.1,(2,((cOf s l.2.1).2.2.2.1,[]))))) (xT (l.2.1,(l.2.2.1,(2,((cOf s l.2.1).2.2.2.1,[])))))) x.1).2.2.1=1∨(cOf (snds (setC (upX s X) (l.2.1,(l.2.2.1,(2,((cOf s l.2.1).2.2.2.1,[]))))) (xT (l.2.1,(l.2.2.1,(2,((cOf s l.2.1).2.2.2.1,[])))))) x.1).2.2.1=2
    rw [ec,if_pos ei.symm]
    exact .inr rfl
  |gone h hs hw M hM hm=>
   have h:(cOf s l.2.1).2.1=l.2.2.1:=h
   have hs:(cOf s l.2.1).2.2.1=4:=hs
   have hcw:(cOf s l.2.1).2.1=(wOf s l.2.1).2.1:=by
    rcases gc.2 with h3 | h3
    ·exact h3
    ·have:=gcl (by omega) (by omega);omega
   have hp:=gcw (by omega) hcw
   obtain ⟨ei,h9⟩:=pend (by omega)
   rw [ei] at hp hs
   omega
 |ans hk hs=>
  have setw:∀w:Wi,l.2.1=x.1→w.1=l.2.1→w.2.1=(wOf s l.2.1).2.1→(w.2.2.1=2∨w.2.2.1=3)→w.2.2.2.1=(wOf s l.2.1).2.2.2.1→s'=setW (upX s X) w→J2 x n L0 s':=by
   intro w ei e1 e2 e3 e4 e5
   have ew:∀id,wOf s' id=if id=l.2.1 then w else wOf s id:=fun id=>by rw [e5,zyA sh w id,e1]
   have ew1:wOf s' x.1=w:=by rw [ew,if_pos ei.symm]
   refine ⟨by rw [ew1,e2,ei];exact j.wn,by rw [ew1,e4,ei];exact j.wx,by rw [ew1];omega,fun id hi hne=>by rw [ew,if_neg (by rw [ei];exact hne)];exact j.oth id hi hne,?_⟩
   subst e5
   exact jst
  cases hs with
  |old h=>exact same rfl rfl rfl
  |ready h hs hk=>exact setw (l.2.1,((wOf s l.2.1).2.1,(2,(wOf s l.2.1).2.2.2))) (pend (.inl hs)).1 rfl rfl (.inl rfl) rfl rfl
  |fail h hs hk=>exact setw (l.2.1,((wOf s l.2.1).2.1,(3,((wOf s l.2.1).2.2.2.1,l.2.2.2.2.2.2)))) (pend (.inl hs)).1 rfl rfl (.inr rfl) rfl rfl
  |gone h hs hk=>
   obtain ⟨ei,h9⟩:=pend (.inr hs)
   have hs:(wOf s l.2.1).2.2.1=4:=hs
   rw [ei] at hs
   omega
theorem zz0 (w:Wi):(Yq w).length≤1:=by unfold Yq;split<;>(try split)<;>simp
theorem zE1 {c:Ca} (h:c.2.2.2.2.length≤4):(QF c).length≤4:=by
 unfold QF
 split
 ·rw [List.length_map];exact h
 split
 ·rw [List.length_map];exact h
 ·exact Nat.zero_le _
theorem flat_len {α β:Type} {f:α→List β} {m:Nat}:∀(l:List α),(∀a∈l,(f a).length≤m)→(l.flatMap f).length≤m*l.length
 |[],_=>Nat.le_refl _
 |a::l,h=>by
  rw [List.flatMap_cons,List.length_append,List.length_cons]
  have:=h a (by simp)
  have:=flat_len l fun b hb=>h b (by simp [hb])
  rw [Nat.mul_succ]
  omega
theorem zE2 {s:Sig} (sh:Shp s):(gD s).length≤120:=by
 unfold gD
 rw [List.length_append]
 have h1:=flat_len (f:=Yq) (m:=1) (wis s) fun w _=>zz0 w
 have h2:=flat_len (f:=QF) (m:=4) (cas s) fun c hc=>zE1 (sh.bC c hc).2
 have:=sh.lW
 have:=sh.lC
 omega
theorem zqY {α:Type} {f:α→List Le} {m:Nat}:∀(l:List α),(∀a∈l,phi (f a)≤m)→phi (l.flatMap f)≤m*l.length
 |[],_=>Nat.le_refl _
 |a::l,h=>by
  rw [List.flatMap_cons,zoM,List.length_cons]
  have:=h a (by simp)
  have:=zqY l fun b hb=>h b (by simp [hb])
  rw [Nat.mul_succ]
  omega
theorem zGE {c:Ca} (h:c.2.2.2.2.length≤4):phi (QF c)≤12:=by
 have hm:∀(k:Int) (hk:k=2∨k=3) (l:List Int),phi (l.map fun n=>((k,(c.1,(c.2.1,(n,(false,(zS,0)))))):Le))=3*l.length:=by
  intro k hk l
  induction l with
  |nil=>rfl
  |cons a l ih=>
   rw [List.map_cons,za6,ih,List.length_cons]
   have:wt ((k,(c.1,(c.2.1,(a,(false,(zS,0)))))):Le)=3:=by unfold wt;rw [if_neg (show k≠1 by omega),if_pos hk]
   rw [this]
   omega
 unfold QF
 split
 ·rw [hm 2 (.inl rfl)];omega
 split
 ·rw [hm 3 (.inr rfl)];omega
 ·exact Nat.zero_le _
theorem zGF (w:Wi):phi (Yq w)≤13:=by
 have h1:=zzZ (Yq w)
 have h2:=zz0 w
 omega
theorem zE3 {s:Sig} (sh:Shp s):phi (gD s)≤600:=by
 unfold gD
 rw [zoM]
 have h1:=zqY (f:=Yq) (m:=13) (wis s) fun w _=>zGF w
 have h2:=zqY (f:=QF) (m:=12) (cas s) fun c hc=>zGE (sh.bC c hc).2
 have:=sh.lW
 have:=sh.lC
 omega
theorem zGG {k:Int} {s:Sig} (iv:Iv k s) (hw:wir s=[]):LvS (snds s (gD s))∧phi (wir (snds s (gD s)))≤1024:=by
 have hl:=zE2 iv.sh
 have e:wir (snds s (gD s))=gD s:=by
  show JR (wir s) (gD s)=_
  rw [hw,WU _ (by simp;omega)];rfl
 refine ⟨fun id hid hp=>?_,by rw [e];have:=zE3 iv.sh;omega⟩
 have hp:(wOf s id).2.2.1=1∨(wOf s id).2.2.1=4:=hp
 rw [e]
 show ((cOf s id).2.1 < (wOf s id).2.1∧_)∨_
 have g:=iv.g id hid
 have gn:=g.n0;have gc:=g.c0;have gcw:=g.cw;have gcl:=g.cl;have gcz:=g.cz;have gz:=g.z
 have hwn:1≤(wOf s id).2.1:=by
  rcases Int.lt_or_le 0 (wOf s id).2.1 with h2 | h2
  ·omega
  ·have:=gz (by omega);omega
 have hwm:wOf s id∈wis s:=by
  rcases za4 (κ:=wK) (wis s) id (zW id) with ⟨h1,_⟩ | ⟨h1,_⟩
  ·exact h1
  ·have:(wOf s id).2.1=0:=by rw [show wOf s id=zW id from h1]
   omega
 obtain ⟨a,ha,b1,b2,b3⟩:∃l∈gD s,l.1=1∧l.2.1=id∧l.2.2.1=(wOf s id).2.1:=by
  have hin:∀a∈Yq (wOf s id),a∈gD s:=fun a ha=>List.mem_append.2 (.inl (List.mem_flatMap.2 ⟨_,hwm,ha⟩))
  have hex:∃a,a∈Yq (wOf s id):=by
   unfold Yq
   rcases hp with h | h
   ·rw [if_pos h];exact ⟨_,List.mem_singleton.2 rfl⟩
   ·rw [if_neg (by omega),if_pos h];exact ⟨_,List.mem_singleton.2 rfl⟩
  obtain ⟨a,ha⟩:=hex
  obtain ⟨c1,c2,c3,_⟩:=zf8 ha
  exact ⟨a,hin a ha,c1,by rw [c2];exact zyz s id,c3⟩
 rcases gc.2 with h3 | h3
 rotate_left
 ·exact .inl ⟨by omega,a,ha,b1,b2,b3⟩
 have hcase:=gcw (by omega) h3
 by_cases h14:(cOf s id).2.2.1=1∨(cOf s id).2.2.1=4
 ·refine .inr (.inl ⟨h3,h14,fun v hv=>?_⟩)
  have hcm:cOf s id∈cas s:=by
   rcases za4 (κ:=cK) (cas s) id (zC id) with ⟨h1,_⟩ | ⟨h1,_⟩
   ·exact h1
   ·have:(cOf s id).2.1=0:=by rw [show cOf s id=zC id from h1]
    omega
  obtain ⟨d,hd,c1,c2,c3,c4⟩:=zuu h14 hv
  exact ⟨d,List.mem_append.2 (.inr (List.mem_flatMap.2 ⟨_,hcm,hd⟩)),by rw [c1];exact znX s id,by rw [c2];exact h3,c3,c4⟩
 ·have h235:(cOf s id).2.2.1=2∨(cOf s id).2.2.1=3∨(cOf s id).2.2.1=5:=by omega
  exact .inr (.inr ⟨h3,h235,a,ha,b2,b3,.inl b1⟩)
theorem zGH {k:Int} {s:Sig} (iv:Iv k s) (lv:LvS s) (hw:wir s=[]):∀id,idP id→(wOf s id).2.2.1≠1∧(wOf s id).2.2.1≠4:=fun id hid=>by
 have:=lv id hid
 rw [hw] at this
 exact zHB (iv.g id hid) this
theorem zE4 {s:Sig} {l:Le} {X:List Le} (sh:Shp s) (hw:wir s=l::X):X.length≤1024:=by
 have:=sh.x
 rw [hw,List.length_cons] at this
 omega
theorem zz1 {k:Int} {s:Sig} (iv:Iv k s) {l:Le} {X:List Le} (hw:wir s=l::X):Iv k (upX s X):=iv.less (zE4 iv.sh hw) fun a ha=>by rw [hw];simp [ha]
theorem zBt {k:Int} {s:Sig} (iv:Iv k s):qB (Xf (s,())) fun r=>Iv k r.1∧wir r.1=[]∧∀id,idP id→(wOf r.1 id).2.2.1≠1∧(wOf r.1 id).2.2.1≠4:=by
 rw [znJ];unfold zcl
 refine zq (zpG (J:=Iv k) (fun _ h=>h) (fun s l X s' h hw hs=>(zz1 h hw).step (l:=l) (h.l l (by rw [hw];simp)) hs) iv) ?_
 rintro ⟨q,⟨⟩⟩ ⟨iq,hq⟩
 rw [zyE iq.sh,zK]
 obtain ⟨lv,ph⟩:=zGG iq hq
 refine zq (zpG (J:=fun s=>Iv k s∧LvS s∧phi (wir s)≤1024) (fun _ h=>h.1) (fun s l X s' h hw hs=>?_) ⟨iq.tick,lv,ph⟩) ?_
 ·exact ⟨(zz1 h.1 hw).step (l:=l) (h.1.l l (by rw [hw];simp)) hs,h.2.1.step h.1 h.2.2 hw hs⟩
 ·rintro ⟨r,⟨⟩⟩ ⟨⟨ir,lr,_⟩,hr⟩
  exact zd ⟨ir,hr,zGH ir lr hr⟩
theorem J2.snds {x:qx} {n:Int} {L0:List qx} {s:Sig} (j:J2 x n L0 s) (ls:List Le):J2 x n L0 (snds s ls):=⟨j.wn,j.wx,j.ws,j.oth,j.st⟩
theorem zqZ {s:Sig} (hn:(wis s).length≤1000000) (hn2:(cas s).length≤1000000) (hx:wir s=[]) (hw:∀w∈wis s,w.2.2.1≠1∧w.2.2.1≠4) (hc:∀c∈cas s,c.2.2.1≠1∧c.2.2.1≠4):vP (s,())=some (true,()):=by
 rw [zqM];unfold ze3
 have hx:s.2.2.2.2.2=[]:=hx
 rw [hx]
 refine xr (zg rfl ?_)
 refine zq (J:=fun x=>x.1=0) (qG (wis s).length (fun i st=>st=((false,((i:Int),())),())) (by omega) rfl ?_ ?_) ?_
 ·rintro i _ hi rfl
  have hx:(wis s)[i]?=some (wis s)[i]:=List.getElem?_eq_getElem hi
  have hm:=hw _ (List.getElem_mem hi)
  generalize (wis s)[i]=w at hx hm
  refine zi (qD (show (i:Int) < (((wis s).length:Nat):Int) by omega)) (zn (qh (n:=i) hx ?_))
  exact zn (zg (jx hm.1) (zg (jx hm.2) (zd (zi rfl (zd (ji (congrArg (fun z=>((false,(z,())),())) (qX (by omega)))))))))
 ·rintro _ rfl
  exact zg (qm (show ¬(((wis s).length:Nat):Int) < (((wis s).length:Nat):Int) by omega)) (zd (zE rfl))
 rintro ⟨j,⟨v,z,⟨⟩⟩,⟨⟩⟩ h
 have h:j=0:=h
 subst h
 refine zi rfl ?_
 refine zq (J:=fun x=>x.1=0) (qG (cas s).length (fun i st=>st=((v,((i:Int),())),())) (by omega) rfl ?_ ?_) ?_
 ·rintro i _ hi rfl
  have hx:(cas s)[i]?=some (cas s)[i]:=List.getElem?_eq_getElem hi
  have hm:=hc _ (List.getElem_mem hi)
  generalize (cas s)[i]=w at hx hm
  refine zi (qD (show (i:Int) < (((cas s).length:Nat):Int) by omega)) (zn (qh (n:=i) hx ?_))
  exact zn (zg (jx hm.1) (zg (jx hm.2) (zd (zi rfl (zd (ji (congrArg (fun z=>((v,(z,())),())) (qX (by omega)))))))))
 ·rintro _ rfl
  exact zg (qm (show ¬(((cas s).length:Nat):Int) < (((cas s).length:Nat):Int) by omega)) (zd (zE rfl))
 ·rintro ⟨j,⟨v,z,⟨⟩⟩,⟨⟩⟩ h
  have h:j=0:=h
  subst h
  exact zi rfl (zd rfl)
theorem zGI {k:Int} {s:Sig} (iv:Iv k s) (hx:wir s=[]) (hr:∀id,idP id→(wOf s id).2.2.1≠1∧(wOf s id).2.2.1≠4):vP (s,())=some (true,()):=by
 have hlw:=iv.sh.lW
 have hlc:=iv.sh.lC
 refine zqZ (by omega) (by omega) hx (fun w hw=>?_) (fun c hc=>?_)
 ·have:=hr w.1 (iv.sh.bW w hw)
  rw [znY iv.sh hw] at this
  exact this
 ·have hid:=(iv.sh.bC c hc).1
  have:=hr c.1 hid
  have g:=iv.g c.1 hid
  rw [zyF iv.sh hc] at g
  have gc:=g.c0;have gcw:=g.cw;have gcl:=g.cl;have gcz:=g.cz
  rcases Int.lt_or_le 0 c.2.1 with h3 | h3
  ·rcases gc.2 with h4 | h4
   ·have:=gcw (by omega) h4;omega
   ·have:=gcl (by omega) (by omega);omega
  ·have:=(gcz (by omega)).1;omega
theorem zBu {k:Int} {s:Sig} (iv:Iv k s) (h0:wir s≠[]) (h1:(wir s).length < 1024):qB (Xv (s,((5,(0,(0,zS))),()))) fun r=>r.2.1=0∧Iv k r.1∧(wir r.1).length=(wir s).length+1:=by
 rw [zjF];unfold zdU
 refine zq (J:=fun r=>HTr s 5 0 r) ?_ ?_
 ·rw [Gh];unfold Ju
  exact zg rfl (zg rfl (zg rfl (zg rfl (zi rfl (zq (zDb iv 5 0) fun r hr=>zd hr)))))
 ·intro r hr
  have hl:0 < (wir s).length:=List.length_pos_iff.2 h0
  have iv':=iv.tr hr
  cases hr with
  |bad h=>omega
  |copy l hl h5=>
   refine zg rfl (zd ⟨rfl,iv',?_⟩)
   show (JR (wir s) [l]).length=_
   rw [WU _ (by simp;omega)];simp
  |lose i hi h h5 h3=>exact absurd rfl h5
  |deliver i h h3 l hl s' hs=>exact absurd h3 (by decide)
theorem zGJ (ls:List Le):∀x:List Le,x.length≤(JR x ls).length:=by
 induction ls with
 |nil=>intro x;exact Nat.le_refl _
 |cons l ls ih=>
  intro x
  refine Nat.le_trans ?_ (ih (za5 x l))
  unfold za5
  split
  ·rw [List.length_append];omega
  ·exact Nat.le_refl _
theorem zzf {k:Int} {s:Sig} (iv:Iv k s):Xv (s,((6,(0,(0,zS))),()))=some (snds s (gD s),(0,())):=by
 rw [zjF];unfold zdU
 refine xr (zq (J:=fun r=>r=(snds s (gD s),((0:Int),()))) ?_ ?_)
 ·rw [Gh];unfold Ju
  refine zg rfl (zg rfl (zg rfl (zg rfl (zg rfl (zi rfl ?_)))))
  rw [zyE iv.sh,zK]
  exact zd rfl
 ·rintro _ rfl
  exact zg rfl (zd rfl)
abbrev rT:T zR:=(4,([true,false,false,true],[(0,(1,(8,5))),(1,(2,(8,5))),(2,(3,(8,5)))]))
abbrev rF:T qz:=(rT,((100,(2,(10,8000))),([([(127,100)],100),([(127,100)],100),([(127,100)],100),([(127,100)],100),([(127,100)],100),([(127,100)],100)],200)))
def zyG (x:T zz):Bool:=bif eqT (.list (.list I)) x.2.2.2.2.2.2.2.2 [[0,2,4]] then true else eqT (.list (.list I)) x.2.2.2.2.2.2.2.2 [[5,3,1]]
def Qd:za→(zD×Unit)→Option (za×((List Int)×Unit)):=fun s a=>bif eqT qz s.1 rF then bif zyG a.1 then some (s,(N4,())) else none else none
theorem zDc {P:Program} {f:FuncId} {ty:Ty} {a b:List VT} {F G:T ty→T (zJ a)→Option (T ty×T (zJ b))} (h:yC.Ok P f ⟨ty,a,b,F⟩) (hg:∀s x r,G s x=some r→F s x=some r):yC.Ok P f ⟨ty,a,b,G⟩:=⟨h.1,fun x y z e=>h.2 x y z (hg x y z e)⟩
theorem zBv (s:za) (a:zD×Unit) (r:za×((List Int)×Unit)) (h:Qd s a=some r):yy s a=some r:=by
 obtain ⟨x,⟨⟩⟩:=a
 unfold Qd at h
 cases h1:eqT qz s.1 rF with
 |false=>rw [h1] at h;cases h
 |true=>
  rw [h1] at h
  cases h2:zyG x with
  |false=>rw [cond_true,show zyG ((x,()):zD×Unit).1=false from h2] at h;cases h
  |true=>
   rw [cond_true,show zyG ((x,()):zD×Unit).1=true from h2] at h
   have hr:ziQ x:=by
    unfold zyG at h2
    cases h3:eqT (.list (.list I)) x.2.2.2.2.2.2.2.2 [[0,2,4]] with
    |true=>exact .inl (zeb (.list (.list I)) _ _ h3)
    |false=>rw [h3] at h2;exact .inr (zeb (.list (.list I)) _ _ h2)
   rw [znW (zeb qz _ _ h1) hr]
   exact h
def zpH:(Unit)→Option (jA×Unit):=sF Tryz.prog [] (fun _ _ _ _=>none) (fun _ _=>false) 100 15 Xo Xp
theorem zuv:Con.Ok Tryz.prog 15 ⟨Xo,Xp,zpH⟩:=zv zh zm (by kernel_rfl)
def zpI:(qj×Int×Unit)→Option (Bool×Unit):=sF Tryz.prog [] (fun _ _ _ _=>none) (fun _ _=>false) 100 93 KZ Ua
theorem zuw:Con.Ok Tryz.prog 93 ⟨KZ,Ua,zpI⟩:=zv zh zm (by kernel_rfl)
def znZ:(qj×Unit)→Option (Bool×Unit):=sF Tryz.prog [(93,⟨KZ,Ua,zpI⟩)] (fun _ _ _ _=>none) (fun _ _=>false) 100 59 XX XY
theorem zsM:Con.Ok Tryz.prog 59 ⟨XX,XY,znZ⟩:=zv (zf zuw zh) zm (by kernel_rfl)
def zn0:(qj×Int×(Bool×(Bool×(Bool×(Bool×(Bool×(Bool×(Bool×(Bool×(Bool×(Bool×(Bool×(Bool×(Bool×(Bool×(Bool×(Bool×(Bool×(Bool×(Bool×(Bool×(Bool×(Bool×(Bool×Bool)))))))))))))))))))))))×Unit)→Option ((List Bool)×Unit):=sF Tryz.prog [] (fun _ _ _ _=>none) (fun _ _=>false) 100 61 Va Vb
theorem zsN:Con.Ok Tryz.prog 61 ⟨Va,Vb,zn0⟩:=zv zh zm (by kernel_rfl)
def KU:((List Bool)×Bool×Unit)→Option (Int×Unit):=sF Tryz.prog [] (fun _ _ _ _=>none) (fun _ _=>false) 100 97 xt xu
theorem zcO:Con.Ok Tryz.prog 97 ⟨xt,xu,KU⟩:=zv zh zm (by kernel_rfl)
def XD:((List Bool)×Bool×Unit)→Option (Bool×Unit):=sF Tryz.prog [(97,⟨xt,xu,KU⟩)] (fun _ _ _ _=>none) (fun _ _=>false) 100 60 yD yE
theorem za7:Con.Ok Tryz.prog 60 ⟨yD,yE,XD⟩:=zv (zf zcO zh) zm (by kernel_rfl)
def zyH:(qj×Unit)→Option (Int×Unit):=sF Tryz.prog [(59,⟨XX,XY,znZ⟩),(61,⟨Va,Vb,zn0⟩),(60,⟨yD,yE,XD⟩)] (fun _ _ _ _=>none) (fun _ _=>false) 100 41 wL wM
theorem zsO:Con.Ok Tryz.prog 41 ⟨wL,wM,zyH⟩:=zv (zf zsM (zf zsN (zf za7 zh))) zm (by kernel_rfl)
def WV:T (zJ wL)→Option (T (zJ wM)):=Qh [((rT,()),(0,()))]
theorem Jy:Con.Ok Tryz.prog 41 ⟨wL,wM,WV⟩:=UW zsO (xH (by kernel_rfl) JL)
def KG:(Int×Int×Int×Unit)→Option (Bool×Unit):=sF Tryz.prog [] (fun _ _ _ _=>none) (fun _ _=>false) 100 63 xR xS
theorem Up:Con.Ok Tryz.prog 63 ⟨xR,xS,KG⟩:=zv zh zm (by kernel_rfl)
def zcX:(zfS×Unit)→Option (Int×Unit):=sF Tryz.prog [(63,⟨xR,xS,KG⟩)] (fun _ _ _ _=>none) (fun _ _=>false) 100 45 ko kp
theorem ziR:Con.Ok Tryz.prog 45 ⟨ko,kp,zcX⟩:=zv (zf Up zh) zm (by kernel_rfl)
def zaF:(ja×Unit)→Option (Int×Unit):=sF Tryz.prog [] (fun _ _ _ _=>none) (fun _ _=>false) 100 46 uI uJ
theorem za8:Con.Ok Tryz.prog 46 ⟨uI,uJ,zaF⟩:=zv zh zm (by kernel_rfl)
def zl8:(jA×Unit)→Option (Int×Unit):=sF Tryz.prog [(41,⟨wL,wM,WV⟩),(45,⟨ko,kp,zcX⟩),(46,⟨uI,uJ,zaF⟩)] (fun _ _ _ _=>none) (fun _ _=>false) 100 29 yq yr
theorem ziS:Con.Ok Tryz.prog 29 ⟨yq,yr,zl8⟩:=zv (zf Jy (zf ziR (zf za8 zh))) zm (by kernel_rfl)
def Uq:T (zJ yq)→Option (T (zJ yr)):=Qh [((rF,()),(0,()))]
theorem zau:Con.Ok Tryz.prog 29 ⟨yq,yr,Uq⟩:=UW ziS (xH (by kernel_rfl) JL)
def zn1:(jA×Unit)→Option (zL×Int×Unit):=sF Tryz.prog [(29,⟨yq,yr,Uq⟩)] (fun _ _ _ _=>none) (fun _ _=>false) 100 14 WD WE
theorem zsP:Con.Ok Tryz.prog 14 ⟨WD,WE,zn1⟩:=zv (zf zau zh) zm (by kernel_rfl)
def zih:(Unit)→Option (zD×Unit):=sF Tryz.prog [] (fun _ _ _ _=>none) (fun _ _=>false) 100 17 gS gT
theorem zn2:Con.Ok Tryz.prog 17 ⟨gS,gT,zih⟩:=zv zh zm (by kernel_rfl)
def zii:(Int×Unit)→Option (Bool×Unit):=sF Tryz.prog [] (fun _ _ _ _=>none) (fun _ _=>false) 100 55 Jj Jk
theorem zn3:Con.Ok Tryz.prog 55 ⟨Jj,Jk,zii⟩:=zv zh zm (by kernel_rfl)
def XO:(Int×Int×Unit)→Option (Int×Unit):=sF Tryz.prog [(55,⟨Jj,Jk,zii⟩)] (fun _ _ _ _=>none) (fun _ _=>false) 100 37 wu wv
theorem KH:Con.Ok Tryz.prog 37 ⟨wu,wv,XO⟩:=zv (zf zn3 zh) zm (by kernel_rfl)
def kF:za→(Int×Unit)→Option (za×(Int×wc×Bool×Unit)):=sP Tryz.prog ⟨[],[]⟩ [(37,⟨wu,wv,XO⟩)] (fun _ _ _ _=>none) (fun _ _=>false) 100 24 ze qJ qK
theorem gF:yC.Ok Tryz.prog 24 ⟨ze,qJ,qK,kF⟩:=xc ⟨qu,qW⟩ (zf KH zh) zm (by kernel_rfl)
def Jz:((List wc)×Int×Bool×wc×Unit)→Option ((List wc)×Unit):=sF Tryz.prog [] (fun _ _ _ _=>none) (fun _ _=>false) 100 75 jQ jR
theorem WW:Con.Ok Tryz.prog 75 ⟨jQ,jR,Jz⟩:=zv zh zm (by kernel_rfl)
def vY:za→(zI×Unit)→Option (za×(Unit)):=sP Tryz.prog ⟨[],[]⟩ [] (fun _ _ _ _=>none) (fun _ _=>false) 100 52 ze qf qg
theorem ui:yC.Ok Tryz.prog 52 ⟨ze,qf,qg,vY⟩:=xc ⟨qu,qW⟩ zh zm (by kernel_rfl)
def gG:za→(wc×Unit)→Option (za×(Unit)):=sP Tryz.prog ⟨[],[(52,⟨ze,qf,qg,vY⟩)]⟩ [] (fun _ _ _ _=>none) (fun _ _=>false) 100 33 ze qL qM
theorem QG:yC.Ok Tryz.prog 33 ⟨ze,qL,qM,gG⟩:=xc ⟨qu,(zP ui qW)⟩ zh zm (by kernel_rfl)
def zbs:za→(zD×Unit)→Option (za×(Int×Unit)):=sP Tryz.prog ⟨[],[(24,⟨ze,qJ,qK,kF⟩),(33,⟨ze,qL,qM,gG⟩)]⟩ [(75,⟨jQ,jR,Jz⟩)] (fun _ _ _ _=>none) (fun _ _=>false) 100 43 ze vh vi
theorem zhg:yC.Ok Tryz.prog 43 ⟨ze,vh,vi,zbs⟩:=xc ⟨qu,(zP gF (zP QG qW))⟩ (zf WW zh) zm (by kernel_rfl)
def Gl:za→(Int×Unit)→Option (za×(Int×Unit)):=sP Tryz.prog ⟨[],[(24,⟨ze,qJ,qK,kF⟩),(33,⟨ze,qL,qM,gG⟩)]⟩ [(75,⟨jQ,jR,Jz⟩)] (fun _ _ _ _=>none) (fun _ _=>false) 100 44 ze yW yX
theorem zeB:yC.Ok Tryz.prog 44 ⟨ze,yW,yX,Gl⟩:=xc ⟨qu,(zP gF (zP QG qW))⟩ (zf WW zh) zm (by kernel_rfl)
def Kg:((List zI)×Int×Unit)→Option ((List zI)×Unit):=sF Tryz.prog [] (fun _ _ _ _=>none) (fun _ _=>false) 100 53 ya yb
theorem zcz:Con.Ok Tryz.prog 53 ⟨ya,yb,Kg⟩:=zv zh zm (by kernel_rfl)
def WX:za→(Int×Unit)→Option (za×(Int×qy×Bool×Unit)):=sP Tryz.prog ⟨[],[]⟩ [(37,⟨wu,wv,XO⟩)] (fun _ _ _ _=>none) (fun _ _=>false) 100 107 ze jd je
theorem Kh:yC.Ok Tryz.prog 107 ⟨ze,jd,je,WX⟩:=xc ⟨qu,qW⟩ (zf KH zh) zm (by kernel_rfl)
def WY:za→(qy×Unit)→Option (za×(Unit)):=sP Tryz.prog ⟨[],[(52,⟨ze,qf,qg,vY⟩)]⟩ [] (fun _ _ _ _=>none) (fun _ _=>false) 100 108 ze jf jg
theorem Ki:yC.Ok Tryz.prog 108 ⟨ze,jf,jg,WY⟩:=xc ⟨qu,(zP ui qW)⟩ zh zm (by kernel_rfl)
def zhh:(qj×Int×Unit)→Option (Bool×Unit):=sF Tryz.prog [(63,⟨xR,xS,KG⟩)] (fun _ _ _ _=>none) (fun _ _=>false) 100 65 Qn Qo
theorem zl9:Con.Ok Tryz.prog 65 ⟨Qn,Qo,zhh⟩:=zv (zf Up zh) zm (by kernel_rfl)
def zcY:(Int×Int×Int×Unit)→Option (Bool×Unit):=sF Tryz.prog [] (fun _ _ _ _=>none) (fun _ _=>false) 100 98 ku kx
theorem ziT:Con.Ok Tryz.prog 98 ⟨ku,kx,zcY⟩:=zv zh zm (by kernel_rfl)
def VI:(jM×Unit)→Option (Int×Unit):=sF Tryz.prog [(98,⟨ku,kx,zcY⟩)] (fun _ _ _ _=>none) (fun _ _=>false) 100 69 xx xy
theorem XP:Con.Ok Tryz.prog 69 ⟨xx,xy,VI⟩:=zv (zf ziT zh) zm (by kernel_rfl)
def Gm:(QL×(List Int)×Unit)→Option ((List Int)×Unit):=sF Tryz.prog [] (fun _ _ _ _=>none) (fun _ _=>false) 100 78 vC vD
theorem zbt:Con.Ok Tryz.prog 78 ⟨vC,vD,Gm⟩:=zv zh zm (by kernel_rfl)
def Gn:(QL×(List Int)×Unit)→Option (Bool×Unit):=sF Tryz.prog [] (fun _ _ _ _=>none) (fun _ _=>false) 100 102 vE vF
theorem zbu:Con.Ok Tryz.prog 102 ⟨vE,vF,Gn⟩:=zv zh zm (by kernel_rfl)
def ze9:(qj×(List Int)×Unit)→Option (Int×Unit):=sF Tryz.prog [(41,⟨wL,wM,WV⟩),(102,⟨vE,vF,Gn⟩)] (fun _ _ _ _=>none) (fun _ _=>false) 100 105 ZQ ZR
theorem zhi:Con.Ok Tryz.prog 105 ⟨ZQ,ZR,ze9⟩:=zv (zf Jy (zf zbu zh)) zm (by kernel_rfl)
def zfa:(qj×(List Int)×Unit)→Option ((List Int)×Int×Unit):=sF Tryz.prog [(78,⟨vC,vD,Gm⟩),(105,⟨ZQ,ZR,ze9⟩)] (fun _ _ _ _=>none) (fun _ _=>false) 100 49 uK uL
theorem zhj:Con.Ok Tryz.prog 49 ⟨uK,uL,zfa⟩:=zv (zf zbt (zf zhi zh)) zm (by kernel_rfl)
def zn4:(qj×(List Int)×Unit)→Option (Int×Int×Int×Unit):=sF Tryz.prog [(49,⟨uK,uL,zfa⟩)] (fun _ _ _ _=>none) (fun _ _=>false) 100 99 Ve Vf
theorem zsQ:Con.Ok Tryz.prog 99 ⟨Ve,Vf,zn4⟩:=zv (zf zhj zh) zm (by kernel_rfl)
def zjS:(qj×(List Int)×Int×Int×Unit)→Option (Bool×Unit):=sF Tryz.prog [(99,⟨Ve,Vf,zn4⟩)] (fun _ _ _ _=>none) (fun _ _=>false) 100 72 Wd We
theorem zpe:Con.Ok Tryz.prog 72 ⟨Wd,We,zjS⟩:=zv (zf zsQ zh) zm (by kernel_rfl)
def zjT:((List Int)×(List Int)×Unit)→Option (Bool×Unit):=sF Tryz.prog [] (fun _ _ _ _=>none) (fun _ _=>false) 100 103 Wf Wg
theorem zpf:Con.Ok Tryz.prog 103 ⟨Wf,Wg,zjT⟩:=zv zh zm (by kernel_rfl)
def WZ:((List Int)×Int×Unit)→Option (Int×Unit):=sF Tryz.prog [] (fun _ _ _ _=>none) (fun _ _=>false) 100 114 wi wj
theorem Kj:Con.Ok Tryz.prog 114 ⟨wi,wj,WZ⟩:=zv zh zm (by kernel_rfl)
def Kk:((List Int)×Int×Unit)→Option (Bool×Unit):=sF Tryz.prog [(114,⟨wi,wj,WZ⟩)] (fun _ _ _ _=>none) (fun _ _=>false) 100 136 xg xh
theorem zcA:Con.Ok Tryz.prog 136 ⟨xg,xh,Kk⟩:=zv (zf Kj zh) zm (by kernel_rfl)
def zeC:(QL×(List Int)×(List Int)×Unit)→Option (Bool×Unit):=sF Tryz.prog [(78,⟨vC,vD,Gm⟩),(136,⟨xg,xh,Kk⟩)] (fun _ _ _ _=>none) (fun _ _=>false) 100 104 gf gg
theorem zjU:Con.Ok Tryz.prog 104 ⟨gf,gg,zeC⟩:=zv (zf zbt (zf zcA zh)) zm (by kernel_rfl)
def zlB:(qj×(List Int)×(List Int)×Unit)→Option (Bool×Int×Unit):=sF Tryz.prog [(102,⟨vE,vF,Gn⟩),(103,⟨Wf,Wg,zjT⟩),(104,⟨gf,gg,zeC⟩),(105,⟨ZQ,ZR,ze9⟩)] (fun _ _ _ _=>none) (fun _ _=>false) 100 74 Ys Yt
theorem zq0:Con.Ok Tryz.prog 74 ⟨Ys,Yt,zlB⟩:=zv (zf zbu (zf zpf (zf zjU (zf zhi zh)))) zm (by kernel_rfl)
def zdG:(qj×zD×Unit)→Option (Bool×Unit):=sF Tryz.prog [(63,⟨xR,xS,KG⟩),(65,⟨Qn,Qo,zhh⟩),(69,⟨xx,xy,VI⟩),(72,⟨Wd,We,zjS⟩),(74,⟨Ys,Yt,zlB⟩)] (fun _ _ _ _=>none) (fun _ _=>false) 100 42 gk gm
theorem zfq:Con.Ok Tryz.prog 42 ⟨gk,gm,zdG⟩:=zv (zf Up (zf zl9 (zf XP (zf zpe (zf zq0 zh))))) zm (by kernel_rfl)
def zfr:(qj×(List zD)×Unit)→Option (Int×Unit):=sF Tryz.prog [(41,⟨wL,wM,WV⟩),(42,⟨gk,gm,zdG⟩)] (fun _ _ _ _=>none) (fun _ _=>false) 100 56 Zm Zn
theorem zk7:Con.Ok Tryz.prog 56 ⟨Zm,Zn,zfr⟩:=zv (zf Jy (zf zfq zh)) zm (by kernel_rfl)
def VJ:((List Int)×Int×Unit)→Option (Int×Unit):=sF Tryz.prog [] (fun _ _ _ _=>none) (fun _ _=>false) 100 145 yM yN
theorem zbE:Con.Ok Tryz.prog 145 ⟨yM,yN,VJ⟩:=zv zh zm (by kernel_rfl)
def Yh:((List Int)×Int×Unit)→Option (Bool×Unit):=sF Tryz.prog [(145,⟨yM,yN,VJ⟩)] (fun _ _ _ _=>none) (fun _ _=>false) 100 119 wY wZ
theorem zaf:Con.Ok Tryz.prog 119 ⟨wY,wZ,Yh⟩:=zv (zf zbE zh) zm (by kernel_rfl)
def zjV:(zbk×Unit)→Option (Int×Unit):=sF Tryz.prog [] (fun _ _ _ _=>none) (fun _ _=>false) 100 121 Wk Wl
theorem zpg:Con.Ok Tryz.prog 121 ⟨Wk,Wl,zjV⟩:=zv zh zm (by kernel_rfl)
def zsR:(qj×Int×Unit)→Option (Int×Int×Unit):=sF Tryz.prog [(41,⟨wL,wM,WV⟩),(121,⟨Wk,Wl,zjV⟩)] (fun _ _ _ _=>none) (fun _ _=>false) 100 85 GI GJ
theorem zvY:Con.Ok Tryz.prog 85 ⟨GI,GJ,zsR⟩:=zv (zf Jy (zf zpg zh)) zm (by kernel_rfl)
def zij:(ja×Int×Int×Unit)→Option (Int×Unit):=sF Tryz.prog [(46,⟨uI,uJ,zaF⟩)] (fun _ _ _ _=>none) (fun _ _=>false) 100 122 Jm Jn
theorem zn5:Con.Ok Tryz.prog 122 ⟨Jm,Jn,zij⟩:=zv (zf za8 zh) zm (by kernel_rfl)
def zlC:(ja×Int×Int×Int×Unit)→Option (Int×Unit):=sF Tryz.prog [(46,⟨uI,uJ,zaF⟩)] (fun _ _ _ _=>none) (fun _ _=>false) 100 177 Yu Yv
theorem zq1:Con.Ok Tryz.prog 177 ⟨Yu,Yv,zlC⟩:=zv (zf za8 zh) zm (by kernel_rfl)
def zn6:(ja×Int×Unit)→Option (Int×Int×Unit):=sF Tryz.prog [] (fun _ _ _ _=>none) (fun _ _=>false) 100 188 Vj Vk
theorem zsS:Con.Ok Tryz.prog 188 ⟨Vj,Vk,zn6⟩:=zv zh zm (by kernel_rfl)
def zn7:(ja×Int×Int×Unit)→Option (Int×Unit):=sF Tryz.prog [(188,⟨Vj,Vk,zn6⟩)] (fun _ _ _ _=>none) (fun _ _=>false) 100 178 Vm Vn
theorem zsT:Con.Ok Tryz.prog 178 ⟨Vm,Vn,zn7⟩:=zv (zf zsS zh) zm (by kernel_rfl)
def zn8:(ja×Int×Int×Unit)→Option (Int×Int×Unit):=sF Tryz.prog [(177,⟨Yu,Yv,zlC⟩),(178,⟨Vm,Vn,zn7⟩)] (fun _ _ _ _=>none) (fun _ _=>false) 100 157 Vp Vq
theorem zsU:Con.Ok Tryz.prog 157 ⟨Vp,Vq,zn8⟩:=zv (zf zq1 (zf zsT zh)) zm (by kernel_rfl)
def zhk:(ja×Unit)→Option (Bool×Unit):=sF Tryz.prog [(157,⟨Vp,Vq,zn8⟩)] (fun _ _ _ _=>none) (fun _ _=>false) 100 147 Qs Qt
theorem zma:Con.Ok Tryz.prog 147 ⟨Qs,Qt,zhk⟩:=zv (zf zsU zh) zm (by kernel_rfl)
def za9:(zfT×Unit)→Option (Bool×Unit):=sF Tryz.prog [] (fun _ _ _ _=>none) (fun _ _=>false) 100 159 uC uD
theorem zcZ:Con.Ok Tryz.prog 159 ⟨uC,uD,za9⟩:=zv zh zm (by kernel_rfl)
def zfs:(ja×Int×Unit)→Option (Int×Unit):=sF Tryz.prog [(147,⟨Qs,Qt,zhk⟩),(159,⟨uC,uD,za9⟩)] (fun _ _ _ _=>none) (fun _ _=>false) 100 123 Zp Zq
theorem zk8:Con.Ok Tryz.prog 123 ⟨Zp,Zq,zfs⟩:=zv (zf zma (zf zcZ zh)) zm (by kernel_rfl)
def zlD:(Int×Int×Unit)→Option (Int×Unit):=sF Tryz.prog [] (fun _ _ _ _=>none) (fun _ _=>false) 100 149 Yx Yy
theorem zq2:Con.Ok Tryz.prog 149 ⟨Yx,Yy,zlD⟩:=zv zh zm (by kernel_rfl)
def zeD:(Int×Int×Unit)→Option (Int×Unit):=sF Tryz.prog [(149,⟨Yx,Yy,zlD⟩)] (fun _ _ _ _=>none) (fun _ _=>false) 100 125 gp gq
theorem zjW:Con.Ok Tryz.prog 125 ⟨gp,gq,zeD⟩:=zv (zf zq2 zh) zm (by kernel_rfl)
def zyI:(ja×Int×Int×Unit)→Option (vJ×Int×Unit):=sF Tryz.prog [(122,⟨Jm,Jn,zij⟩),(123,⟨Zp,Zq,zfs⟩),(125,⟨gp,gq,zeD⟩),(159,⟨uC,uD,za9⟩)] (fun _ _ _ _=>none) (fun _ _=>false) 100 86 QW QX
theorem zsV:Con.Ok Tryz.prog 86 ⟨QW,QX,zyI⟩:=zv (zf zn5 (zf zk8 (zf zjW (zf zcZ zh)))) zm (by kernel_rfl)
def zn9:T (zJ QW)→Option (T (zJ QX)):=Qh [((([(127,100)],100),8,200,()),((131072,1016),0,()))]
theorem zsW:Con.Ok Tryz.prog 86 ⟨QW,QX,zn9⟩:=UW zsV (xH (by kernel_rfl) JL)
def zoa:((List jM)×Unit)→Option (jM×Int×Unit):=sF Tryz.prog [(69,⟨xx,xy,VI⟩)] (fun _ _ _ _=>none) (fun _ _=>false) 100 87 Vs Vt
theorem zsX:Con.Ok Tryz.prog 87 ⟨Vs,Vt,zoa⟩:=zv (zf XP zh) zm (by kernel_rfl)
def zfb:(vJ×Unit)→Option (Int×Unit):=sF Tryz.prog [] (fun _ _ _ _=>none) (fun _ _=>false) 100 132 ZT ZU
theorem zhl:Con.Ok Tryz.prog 132 ⟨ZT,ZU,zfb⟩:=zv zh zm (by kernel_rfl)
def zfc:((List Int)×Unit)→Option (Bool×Unit):=sF Tryz.prog [] (fun _ _ _ _=>none) (fun _ _=>false) 100 161 ZV ZW
theorem zhm:Con.Ok Tryz.prog 161 ⟨ZV,ZW,zfc⟩:=zv zh zm (by kernel_rfl)
def zik:(Int×Unit)→Option (Int×Unit):=sF Tryz.prog [] (fun _ _ _ _=>none) (fun _ _=>false) 100 163 Jp Jq
theorem zob:Con.Ok Tryz.prog 163 ⟨Jp,Jq,zik⟩:=zv zh zm (by kernel_rfl)
def zft:(Int×Int×Unit)→Option (Int×Int×Unit):=sF Tryz.prog [] (fun _ _ _ _=>none) (fun _ _=>false) 100 162 Zr Zs
theorem zk9:Con.Ok Tryz.prog 162 ⟨Zr,Zs,zft⟩:=zv zh zm (by kernel_rfl)
def zfu:(Int×Unit)→Option (Int×Unit):=sF Tryz.prog [] (fun _ _ _ _=>none) (fun _ _=>false) 100 176 Zu Zv
theorem zla:Con.Ok Tryz.prog 176 ⟨Zu,Zv,zfu⟩:=zv zh zm (by kernel_rfl)
def KV:(Int×Unit)→Option (Int×Unit):=sF Tryz.prog [(176,⟨Zu,Zv,zfu⟩)] (fun _ _ _ _=>none) (fun _ _=>false) 100 179 xz xA
theorem zcP:Con.Ok Tryz.prog 179 ⟨xz,xA,KV⟩:=zv (zf zla zh) zm (by kernel_rfl)
def zfv:(Int×Int×Int×Unit)→Option (Int×Int×Unit):=sF Tryz.prog [(179,⟨xz,xA,KV⟩)] (fun _ _ _ _=>none) (fun _ _=>false) 100 164 Zw Zx
theorem zlb:Con.Ok Tryz.prog 164 ⟨Zw,Zx,zfv⟩:=zv (zf zcP zh) zm (by kernel_rfl)
def zlE:(Int×Unit)→Option (Int×Bool×Unit):=sF Tryz.prog [(161,⟨ZV,ZW,zfc⟩)] (fun _ _ _ _=>none) (fun _ _=>false) 100 165 YC YD
theorem zq3:Con.Ok Tryz.prog 165 ⟨YC,YD,zlE⟩:=zv (zf zhm zh) zm (by kernel_rfl)
def zoc:(Int×Int×Int×Unit)→Option (Int×Bool×Unit):=sF Tryz.prog [(161,⟨ZV,ZW,zfc⟩),(163,⟨Jp,Jq,zik⟩),(162,⟨Zr,Zs,zft⟩),(164,⟨Zw,Zx,zfv⟩),(165,⟨YC,YD,zlE⟩)] (fun _ _ _ _=>none) (fun _ _=>false) 100 154 Vu Vv
theorem zsY:Con.Ok Tryz.prog 154 ⟨Vu,Vv,zoc⟩:=zv (zf zhm (zf zob (zf zk9 (zf zlb (zf zq3 zh))))) zm (by kernel_rfl)
def zhn:(Int×Int×Int×Unit)→Option (Int×Unit):=sF Tryz.prog [(154,⟨Vu,Vv,zoc⟩)] (fun _ _ _ _=>none) (fun _ _=>false) 100 135 QY QZ
theorem zil:Con.Ok Tryz.prog 135 ⟨QY,QZ,zhn⟩:=zv (zf zsY zh) zm (by kernel_rfl)
def zho:((List jM)×Int×Unit)→Option (Int×Bool×Unit):=sF Tryz.prog [(135,⟨QY,QZ,zhn⟩)] (fun _ _ _ _=>none) (fun _ _=>false) 100 133 Qw Qx
theorem zmb:Con.Ok Tryz.prog 133 ⟨Qw,Qx,zho⟩:=zv (zf zil zh) zm (by kernel_rfl)
def zlF:((List jM)×vJ×Unit)→Option (Int×Int×Unit):=sF Tryz.prog [(69,⟨xx,xy,VI⟩),(132,⟨ZT,ZU,zfb⟩),(133,⟨Qw,Qx,zho⟩)] (fun _ _ _ _=>none) (fun _ _=>false) 100 88 YF YG
theorem zq4:Con.Ok Tryz.prog 88 ⟨YF,YG,zlF⟩:=zv (zf XP (zf zhl (zf zmb zh))) zm (by kernel_rfl)
def zfw:(jM×vJ×Unit)→Option (Int×Unit):=sF Tryz.prog [(69,⟨xx,xy,VI⟩),(132,⟨ZT,ZU,zfb⟩)] (fun _ _ _ _=>none) (fun _ _=>false) 100 134 Zz ZA
theorem zlc:Con.Ok Tryz.prog 134 ⟨Zz,ZA,zfw⟩:=zv (zf XP (zf zhl zh)) zm (by kernel_rfl)
def zim:(jM×vJ×Unit)→Option (Int×Int×Unit):=sF Tryz.prog [(134,⟨Zz,ZA,zfw⟩),(135,⟨QY,QZ,zhn⟩)] (fun _ _ _ _=>none) (fun _ _=>false) 100 89 Jr Js
theorem zod:Con.Ok Tryz.prog 89 ⟨Jr,Js,zim⟩:=zv (zf zlc (zf zil zh)) zm (by kernel_rfl)
def zhp:(zbk×Unit)→Option (Int×Unit):=sF Tryz.prog [] (fun _ _ _ _=>none) (fun _ _=>false) 100 91 Qz QA
theorem zmc:Con.Ok Tryz.prog 91 ⟨Qz,QA,zhp⟩:=zv zh zm (by kernel_rfl)
def zoe:(qj×Int×Unit)→Option (Int×Int×Unit):=sF Tryz.prog [(41,⟨wL,wM,WV⟩),(91,⟨Qz,QA,zhp⟩)] (fun _ _ _ _=>none) (fun _ _=>false) 100 58 Vy Vz
theorem zsZ:Con.Ok Tryz.prog 58 ⟨Vy,Vz,zoe⟩:=zv (zf Jy (zf zmc zh)) zm (by kernel_rfl)
def zvZ:(jA×(List zD)×Unit)→Option (Int×Unit):=sF Tryz.prog [(29,⟨yq,yr,Uq⟩),(56,⟨Zm,Zn,zfr⟩),(119,⟨wY,wZ,Yh⟩),(85,⟨GI,GJ,zsR⟩),(86,⟨QW,QX,zn9⟩),(87,⟨Vs,Vt,zoa⟩),(88,⟨YF,YG,zlF⟩),(89,⟨Jr,Js,zim⟩),(58,⟨Vy,Vz,zoe⟩)] (fun _ _ _ _=>none) (fun _ _=>false) 100 25 xY xZ
theorem zq5:Con.Ok Tryz.prog 25 ⟨xY,xZ,zvZ⟩:=zv (zf zau (zf zk7 (zf zaf (zf zvY (zf zsW (zf zsX (zf zq4 (zf zod (zf zsZ zh))))))))) zm (by kernel_rfl)
def zaG:T (zJ xY)→Option (T (zJ xZ)):=Qh [((rF,[],()),(0,())),((rF,[(1,0,3,6,100,0,(200,16384),9000,[[0,2,4]])],()),(0,())),((rF,[(1,0,3,6,100,0,(200,16384),1,[[0,2,4]])],()),(412,()))]
theorem zba:Con.Ok Tryz.prog 25 ⟨xY,xZ,zaG⟩:=UW zq5 (xH (by kernel_rfl) (xH (by kernel_rfl) (xH (by kernel_rfl) JL)))
def zux:(qj×zD×Unit)→Option (Int×Unit):=sF Tryz.prog [(41,⟨wL,wM,WV⟩),(42,⟨gk,gm,zdG⟩)] (fun _ _ _ _=>none) (fun _ _=>false) 100 26 gr gu
theorem zph:Con.Ok Tryz.prog 26 ⟨gr,gu,zux⟩:=zv (zf Jy (zf zfq zh)) zm (by kernel_rfl)
def zjX:T (zJ gr)→Option (T (zJ gu)):=Qh [((rT,(1,0,3,6,100,0,(200,16384),9000,[[0,2,4]]),()),(0,())),((rT,(1,0,3,6,100,0,(200,16384),1,[[0,2,4]]),()),(0,()))]
theorem zpi:Con.Ok Tryz.prog 26 ⟨gr,gu,zjX⟩:=UW zph (xH (by kernel_rfl) (xH (by kernel_rfl) JL))
def zv0:(jA×(List zD)×zD×Unit)→Option ((List zD)×Int×Unit):=sF Tryz.prog [(25,⟨xY,xZ,zaG⟩),(26,⟨gr,gu,zjX⟩)] (fun _ _ _ _=>none) (fun _ _=>false) 100 11 kN kO
theorem zq6:Con.Ok Tryz.prog 11 ⟨kN,kO,zv0⟩:=zv (zf zba (zf zpi zh)) zm (by kernel_rfl)
def zlG:T (zJ kN)→Option (T (zJ kO)):=Qh [((rF,[],(1,0,3,6,100,0,(200,16384),9000,[[0,2,4]]),()),([(1,0,3,6,100,0,(200,16384),9000,[[0,2,4]])],0,())),((rF,[],(1,0,3,6,100,0,(200,16384),1,[[0,2,4]]),()),([],412,()))]
theorem zq7:Con.Ok Tryz.prog 11 ⟨kN,kO,zlG⟩:=UW zq6 (xH (by kernel_rfl) (xH (by kernel_rfl) JL))
theorem zfd:yC.Ok Tryz.prog 109 ⟨ze,xn,xp,Qd⟩:=zDc KN zBv
def zdH:((List zD)×Int×Unit)→Option (Int×Int×Unit):=sF Tryz.prog [] (fun _ _ _ _=>none) (fun _ _=>false) 100 110 uS uT
theorem zfx:Con.Ok Tryz.prog 110 ⟨uS,uT,zdH⟩:=zv zh zm (by kernel_rfl)
def VK:((List qy)×Int×Bool×qy×Unit)→Option ((List qy)×Unit):=sF Tryz.prog [] (fun _ _ _ _=>none) (fun _ _=>false) 100 111 wF wG
theorem Gp:Con.Ok Tryz.prog 111 ⟨wF,wG,VK⟩:=zv zh zm (by kernel_rfl)
def JS:za→(qy×Unit)→Option (za×(Unit)):=sP Tryz.prog ⟨[],[(52,⟨ze,qf,qg,vY⟩)]⟩ [] (fun _ _ _ _=>none) (fun _ _=>false) 100 34 ze qT qU
theorem XE:yC.Ok Tryz.prog 34 ⟨ze,qT,qU,JS⟩:=xc ⟨qu,(zP ui qW)⟩ zh zm (by kernel_rfl)
def GR:za→(zI×Unit)→Option (za×(Unit)):=sP Tryz.prog ⟨[],[(107,⟨ze,jd,je,WX⟩),(108,⟨ze,jf,jg,WY⟩),(109,⟨ze,xn,xp,Qd⟩),(34,⟨ze,qT,qU,JS⟩)]⟩ [(11,⟨kN,kO,zlG⟩),(110,⟨uS,uT,zdH⟩),(111,⟨wF,wG,VK⟩)] (fun _ _ _ _=>none) (fun _ _=>false) 100 80 ze yz yA
theorem zfe:yC.Ok Tryz.prog 80 ⟨ze,yz,yA,GR⟩:=xc ⟨qu,(zP Kh (zP Ki (zP zfd (zP XE qW))))⟩ (zf zq7 (zf zfx (zf Gp zh))) zm (by kernel_rfl)
def zof:((List Int)×Unit)→Option (Int×Unit):=sF Tryz.prog [] (fun _ _ _ _=>none) (fun _ _=>false) 100 144 WL WM
theorem zs0:Con.Ok Tryz.prog 144 ⟨WL,WM,zof⟩:=zv zh zm (by kernel_rfl)
def Gq:za→(Int×Int×Unit)→Option (za×(Int×xI×Bool×Unit)):=sP Tryz.prog ⟨[],[]⟩ [(37,⟨wu,wv,XO⟩),(144,⟨WL,WM,zof⟩)] (fun _ _ _ _=>none) (fun _ _=>false) 100 112 ze yd ye
theorem zeE:yC.Ok Tryz.prog 112 ⟨ze,yd,ye,Gq⟩:=xc ⟨qu,qW⟩ (zf KH (zf zs0 zh)) zm (by kernel_rfl)
def zbv:((List xI)×Int×Bool×xI×Unit)→Option ((List xI)×Unit):=sF Tryz.prog [] (fun _ _ _ _=>none) (fun _ _=>false) 100 113 vj vl
theorem zhq:Con.Ok Tryz.prog 113 ⟨vj,vl,zbv⟩:=zv zh zm (by kernel_rfl)
def Yi:za→(zI×Unit)→Option (za×(Unit)):=sP Tryz.prog ⟨[],[(112,⟨ze,yd,ye,Gq⟩),(52,⟨ze,qf,qg,vY⟩)]⟩ [(113,⟨vj,vl,zbv⟩)] (fun _ _ _ _=>none) (fun _ _=>false) 100 81 ze jo jr
theorem zag:yC.Ok Tryz.prog 81 ⟨ze,jo,jr,Yi⟩:=xc ⟨qu,(zP zeE (zP ui qW))⟩ (zf zhq zh) zm (by kernel_rfl)
def zcB:((List Int)×Int×Unit)→Option ((List Int)×Unit):=sF Tryz.prog [] (fun _ _ _ _=>none) (fun _ _=>false) 100 115 vL vM
theorem zhC:Con.Ok Tryz.prog 115 ⟨vL,vM,zcB⟩:=zv zh zm (by kernel_rfl)
def zs1:(jA×(List zD)×Int×Unit)→Option ((List zD)×Int×Unit):=sF Tryz.prog [(25,⟨xY,xZ,zaG⟩),(110,⟨uS,uT,zdH⟩)] (fun _ _ _ _=>none) (fun _ _=>false) 100 116 ug uh
theorem zog:Con.Ok Tryz.prog 116 ⟨ug,uh,zs1⟩:=zv (zf zba (zf zfx zh)) zm (by kernel_rfl)
def zin:T (zJ ug)→Option (T (zJ uh)):=Qh [((rF,[(1,0,3,6,100,0,(200,16384),9000,[[0,2,4]])],1,()),([],0,()))]
theorem zoh:Con.Ok Tryz.prog 116 ⟨ug,uh,zin⟩:=UW zog (xH (by kernel_rfl) JL)
def Gr:za→(zI×Unit)→Option (za×(Unit)):=sP Tryz.prog ⟨[],[(107,⟨ze,jd,je,WX⟩),(108,⟨ze,jf,jg,WY⟩)]⟩ [(114,⟨wi,wj,WZ⟩),(115,⟨vL,vM,zcB⟩),(116,⟨ug,uh,zin⟩),(111,⟨wF,wG,VK⟩)] (fun _ _ _ _=>none) (fun _ _=>false) 100 82 ze yf yg
theorem zeF:yC.Ok Tryz.prog 82 ⟨ze,yf,yg,Gr⟩:=xc ⟨qu,(zP Kh (zP Ki qW))⟩ (zf Kj (zf zhC (zf zoh (zf Gp zh)))) zm (by kernel_rfl)
def KW:za→(zI×Unit)→Option (za×(Unit)):=sP Tryz.prog ⟨[],[(24,⟨ze,qJ,qK,kF⟩)]⟩ [(75,⟨jQ,jR,Jz⟩)] (fun _ _ _ _=>none) (fun _ _=>false) 100 83 ze wB wC
theorem zcQ:yC.Ok Tryz.prog 83 ⟨ze,wB,wC,KW⟩:=xc ⟨qu,(zP gF qW)⟩ (zf WW zh) zm (by kernel_rfl)
def Gs:za→(zI×Unit)→Option (za×(Unit)):=sP Tryz.prog ⟨[],[(80,⟨ze,yz,yA,GR⟩),(81,⟨ze,jo,jr,Yi⟩),(82,⟨ze,yf,yg,Gr⟩),(83,⟨ze,wB,wC,KW⟩)]⟩ [] (fun _ _ _ _=>none) (fun _ _=>false) 100 54 ze yh yi
theorem zeG:yC.Ok Tryz.prog 54 ⟨ze,yh,yi,Gs⟩:=xc ⟨qu,(zP zfe (zP zag (zP zeF (zP zcQ qW))))⟩ zh zm (by kernel_rfl)
def Je:za→(Int×Int×Unit)→Option (za×(Int×Unit)):=sP Tryz.prog ⟨[],[(52,⟨ze,qf,qg,vY⟩),(54,⟨ze,yh,yi,Gs⟩)]⟩ [(53,⟨ya,yb,Kg⟩)] (fun _ _ _ _=>none) (fun _ _=>false) 100 32 ze qN qO
theorem Xh:yC.Ok Tryz.prog 32 ⟨ze,qN,qO,Je⟩:=xc ⟨qu,(zP ui (zP zeG qW))⟩ (zf zcz zh) zm (by kernel_rfl)
def Xy:za→(Unit)→Option (za×(Unit)):=sP Tryz.prog ⟨[],[(33,⟨ze,qL,qM,gG⟩),(34,⟨ze,qT,qU,JS⟩)]⟩ [] (fun _ _ _ _=>none) (fun _ _=>false) 100 23 ze jD jE
theorem UD:yC.Ok Tryz.prog 23 ⟨ze,jD,jE,Xy⟩:=xc ⟨qu,(zP QG (zP XE qW))⟩ zh zm (by kernel_rfl)
def zbw:za→(yL×Unit)→Option (za×(Int×Unit)):=sP Tryz.prog ⟨[],[(43,⟨ze,vh,vi,zbs⟩),(44,⟨ze,yW,yX,Gl⟩),(32,⟨ze,qN,qO,Je⟩),(23,⟨ze,jD,jE,Xy⟩)]⟩ [] (fun _ _ _ _=>none) (fun _ _=>false) 100 27 ze xj xk
theorem zhr:yC.Ok Tryz.prog 27 ⟨ze,xj,xk,zbw⟩:=xc ⟨qu,(zP zhg (zP zeB (zP Xh (zP UD qW))))⟩ zh zm (by kernel_rfl)
def zdW:(zL×yL×Unit)→Option (zL×Int×Unit):=sFl Tryz.prog ⟨[],[(27,⟨ze,xj,xk,zbw⟩)]⟩ [] (fun _ _ _ _=>none) (fun _ _=>false) 100 12 vz uN
theorem zdI:Con.Ok Tryz.prog 12 ⟨vz,uN,zdW⟩:=zgw ⟨qu,(zP zhr qW)⟩ zh zm (by kernel_rfl)
def zhs:(zL×(List yL)×Unit)→Option (zL×(List Int)×Unit):=sF Tryz.prog [(12,⟨vz,uN,zdW⟩)] (fun _ _ _ _=>none) (fun _ _=>false) 100 18 Za Zb
theorem zio:Con.Ok Tryz.prog 18 ⟨Za,Zb,zhs⟩:=zv (zf zdI zh) zm (by kernel_rfl)
def zjY:(zL×Int×Unit)→Option (Int×Int×Unit):=sFl Tryz.prog ⟨[],[(24,⟨ze,qJ,qK,kF⟩)]⟩ [] (fun _ _ _ _=>none) (fun _ _=>false) 100 10 Wn Wo
theorem zpj:Con.Ok Tryz.prog 10 ⟨Wn,Wo,zjY⟩:=zgw ⟨qu,(zP gF qW)⟩ zh zm (by kernel_rfl)
def zld:(zL×Int×Unit)→Option (Bool×Unit):=sF Tryz.prog [(10,⟨Wn,Wo,zjY⟩)] (fun _ _ _ _=>none) (fun _ _=>false) 100 20 JW JX
theorem zlH:Con.Ok Tryz.prog 20 ⟨JW,JX,zld⟩:=zv (zf zpj zh) zm (by kernel_rfl)
def zlI:(zL×Unit)→Option (Bool×Unit):=sF Tryz.prog [] (fun _ _ _ _=>none) (fun _ _=>false) 100 16 JP JQ
theorem zq8:Con.Ok Tryz.prog 16 ⟨JP,JQ,zlI⟩:=zv zh zm (by kernel_rfl)
def VL:za→(Unit)→Option (za×(Unit)):=sP Tryz.prog ⟨[],[(32,⟨ze,qN,qO,Je⟩)]⟩ [] (fun _ _ _ _=>none) (fun _ _=>false) 100 22 ze jT jU
theorem zbF:yC.Ok Tryz.prog 22 ⟨ze,jT,jU,VL⟩:=xc ⟨qu,(zP Xh qW)⟩ zh zm (by kernel_rfl)
def zcC:(zL×Unit)→Option (zL×Unit):=sFl Tryz.prog ⟨[],[(22,⟨ze,jT,jU,VL⟩),(23,⟨ze,jD,jE,Xy⟩)]⟩ [] (fun _ _ _ _=>none) (fun _ _=>false) 100 8 yT vA
theorem zeH:Con.Ok Tryz.prog 8 ⟨yT,vA,zcC⟩:=zgw ⟨qu,(zP zbF (zP UD qW))⟩ zh zm (by kernel_rfl)
def zlJ:(Unit)→Option (Bool×Unit):=sF Tryz.prog [(15,⟨Xo,Xp,zpH⟩),(14,⟨WD,WE,zn1⟩),(17,⟨gS,gT,zih⟩),(18,⟨Za,Zb,zhs⟩),(20,⟨JW,JX,zld⟩),(12,⟨vz,uN,zdW⟩),(16,⟨JP,JQ,zlI⟩),(8,⟨yT,vA,zcC⟩)] (fun _ _ _ _=>none) (fun _ _=>false) 100 6 KP KQ
theorem zht:Con.Ok Tryz.prog 6 ⟨KP,KQ,zlJ⟩:=zv (zf zuv (zf zsP (zf zn2 (zf zio (zf zlH (zf zdI (zf zq8 (zf zeH zh)))))))) zm (by kernel_rfl)
def zlK:(zL×Int×Unit)→Option (zD×Bool×Unit):=sF Tryz.prog [] (fun _ _ _ _=>none) (fun _ _=>false) 100 30 YJ YK
theorem zq9:Con.Ok Tryz.prog 30 ⟨YJ,YK,zlK⟩:=zv zh zm (by kernel_rfl)
def zfy:(zL×zD×Unit)→Option (Bool×Unit):=sF Tryz.prog [(49,⟨uK,uL,zfa⟩)] (fun _ _ _ _=>none) (fun _ _=>false) 100 31 ZC ZD
theorem zle:Con.Ok Tryz.prog 31 ⟨ZC,ZD,zfy⟩:=zv (zf zhj zh) zm (by kernel_rfl)
def zhu:((List Int)×(List Int)×Unit)→Option (Bool×Unit):=sF Tryz.prog [] (fun _ _ _ _=>none) (fun _ _=>false) 100 28 QC QD
theorem zmd:Con.Ok Tryz.prog 28 ⟨QC,QD,zhu⟩:=zv zh zm (by kernel_rfl)
def zeI:(zD×zD×Unit)→Option (Bool×Unit):=sF Tryz.prog [(28,⟨QC,QD,zhu⟩)] (fun _ _ _ _=>none) (fun _ _=>false) 100 13 gx gy
theorem zjZ:Con.Ok Tryz.prog 13 ⟨gx,gy,zeI⟩:=zv (zf zmd zh) zm (by kernel_rfl)
def zoi:(zL×Unit)→Option (Bool×Unit):=sF Tryz.prog [(25,⟨xY,xZ,zaG⟩),(30,⟨YJ,YK,zlK⟩),(31,⟨ZC,ZD,zfy⟩),(13,⟨gx,gy,zeI⟩)] (fun _ _ _ _=>none) (fun _ _=>false) 100 19 Jc Jd
theorem zs2:Con.Ok Tryz.prog 19 ⟨Jc,Jd,zoi⟩:=zv (zf zba (zf zq9 (zf zle (zf zjZ zh)))) zm (by kernel_rfl)
theorem zDd:zlJ ()=some (true,()):=by kernel_rfl
def zf9:Unit→Option (Bool×Unit):=fun _=>some (true,())
theorem zDe:Con.Ok Tryz.prog 6 ⟨KP,KQ,zf9⟩:=⟨zht.1,fun x r h=>zht.2 x r (by cases x;rw [←h];exact zDd)⟩
abbrev eX (i:Int):T zz:=(i,(0,(3,(6,(100,(0,((200,16384),(9000,[[0,2,4]]))))))))
def kA:T qq:=(rF,[(eX 1)],[(1,1,1,(eX 1),0)],[(1,1,1,0,[0,1,2,3])],[],[(2,1,1,0,false,zS,0),(2,1,1,1,false,zS,0),(2,1,1,2,false,zS,0),(2,1,1,3,false,zS,0),(2,1,1,0,false,zS,0)])
def kA1:T qq:=(rF,[(eX 1)],[(1,1,2,(eX 1),0)],[(1,1,2,0,[])],[(0,1,1,true),(1,1,1,true),(2,1,1,true),(3,1,1,true)],[])
def kB0:T qq:=(rF,[(eX 1)],[(1,2,4,(eX 1),0)],[(1,1,2,0,[])],[(0,1,1,true),(1,1,1,true),(2,1,1,true),(3,1,1,true)],[(1,1,2,0,false,zS,0)])
def kB1:T qq:=(rF,[],[(1,2,5,(eX 1),0)],[(1,2,5,0,[])],[(0,1,2,false),(1,1,2,false),(2,1,2,false),(3,1,2,false)],[])
def kB2:T qq:=(rF,[],[(1,2,5,(eX 1),0)],[(1,2,5,0,[])],[(0,1,2,false),(1,1,2,false),(2,1,2,false),(3,1,2,false)],[(2,1,1,0,false,zS,0)])
def kC:T qq:=(rF,[],[(1,2,5,(eX 1),0)],[(1,2,5,0,[])],[(0,1,2,false),(1,1,2,false),(2,1,2,false),(3,1,2,false)],[])
def kD:T qq:=(rF,[],[(1,1,1,(eX 1),0),(2,1,1,(eX 2),0),(3,1,1,(eX 3),0),(4,1,1,(eX 4),0),(5,1,1,(eX 5),0),(6,1,1,(eX 6),0),(7,1,1,(eX 7),0),(8,1,1,(eX 8),0),(9,1,1,(eX 9),0),(10,1,1,(eX 10),0),(11,1,1,(eX 11),0),(12,1,1,(eX 12),0),(13,1,1,(eX 13),0),(14,1,1,(eX 14),0),(15,1,1,(eX 15),0),(16,1,1,(eX 16),0),(17,1,1,(eX 17),0),(18,1,1,(eX 18),0),(19,1,1,(eX 19),0),(20,1,1,(eX 20),0),(21,1,1,(eX 21),0),(22,1,1,(eX 22),0),(23,1,1,(eX 23),0),(24,1,1,(eX 24),0)],[],[],[(1,1,1,0,true,(eX 1),0),(1,2,1,0,true,(eX 2),0),(1,3,1,0,true,(eX 3),0),(1,4,1,0,true,(eX 4),0),(1,5,1,0,true,(eX 5),0),(1,6,1,0,true,(eX 6),0),(1,7,1,0,true,(eX 7),0),(1,8,1,0,true,(eX 8),0),(1,9,1,0,true,(eX 9),0),(1,10,1,0,true,(eX 10),0),(1,11,1,0,true,(eX 11),0),(1,12,1,0,true,(eX 12),0),(1,13,1,0,true,(eX 13),0),(1,14,1,0,true,(eX 14),0),(1,15,1,0,true,(eX 15),0),(1,16,1,0,true,(eX 16),0),(1,17,1,0,true,(eX 17),0),(1,18,1,0,true,(eX 18),0),(1,19,1,0,true,(eX 19),0),(1,20,1,0,true,(eX 20),0),(1,21,1,0,true,(eX 21),0),(1,22,1,0,true,(eX 22),0),(1,23,1,0,true,(eX 23),0),(1,24,1,0,true,(eX 24),0)])
def kR1:List (T xd):=[(1,0,0,(eX 1)),(3,0,0,zS),(5,0,0,zS)]
def kR2:List (T xd):=[(1,0,0,(eX 1)),(1,0,0,(eX 2)),(1,0,0,(eX 3)),(1,0,0,(eX 4)),(1,0,0,(eX 5)),(1,0,0,(eX 6)),(1,0,0,(eX 7)),(1,0,0,(eX 8)),(1,0,0,(eX 9)),(1,0,0,(eX 10)),(1,0,0,(eX 11)),(1,0,0,(eX 12)),(1,0,0,(eX 13)),(1,0,0,(eX 14)),(1,0,0,(eX 15)),(1,0,0,(eX 16)),(1,0,0,(eX 17)),(1,0,0,(eX 18)),(1,0,0,(eX 19)),(1,0,0,(eX 20)),(1,0,0,(eX 21)),(1,0,0,(eX 22)),(1,0,0,(eX 23)),(1,0,0,(eX 24)),(1,0,0,(eX 25)),(1,0,0,(4096,0,0,0,0,0,(0,0),0,[])),(0,0,0,zS),(7,0,0,zS)]
def kE2:List Int:=[0,0,0,0,0,0,0,0,0,0,0,0,0,0,0,0,0,0,0,0,0,0,0,0,7,2,2,2]
def zHZ:T qv:=(2,1,1,0,false,zS,0)
def orK {a b:List VT} (l:List (T (zJ a)×T (zJ b))) (F:T (zJ a)→Option (T (zJ b))):T (zJ a)→Option (T (zJ b)):=fun x=>match Qh l x with
 |some r=>some r
 |none=>F x
theorem zj0 {P:Program} {f:FuncId} {a b:List VT} {c F:T (zJ a)→Option (T (zJ b))} (hc:Con.Ok P f ⟨a,b,c⟩) {l:List (T (zJ a)×T (zJ b))} (hl:∀p∈l,c p.1=some p.2) (hF:Con.Ok P f ⟨a,b,F⟩):Con.Ok P f ⟨a,b,orK l F⟩:=
 ⟨hF.1,fun x r h=>by
  have h:(match Qh l x with
   |some r=>some r
   |none=>F x)=some r:=h
  cases e:Qh l x with
  |some q=>rw [e] at h;cases h;exact hc.2 x _ (zm6 hl e)
  |none=>rw [e] at h;exact hF.2 x r h⟩
theorem zs3 {a b:List VT}:∀{l:List (T (zJ a)×T (zJ b))} {x:T (zJ a)} {r:T (zJ b)},Qh l x=some r→∃p∈l,x=p.1
 |[],_,_,h=>by cases h
 |p::l,x,r,h=>by
  have h:(bif eqT (zJ a) x p.1 then some p.2 else Qh l x)=some r:=h
  cases hx:eqT (zJ a) x p.1 with
  |true=>exact ⟨p,by simp,zeb _ _ _ hx⟩
  |false=>
   rw [hx] at h
   obtain ⟨q,hq,e⟩:=zs3 (l:=l) h
   exact ⟨q,by simp [hq],e⟩
theorem zyJ {a b:List VT} {l:List (T (zJ a)×T (zJ b))} {F:T (zJ a)→Option (T (zJ b))} {x:T (zJ a)} (h:∀p∈l,x≠p.1):orK l F x=F x:=by
 show (match Qh l x with
   |some r=>some r
   |none=>F x)=F x
 cases e:Qh l x with
 |none=>rfl
 |some r=>
  obtain ⟨p,hp,e2⟩:=zs3 e
  exact absurd e2 (h p hp)
abbrev kS0:T qq:=(rF,([],([],([],([],[])))))
abbrev zHC:T xd:=(2,(1,(0,zS)))
abbrev zHD:T xd:=(3,(0,(0,zS)))
def zHE:List (T (zJ Za)×T (zJ Zb)):=[((kS0,(kR1,())),(kA,([0,0,0],()))),((kS0,(kR2,())),(kD,(kE2,())))]
def zHF:List (T (zJ yT)×T (zJ vA)):=[((kA,()),(kA1,())),((kB0,()),(kB1,()))]
def lDo:List (T (zJ vz)×T (zJ uN)):=[((kA1,(zHC,())),(kB0,(0,()))),((kB2,(zHD,())),(kC,(0,())))]
def zFt:List (T (zJ Jc)×T (zJ Jd)):=[((kC,()),(true,()))]
def lIs:List (T (zJ JW)×T (zJ JX)):=[((kC,(5,())),(true,()))]
theorem zGK:∀p∈zHE,zhs p.1=some p.2:=xH (by kernel_rfl) (xH (by kernel_rfl) JL)
theorem zGL:∀p∈zHF,zcC p.1=some p.2:=xH (by kernel_rfl) (xH (by kernel_rfl) JL)
theorem zHG:∀p∈lDo,zdW p.1=some p.2:=xH (by kernel_rfl) (xH (by kernel_rfl) JL)
theorem zE5:∀p∈zFt,zoi p.1=some p.2:=xH (by kernel_rfl) JL
theorem zHH:∀p∈lIs,zld p.1=some p.2:=xH (by kernel_rfl) JL
def ziq:=orK zHE znH
def KI:=orK zHF Xf
def zhv:=orK lDo Xv
def zj1:=orK zFt znL
def zuy:=orK lIs zsv
theorem zE6:Con.Ok Tryz.prog 18 ⟨Za,Zb,ziq⟩:=zj0 zio zGK zst
theorem zzg:Con.Ok Tryz.prog 8 ⟨yT,vA,KI⟩:=zj0 zeH zGL znI
theorem zGM:Con.Ok Tryz.prog 12 ⟨vz,uN,zhv⟩:=zj0 zdI zHG zjE
theorem zDf:Con.Ok Tryz.prog 19 ⟨Jc,Jd,zj1⟩:=zj0 zs2 zE5 zsx
theorem zGN:Con.Ok Tryz.prog 20 ⟨JW,JX,zuy⟩:=zj0 zlH zHH zvV
theorem zE7:∀w∈wis kD,(1≤w.1∧w.1≤24)∧w.2.1=1∧w.2.2.1=1∧w.2.2.2.1.1=w.1∧w.2.2.2.1.2.2.2.2.2.2.2.2=[[0,2,4]]:=by decide +kernel
theorem zIi:(wis kD).Pairwise fun a b=>a.1 < b.1:=by decide +kernel
theorem zIj:∀n:Nat,n < 24→((wis kD)[n]?).map (fun w=>w.1)=some ((n:Int)+1):=by decide +kernel
theorem zIk:wir kD=(wis kD).flatMap Yq:=by kernel_rfl
theorem zyK:(wir kD).length=24∧(wis kD).length=24:=by decide +kernel
theorem zHI:kD.1=Un:=by kernel_rfl
theorem zBw:Shp kD:=⟨zHI,zIi,zzU,zzU,fun w hw=>(zE7 w hw).1,fun c h=>(by cases h),fun c h=>(by cases h),by rw [zyK.1];decide⟩
theorem zH0 {id:Int} (h:idP id):wOf kD id∈wis kD∧(wOf kD id).1=id:=by
 unfold idP at h
 have h1:=zIj (id - 1).toNat (by omega)
 cases hx:(wis kD)[(id - 1).toNat]? with
 |none=>rw [hx] at h1;cases h1
 |some w=>
  rw [hx] at h1
  have h2:w.1=(((id - 1).toNat:Nat):Int)+1:=Option.some.inj h1
  have h3:w.1=id:=by omega
  have hm:=QN hx
  have e:wOf kD id=w:=by rw [←h3];exact znY zBw hm
  rw [e]
  exact ⟨hm,h3⟩
theorem zH1:Iv 1 kD where
 sh:=zBw
 hold:=zC3
 lr:=fun x h=>by cases h
 g
  :=fun id hid=>by
  obtain ⟨hm,hi⟩:=zH0 hid
  obtain ⟨_,w1,w2,w3,w4⟩:=zE7 _ hm
  have ec:cOf kD id=zC id:=rfl
  have eh:∀v,hOf kD v id=zH v id:=fun v=>rfl
  rw [ec]
  generalize wOf kD id=w at hm hi w1 w2 w3 w4
  exact {
   n0:=⟨by omega,by omega⟩,z:=fun h=>by omega,st:=fun _=>⟨by omega,by rw [w3,hi],.inl w4⟩,c0:=⟨Int.le_refl _,.inr (by show (0:Int)+1=_;omega)⟩,
   cz:=fun _=>⟨rfl,fun _=>w2⟩,cw:=fun h=>absurd (show (1:Int)≤0 from h) (by decide),cl:=fun h=>absurd (show (1:Int)≤0 from h) (by decide),
   lg:=fun x h=>(by cases h),lc:=fun h=>by
    have h:(0:Int)=1∨(0:Int)=2∨(0:Int)=4:=h
    omega
   hn:=fun v _=>⟨Int.le_refl _,Int.le_refl _⟩,he:=fun v _ h=>absurd (show (1:Int)≤0 from h) (by decide),ho:=fun v _ h=>absurd (show false=true from h) (by decide),
   wn:=fun h=>by
    have h:(0:Int)=1∨(0:Int)=4:=h
    omega
   wz:=fun _ _=>rfl,wr:=fun v h=>(by cases h),wd:=List.nodup_nil,wh:=fun h=>by
    have h:(0:Int)=1∨(0:Int)=2∨(0:Int)=4:=h
    omega}
 l
  :=fun l hl=>by
  rw [zIk] at hl
  obtain ⟨w,hw,hl⟩:=List.mem_flatMap.1 hl
  obtain ⟨h1,h2,_⟩:=zE7 w hw
  have e:=(zf8 hl).2.1
  refine ⟨by rw [e];exact h1,?_⟩
  rw [e,znY zBw hw]
  exact zut (by omega) hl
theorem zGO:QS ((((0,([],[])),((0,(0,(0,0))),([],0))):Fab),())=some (((((0,([],[])),((0,(0,(0,0))),([],0))):Fab),([],([],([],([],[]))))),(260,())):=by
 rw [zh0];unfold zbY
 have e:Gk (((0,([],[])),((0,(0,(0,0))),([],0))):Fab)=260:=by
  unfold Gk
  rw [qo fun h=>by have:=h.sz.n0;exact absurd this (by decide)];rfl
 rw [VG (by decide),e]
 rfl
theorem zzh:gU ()=some (eX 1,()):=by
 rw [znc];rfl
theorem zH2:ziq (kS0,(kR1,()))=some (kA,([0,0,0],())):=by kernel_rfl
theorem zH3:ziq (kS0,(kR2,()))=some (kD,(kE2,())):=by kernel_rfl
theorem zH4:KI (kA,())=some (kA1,()):=by kernel_rfl
theorem zH5:KI (kB0,())=some (kB1,()):=by kernel_rfl
theorem zIl:zhv (kA1,(zHC,()))=some (kB0,(0,())):=by kernel_rfl
theorem zIm:zhv (kB2,(zHD,()))=some (kC,(0,())):=by kernel_rfl
theorem zH6:zj1 (kC,())=some (true,()):=by kernel_rfl
theorem his:zuy (kC,(5,()))=some (true,()):=by kernel_rfl
theorem zz2 {s:Sig} {a:yL} (h2:a.1≠2) (h3:a.1≠3):zhv (s,(a,()))=Xv (s,(a,())):=by
 refine zyJ fun p hp e=>?_
 rcases List.mem_cons.1 hp with rfl | hp
 ·exact h2 (congrArg (fun z:T (zJ vz)=>z.2.1.1) e)
 ·rw [List.mem_singleton.1 hp] at e
  exact h3 (congrArg (fun z:T (zJ vz)=>z.2.1.1) e)
theorem zE8 {s:Sig} (h:(wir s).length=1024):KI (s,())=Xf (s,()):=by
 refine zyJ fun p hp e=>?_
 rcases List.mem_cons.1 hp with rfl | hp
 ·have e:(wir s).length=(wir kA).length:=congrArg (fun z:T (zJ yT)=>(wir z.1).length) e
  rw [h] at e
  exact absurd e (by decide +kernel)
 ·rw [List.mem_singleton.1 hp] at e
  have e:(wir s).length=(wir kB0).length:=congrArg (fun z:T (zJ yT)=>(wir z.1).length) e
  rw [h] at e
  exact absurd e (by decide +kernel)
theorem zHJ:vP (kS0,())=some (true,()):=zqZ (by decide) (by decide) rfl (fun w h=>by cases h) (fun w h=>by cases h)
theorem zHK:vP (kC,())=some (true,()):=zqZ (by decide +kernel) (by decide +kernel) (by kernel_rfl) (by decide +kernel) (by decide +kernel)
def zoj (i:Nat):List yL:=(List.range i).map fun j:Nat=>(1,(0,(0,((j:Int)+1,(eX 1).2))))
theorem zDg (i:Nat):zoj (i+1)=zoj i++[(1,(0,(0,((i:Int)+1,(eX 1).2))))]:=by
 unfold zoj
 rw [List.range_succ,List.map_append];rfl
theorem zGP:zoj 25++((1,(0,(0,(4096,(0,(0,(0,(0,(0,((0,0),(0,[])))))))))))::((0,(0,(0,(0,(0,(0,(0,(0,(0,((0,0),(0,[])))))))))))::((7,(0,(0,(0,(0,(0,(0,(0,(0,((0,0),(0,[])))))))))))::[])))=(kR2:List yL):=by kernel_rfl
theorem zlf (i:Nat):(zoj i).length=i:=by unfold zoj;simp
theorem zDh:Ye zf9 Xq QS vP gU ziq KI zhv zj1 zuy=some (true,()):=by
 unfold Ye
 rw [show zf9 ()=some (true,()) from rfl,zK]
 refine xr (zg rfl ?_)
 rw [zGs,zK,zGt,zK,zGO,zK]
 refine zn (zg rfl (zg rfl (zn (qF (show vP (((Un,([],([],([],([],[]))))):Sig),())=_ from zHJ) (zg rfl (zd (zi rfl ?_)))))))
 rw [zzh]
 simp only [zK]
 refine zn (qF (show ziq (((Un,([],([],([],([],[]))))):Sig),_)=_ from zH2) ?_)
 refine zn (zg rfl (zn (qF (a:=0) (by kernel_rfl) (zg rfl (zg (by kernel_rfl) (zd (zi rfl ?_)))))))
 refine zn (qF (a:=zHZ) (by kernel_rfl) ?_)
 refine zn (qF zH4 ?_)
 refine zn (qF zIl ?_)
 refine zn (qF zH5 ?_)
 refine zn (qF (show zhv _=_ from zIm) ?_)
 refine zn (zg rfl (zg rfl (zg (by kernel_rfl) ?_)))
 refine zn (qF zHK (zg rfl ?_))
 refine zn (qF zH6 (zg rfl ?_))
 refine zn (qF his (zg rfl (zd (zi rfl ?_))))
 refine zq (J:=fun x=>x.2.2.1=zoj 25) (qG 25 (fun i st=>st=(((i:Int),()),(zoj i,()))) (by omega) rfl ?_ ?_) ?_
 ·rintro i _ hi rfl
  refine zi (qD (show (i:Int) < 25 by omega)) ?_
  refine zi (kW (by rw [zlf];simp;omega) (by rw [zlf];simp;omega)) (zd (ji ?_))
  rw [qX (by omega),zDg];rfl
 ·rintro _ rfl
  exact zg (qm (by simp)) (zd (zE rfl))
 rintro ⟨j,⟨w,⟨⟩⟩,l,⟨⟩⟩ hl
 simp only at hl
 subst hl
 refine zi (kW (by rw [zlf];decide) (by rw [zlf];decide)) ?_
 refine zn (qF (a:=(kD,(kE2,()))) (by rw [zGP];exact zH3) ?_)
 refine zi (by kernel_rfl) ?_
 refine zn (qF (a:=0) (by kernel_rfl) (zi rfl ?_))
 refine zn (qF (a:=7) (by kernel_rfl) (zi rfl ?_))
 refine zn (qF (a:=2) (by kernel_rfl) (zi rfl ?_))
 refine zn (qF (a:=2) (by kernel_rfl) (zi rfl ?_))
 refine zn (qF (a:=2) (by kernel_rfl) (zi rfl ?_))
 refine zq (J:=fun x=>x.1=0∧Iv 1 x.2.1.1∧(wir x.2.1.1).length=1024) (zvc (fun st=>Iv 1 st.1.1∧1≤(wir st.1.1).length) _ (fun st=>1024 - (wir st.1.1).length) ⟨zH1,by show 1≤(wir kD).length;rw [zyK.1];decide⟩ (by show 1024 - (wir kD).length < _;omega) ?_) ?_
 ·rintro ⟨⟨q,b,⟨⟩⟩,⟨⟩⟩ ⟨iv,h1⟩
  have iv:Iv 1 q:=iv
  have h1:1≤(wir q).length:=h1
  have hx:=iv.sh.x
  refine zt (fun h=>?_) (fun h=>?_)
  ·have h:(((wir q).length:Nat):Int) < 1024:=yn h
   have hd:qB (zhv (q,((5,(0,(0,zS))),()))) fun r=>r.2.1=0∧Iv 1 r.1∧(wir r.1).length=(wir q).length+1:=by
    rw [zz2 (show (5:Int)≠2 by decide) (show (5:Int)≠3 by decide)]
    exact zBu iv (by intro e;rw [e] at h1;exact absurd h1 (by decide)) (by omega)
   refine zq hd ?_
   rintro ⟨q',e,⟨⟩⟩ ⟨he,iv',hl⟩
   simp only at he iv' hl
   subst he
   refine zn (zg rfl (zg ?_ (zd (zi rfl (zd (zxS ⟨iv',by show 1≤(wir q').length;omega⟩ ?_))))))
   ·show (!zj (((wir q').length:Nat):Int) (wrF .i64 ((((wir q).length:Nat):Int)+1)))=false
    rw [qR (by omega) (by omega),yJ (by omega)];rfl
   ·show 1024 - (wir q').length < 1024 - (wir q).length
    omega
  ·have h:(1024:Int)≤(((wir q).length:Nat):Int):=wA h
   exact zd (zvb ⟨rfl,iv,by show (wir q).length=1024;omega⟩)
 rintro ⟨j,⟨q,b,⟨⟩⟩,⟨⟩⟩ ⟨h1,iv,hlen⟩
 simp only at h1 iv hlen
 subst h1
 refine zi rfl ?_
 have ht:zhv (q,((6,(0,(0,zS))),()))=some (snds q (gD q),(0,())):=(zz2 (show (6:Int)≠2 by decide) (show (6:Int)≠3 by decide)).trans (zzf iv)
 refine zn (qF ht ?_)
 have hlen2:(wir (snds q (gD q))).length=1024:=by
  have h1:=zGJ (gD q) (wir q)
  have h2:=zyw (gD q) (x:=wir q) iv.sh.x
  show (JR (wir q) (gD q)).length=1024
  omega
 refine zi rfl (zi ?_ (zi rfl (zi ?_ ?_)))
 ·show zj (((wis kD).length:Nat):Int) 24=true
  rw [zyK.2];rfl
 ·show zj (((wir (snds q (gD q))).length:Nat):Int) 1024=true
  rw [hlen2];rfl
 rw [show KI (snds q (gD q),())=_ from zE8 hlen2]
 refine zq (zBt iv.tick) ?_
 rintro ⟨r,⟨⟩⟩ ⟨ir,hr,hre⟩
 simp only at ir hr hre
 rw [zGI ir hr hre,zK]
 exact zd rfl
noncomputable def zff:T (zJ Qi)→Option (T (zJ Yd)):=sF Tryz.prog [(6,⟨KP,KQ,zf9⟩),(15,⟨Xo,Xp,Xq⟩),(14,⟨WD,WE,QS⟩),(16,⟨JP,JQ,vP⟩),(17,⟨gS,gT,gU⟩),(18,⟨Za,Zb,ziq⟩),(8,⟨yT,vA,KI⟩),(12,⟨vz,uN,zhv⟩),(19,⟨Jc,Jd,zj1⟩),(20,⟨JW,JX,zuy⟩)] zcm (zN []) 30 5 Qi Yd
theorem zra:Con.Ok Tryz.prog 5 ⟨Qi,Yd,zff⟩:=zv (zf zDe (zf ztI (zf zrW (zf zqL (zf znb (zf zE6 (zf zzg (zf zGM (zf zDf (zf zGN zh)))))))))) zm (by kernel_rfl)
theorem zrb:zff ()=Ye zf9 Xq QS vP gU ziq KI zhv zj1 zuy:=zl4 zf9 Xq QS vP gU ziq KI zhv zj1 zuy
abbrev A5:=Qi
abbrev K5_ok:=zra
theorem good5 (x:T (zJ A5)) (h:wfT (zJ A5) x):zff x=some (true,()):=by
 cases x
 exact zrb.trans zDh
end Go.Proofs.YtleloebnggepoaaGreat.sg
end
