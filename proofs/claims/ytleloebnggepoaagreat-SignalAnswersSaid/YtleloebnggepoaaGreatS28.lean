/- Parts of a proof, joined. -/
import Derived.Test.YtleloebnggepoaaGreatS27
set_option linter.unusedSectionVars false
set_option linter.unusedVariables false
set_option linter.unusedSimpArgs false
set_option maxHeartbeats 0
set_option maxRecDepth 100000
noncomputable section
namespace Go.Proofs.YtleloebnggepoaaGreat.sg
open Go Go.Fz Go.Fz.Sy
def Lv (id:Int) (w:Wi) (c:Ca) (X:List Le):Prop:=
 (w.2.2.1=1∨w.2.2.1=4)→
  (c.2.1 < w.2.1∧∃l∈X,l.1=1∧l.2.1=id∧l.2.2.1=w.2.1)∨
  (c.2.1=w.2.1∧(c.2.2.1=1∨c.2.2.1=4)∧∀v∈c.2.2.2.2,∃l∈X,l.2.1=id∧l.2.2.1=w.2.1∧l.2.2.2.1=v∧(l.1=2∨l.1=3∨l.1=4))∨
  (c.2.1=w.2.1∧(c.2.2.1=2∨c.2.2.1=3∨c.2.2.1=5)∧∃l∈X,l.2.1=id∧l.2.2.1=w.2.1∧(l.1=1∨l.1=5∨l.1=6∨l.1=7))
abbrev LvS (s:Sig):Prop:=∀id,idP id→Lv id (wOf s id) (cOf s id) (wir s)
theorem zHX {k id:Int} {w:Wi} {c:Ca} {h:Int→He} {L:List qj} (g:Gd k id w c h L) (hv:Lv id w c []):w.2.2.1≠1∧w.2.2.1≠4:=by
 apply Classical.byContradiction
 intro hn
 have hn:w.2.2.1=1∨w.2.2.1=4:=by omega
 rcases hv hn with ⟨_,l,hl,_⟩ | ⟨_,h2,h3⟩ | ⟨_,_,l,hl,_⟩
 ·cases hl
 ·have hw:=g.wn h2
  cases hc:c.2.2.2.2 with
  |nil=>exact hw hc
  |cons v r=>
   obtain ⟨l,hl,_⟩:=h3 v (by rw [hc];simp)
   cases hl
 ·cases hl
theorem Lv.mono {id:Int} {w:Wi} {c:Ca} {X Y:List Le} (hv:Lv id w c X) (h:∀l∈X,l.2.1=id→l∈Y):Lv id w c Y:=by
 intro hp
 rcases hv hp with ⟨h1,l,hl,a,b,d⟩ | ⟨h1,h2,h3⟩ | ⟨h1,h2,l,hl,a,b⟩
 ·exact .inl ⟨h1,l,h l hl b,a,b,d⟩
 ·refine .inr (.inl ⟨h1,h2,fun v hv=>?_⟩)
  obtain ⟨l,hl,a,b⟩:=h3 v hv
  exact ⟨l,h l hl a,a,b⟩
 ·exact .inr (.inr ⟨h1,h2,l,h l hl a,a,b⟩)
theorem zG9 {c:Ca} (h:c.2.2.1=2∨c.2.2.1=3∨c.2.2.1=5):∃l∈vl c,l.2.1=c.1∧l.2.2.1=c.2.1∧(l.1=1∨l.1=5∨l.1=6∨l.1=7):=by
 unfold vl
 rcases h with h | h | h
 ·rw [if_pos h];exact ⟨_,List.mem_singleton.2 rfl,rfl,rfl,.inr (.inl rfl)⟩
 ·rw [if_neg (by omega),if_pos h];exact ⟨_,List.mem_singleton.2 rfl,rfl,rfl,.inr (.inr (.inl rfl))⟩
 ·rw [if_neg (by omega),if_neg (by omega),if_pos h];exact ⟨_,List.mem_singleton.2 rfl,rfl,rfl,.inr (.inr (.inr rfl))⟩
theorem zu2 {c:Ca} (h:c.2.2.1=1∨c.2.2.1=4) {v:Int} (hv:v∈c.2.2.2.2):∃l∈Wh c,l.2.1=c.1∧l.2.2.1=c.2.1∧l.2.2.2.1=v∧(l.1=2∨l.1=3∨l.1=4):=by
 unfold Wh
 rcases h with h | h
 ·rw [if_pos h];exact ⟨_,List.mem_map.2 ⟨v,hv,rfl⟩,rfl,rfl,rfl,.inl rfl⟩
 ·rw [if_neg (by omega),if_pos h];exact ⟨_,List.mem_map.2 ⟨v,hv,rfl⟩,rfl,rfl,rfl,.inr (.inl rfl)⟩
theorem zlK {s s':Sig} {l:Le} {X Y:List Le} {id:Int} (hne:id≠l.2.1) (hw:wir s=l::X) (e1:wOf s' id=wOf s id) (e2:cOf s' id=cOf s id) (e3:wir s'=X++Y) (hv:Lv id (wOf s id) (cOf s id) (wir s)):Lv id (wOf s' id) (cOf s' id) (wir s'):=by
 rw [e1,e2,e3]
 refine hv.mono fun a ha hi=>?_
 rw [hw] at ha
 rcases List.mem_cons.1 ha with rfl | ha
 ·exact absurd hi.symm hne
 ·exact List.mem_append.2 (.inl ha)
theorem LvS.step {k:Int} {s:Sig} {l:Le} {X:List Le} {s':Sig} (iv:Iv k s) (hp:phi (wir s)≤1024) (lv:LvS s) (hw:wir s=l::X) (hs:Yn (upX s X) l s'):LvS s'∧phi (wir s')≤1024:=by
 have hl:za2 s l:=iv.l l (by rw [hw];simp)
 obtain ⟨hid,hlo⟩:=hl
 have g:=iv.g l.2.1 hid
 have gn:=g.n0;have gc:=g.c0;have gcw:=g.cw;have gcl:=g.cl;have gcz:=g.cz;have gz:=g.z
 obtain ⟨Y,eY,hY⟩:=zvV hs
 have eX:wir (upX s X)=X:=rfl
 rw [eX] at eY
 have hlen:phi X+wt l≤1024:=by rw [hw,zec] at hp;omega
 have hall:Yd X Y=X++Y:=Xy Y (by have:=ZO X;have:=ZO Y;omega)
 rw [hall] at eY
 refine ⟨?_,by rw [eY,zAu];omega⟩
 have hid0:LvS s→∀id,idP id→id≠l.2.1→wOf s' id=wOf s id→cOf s' id=cOf s id→Lv id (wOf s' id) (cOf s' id) (wir s'):=fun lv id hi hne e1 e2=>zlK hne hw e1 e2 eY (lv id hi)
 have hv:=lv l.2.1 hid
 rw [hw] at hv
 have stay:∀w c,w=wOf s l.2.1→c=cOf s l.2.1→((w.2.2.1=1∨w.2.2.1=4)→¬(l.2.2.1=w.2.1∧((c.2.1 < w.2.1∧l.1=1)∨(c.2.1=w.2.1∧(c.2.2.1=1∨c.2.2.1=4)∧l.2.2.2.1∈c.2.2.2.2∧(l.1=2∨l.1=3∨l.1=4))∨(c.2.1=w.2.1∧(c.2.2.1=2∨c.2.2.1=3∨c.2.2.1=5)∧(l.1=1∨l.1=5∨l.1=6∨l.1=7)))))→Lv l.2.1 w c (X++Y):=by
  rintro w c rfl rfl hno hpd
  have hno:=hno hpd
  rcases hv hpd with ⟨h1,a,ha,b1,b2,b3⟩ | ⟨h1,h2,h3⟩ | ⟨h1,h2,a,ha,b1,b2,b3⟩
  ·rcases List.mem_cons.1 ha with rfl | ha
   ·exact absurd ⟨b3,.inl ⟨h1,b1⟩⟩ hno
   ·exact .inl ⟨h1,a,List.mem_append.2 (.inl ha),b1,b2,b3⟩
  ·refine .inr (.inl ⟨h1,h2,fun v hv=>?_⟩)
   obtain ⟨a,ha,b1,b2,b3,b4⟩:=h3 v hv
   rcases List.mem_cons.1 ha with rfl | ha
   ·exact absurd ⟨b2,.inr (.inl ⟨h1,h2,by rw [b3];exact hv,b4⟩)⟩ hno
   ·exact ⟨a,List.mem_append.2 (.inl ha),b1,b2,b3,b4⟩
  ·rcases List.mem_cons.1 ha with rfl | ha
   ·exact absurd ⟨b2,.inr (.inr ⟨h1,h2,b3⟩)⟩ hno
   ·exact .inr (.inr ⟨h1,h2,a,List.mem_append.2 (.inl ha),b1,b2,b3⟩)
 have sh:Shp (upX s X):=iv.sh.upX (by have:=ZO X;have:=zc0 l;omega)
 have setc:∀(q:Sig) (c:Ca) (Z:List Le),c.1=l.2.1→(∀j,wOf q j=wOf s j)→(∀j,cOf q j=if j=l.2.1 then c else cOf s j)→wir q=X++Y→(∀(e:wir q=X++Y),Lv l.2.1 (wOf s l.2.1) c (X++Y))→LvS q:=by
  intro q c Z hc e1 e2 e3 h id hi
  by_cases hne:id=l.2.1
  ·subst hne
   rw [e1,e2,if_pos rfl,e3]
   exact h e3
  ·exact zlK hne hw (e1 id) (by rw [e2,if_neg hne]) e3 (lv id hi)
 have qc:wOf s'=wOf s→cOf s'=cOf s→Lv l.2.1 (wOf s l.2.1) (cOf s l.2.1) (X++Y)→LvS s':=by
  intro e1 e2 h id hi
  by_cases hne:id=l.2.1
  ·subst hne
   rw [e1,e2,eY];exact h
  ·exact zlK hne hw (by rw [e1]) (by rw [e2]) eY (lv id hi)
 cases hs with
 |ask hk hs=>
  have n1:1≤l.2.2.1:=by
   unfold LOk at hlo
   rcases hlo with ⟨e,h1,h2,h3⟩ | ⟨e,_⟩ | ⟨e,_⟩ | ⟨e,_⟩ | ⟨e,_⟩ | ⟨e,_⟩ | ⟨e,_⟩
   ·exact h1
   all_goals (rw [hk] at e;exact absurd e (by decide))
  cases hs with
  |old h=>
   have h:l.2.2.1 < (cOf s l.2.1).2.1:=h
   exact qc rfl rfl (stay _ _ rfl rfl fun _=>by omega)
  |same h=>
   have h:l.2.2.1=(cOf s l.2.1).2.1:=h
   refine qc rfl rfl ?_
   have eA:Y=vl (cOf s l.2.1):=List.append_cancel_left (by
    rw [←eY]
    show Yd X (vl (cOf s l.2.1))=_
    exact Xy _ (by have:=ZO X;have:=ZO (vl (cOf s l.2.1));have:=Up (cOf s l.2.1);have:=zc0 l;omega))
   by_cases hst:(cOf s l.2.1).2.1=(wOf s l.2.1).2.1∧((cOf s l.2.1).2.2.1=2∨(cOf s l.2.1).2.2.1=3∨(cOf s l.2.1).2.2.1=5)
   ·intro _
    obtain ⟨a,ha,b1,b2,b3⟩:=zG9 hst.2
    exact .inr (.inr ⟨hst.1,hst.2,a,List.mem_append.2 (.inr (by rw [eA];exact ha)),by rw [b1];exact zot s _,by rw [b2];exact hst.1,b3⟩)
   ·exact stay _ _ rfl rfl fun _=>by omega
  |fail h hw' e he ha=>
   have h:(cOf s l.2.1).2.1 < l.2.2.1:=h
   obtain ⟨a1,a2,_⟩:=Wz g hlo hk h
   refine setc _ (l.2.1,(l.2.2.1,(3,(e,[])))) [] rfl (fun j=>rfl) (fun j=>Ud sh _ j) eY fun e3 _=>?_
   refine .inr (.inr ⟨a1,.inr (.inl rfl),(6,(l.2.1,(l.2.2.1,(0,(false,(zS,e)))))),?_,rfl,a1,.inr (.inr (.inl rfl))⟩)
   have e4:Yd X (vl (l.2.1,(l.2.2.1,(3,(e,[])))))=X++Y:=e3
   rw [←e4,Xy _ (by have:=ZO X;have:=ZO (vl (l.2.1,(l.2.2.1,(3,(e,[])))));have:=Up (l.2.1,(l.2.2.1,(3,(e,[]))));have:=zc0 l;omega)]
   exact List.mem_append.2 (.inr (List.mem_singleton.2 rfl))
  |put h hw' ha hh=>
   have h:(cOf s l.2.1).2.1 < l.2.2.1:=h
   obtain ⟨a1,a2,_⟩:=Wz g hlo hk h
   refine setc _ (l.2.1,(l.2.2.1,(1,(0,N4)))) [] rfl (fun j=>rfl) (fun j=>Ud (sh.upL _) _ j) eY fun e3 _=>?_
   refine .inr (.inl ⟨a1,.inl rfl,fun v hv=>?_⟩)
   obtain ⟨a,ha,b1,b2,b3,b4⟩:=zu2 (c:=(l.2.1,(l.2.2.1,(1,(0,N4))))) (.inl rfl) hv
   refine ⟨a,?_,b1,by rw [b2];exact a1,b3,b4⟩
   have e4:Yd X (Wh (l.2.1,(l.2.2.1,(1,(0,N4)))))=X++Y:=e3
   have ew:wt l=13:=by unfold wt;rw [if_pos hk]
   rw [←e4,Xy _ (by have:=ZO X;show X.length+4≤1024;omega)]
   exact List.mem_append.2 (.inr ha)
  |gone h hw' hx=>
   have h:(cOf s l.2.1).2.1 < l.2.2.1:=h
   obtain ⟨a1,a2,_⟩:=Wz g hlo hk h
   refine setc _ (l.2.1,(l.2.2.1,(5,(0,[])))) [] rfl (fun j=>rfl) (fun j=>Ud sh _ j) eY fun e3 _=>?_
   refine .inr (.inr ⟨a1,.inr (.inr rfl),(7,(l.2.1,(l.2.2.1,(0,(false,(zS,0)))))),?_,rfl,a1,.inr (.inr (.inr rfl))⟩)
   have e4:Yd X (vl (l.2.1,(l.2.2.1,(5,(0,[])))))=X++Y:=e3
   rw [←e4,Xy _ (by have:=ZO X;have:=ZO (vl (l.2.1,(l.2.2.1,(5,(0,[])))));have:=Up (l.2.1,(l.2.2.1,(5,(0,[]))));have:=zc0 l;omega)]
   exact List.mem_append.2 (.inr (List.mem_singleton.2 rfl))
  |drop h hw' x hx hi=>
   have h:(cOf s l.2.1).2.1 < l.2.2.1:=h
   obtain ⟨a1,a2,_⟩:=Wz g hlo hk h
   refine setc _ (l.2.1,(l.2.2.1,(4,(0,N4)))) [] rfl (fun j=>rfl) (fun j=>Ud sh _ j) eY fun e3 _=>?_
   refine .inr (.inl ⟨a1,.inr rfl,fun v hv=>?_⟩)
   obtain ⟨a,ha,b1,b2,b3,b4⟩:=zu2 (c:=(l.2.1,(l.2.2.1,(4,(0,N4))))) (.inr rfl) hv
   refine ⟨a,?_,b1,by rw [b2];exact a1,b3,b4⟩
   have e4:Yd X (Wh (l.2.1,(l.2.2.1,(4,(0,N4)))))=X++Y:=e3
   have ew:wt l=13:=by unfold wt;rw [if_pos hk]
   rw [←e4,Xy _ (by have:=ZO X;show X.length+4≤1024;omega)]
   exact List.mem_append.2 (.inr ha)
 |ins hk hs=>
  obtain ⟨hn,n1,n2,hcase⟩:=zDI hlo hk
  have hnn:=g.hn l.2.2.2.1 hn
  have hnn:0≤(hOf s l.2.2.2.1 l.2.1).2.2.1∧(hOf s l.2.2.2.1 l.2.1).2.2.1≤(cOf s l.2.1).2.1:=hnn
  cases hs with
  |old h=>
   have h:l.2.2.1 < (hOf s l.2.2.2.1 l.2.1).2.2.1:=h
   exact qc rfl rfl (stay _ _ rfl rfl fun _=>by omega)
  |new h=>
   refine qc rfl rfl fun hpd=>?_
   have e4:Yd X [((4,(l.2.1,(l.2.2.1,(l.2.2.2.1,(false,(zS,0)))))):Le)]=X++Y:=eY
   have e5:X++Y=X++[((4,(l.2.1,(l.2.2.1,(l.2.2.2.1,(false,(zS,0)))))):Le)]:=by
    rw [←e4];exact Xy _ (by have:=ZO X;have:=zc0 l;simp only [List.length_cons,List.length_nil];omega)
   rw [e5]
   have keepM:∀a∈X,a∈X++[((4,(l.2.1,(l.2.2.1,(l.2.2.2.1,(false,(zS,0)))))):Le)]:=fun a ha=>List.mem_append.2 (.inl ha)
   rcases hv hpd with ⟨h1,a,ha,b1,b2,b3⟩ | ⟨h1,h2,h3⟩ | ⟨h1,h2,a,ha,b1,b2,b3⟩
   ·rcases List.mem_cons.1 ha with rfl | ha
    ·omega
    ·exact .inl ⟨h1,a,keepM a ha,b1,b2,b3⟩
   ·refine .inr (.inl ⟨h1,h2,fun v hv=>?_⟩)
    obtain ⟨a,ha,b1,b2,b3,b4⟩:=h3 v hv
    rcases List.mem_cons.1 ha with rfl | ha
    ·exact ⟨_,List.mem_append.2 (.inr (List.mem_singleton.2 rfl)),rfl,b2,b3,.inr (.inr rfl)⟩
    ·exact ⟨a,keepM a ha,b1,b2,b3,b4⟩
   ·rcases List.mem_cons.1 ha with rfl | ha
    ·omega
    ·exact .inr (.inr ⟨h1,h2,a,keepM a ha,b1,b2,b3⟩)
 |done hk hs=>
  obtain ⟨hn,n1,n2⟩:ndP l.2.2.2.1∧1≤l.2.2.1∧l.2.2.1≤(hOf s l.2.2.2.1 l.2.1).2.2.1:=by
   unfold LOk at hlo
   rcases hlo with ⟨e,_⟩ | ⟨e,_⟩ | ⟨e,_⟩ | ⟨e,hn,h1,h2⟩ | ⟨e,_⟩ | ⟨e,_⟩ | ⟨e,_⟩
   ·omega
   ·omega
   ·omega
   ·exact ⟨hn,h1,h2⟩
   all_goals omega
  cases hs with
  |old h=>
   have h:(cOf s l.2.1).2.1≠l.2.2.1∨((cOf s l.2.1).2.2.1≠1∧(cOf s l.2.1).2.2.1≠4):=h
   exact qc rfl rfl (stay _ _ rfl rfl fun _=>by omega)
  |wait h hs hw'=>
   have h:(cOf s l.2.1).2.1=l.2.2.1:=h
   have hs:(cOf s l.2.1).2.2.1=1∨(cOf s l.2.1).2.2.1=4:=hs
   have hcw:(cOf s l.2.1).2.1=(wOf s l.2.1).2.1:=by
    rcases gc.2 with h3 | h3
    ·exact h3
    ·have:=gcl (by omega) (by omega);omega
   refine setc _ (l.2.1,(l.2.2.1,((cOf s l.2.1).2.2.1,((cOf s l.2.1).2.2.2.1,(cOf s l.2.1).2.2.2.2.erase l.2.2.2.1)))) [] rfl (fun j=>rfl) (fun j=>Ud sh _ j) eY fun e3 hpd=>?_
   refine .inr (.inl ⟨by show l.2.2.1=_;omega,hs,fun v hv'=>?_⟩)
   have hv':v∈(cOf s l.2.1).2.2.2.2.erase l.2.2.2.1:=hv'
   obtain ⟨hne,hm⟩:=(zti g.wd).1 hv'
   rcases hv hpd with ⟨h1,_⟩ | ⟨h1,h2,h3⟩ | ⟨h1,h2,_⟩
   ·omega
   ·obtain ⟨a,ha,b1,b2,b3,b4⟩:=h3 v hm
    rcases List.mem_cons.1 ha with rfl | ha
    ·exact absurd b3.symm hne
    ·exact ⟨a,List.mem_append.2 (.inl ha),b1,b2,b3,b4⟩
   ·omega
  |ready h hs hw'=>
   have h:(cOf s l.2.1).2.1=l.2.2.1:=h
   have hs:(cOf s l.2.1).2.2.1=1:=hs
   have hcw:(cOf s l.2.1).2.1=(wOf s l.2.1).2.1:=by
    rcases gc.2 with h3 | h3
    ·exact h3
    ·have:=gcl (by omega) (by omega);omega
   have a1:l.2.2.1=(wOf s l.2.1).2.1:=by omega
   refine setc _ (l.2.1,(l.2.2.1,(2,((cOf s l.2.1).2.2.2.1,[])))) [] rfl (fun j=>rfl) (fun j=>Ud sh _ j) eY fun e3 _=>?_
   refine .inr (.inr ⟨a1,.inl rfl,(5,(l.2.1,(l.2.2.1,(0,(false,(zS,0)))))),?_,rfl,a1,.inr (.inl rfl)⟩)
   have e4:Yd X (vl (l.2.1,(l.2.2.1,(2,((cOf s l.2.1).2.2.2.1,[])))))=X++Y:=e3
   rw [←e4,Xy _ (by have:=ZO X;have:=ZO (vl (l.2.1,(l.2.2.1,(2,((cOf s l.2.1).2.2.2.1,[])))));have:=Up (l.2.1,(l.2.2.1,(2,((cOf s l.2.1).2.2.2.1,[]))));have:=zc0 l;omega)]
   exact List.mem_append.2 (.inr (List.mem_singleton.2 rfl))
  |gone h hs hw' M hM hm=>
   have h:(cOf s l.2.1).2.1=l.2.2.1:=h
   have hs:(cOf s l.2.1).2.2.1=4:=hs
   have hcw:(cOf s l.2.1).2.1=(wOf s l.2.1).2.1:=by
    rcases gc.2 with h3 | h3
    ·exact h3
    ·have:=gcl (by omega) (by omega);omega
   have a1:l.2.2.1=(wOf s l.2.1).2.1:=by omega
   refine setc _ (l.2.1,(l.2.2.1,(5,((cOf s l.2.1).2.2.2.1,[])))) [] rfl (fun j=>rfl) (fun j=>Ud (sh.upL _) _ j) eY fun e3 _=>?_
   refine .inr (.inr ⟨a1,.inr (.inr rfl),(7,(l.2.1,(l.2.2.1,(0,(false,(zS,0)))))),?_,rfl,a1,.inr (.inr (.inr rfl))⟩)
   have e4:Yd X (vl (l.2.1,(l.2.2.1,(5,((cOf s l.2.1).2.2.2.1,[])))))=X++Y:=e3
   rw [←e4,Xy _ (by have:=ZO X;have:=ZO (vl (l.2.1,(l.2.2.1,(5,((cOf s l.2.1).2.2.2.1,[])))));have:=Up (l.2.1,(l.2.2.1,(5,((cOf s l.2.1).2.2.2.1,[]))));have:=zc0 l;omega)]
   exact List.mem_append.2 (.inr (List.mem_singleton.2 rfl))
 |ans hk hs=>
  obtain ⟨n1,n2,n3⟩:=zDJ hlo hk
  have setw:∀(w:Wi),w.1=l.2.1→(w.2.2.1≠1∧w.2.2.1≠4)→s'=setW (upX s X) w→LvS s':=by
   intro w hwi hst e id hi
   have ew:wOf s' id=if id=l.2.1 then w else wOf s id:=by rw [e,zth sh w id,hwi]
   by_cases hne:id=l.2.1
   ·intro hpd
    rw [ew,if_pos hne] at hpd
    omega
   ·exact zlK hne hw (by rw [ew,if_neg hne]) (by rw [e];rfl) eY (lv id hi)
  cases hs with
  |old h=>
   have h:(wOf s l.2.1).2.1≠l.2.2.1∨¬(((wOf s l.2.1).2.2.1=1∧(l.1=5∨l.1=6))∨((wOf s l.2.1).2.2.1=4∧l.1=7)):=h
   refine qc rfl rfl (stay _ _ rfl rfl fun hpd hc=>?_)
   obtain ⟨h1,⟨_,h2⟩ | ⟨_,_,_,h2⟩ | ⟨h2,h3,h4⟩⟩:=hc
   ·omega
   ·omega
   ·have:=gcw (by omega) h2
    have:=n3 (by omega)
    omega
  |ready h hs hk=>exact setw _ rfl ⟨show (2:Int)≠1 by decide,show (2:Int)≠4 by decide⟩ rfl
  |fail h hs hk=>exact setw _ rfl ⟨show (3:Int)≠1 by decide,show (3:Int)≠4 by decide⟩ rfl
  |gone h hs hk=>exact setw _ rfl ⟨show (5:Int)≠1 by decide,show (5:Int)≠4 by decide⟩ rfl
structure J2 (x:qj) (n:Int) (L0:List qj) (s:Sig):Prop where
 wn:(wOf s x.1).2.1=n
 wx:(wOf s x.1).2.2.2.1=x
 ws:(wOf s x.1).2.2.1=1∨(wOf s x.1).2.2.1=2∨(wOf s x.1).2.2.1=3
 oth:∀id,idP id→id≠x.1→(wOf s id).2.2.1≠1∧(wOf s id).2.2.1≠4
 st:((cOf s x.1).2.1 < n∧led s=L0)∨((cOf s x.1).2.1=n∧gT Uy L0 x=(L0++[x],0)∧led s=L0++[x]∧((cOf s x.1).2.2.1=1∨(cOf s x.1).2.2.1=2))∨((cOf s x.1).2.1=n∧(gT Uy L0 x).2≠0∧led s=L0∧(cOf s x.1).2.2.1=3)
theorem J2.step {k n:Int} {x:qj} {L0:List qj} {s:Sig} {l:Le} {X:List Le} {s':Sig} (iv:Iv k s) (hX:X.length≤1024) (j:J2 x n L0 s) (hl:za2 s l) (hs:Yn (upX s X) l s'):J2 x n L0 s':=by
 obtain ⟨hid,hlo⟩:=hl
 have g:=iv.g l.2.1 hid
 have gn:=g.n0;have gc:=g.c0;have gcw:=g.cw;have gcl:=g.cl;have gcz:=g.cz;have gz:=g.z
 have sh:Shp (upX s X):=iv.sh.upX hX
 have jws:=j.ws;have jst:=j.st;have jn:=j.wn
 have pend:(wOf s l.2.1).2.2.1=1∨(wOf s l.2.1).2.2.1=4→l.2.1=x.1∧(wOf s x.1).2.2.1=1:=fun h=>by
  by_cases e:l.2.1=x.1
  ·rw [e] at h;exact ⟨e,by omega⟩
  ·have:=j.oth _ hid e;omega
 have same:wOf s'=wOf s→cOf s'=cOf s→led s'=led s→J2 x n L0 s':=fun e1 e2 e3=>⟨by rw [e1];exact j.wn,by rw [e1];exact j.wx,by rw [e1];exact j.ws,by rw [e1];exact j.oth,by rw [e2,e3];exact j.st⟩
 cases hs with
 |ask hk hs=>
  cases hs with
  |old h=>exact same rfl rfl rfl
  |same h=>exact same rfl rfl rfl
  |fail h hw e he ha=>
   have h:(cOf s l.2.1).2.1 < l.2.2.1:=h
   obtain ⟨a1,a2,⟨a3,a4,a5,a6⟩ | ⟨a3,_⟩⟩:=Wz g hlo hk h
   rotate_left
   ·rw [hw] at a3;cases a3
   obtain ⟨ei,_⟩:=pend (.inl a4)
   have ec:∀q,cOf (snds (setC (upX s X) (l.2.1,(l.2.2.1,(3,(e,[]))))) (vl (l.2.1,(l.2.2.1,(3,(e,[])))))) q=if q=l.2.1 then (l.2.1,(l.2.2.1,(3,(e,[])))) else cOf s q:=fun q=>Ud sh _ q
   rw [ei] at a1 h
   have h2:led s=L0:=by
    rcases jst with h3 | h3 | h3
    ·exact h3.2
    ·omega
    ·omega
   refine ⟨j.wn,j.wx,j.ws,j.oth,.inr (.inr ?_)⟩
   rw [ec,if_pos ei.symm]
   refine ⟨by show l.2.2.1=n;omega,?_,h2,rfl⟩
   have ha:(gT s.1 (led s) l.2.2.2.2.2.1).2=e:=ha
   rw [iv.sh.fab,h2,a5,ei,j.wx] at ha
   rw [ha];exact he
  |put h hw ha hh=>
   have h:(cOf s l.2.1).2.1 < l.2.2.1:=h
   obtain ⟨a1,a2,⟨a3,a4,a5,a6⟩ | ⟨a3,_⟩⟩:=Wz g hlo hk h
   rotate_left
   ·rw [hw] at a3;cases a3
   obtain ⟨ei,_⟩:=pend (.inl a4)
   have ec:∀q,cOf (snds (setC (upL (upX s X) (led s++[l.2.2.2.2.2.1])) (l.2.1,(l.2.2.1,(1,(0,N4))))) (Wh (l.2.1,(l.2.2.1,(1,(0,N4)))))) q=if q=l.2.1 then (l.2.1,(l.2.2.1,(1,(0,N4)))) else cOf s q:=fun q=>Ud (sh.upL _) _ q
   rw [ei] at a1 h
   have h2:led s=L0:=by
    rcases jst with h3 | h3 | h3
    ·exact h3.2
    ·omega
    ·omega
   have ex:l.2.2.2.2.2.1=x:=by rw [a5,ei,j.wx]
   have ha:gT s.1 (led s) l.2.2.2.2.2.1=(led s++[l.2.2.2.2.2.1],0):=ha
   rw [iv.sh.fab,h2,ex] at ha
   refine ⟨j.wn,j.wx,j.ws,j.oth,.inr (.inl ?_)⟩
   refine ⟨?_,ha,?_,?_⟩
   ·show (cOf (snds (setC (upL (upX s X) (led s++[l.2.2.2.2.2.1])) (l.2.1,(l.2.2.1,(1,(0,N4))))) (Wh (l.2.1,(l.2.2.1,(1,(0,N4)))))) x.1).2.1=n
    rw [ec,if_pos ei.symm];show l.2.2.1=n;omega
   ·show led s++[l.2.2.2.2.2.1]=_
    rw [h2,ex]
   ·show (cOf (snds (setC (upL (upX s X) (led s++[l.2.2.2.2.2.1])) (l.2.1,(l.2.2.1,(1,(0,N4))))) (Wh (l.2.1,(l.2.2.1,(1,(0,N4)))))) x.1).2.2.1=1∨_
    rw [ec,if_pos ei.symm];exact .inl rfl
  |gone h hw hx=>
   have h:(cOf s l.2.1).2.1 < l.2.2.1:=h
   obtain ⟨a1,a2,⟨a3,_⟩ | ⟨a3,a4,a5⟩⟩:=Wz g hlo hk h
   ·rw [hw] at a3;cases a3
   obtain ⟨ei,h9⟩:=pend (.inr a4)
   rw [ei] at a4
   omega
  |drop h hw y hx hi=>
   have h:(cOf s l.2.1).2.1 < l.2.2.1:=h
   obtain ⟨a1,a2,⟨a3,_⟩ | ⟨a3,a4,a5⟩⟩:=Wz g hlo hk h
   ·rw [hw] at a3;cases a3
   obtain ⟨ei,h9⟩:=pend (.inr a4)
   rw [ei] at a4
   omega
 |ins hk hs=>
  cases hs with
  |old h=>exact same rfl rfl rfl
  |new h=>exact same rfl rfl rfl
 |done hk hs=>
  have n1:1≤l.2.2.1:=by
   unfold LOk at hlo
   rcases hlo with ⟨e,_⟩ | ⟨e,_⟩ | ⟨e,_⟩ | ⟨e,hn,h1,h2⟩ | ⟨e,_⟩ | ⟨e,_⟩ | ⟨e,_⟩
   ·omega
   ·omega
   ·omega
   ·exact h1
   all_goals omega
  cases hs with
  |old h=>exact same rfl rfl rfl
  |wait h hs hw=>
   have h:(cOf s l.2.1).2.1=l.2.2.1:=h
   have hs:(cOf s l.2.1).2.2.1=1∨(cOf s l.2.1).2.2.1=4:=hs
   have hcw:(cOf s l.2.1).2.1=(wOf s l.2.1).2.1:=by
    rcases gc.2 with h3 | h3
    ·exact h3
    ·have:=gcl (by omega) (by omega);omega
   have hp:=gcw (by omega) hcw
   obtain ⟨ei,h9⟩:=pend (by omega)
   have ec:∀q,cOf (setC (upX s X) (l.2.1,(l.2.2.1,((cOf s l.2.1).2.2.1,((cOf s l.2.1).2.2.2.1,(cOf s l.2.1).2.2.2.2.erase l.2.2.2.1))))) q=if q=l.2.1 then (l.2.1,(l.2.2.1,((cOf s l.2.1).2.2.1,((cOf s l.2.1).2.2.2.1,(cOf s l.2.1).2.2.2.2.erase l.2.2.2.1)))) else cOf s q:=fun q=>Ud sh _ q
   have e7:(cOf (setC (upX s X) (l.2.1,(l.2.2.1,((cOf s l.2.1).2.2.1,((cOf s l.2.1).2.2.2.1,(cOf s l.2.1).2.2.2.2.erase l.2.2.2.1))))) x.1).2.1=(cOf s x.1).2.1∧(cOf (setC (upX s X) (l.2.1,(l.2.2.1,((cOf s l.2.1).2.2.1,((cOf s l.2.1).2.2.2.1,(cOf s l.2.1).2.2.2.2.erase l.2.2.2.1))))) x.1).2.2.1=(cOf s x.1).2.2.1:=by
    rw [ec,if_pos ei.symm,←ei]
    exact ⟨h.symm,rfl⟩
   refine ⟨j.wn,j.wx,j.ws,j.oth,?_⟩
   show ((cOf (setC (upX s X) (l.2.1,(l.2.2.1,((cOf s l.2.1).2.2.1,((cOf s l.2.1).2.2.2.1,(cOf s l.2.1).2.2.2.2.erase l.2.2.2.1))))) x.1).2.1 < n∧led s=L0)∨((cOf (setC (upX s X) (l.2.1,(l.2.2.1,((cOf s l.2.1).2.2.1,((cOf s l.2.1).2.2.2.1,(cOf s l.2.1).2.2.2.2.erase l.2.2.2.1))))) x.1).2.1=n∧gT Uy L0 x=(L0++[x],0)∧led s=L0++[x]∧((cOf (setC (upX s X) (l.2.1,(l.2.2.1,((cOf s l.2.1).2.2.1,((cOf s l.2.1).2.2.2.1,(cOf s l.2.1).2.2.2.2.erase l.2.2.2.1))))) x.1).2.2.1=1∨(cOf (setC (upX s X) (l.2.1,(l.2.2.1,((cOf s l.2.1).2.2.1,((cOf s l.2.1).2.2.2.1,(cOf s l.2.1).2.2.2.2.erase l.2.2.2.1))))) x.1).2.2.1=2))∨((cOf (setC (upX s X) (l.2.1,(l.2.2.1,((cOf s l.2.1).2.2.1,((cOf s l.2.1).2.2.2.1,(cOf s l.2.1).2.2.2.2.erase l.2.2.2.1))))) x.1).2.1=n∧(gT Uy L0 x).2≠0∧led s=L0∧(cOf (setC (upX s X) (l.2.1,(l.2.2.1,((cOf s l.2.1).2.2.1,((cOf s l.2.1).2.2.2.1,(cOf s l.2.1).2.2.2.2.erase l.2.2.2.1))))) x.1).2.2.1=3)
   rw [e7.1,e7.2]
   exact jst
  |ready h hs hw=>
   have h:(cOf s l.2.1).2.1=l.2.2.1:=h
   have hs:(cOf s l.2.1).2.2.1=1:=hs
   have hcw:(cOf s l.2.1).2.1=(wOf s l.2.1).2.1:=by
    rcases gc.2 with h3 | h3
    ·exact h3
    ·have:=gcl (by omega) (by omega);omega
   have hp:=gcw (by omega) hcw
   obtain ⟨ei,h9⟩:=pend (by omega)
   have ec:∀q,cOf (snds (setC (upX s X) (l.2.1,(l.2.2.1,(2,((cOf s l.2.1).2.2.2.1,[]))))) (vl (l.2.1,(l.2.2.1,(2,((cOf s l.2.1).2.2.2.1,[])))))) q=if q=l.2.1 then (l.2.1,(l.2.2.1,(2,((cOf s l.2.1).2.2.2.1,[])))) else cOf s q:=fun q=>Ud sh _ q
   have hst2:(cOf s x.1).2.1=n∧gT Uy L0 x=(L0++[x],0)∧led s=L0++[x]:=by
    rw [ei] at hcw hs
    rcases jst with h3 | h3 | h3
    ·omega
    ·exact ⟨h3.1,h3.2.1,h3.2.2.1⟩
    ·omega
   refine ⟨j.wn,j.wx,j.ws,j.oth,.inr (.inl ⟨?_,hst2.2.1,hst2.2.2,?_⟩)⟩
   ·show (cOf (snds (setC (upX s X) (l.2.1,(l.2.2.1,(2,((cOf s l.2.1).2.2.2.1,[]))))) (vl (l.2.1,(l.2.2.1,(2,((cOf s l.2.1).2.2.2.1,[])))))) x.1).2.1=n
    rw [ec,if_pos ei.symm]
    show l.2.2.1=n
    rw [←h,ei];exact hst2.1
   ·show (cOf (snds (setC (upX s X) (l.2.1,(l.2.2.1,(2,((cOf s l.2.1).2.2.2.1,[]))))) (vl (l.2.1,(l.2.2.1,(2,((cOf s l.2.1).2.2.2.1,[])))))) x.1).2.2.1=1∨(cOf (snds (setC (upX s X) (l.2.1,(l.2.2.1,(2,((cOf s l.2.1).2.2.2.1,[]))))) (vl (l.2.1,(l.2.2.1,(2,((cOf s l.2.1).2.2.2.1,[])))))) x.1).2.2.1=2
    rw [ec,if_pos ei.symm]
    exact .inr rfl
  |gone h hs hw M hM hm=>
   have h:(cOf s l.2.1).2.1=l.2.2.1:=h
   have hs:(cOf s l.2.1).2.2.1=4:=hs
   have hcw:(cOf s l.2.1).2.1=(wOf s l.2.1).2.1:=by
    rcases gc.2 with h3 | h3
    ·exact h3
    ·have:=gcl (by omega) (by omega);omega
   have hp:=gcw (by omega) hcw
   obtain ⟨ei,h9⟩:=pend (by omega)
   rw [ei] at hp hs
   omega
 |ans hk hs=>
  have setw:∀w:Wi,l.2.1=x.1→w.1=l.2.1→w.2.1=(wOf s l.2.1).2.1→(w.2.2.1=2∨w.2.2.1=3)→w.2.2.2.1=(wOf s l.2.1).2.2.2.1→s'=setW (upX s X) w→J2 x n L0 s':=by
   intro w ei e1 e2 e3 e4 e5
   have ew:∀id,wOf s' id=if id=l.2.1 then w else wOf s id:=fun id=>by rw [e5,zth sh w id,e1]
   have ew1:wOf s' x.1=w:=by rw [ew,if_pos ei.symm]
   refine ⟨by rw [ew1,e2,ei];exact j.wn,by rw [ew1,e4,ei];exact j.wx,by rw [ew1];omega,fun id hi hne=>by rw [ew,if_neg (by rw [ei];exact hne)];exact j.oth id hi hne,?_⟩
   subst e5
   exact jst
  cases hs with
  |old h=>exact same rfl rfl rfl
  |ready h hs hk=>exact setw (l.2.1,((wOf s l.2.1).2.1,(2,(wOf s l.2.1).2.2.2))) (pend (.inl hs)).1 rfl rfl (.inl rfl) rfl rfl
  |fail h hs hk=>exact setw (l.2.1,((wOf s l.2.1).2.1,(3,((wOf s l.2.1).2.2.2.1,l.2.2.2.2.2.2)))) (pend (.inl hs)).1 rfl rfl (.inr rfl) rfl rfl
  |gone h hs hk=>
   obtain ⟨ei,h9⟩:=pend (.inr hs)
   have hs:(wOf s l.2.1).2.2.1=4:=hs
   rw [ei] at hs
   omega
theorem zHa (w:Wi):(Yz w).length≤1:=by unfold Yz;split<;>(try split)<;>simp
theorem zFD {c:Ca} (h:c.2.2.2.2.length≤4):(Wh c).length≤4:=by
 unfold Wh
 split
 ·rw [List.length_map];exact h
 split
 ·rw [List.length_map];exact h
 ·exact Nat.zero_le _
theorem flat_len {α β:Type} {f:α→List β} {m:Nat}:∀(l:List α),(∀a∈l,(f a).length≤m)→(l.flatMap f).length≤m*l.length
 |[],_=>Nat.le_refl _
 |a::l,h=>by
  rw [List.flatMap_cons,List.length_append,List.length_cons]
  have:=h a (by simp)
  have:=flat_len l fun b hb=>h b (by simp [hb])
  rw [Nat.mul_succ]
  omega
theorem zFE {s:Sig} (sh:Shp s):(US s).length≤30:=by
 unfold US
 rw [List.length_append]
 have h1:=flat_len (f:=Yz) (m:=1) (wis s) fun w _=>zHa w
 have h2:=flat_len (f:=Wh) (m:=4) (cas s) fun c hc=>zFD (sh.bC c hc).2
 have:=sh.lW
 have:=sh.lC
 omega
theorem zAw {k:Int} {s:Sig} (iv:Iv k s) (hw:wir s=[]):LvS (snds s (US s))∧phi (wir (snds s (US s)))≤1024:=by
 have hl:=zFE iv.sh
 have e:wir (snds s (US s))=US s:=by
  show Yd (wir s) (US s)=_
  rw [hw,Xy _ (by simp;omega)];rfl
 refine ⟨fun id hid hp=>?_,by rw [e];have:=zAv (US s);omega⟩
 have hp:(wOf s id).2.2.1=1∨(wOf s id).2.2.1=4:=hp
 rw [e]
 show ((cOf s id).2.1 < (wOf s id).2.1∧_)∨_
 have g:=iv.g id hid
 have gn:=g.n0;have gc:=g.c0;have gcw:=g.cw;have gcl:=g.cl;have gcz:=g.cz;have gz:=g.z
 have hwn:1≤(wOf s id).2.1:=by
  rcases Int.lt_or_le 0 (wOf s id).2.1 with h2 | h2
  ·omega
  ·have:=gz (by omega);omega
 have hwm:wOf s id∈wis s:=by
  rcases GC (κ:=wK) (wis s) id (zW id) with ⟨h1,_⟩ | ⟨h1,_⟩
  ·exact h1
  ·have:(wOf s id).2.1=0:=by rw [show wOf s id=zW id from h1]
   omega
 obtain ⟨a,ha,b1,b2,b3⟩:∃l∈US s,l.1=1∧l.2.1=id∧l.2.2.1=(wOf s id).2.1:=by
  have hin:∀a∈Yz (wOf s id),a∈US s:=fun a ha=>List.mem_append.2 (.inl (List.mem_flatMap.2 ⟨_,hwm,ha⟩))
  have hex:∃a,a∈Yz (wOf s id):=by
   unfold Yz
   rcases hp with h | h
   ·rw [if_pos h];exact ⟨_,List.mem_singleton.2 rfl⟩
   ·rw [if_neg (by omega),if_pos h];exact ⟨_,List.mem_singleton.2 rfl⟩
  obtain ⟨a,ha⟩:=hex
  obtain ⟨c1,c2,c3,_⟩:=zgD ha
  exact ⟨a,hin a ha,c1,by rw [c2];exact ztg s id,c3⟩
 rcases gc.2 with h3 | h3
 rotate_left
 ·exact .inl ⟨by omega,a,ha,b1,b2,b3⟩
 have hcase:=gcw (by omega) h3
 by_cases h14:(cOf s id).2.2.1=1∨(cOf s id).2.2.1=4
 ·refine .inr (.inl ⟨h3,h14,fun v hv=>?_⟩)
  have hcm:cOf s id∈cas s:=by
   rcases GC (κ:=cK) (cas s) id (zC id) with ⟨h1,_⟩ | ⟨h1,_⟩
   ·exact h1
   ·have:(cOf s id).2.1=0:=by rw [show cOf s id=zC id from h1]
    omega
  obtain ⟨d,hd,c1,c2,c3,c4⟩:=zu2 h14 hv
  exact ⟨d,List.mem_append.2 (.inr (List.mem_flatMap.2 ⟨_,hcm,hd⟩)),by rw [c1];exact zot s id,by rw [c2];exact h3,c3,c4⟩
 ·have h235:(cOf s id).2.2.1=2∨(cOf s id).2.2.1=3∨(cOf s id).2.2.1=5:=by omega
  exact .inr (.inr ⟨h3,h235,a,ha,b2,b3,.inl b1⟩)
theorem zAx {k:Int} {s:Sig} (iv:Iv k s) (lv:LvS s) (hw:wir s=[]):∀id,idP id→(wOf s id).2.2.1≠1∧(wOf s id).2.2.1≠4:=fun id hid=>by
 have:=lv id hid
 rw [hw] at this
 exact zHX (iv.g id hid) this
theorem zze {s:Sig} {l:Le} {X:List Le} (sh:Shp s) (hw:wir s=l::X):X.length≤1024:=by
 have:=sh.x
 rw [hw,List.length_cons] at this
 omega
theorem zu3 {k:Int} {s:Sig} (iv:Iv k s) {l:Le} {X:List Le} (hw:wir s=l::X):Iv k (upX s X):=iv.less (zze iv.sh hw) fun a ha=>by rw [hw];simp [ha]
theorem zBZ {k:Int} {s:Sig} (iv:Iv k s):qp (ky (s,())) fun r=>Iv k r.1∧wir r.1=[]∧∀id,idP id→(wOf r.1 id).2.2.1≠1∧(wOf r.1 id).2.2.1≠4:=by
 rw [ze2];unfold UQ
 refine zn (zes (J:=Iv k) (fun _ h=>h) (fun s l X s' h hw hs=>(zu3 h hw).step (l:=l) (h.l l (by rw [hw];simp)) hs) iv) ?_
 rintro ⟨q,⟨⟩⟩ ⟨iq,hq⟩
 rw [zrz iq.sh,zF]
 obtain ⟨lv,ph⟩:=zAw iq hq
 refine zn (zes (J:=fun s=>Iv k s∧LvS s∧phi (wir s)≤1024) (fun _ h=>h.1) (fun s l X s' h hw hs=>?_) ⟨iq.tick,lv,ph⟩) ?_
 ·exact ⟨(zu3 h.1 hw).step (l:=l) (h.1.l l (by rw [hw];simp)) hs,h.2.1.step h.1 h.2.2 hw hs⟩
 ·rintro ⟨r,⟨⟩⟩ ⟨⟨ir,lr,_⟩,hr⟩
  exact zd ⟨ir,hr,zAx ir lr hr⟩
theorem J2.snds {x:qj} {n:Int} {L0:List qj} {s:Sig} (j:J2 x n L0 s) (ls:List Le):J2 x n L0 (snds s ls):=⟨j.wn,j.wx,j.ws,j.oth,j.st⟩
theorem zB0 {k n:Int} {x:qj} {L0:List qj} {s:Sig} (iv:Iv k s) (lv:LvS s) (ph:phi (wir s)≤1024) (j:J2 x n L0 s):qp (ky (s,())) fun r=>Iv k r.1∧J2 x n L0 r.1∧wir r.1=[]∧∀id,idP id→(wOf r.1 id).2.2.1≠1∧(wOf r.1 id).2.2.1≠4:=by
 rw [ze2];unfold UQ
 have st:∀s l X s',(Iv k s∧LvS s∧phi (wir s)≤1024∧J2 x n L0 s)→wir s=l::X→Yn (upX s X) l s'→(Iv k s'∧LvS s'∧phi (wir s')≤1024∧J2 x n L0 s'):=fun s l X s' h hw hs=>by
  have hl:za2 s l:=h.1.l l (by rw [hw];simp)
  have h2:=h.2.1.step h.1 h.2.2.1 hw hs
  exact ⟨(zu3 h.1 hw).step (l:=l) hl hs,h2.1,h2.2,h.2.2.2.step h.1 (zze h.1.sh hw) hl hs⟩
 refine zn (zes (J:=fun s=>Iv k s∧LvS s∧phi (wir s)≤1024∧J2 x n L0 s) (fun _ h=>h.1) st ⟨iv,lv,ph,j⟩) ?_
 rintro ⟨q,⟨⟩⟩ ⟨⟨iq,_,_,jq⟩,hq⟩
 rw [zrz iq.sh,zF]
 obtain ⟨lv,ph⟩:=zAw iq hq
 refine zn (zes (J:=fun s=>Iv k s∧LvS s∧phi (wir s)≤1024∧J2 x n L0 s) (fun _ h=>h.1) st ⟨iq.tick,lv,ph,jq.snds _⟩) ?_
 rintro ⟨r,⟨⟩⟩ ⟨⟨ir,lr,_,jr⟩,hr⟩
 exact zd ⟨ir,jr,hr,zAx ir lr hr⟩
theorem zvW {s:Sig} (sh:Shp s) (id:Int):qp (QN (s,(id,()))) fun r=>(r.2.1=0∧r.1=(wOf s id).2.2.1∧∃w∈wis s,w.1=id)∨(r.2.1=4∧r.1=0∧∀w∈wis s,w.1≠id):=by
 rw [zpI];unfold zd1
 obtain ⟨i,w,b,e,hf⟩:=Zm sh.sW (by have:=sh.lW;omega) id
 obtain ⟨hw,hb⟩:=zbz sh.sW hf
 have hw:w=wOf s id:=hw
 rw [e,zF]
 cases b with
 |true=>exact zg rfl (zd (.inl ⟨rfl,by rw [←hw],hb.1 rfl⟩))
 |false=>exact zh rfl (zd (.inr ⟨rfl,rfl,(hf.no rfl).2⟩))
abbrev zgx (s:Sig) (x:qj):Sig:=snds (setW s (x.1,((wOf s x.1).2.1+1,(1,(x,0))))) (Yz (x.1,((wOf s x.1).2.1+1,(1,(x,0)))))
theorem zB1 {k:Int} {s:Sig} (iv:Iv k s) (hk:k≤1000000) {x:qj} (hx:idP x.1∧Uz x):qp (kQ (s,((1,(0,(0,x))),()))) fun r=>
  (((wOf s x.1).2.2.1=1∨(wOf s x.1).2.2.1=2∨(wOf s x.1).2.2.1=4)∧r.2.1=322)∨(((wOf s x.1).2.2.1≠1∧(wOf s x.1).2.2.1≠2∧(wOf s x.1).2.2.1≠4)∧r.2.1=0∧r.1=zgx s x):=by
 have num:0≤(wOf s x.1).2.1∧(wOf s x.1).2.1≤1000000:=by have:=(iv.g x.1 hx.1).n0;omega
 rw [zke];unfold zeq
 refine zn (J:=fun r=>HAs s x r) ?_ ?_
 ·rw [Gy];unfold JG
  exact zh rfl (zn (zAs iv.sh x num) fun r hr=>zd hr)
 ·intro r hr
  cases hr with
  |bad h=>have:=hx.1;unfold idP at this;omega
  |twice h=>exact zh rfl (zd (.inl ⟨h,rfl⟩))
  |ok h=>exact zg rfl (zd (.inr ⟨h,rfl,rfl⟩))
theorem zFF {k:Int} {s:Sig} (iv:Iv k s) (hw:wir s=[]) (hr:∀id,idP id→(wOf s id).2.2.1≠1∧(wOf s id).2.2.1≠4) {x:qj} (hx:idP x.1∧Uz x) (hst:(wOf s x.1).2.2.1≠1∧(wOf s x.1).2.2.1≠2∧(wOf s x.1).2.2.1≠4) :
  Iv (k+1) (zgx s x)∧LvS (zgx s x)∧phi (wir (zgx s x))≤1024∧J2 x ((wOf s x.1).2.1+1) (led s) (zgx s x):=by
 have g:=iv.g x.1 hx.1
 have gc:=g.c0
 have ew:∀id,wOf (zgx s x) id=if id=x.1 then (x.1,((wOf s x.1).2.1+1,(1,(x,0)))) else wOf s id:=fun id=>zth iv.sh _ id
 have ew1:wOf (zgx s x) x.1=(x.1,((wOf s x.1).2.1+1,(1,(x,0)))):=by rw [ew,if_pos rfl]
 have eX:wir (zgx s x)=[((1,(x.1,((wOf s x.1).2.1+1,(0,(true,(x,0)))))):Le)]:=by
  show Yd (wir s) (Yz (x.1,((wOf s x.1).2.1+1,(1,(x,0)))))=_
  rw [hw];rfl
 refine ⟨iv.as hx (.ok hst),fun id hid=>?_,by rw [eX];exact show 13≤1024 by decide,?_⟩
 ·by_cases e:id=x.1
  ·subst e
   rw [ew1,eX]
   exact fun _=>.inl ⟨by show (cOf s x.1).2.1 < (wOf s x.1).2.1+1;omega,_,List.mem_singleton.2 rfl,rfl,rfl,rfl⟩
  ·intro hp
   rw [ew,if_neg e] at hp
   have:=hr id hid
   omega
 ·refine ⟨by rw [ew1],by rw [ew1],by rw [ew1];exact .inl rfl,fun id hid e=>by rw [ew,if_neg e];exact hr id hid,.inl ⟨by show (cOf s x.1).2.1 < _;omega,rfl⟩⟩
theorem zzJ {k n:Int} {x:qj} {L0:List qj} {u:Sig} (iv:Iv k u) (hid:idP x.1) (j:J2 x n L0 u) (h1:1≤n) (hr:(wOf u x.1).2.2.1≠1∧(wOf u x.1).2.2.1≠4) :
  (gT Uy L0 x=(L0++[x],0)∧led u=L0++[x]∧(wOf u x.1).2.2.1=2)∨((gT Uy L0 x).2≠0∧led u=L0∧(wOf u x.1).2.2.1=3):=by
 have gu:=iv.g x.1 hid
 have jn:=j.wn;have jw:=j.ws
 have gc:=gu.c0;have gcw:=gu.cw;have gcl:=gu.cl;have gcz:=gu.cz
 rcases j.st with ⟨a1,a2⟩ | ⟨a1,a2,a3,a4⟩ | ⟨a1,a2,a3,a4⟩
 ·exfalso
  have hlt:(cOf u x.1).2.1 < (wOf u x.1).2.1:=by omega
  rcases Int.lt_or_le 0 (cOf u x.1).2.1 with h3 | h3
  ·have:=gcl (by omega) hlt;omega
  ·have:=(gcz (by omega)).2 (by omega);omega
 ·exact .inl ⟨a2,a3,by have:=gcw (by omega) (by omega);omega⟩
 ·exact .inr ⟨a2,a3,by have:=gcw (by omega) (by omega);omega⟩
theorem zzK {G:Unit→Option (Bool×Unit)} (hw:G ()=some (true,())) {l:List Mov} (h:∀m∈l,moP m) (hl:l.length≤1000000000000000000) {m:Mov} (hm:moP m) :
  JI G Wb ky yJ QN uV kQ wS l m=some (true,()):=by
 unfold JI
 rw [hw,zF]
 refine xd (zg rfl ?_)
 refine zn (zDM h (most:=30) (by omega) hl) ?_
 rintro ⟨s1,ok,⟨⟩⟩ ⟨⟨k,hk,iv1⟩,hok⟩
 simp only at hok iv1
 subst hok
 refine zn (zBZ iv1) ?_
 rintro ⟨s,⟨⟩⟩ ⟨iv,hw0,hrest⟩
 simp only at iv hw0 hrest
 refine zn (zAt hm) ?_
 rintro ⟨x,⟨⟩⟩ hx
 simp only at hx
 refine zn (zvW iv.sh x.1) ?_
 rintro ⟨n0,f0,⟨⟩⟩ hst0
 simp only at hst0
 have hfab:s.1.2.2.1.length≤1000000000000000000:=by rw [iv.sh.fab];exact zks
 refine zo (ve (ziP hfab s.2.1 x) ?_)
 refine zn (zB1 iv (by omega) hx) ?_
 rintro ⟨t,e,⟨⟩⟩ hdo
 simp only at hdo
 have hnp:=hrest x.1 hx.1
 by_cases h2:(wOf s x.1).2.2.1=2
 ·
  have he:e=322:=by
   rcases hdo with ⟨_,h3⟩ | ⟨h3,_⟩
   ·exact h3
   ·omega
  subst he
  have hkn:f0=0∧n0=2:=by
   rcases hst0 with ⟨a,b,_⟩ | ⟨a,b,hno⟩
   ·exact ⟨a,by rw [b];exact h2⟩
   ·exfalso
    have:wOf s x.1=zW x.1:=zph hno _
    rw [this] at h2
    exact absurd (show (0:Int)=2 from h2) (by decide)
  obtain ⟨rfl,rfl⟩:=hkn
  exact zo (zh rfl (zh rfl (zh rfl (zd (zg rfl (zd rfl))))))
 have hst:(wOf s x.1).2.2.1≠1∧(wOf s x.1).2.2.1≠2∧(wOf s x.1).2.2.1≠4:=⟨hnp.1,h2,hnp.2⟩
 obtain ⟨he,ht⟩:e=0∧t=zgx s x:=by
  rcases hdo with ⟨h3,_⟩ | ⟨_,h3⟩
  ·omega
  ·exact h3
 subst he ht
 obtain ⟨ivt,lvt,pht,jt⟩:=zFF iv hw0 hrest hx hst
 have hb0:qp (bif zj f0 0 then bif zj n0 2 then bif true then some (1,(((zj (0:Int) 322),()),())) else some (1,((false,()),())) else some (0,((false,()),())) else some (0,((false,()),()))) fun (x:Nat×((Bool×Unit)×Unit))=>x.1=0:=by
  refine zq (fun h3=>zq (fun h4=>?_) (fun _=>zd rfl)) (fun _=>zd rfl)
  exfalso
  have h3:=jg h3
  have h4:=jg h4
  rcases hst0 with ⟨a,b,_⟩ | ⟨a,b,hno⟩
  ·omega
  ·omega
 refine zn hb0 ?_
 rintro ⟨j7,⟨b7,⟨⟩⟩,⟨⟩⟩ h7
 simp only at h7
 subst h7
 refine zh rfl (zo (zg rfl (zg rfl (zd (zh rfl ?_)))))
 refine zn (zB0 ivt lvt pht jt) ?_
 rintro ⟨u,⟨⟩⟩ ⟨ivu,ju,hwu,hru⟩
 simp only at ivu ju hwu hru
 refine zn (zvW ivu.sh x.1) ?_
 rintro ⟨n,f,⟨⟩⟩ hstu
 simp only at hstu
 have gu:=ivu.g x.1 hx.1
 have hnu:=hru x.1 hx.1
 have jn:=ju.wn;have jw:=ju.ws
 have gwn:=(iv.g x.1 hx.1).n0
 obtain ⟨hf,hn⟩:f=0∧n=(wOf u x.1).2.2.1:=by
  rcases hstu with ⟨a,b,_⟩ | ⟨a,b,hno⟩
  ·exact ⟨a,b⟩
  ·exfalso
   have:wOf u x.1=zW x.1:=zph hno _
   rw [this] at jw
   have jw:(0:Int)=1∨(0:Int)=2∨(0:Int)=3:=jw
   omega
 subst hf hn
 rcases zzJ ivu hx.1 ju (by omega) hnu with ⟨a2,a3,hs2⟩ | ⟨a2,a3,hs3⟩
 ·
  have ea:gT s.1 (led s) x=(led s++[x],0):=by rw [iv.sh.fab];exact a2
  rw [ea,hs2]
  refine zg rfl (zo (zg rfl (zg rfl (zg ?_ (zd (zh rfl ?_))))))
  ·show (!zj (((led u).length:Nat):Int) (((led s++[x]).length:Nat):Int))=false
   rw [show led u=led s++[x] from a3,wa rfl];rfl
  have hlr:∀y∈led s++[x],Uz y:=fun y hy=>(ivu.lr y (by rw [show led u=led s++[x] from a3];exact hy)).2
  have hlen:(led s++[x]).length≤12:=by have:=ivu.led12;rw [show led u=led s++[x] from a3] at this;exact this
  have e3:u.2.1=led s++[x]:=a3
  rw [e3]
  generalize led s++[x]=L at hlr hlen
  refine zn (J:=fun x=>x.1=0) (qz L.length (fun i st=>st=((b7,((i:Int),())),())) (by omega) rfl ?_ ?_) ?_
  ·rintro i _ hi rfl
   have hy:L[i]?=some L[i]:=List.getElem?_eq_getElem hi
   have hry:=hlr _ (List.getElem_mem hi)
   generalize L[i]=y at hy hry
   refine zh (qx (show (i:Int) < ((L.length:Nat):Int) by omega)) (zo (zP (n:=i) hy (zo (zP (n:=i) hy ?_))))
   rw [zzd hry,zF]
   exact zg rfl (zd (qR (congrArg (fun z=>((b7,(z,())),())) (qQ (by omega)))))
  ·rintro _ rfl
   exact zg (qa (show ¬((L.length:Nat):Int) < ((L.length:Nat):Int) by omega)) (zd (zE rfl))
  ·rintro ⟨j,⟨v,w,⟨⟩⟩,⟨⟩⟩ h
   have h:j=0:=h
   subst h
   exact zh rfl (zd rfl)
 ·
  have ea:(gT s.1 (led s) x).2≠0:=by rw [iv.sh.fab];exact a2
  rw [hs3]
  refine zh (by rw [ji ea];rfl) (zh rfl (zh rfl (zd ?_)))
  show (zj (((led u).length:Nat):Int) (((led s).length:Nat):Int),())=_
  rw [show led u=led s from a3,wa rfl]
abbrev rT:T zV:=(4,([true,false,false,true],[(0,(1,(8,5))),(1,(2,(8,5))),(2,(3,(8,5)))]))
abbrev rF:T qK:=(rT,((100,(2,(10,8000))),([([(127,100)],100),([(127,100)],100),([(127,100)],100),([(127,100)],100),([(127,100)],100),([(127,100)],100)],200)))
def zzf (x:T zA):Bool:=bif eqT (.list (.list I)) x.2.2.2.2.2.2.2.2 [[0,2,4]] then true else eqT (.list (.list I)) x.2.2.2.2.2.2.2.2 [[5,3,1]]
def Qo:za→(zv×Unit)→Option (za×((List Int)×Unit)):=fun s a=>bif eqT qK s.1 rF then bif zzf a.1 then some (s,(N4,())) else none else none
theorem zDN {P:Program} {f:FuncId} {ty:Ty} {a b:List VT} {F G:T ty→T (qn a)→Option (T ty×T (qn b))} (h:yT.Ok P f ⟨ty,a,b,F⟩) (hg:∀s x r,G s x=some r→F s x=some r):yT.Ok P f ⟨ty,a,b,G⟩:=⟨h.1,fun x y z e=>h.2 x y z (hg x y z e)⟩
theorem zB2 (s:za) (a:zv×Unit) (r:za×((List Int)×Unit)) (h:Qo s a=some r):yP s a=some r:=by
 obtain ⟨x,⟨⟩⟩:=a
 unfold Qo at h
 cases h1:eqT qK s.1 rF with
 |false=>rw [h1] at h;cases h
 |true=>
  rw [h1] at h
  cases h2:zzf x with
  |false=>rw [cond_true,show zzf ((x,()):zv×Unit).1=false from h2] at h;cases h
  |true=>
   rw [cond_true,show zzf ((x,()):zv×Unit).1=true from h2] at h
   have hr:Uz x:=by
    unfold zzf at h2
    cases h3:eqT (.list (.list I)) x.2.2.2.2.2.2.2.2 [[0,2,4]] with
    |true=>exact .inl (zg2 (.list (.list I)) _ _ h3)
    |false=>rw [h3] at h2;exact .inr (zg2 (.list (.list I)) _ _ h2)
   rw [zos (zg2 qK _ _ h1) hr]
   exact h
def zqh:(Unit)→Option (jJ×Unit):=sF Tryz.prog [] (fun _ _ _ _=>none) (fun _ _=>false) 100 15 Xr Xt
theorem zu4:Con.Ok Tryz.prog 15 ⟨Xr,Xt,zqh⟩:=zz zi zm (by kernel_rfl)
def zqi:(qk×Int×Unit)→Option (Bool×Unit):=sF Tryz.prog [] (fun _ _ _ _=>none) (fun _ _=>false) 100 93 Uj Uk
theorem zu5:Con.Ok Tryz.prog 93 ⟨Uj,Uk,zqi⟩:=zz zi zm (by kernel_rfl)
def zou:(qk×Unit)→Option (Bool×Unit):=sF Tryz.prog [(93,⟨Uj,Uk,zqi⟩)] (fun _ _ _ _=>none) (fun _ _=>false) 100 59 Va Vb
theorem ztj:Con.Ok Tryz.prog 59 ⟨Va,Vb,zou⟩:=zz (zf zu5 zi) zm (by kernel_rfl)
def zov:(qk×Int×(Bool×(Bool×(Bool×(Bool×(Bool×(Bool×(Bool×(Bool×(Bool×(Bool×(Bool×(Bool×(Bool×(Bool×(Bool×(Bool×(Bool×(Bool×(Bool×(Bool×(Bool×(Bool×(Bool×Bool)))))))))))))))))))))))×Unit)→Option ((List Bool)×Unit):=sF Tryz.prog [] (fun _ _ _ _=>none) (fun _ _=>false) 100 61 Vd Ve
theorem ztk:Con.Ok Tryz.prog 61 ⟨Vd,Ve,zov⟩:=zz zi zm (by kernel_rfl)
def Ue:((List Bool)×Bool×Unit)→Option (Int×Unit):=sF Tryz.prog [] (fun _ _ _ _=>none) (fun _ _=>false) 100 97 xH xI
theorem zdh:Con.Ok Tryz.prog 97 ⟨xH,xI,Ue⟩:=zz zi zm (by kernel_rfl)
def XF:((List Bool)×Bool×Unit)→Option (Bool×Unit):=sF Tryz.prog [(97,⟨xH,xI,Ue⟩)] (fun _ _ _ _=>none) (fun _ _=>false) 100 60 yU yV
theorem zbA:Con.Ok Tryz.prog 60 ⟨yU,yV,XF⟩:=zz (zf zdh zi) zm (by kernel_rfl)
def zzg:(qk×Unit)→Option (Int×Unit):=sF Tryz.prog [(59,⟨Va,Vb,zou⟩),(61,⟨Vd,Ve,zov⟩),(60,⟨yU,yV,XF⟩)] (fun _ _ _ _=>none) (fun _ _=>false) 100 41 ya yb
theorem ztl:Con.Ok Tryz.prog 41 ⟨ya,yb,zzg⟩:=zz (zf ztj (zf ztk (zf zbA zi))) zm (by kernel_rfl)
def Ye:T (qn ya)→Option (T (qn yb)):=Gm [((rT,()),(0,()))]
theorem JM:Con.Ok Tryz.prog 41 ⟨ya,yb,Ye⟩:=Gn ztl (Je (by kernel_rfl) zbg)
def KP:(Int×Int×Int×Unit)→Option (Bool×Unit):=sF Tryz.prog [] (fun _ _ _ _=>none) (fun _ _=>false) 100 63 vi vj
theorem UB:Con.Ok Tryz.prog 63 ⟨vi,vj,KP⟩:=zz zi zm (by kernel_rfl)
def zdr:(zgo×Unit)→Option (Int×Unit):=sF Tryz.prog [(63,⟨vi,vj,KP⟩)] (fun _ _ _ _=>none) (fun _ _=>false) 100 45 kD kF
theorem zjo:Con.Ok Tryz.prog 45 ⟨kD,kF,zdr⟩:=zz (zf UB zi) zm (by kernel_rfl)
def za3:(jo×Unit)→Option (Int×Unit):=sF Tryz.prog [] (fun _ _ _ _=>none) (fun _ _=>false) 100 46 uT uU
theorem zbB:Con.Ok Tryz.prog 46 ⟨uT,uU,za3⟩:=zz zi zm (by kernel_rfl)
def zmK:(jJ×Unit)→Option (Int×Unit):=sF Tryz.prog [(41,⟨ya,yb,Ye⟩),(45,⟨kD,kF,zdr⟩),(46,⟨uT,uU,za3⟩)] (fun _ _ _ _=>none) (fun _ _=>false) 100 29 yH yI
theorem zjp:Con.Ok Tryz.prog 29 ⟨yH,yI,zmK⟩:=zz (zf JM (zf zjo (zf zbB zi))) zm (by kernel_rfl)
def UC:T (qn yH)→Option (T (qn yI)):=Gm [((rF,()),(0,()))]
theorem zaP:Con.Ok Tryz.prog 29 ⟨yH,yI,UC⟩:=Gn zjp (Je (by kernel_rfl) zbg)
def zow:(jJ×Unit)→Option (zK×Int×Unit):=sF Tryz.prog [(29,⟨yH,yI,UC⟩)] (fun _ _ _ _=>none) (fun _ _=>false) 100 14 WM WN
theorem ztm:Con.Ok Tryz.prog 14 ⟨WM,WN,zow⟩:=zz (zf zaP zi) zm (by kernel_rfl)
def ziQ:(Unit)→Option (zv×Unit):=sF Tryz.prog [] (fun _ _ _ _=>none) (fun _ _=>false) 100 17 zcs zct
theorem zox:Con.Ok Tryz.prog 17 ⟨zcs,zct,ziQ⟩:=zz zi zm (by kernel_rfl)
def ziR:(Int×Unit)→Option (Bool×Unit):=sF Tryz.prog [] (fun _ _ _ _=>none) (fun _ _=>false) 100 55 Jw Jx
theorem zoy:Con.Ok Tryz.prog 55 ⟨Jw,Jx,ziR⟩:=zz zi zm (by kernel_rfl)
def XR:(Int×Int×Unit)→Option (Int×Unit):=sF Tryz.prog [(55,⟨Jw,Jx,ziR⟩)] (fun _ _ _ _=>none) (fun _ _=>false) 100 37 wO wP
theorem KQ:Con.Ok Tryz.prog 37 ⟨wO,wP,XR⟩:=zz (zf zoy zi) zm (by kernel_rfl)
def kR:za→(Int×Unit)→Option (za×(Int×qD×Bool×Unit)):=sP Tryz.prog ⟨[],[]⟩ [(37,⟨wO,wP,XR⟩)] (fun _ _ _ _=>none) (fun _ _=>false) 100 24 ze qA qB
theorem gV:yT.Ok Tryz.prog 24 ⟨ze,qA,qB,kR⟩:=xp ⟨qw,je⟩ (zf KQ zi) zm (by kernel_rfl)
def JN:((List qD)×Int×Bool×qD×Unit)→Option ((List qD)×Unit):=sF Tryz.prog [] (fun _ _ _ _=>none) (fun _ _=>false) 100 75 jj jk
theorem Yf:Con.Ok Tryz.prog 75 ⟨jj,jk,JN⟩:=zz zi zm (by kernel_rfl)
def uk:za→(zJ×Unit)→Option (za×(Unit)):=sP Tryz.prog ⟨[],[]⟩ [] (fun _ _ _ _=>none) (fun _ _=>false) 100 52 ze qh qi
theorem uw:yT.Ok Tryz.prog 52 ⟨ze,qh,qi,uk⟩:=xp ⟨qw,je⟩ zi zm (by kernel_rfl)
def gW:za→(qD×Unit)→Option (za×(Unit)):=sP Tryz.prog ⟨[],[(52,⟨ze,qh,qi,uk⟩)]⟩ [] (fun _ _ _ _=>none) (fun _ _=>false) 100 33 ze qG qH
theorem QS:yT.Ok Tryz.prog 33 ⟨ze,qG,qH,gW⟩:=xp ⟨qw,(zO uw je)⟩ zi zm (by kernel_rfl)
def zbW:za→(zv×Unit)→Option (za×(Int×Unit)):=sP Tryz.prog ⟨[],[(24,⟨ze,qA,qB,kR⟩),(33,⟨ze,qG,qH,gW⟩)]⟩ [(75,⟨jj,jk,JN⟩)] (fun _ _ _ _=>none) (fun _ _=>false) 100 43 ze xu xw
theorem zhT:yT.Ok Tryz.prog 43 ⟨ze,xu,xw,zbW⟩:=xp ⟨qw,(zO gV (zO QS je))⟩ (zf Yf zi) zm (by kernel_rfl)
def GD:za→(Int×Unit)→Option (za×(Int×Unit)):=sP Tryz.prog ⟨[],[(24,⟨ze,qA,qB,kR⟩),(33,⟨ze,qG,qH,gW⟩)]⟩ [(75,⟨jj,jk,JN⟩)] (fun _ _ _ _=>none) (fun _ _=>false) 100 44 ze yp yq
theorem ze8:yT.Ok Tryz.prog 44 ⟨ze,yp,yq,GD⟩:=xp ⟨qw,(zO gV (zO QS je))⟩ (zf Yf zi) zm (by kernel_rfl)
def Kk:((List zJ)×Int×Unit)→Option ((List zJ)×Unit):=sF Tryz.prog [] (fun _ _ _ _=>none) (fun _ _=>false) 100 53 yr yu
theorem zc1:Con.Ok Tryz.prog 53 ⟨yr,yu,Kk⟩:=zz zi zm (by kernel_rfl)
def Yg:za→(Int×Unit)→Option (za×(Int×qE×Bool×Unit)):=sP Tryz.prog ⟨[],[]⟩ [(37,⟨wO,wP,XR⟩)] (fun _ _ _ _=>none) (fun _ _=>false) 100 107 ze jx jy
theorem Kl:yT.Ok Tryz.prog 107 ⟨ze,jx,jy,Yg⟩:=xp ⟨qw,je⟩ (zf KQ zi) zm (by kernel_rfl)
def Yh:za→(qE×Unit)→Option (za×(Unit)):=sP Tryz.prog ⟨[],[(52,⟨ze,qh,qi,uk⟩)]⟩ [] (fun _ _ _ _=>none) (fun _ _=>false) 100 108 ze jz jA
theorem Km:yT.Ok Tryz.prog 108 ⟨ze,jz,jA,Yh⟩:=xp ⟨qw,(zO uw je)⟩ zi zm (by kernel_rfl)
def zhU:(qk×Int×Unit)→Option (Bool×Unit):=sF Tryz.prog [(63,⟨vi,vj,KP⟩)] (fun _ _ _ _=>none) (fun _ _=>false) 100 65 Qz QA
theorem zmL:Con.Ok Tryz.prog 65 ⟨Qz,QA,zhU⟩:=zz (zf UB zi) zm (by kernel_rfl)
def zds:(Int×Int×Int×Unit)→Option (Bool×Unit):=sF Tryz.prog [] (fun _ _ _ _=>none) (fun _ _=>false) 100 98 kJ kK
theorem zjq:Con.Ok Tryz.prog 98 ⟨kJ,kK,zds⟩:=zz zi zm (by kernel_rfl)
def VL:(wb×Unit)→Option (Int×Unit):=sF Tryz.prog [(98,⟨kJ,kK,zds⟩)] (fun _ _ _ _=>none) (fun _ _=>false) 100 69 xK xL
theorem XS:Con.Ok Tryz.prog 69 ⟨xK,xL,VL⟩:=zz (zf zjq zi) zm (by kernel_rfl)
def GF:(QY×(List Int)×Unit)→Option ((List Int)×Unit):=sF Tryz.prog [] (fun _ _ _ _=>none) (fun _ _=>false) 100 78 vK vL
theorem zbX:Con.Ok Tryz.prog 78 ⟨vK,vL,GF⟩:=zz zi zm (by kernel_rfl)
def GG:(QY×(List Int)×Unit)→Option (Bool×Unit):=sF Tryz.prog [] (fun _ _ _ _=>none) (fun _ _=>false) 100 102 vM vN
theorem zbY:Con.Ok Tryz.prog 102 ⟨vM,vN,GG⟩:=zz zi zm (by kernel_rfl)
def zfH:(qk×(List Int)×Unit)→Option (Int×Unit):=sF Tryz.prog [(41,⟨ya,yb,Ye⟩),(102,⟨vM,vN,GG⟩)] (fun _ _ _ _=>none) (fun _ _=>false) 100 105 Qa Qb
theorem zhV:Con.Ok Tryz.prog 105 ⟨Qa,Qb,zfH⟩:=zz (zf JM (zf zbY zi)) zm (by kernel_rfl)
def zmb:(qk×(List Int)×Unit)→Option ((List Int)×Int×Unit):=sF Tryz.prog [(78,⟨vK,vL,GF⟩),(105,⟨Qa,Qb,zfH⟩)] (fun _ _ _ _=>none) (fun _ _=>false) 100 49 kW kX
theorem zrA:Con.Ok Tryz.prog 49 ⟨kW,kX,zmb⟩:=zz (zf zbX (zf zhV zi)) zm (by kernel_rfl)
def zoz:(qk×(List Int)×Unit)→Option (Int×Int×Int×Unit):=sF Tryz.prog [(49,⟨kW,kX,zmb⟩)] (fun _ _ _ _=>none) (fun _ _=>false) 100 99 Vi Vj
theorem ztn:Con.Ok Tryz.prog 99 ⟨Vi,Vj,zoz⟩:=zz (zf zrA zi) zm (by kernel_rfl)
def zkv:(qk×(List Int)×Int×Int×Unit)→Option (Bool×Unit):=sF Tryz.prog [(99,⟨Vi,Vj,zoz⟩)] (fun _ _ _ _=>none) (fun _ _=>false) 100 72 Wo Wp
theorem zpO:Con.Ok Tryz.prog 72 ⟨Wo,Wp,zkv⟩:=zz (zf ztn zi) zm (by kernel_rfl)
def zkw:((List Int)×(List Int)×Unit)→Option (Bool×Unit):=sF Tryz.prog [] (fun _ _ _ _=>none) (fun _ _=>false) 100 103 Wq Wr
theorem zpP:Con.Ok Tryz.prog 103 ⟨Wq,Wr,zkw⟩:=zz zi zm (by kernel_rfl)
def Yi:((List Int)×Int×Unit)→Option (Int×Unit):=sF Tryz.prog [] (fun _ _ _ _=>none) (fun _ _=>false) 100 114 wH wI
theorem Kn:Con.Ok Tryz.prog 114 ⟨wH,wI,Yi⟩:=zz zi zm (by kernel_rfl)
def Ko:((List Int)×Int×Unit)→Option (Bool×Unit):=sF Tryz.prog [(114,⟨wH,wI,Yi⟩)] (fun _ _ _ _=>none) (fun _ _=>false) 100 136 xx xy
theorem zc2:Con.Ok Tryz.prog 136 ⟨xx,xy,Ko⟩:=zz (zf Kn zi) zm (by kernel_rfl)
def ze9:(QY×(List Int)×(List Int)×Unit)→Option (Bool×Unit):=sF Tryz.prog [(78,⟨vK,vL,GF⟩),(136,⟨xx,xy,Ko⟩)] (fun _ _ _ _=>none) (fun _ _=>false) 100 104 gG gH
theorem zkx:Con.Ok Tryz.prog 104 ⟨gG,gH,ze9⟩:=zz (zf zbX (zf zc2 zi)) zm (by kernel_rfl)
def zmc:(qk×(List Int)×(List Int)×Unit)→Option (Bool×Int×Unit):=sF Tryz.prog [(102,⟨vM,vN,GG⟩),(103,⟨Wq,Wr,zkw⟩),(104,⟨gG,gH,ze9⟩),(105,⟨Qa,Qb,zfH⟩)] (fun _ _ _ _=>none) (fun _ _=>false) 100 74 YB YC
theorem zrB:Con.Ok Tryz.prog 74 ⟨YB,YC,zmc⟩:=zz (zf zbY (zf zpP (zf zkx (zf zhV zi)))) zm (by kernel_rfl)
def zed:(qk×zv×Unit)→Option (Bool×Unit):=sF Tryz.prog [(63,⟨vi,vj,KP⟩),(65,⟨Qz,QA,zhU⟩),(69,⟨xK,xL,VL⟩),(72,⟨Wo,Wp,zkv⟩),(74,⟨YB,YC,zmc⟩)] (fun _ _ _ _=>none) (fun _ _=>false) 100 42 gJ gK
theorem zfX:Con.Ok Tryz.prog 42 ⟨gJ,gK,zed⟩:=zz (zf UB (zf zmL (zf XS (zf zpO (zf zrB zi))))) zm (by kernel_rfl)
def zfY:(qk×(List zv)×Unit)→Option (Int×Unit):=sF Tryz.prog [(41,⟨ya,yb,Ye⟩),(42,⟨gJ,gK,zed⟩)] (fun _ _ _ _=>none) (fun _ _=>false) 100 56 Zw Zx
theorem zlL:Con.Ok Tryz.prog 56 ⟨Zw,Zx,zfY⟩:=zz (zf JM (zf zfX zi)) zm (by kernel_rfl)
def VM:((List Int)×Int×Unit)→Option (Int×Unit):=sF Tryz.prog [] (fun _ _ _ _=>none) (fun _ _=>false) 100 145 xe xf
theorem zb8:Con.Ok Tryz.prog 145 ⟨xe,xf,VM⟩:=zz zi zm (by kernel_rfl)
def Yp:((List Int)×Int×Unit)→Option (Bool×Unit):=sF Tryz.prog [(145,⟨xe,xf,VM⟩)] (fun _ _ _ _=>none) (fun _ _=>false) 100 119 yl ym
theorem zax:Con.Ok Tryz.prog 119 ⟨yl,ym,Yp⟩:=zz (zf zb8 zi) zm (by kernel_rfl)
def zky:(zbM×Unit)→Option (Int×Unit):=sF Tryz.prog [] (fun _ _ _ _=>none) (fun _ _=>false) 100 121 Wu Wv
theorem zpQ:Con.Ok Tryz.prog 121 ⟨Wu,Wv,zky⟩:=zz zi zm (by kernel_rfl)
def zto:(qk×Int×Unit)→Option (Int×Int×Unit):=sF Tryz.prog [(41,⟨ya,yb,Ye⟩),(121,⟨Wu,Wv,zky⟩)] (fun _ _ _ _=>none) (fun _ _=>false) 100 85 GY GZ
theorem zwx:Con.Ok Tryz.prog 85 ⟨GY,GZ,zto⟩:=zz (zf JM (zf zpQ zi)) zm (by kernel_rfl)
def ziS:(jo×Int×Int×Unit)→Option (Int×Unit):=sF Tryz.prog [(46,⟨uT,uU,za3⟩)] (fun _ _ _ _=>none) (fun _ _=>false) 100 122 Jy Jz
theorem zoA:Con.Ok Tryz.prog 122 ⟨Jy,Jz,ziS⟩:=zz (zf zbB zi) zm (by kernel_rfl)
def zmd:(jo×Int×Int×Int×Unit)→Option (Int×Unit):=sF Tryz.prog [(46,⟨uT,uU,za3⟩)] (fun _ _ _ _=>none) (fun _ _=>false) 100 177 YD YE
theorem zrC:Con.Ok Tryz.prog 177 ⟨YD,YE,zmd⟩:=zz (zf zbB zi) zm (by kernel_rfl)
def zoB:(jo×Int×Unit)→Option (Int×Int×Unit):=sF Tryz.prog [] (fun _ _ _ _=>none) (fun _ _=>false) 100 188 Vn Vo
theorem ztp:Con.Ok Tryz.prog 188 ⟨Vn,Vo,zoB⟩:=zz zi zm (by kernel_rfl)
def zoC:(jo×Int×Int×Unit)→Option (Int×Unit):=sF Tryz.prog [(188,⟨Vn,Vo,zoB⟩)] (fun _ _ _ _=>none) (fun _ _=>false) 100 178 Vq Vr
theorem ztq:Con.Ok Tryz.prog 178 ⟨Vq,Vr,zoC⟩:=zz (zf ztp zi) zm (by kernel_rfl)
def zoD:(jo×Int×Int×Unit)→Option (Int×Int×Unit):=sF Tryz.prog [(177,⟨YD,YE,zmd⟩),(178,⟨Vq,Vr,zoC⟩)] (fun _ _ _ _=>none) (fun _ _=>false) 100 157 Vt Vu
theorem ztr:Con.Ok Tryz.prog 157 ⟨Vt,Vu,zoD⟩:=zz (zf zrC (zf ztq zi)) zm (by kernel_rfl)
def zhW:(jo×Unit)→Option (Bool×Unit):=sF Tryz.prog [(157,⟨Vt,Vu,zoD⟩)] (fun _ _ _ _=>none) (fun _ _=>false) 100 147 QE QF
theorem zmM:Con.Ok Tryz.prog 147 ⟨QE,QF,zhW⟩:=zz (zf ztr zi) zm (by kernel_rfl)
def zbC:(zgp×Unit)→Option (Bool×Unit):=sF Tryz.prog [] (fun _ _ _ _=>none) (fun _ _=>false) 100 159 uN uO
theorem zdt:Con.Ok Tryz.prog 159 ⟨uN,uO,zbC⟩:=zz zi zm (by kernel_rfl)
def zfZ:(jo×Int×Unit)→Option (Int×Unit):=sF Tryz.prog [(147,⟨QE,QF,zhW⟩),(159,⟨uN,uO,zbC⟩)] (fun _ _ _ _=>none) (fun _ _=>false) 100 123 Zz ZA
theorem zlM:Con.Ok Tryz.prog 123 ⟨Zz,ZA,zfZ⟩:=zz (zf zmM (zf zdt zi)) zm (by kernel_rfl)
def zme:(Int×Int×Unit)→Option (Int×Unit):=sF Tryz.prog [] (fun _ _ _ _=>none) (fun _ _=>false) 100 149 YG YH
theorem zrD:Con.Ok Tryz.prog 149 ⟨YG,YH,zme⟩:=zz zi zm (by kernel_rfl)
def zfa:(Int×Int×Unit)→Option (Int×Unit):=sF Tryz.prog [(149,⟨YG,YH,zme⟩)] (fun _ _ _ _=>none) (fun _ _=>false) 100 125 gL gM
theorem zkz:Con.Ok Tryz.prog 125 ⟨gL,gM,zfa⟩:=zz (zf zrD zi) zm (by kernel_rfl)
def zzh:(jo×Int×Int×Unit)→Option (vR×Int×Unit):=sF Tryz.prog [(122,⟨Jy,Jz,ziS⟩),(123,⟨Zz,ZA,zfZ⟩),(125,⟨gL,gM,zfa⟩),(159,⟨uN,uO,zbC⟩)] (fun _ _ _ _=>none) (fun _ _=>false) 100 86 Ji Jj
theorem zts:Con.Ok Tryz.prog 86 ⟨Ji,Jj,zzh⟩:=zz (zf zoA (zf zlM (zf zkz (zf zdt zi)))) zm (by kernel_rfl)
def zoE:T (qn Ji)→Option (T (qn Jj)):=Gm [((([(127,100)],100),8,200,()),((131072,1016),0,()))]
theorem ztt:Con.Ok Tryz.prog 86 ⟨Ji,Jj,zoE⟩:=Gn zts (Je (by kernel_rfl) zbg)
def zoF:((List wb)×Unit)→Option (wb×Int×Unit):=sF Tryz.prog [(69,⟨xK,xL,VL⟩)] (fun _ _ _ _=>none) (fun _ _=>false) 100 87 Vw Vx
theorem ztu:Con.Ok Tryz.prog 87 ⟨Vw,Vx,zoF⟩:=zz (zf XS zi) zm (by kernel_rfl)
def zfI:(vR×Unit)→Option (Int×Unit):=sF Tryz.prog [] (fun _ _ _ _=>none) (fun _ _=>false) 100 132 Qd Qe
theorem zhX:Con.Ok Tryz.prog 132 ⟨Qd,Qe,zfI⟩:=zz zi zm (by kernel_rfl)
def zfJ:((List Int)×Unit)→Option (Bool×Unit):=sF Tryz.prog [] (fun _ _ _ _=>none) (fun _ _=>false) 100 161 Qf Qg
theorem zhY:Con.Ok Tryz.prog 161 ⟨Qf,Qg,zfJ⟩:=zz zi zm (by kernel_rfl)
def ziT:(Int×Unit)→Option (Int×Unit):=sF Tryz.prog [] (fun _ _ _ _=>none) (fun _ _=>false) 100 163 JB JC
theorem zoG:Con.Ok Tryz.prog 163 ⟨JB,JC,ziT⟩:=zz zi zm (by kernel_rfl)
def zf0:(Int×Int×Unit)→Option (Int×Int×Unit):=sF Tryz.prog [] (fun _ _ _ _=>none) (fun _ _=>false) 100 162 ZB ZC
theorem zlN:Con.Ok Tryz.prog 162 ⟨ZB,ZC,zf0⟩:=zz zi zm (by kernel_rfl)
def zf1:(Int×Unit)→Option (Int×Unit):=sF Tryz.prog [] (fun _ _ _ _=>none) (fun _ _=>false) 100 176 ZE ZF
theorem zlO:Con.Ok Tryz.prog 176 ⟨ZE,ZF,zf1⟩:=zz zi zm (by kernel_rfl)
def Uf:(Int×Unit)→Option (Int×Unit):=sF Tryz.prog [(176,⟨ZE,ZF,zf1⟩)] (fun _ _ _ _=>none) (fun _ _=>false) 100 179 xM xN
theorem zdi:Con.Ok Tryz.prog 179 ⟨xM,xN,Uf⟩:=zz (zf zlO zi) zm (by kernel_rfl)
def zf2:(Int×Int×Int×Unit)→Option (Int×Int×Unit):=sF Tryz.prog [(179,⟨xM,xN,Uf⟩)] (fun _ _ _ _=>none) (fun _ _=>false) 100 164 ZG ZH
theorem zlP:Con.Ok Tryz.prog 164 ⟨ZG,ZH,zf2⟩:=zz (zf zdi zi) zm (by kernel_rfl)
def zmf:(Int×Unit)→Option (Int×Bool×Unit):=sF Tryz.prog [(161,⟨Qf,Qg,zfJ⟩)] (fun _ _ _ _=>none) (fun _ _=>false) 100 165 YL YM
theorem zrE:Con.Ok Tryz.prog 165 ⟨YL,YM,zmf⟩:=zz (zf zhY zi) zm (by kernel_rfl)
def zoH:(Int×Int×Int×Unit)→Option (Int×Bool×Unit):=sF Tryz.prog [(161,⟨Qf,Qg,zfJ⟩),(163,⟨JB,JC,ziT⟩),(162,⟨ZB,ZC,zf0⟩),(164,⟨ZG,ZH,zf2⟩),(165,⟨YL,YM,zmf⟩)] (fun _ _ _ _=>none) (fun _ _=>false) 100 154 Vy Vz
theorem ztv:Con.Ok Tryz.prog 154 ⟨Vy,Vz,zoH⟩:=zz (zf zhY (zf zoG (zf zlN (zf zlP (zf zrE zi))))) zm (by kernel_rfl)
def zhZ:(Int×Int×Int×Unit)→Option (Int×Unit):=sF Tryz.prog [(154,⟨Vy,Vz,zoH⟩)] (fun _ _ _ _=>none) (fun _ _=>false) 100 135 Jk Jl
theorem ziU:Con.Ok Tryz.prog 135 ⟨Jk,Jl,zhZ⟩:=zz (zf ztv zi) zm (by kernel_rfl)
def zh0:((List wb)×Int×Unit)→Option (Int×Bool×Unit):=sF Tryz.prog [(135,⟨Jk,Jl,zhZ⟩)] (fun _ _ _ _=>none) (fun _ _=>false) 100 133 QI QJ
theorem zmN:Con.Ok Tryz.prog 133 ⟨QI,QJ,zh0⟩:=zz (zf ziU zi) zm (by kernel_rfl)
def zmg:((List wb)×vR×Unit)→Option (Int×Int×Unit):=sF Tryz.prog [(69,⟨xK,xL,VL⟩),(132,⟨Qd,Qe,zfI⟩),(133,⟨QI,QJ,zh0⟩)] (fun _ _ _ _=>none) (fun _ _=>false) 100 88 YO YP
theorem zrF:Con.Ok Tryz.prog 88 ⟨YO,YP,zmg⟩:=zz (zf XS (zf zhX (zf zmN zi))) zm (by kernel_rfl)
def zf3:(wb×vR×Unit)→Option (Int×Unit):=sF Tryz.prog [(69,⟨xK,xL,VL⟩),(132,⟨Qd,Qe,zfI⟩)] (fun _ _ _ _=>none) (fun _ _=>false) 100 134 ZJ ZK
theorem zlQ:Con.Ok Tryz.prog 134 ⟨ZJ,ZK,zf3⟩:=zz (zf XS (zf zhX zi)) zm (by kernel_rfl)
def ziV:(wb×vR×Unit)→Option (Int×Int×Unit):=sF Tryz.prog [(134,⟨ZJ,ZK,zf3⟩),(135,⟨Jk,Jl,zhZ⟩)] (fun _ _ _ _=>none) (fun _ _=>false) 100 89 JD JE
theorem zoI:Con.Ok Tryz.prog 89 ⟨JD,JE,ziV⟩:=zz (zf zlQ (zf ziU zi)) zm (by kernel_rfl)
def zh1:(zbM×Unit)→Option (Int×Unit):=sF Tryz.prog [] (fun _ _ _ _=>none) (fun _ _=>false) 100 91 QL QM
theorem zmO:Con.Ok Tryz.prog 91 ⟨QL,QM,zh1⟩:=zz zi zm (by kernel_rfl)
def zoJ:(qk×Int×Unit)→Option (Int×Int×Unit):=sF Tryz.prog [(41,⟨ya,yb,Ye⟩),(91,⟨QL,QM,zh1⟩)] (fun _ _ _ _=>none) (fun _ _=>false) 100 58 VC VD
theorem ztw:Con.Ok Tryz.prog 58 ⟨VC,VD,zoJ⟩:=zz (zf JM (zf zmO zi)) zm (by kernel_rfl)
def zwy:(jJ×(List zv)×Unit)→Option (Int×Unit):=sF Tryz.prog [(29,⟨yH,yI,UC⟩),(56,⟨Zw,Zx,zfY⟩),(119,⟨yl,ym,Yp⟩),(85,⟨GY,GZ,zto⟩),(86,⟨Ji,Jj,zoE⟩),(87,⟨Vw,Vx,zoF⟩),(88,⟨YO,YP,zmg⟩),(89,⟨JD,JE,ziV⟩),(58,⟨VC,VD,zoJ⟩)] (fun _ _ _ _=>none) (fun _ _=>false) 100 25 vY vZ
theorem zrG:Con.Ok Tryz.prog 25 ⟨vY,vZ,zwy⟩:=zz (zf zaP (zf zlL (zf zax (zf zwx (zf ztt (zf ztu (zf zrF (zf zoI (zf ztw zi))))))))) zm (by kernel_rfl)
def zfK:T (qn vY)→Option (T (qn vZ)):=Gm [((rF,[],()),(0,())),((rF,[(1,0,3,6,100,0,(200,16384),9000,[[0,2,4]])],()),(0,())),((rF,[(1,0,3,6,100,0,(200,16384),1,[[0,2,4]])],()),(412,()))]
theorem zh2:Con.Ok Tryz.prog 25 ⟨vY,vZ,zfK⟩:=Gn zrG (Je (by kernel_rfl) (Je (by kernel_rfl) (Je (by kernel_rfl) zbg)))
def zu6:(qk×zv×Unit)→Option (Int×Unit):=sF Tryz.prog [(41,⟨ya,yb,Ye⟩),(42,⟨gJ,gK,zed⟩)] (fun _ _ _ _=>none) (fun _ _=>false) 100 26 gN gO
theorem zpR:Con.Ok Tryz.prog 26 ⟨gN,gO,zu6⟩:=zz (zf JM (zf zfX zi)) zm (by kernel_rfl)
def zkA:T (qn gN)→Option (T (qn gO)):=Gm [((rT,(1,0,3,6,100,0,(200,16384),9000,[[0,2,4]]),()),(0,())),((rT,(1,0,3,6,100,0,(200,16384),1,[[0,2,4]]),()),(0,()))]
theorem zpS:Con.Ok Tryz.prog 26 ⟨gN,gO,zkA⟩:=Gn zpR (Je (by kernel_rfl) (Je (by kernel_rfl) zbg))
def zwz:(jJ×(List zv)×zv×Unit)→Option ((List zv)×Int×Unit):=sF Tryz.prog [(25,⟨vY,vZ,zfK⟩),(26,⟨gN,gO,zkA⟩)] (fun _ _ _ _=>none) (fun _ _=>false) 100 11 ud ue
theorem zrH:Con.Ok Tryz.prog 11 ⟨ud,ue,zwz⟩:=zz (zf zh2 (zf zpS zi)) zm (by kernel_rfl)
def zmh:T (qn ud)→Option (T (qn ue)):=Gm [((rF,[],(1,0,3,6,100,0,(200,16384),9000,[[0,2,4]]),()),([(1,0,3,6,100,0,(200,16384),9000,[[0,2,4]])],0,())),((rF,[],(1,0,3,6,100,0,(200,16384),1,[[0,2,4]]),()),([],412,()))]
theorem zrI:Con.Ok Tryz.prog 11 ⟨ud,ue,zmh⟩:=Gn zrH (Je (by kernel_rfl) (Je (by kernel_rfl) zbg))
theorem zfL:yT.Ok Tryz.prog 109 ⟨ze,xF,xG,Qo⟩:=zDN KV zB2
def zee:((List zv)×Int×Unit)→Option (Int×Int×Unit):=sF Tryz.prog [] (fun _ _ _ _=>none) (fun _ _=>false) 100 110 ka ke
theorem zf4:Con.Ok Tryz.prog 110 ⟨ka,ke,zee⟩:=zz zi zm (by kernel_rfl)
def VO:((List qE)×Int×Bool×qE×Unit)→Option ((List qE)×Unit):=sF Tryz.prog [] (fun _ _ _ _=>none) (fun _ _=>false) 100 111 wU wW
theorem GH:Con.Ok Tryz.prog 111 ⟨wU,wW,VO⟩:=zz zi zm (by kernel_rfl)
def Wc:za→(qE×Unit)→Option (za×(Unit)):=sP Tryz.prog ⟨[],[(52,⟨ze,qh,qi,uk⟩)]⟩ [] (fun _ _ _ _=>none) (fun _ _=>false) 100 34 ze jb jc
theorem XG:yT.Ok Tryz.prog 34 ⟨ze,jb,jc,Wc⟩:=xp ⟨qw,(zO uw je)⟩ zi zm (by kernel_rfl)
def zah:za→(zJ×Unit)→Option (za×(Unit)):=sP Tryz.prog ⟨[],[(107,⟨ze,jx,jy,Yg⟩),(108,⟨ze,jz,jA,Yh⟩),(109,⟨ze,xF,xG,Qo⟩),(34,⟨ze,jb,jc,Wc⟩)]⟩ [(11,⟨ud,ue,zmh⟩),(110,⟨ka,ke,zee⟩),(111,⟨wU,wW,VO⟩)] (fun _ _ _ _=>none) (fun _ _=>false) 100 80 ze yQ yR
theorem zfM:yT.Ok Tryz.prog 80 ⟨ze,yQ,yR,zah⟩:=xp ⟨qw,(zO Kl (zO Km (zO zfL (zO XG je))))⟩ (zf zrI (zf zf4 (zf GH zi))) zm (by kernel_rfl)
def zoK:((List Int)×Unit)→Option (Int×Unit):=sF Tryz.prog [] (fun _ _ _ _=>none) (fun _ _=>false) 100 144 WV WW
theorem ztx:Con.Ok Tryz.prog 144 ⟨WV,WW,zoK⟩:=zz zi zm (by kernel_rfl)
def GI:za→(Int×Int×Unit)→Option (za×(Int×xU×Bool×Unit)):=sP Tryz.prog ⟨[],[]⟩ [(37,⟨wO,wP,XR⟩),(144,⟨WV,WW,zoK⟩)] (fun _ _ _ _=>none) (fun _ _=>false) 100 112 ze yw yx
theorem zfb:yT.Ok Tryz.prog 112 ⟨ze,yw,yx,GI⟩:=xp ⟨qw,je⟩ (zf KQ (zf ztx zi)) zm (by kernel_rfl)
def zbZ:((List xU)×Int×Bool×xU×Unit)→Option ((List xU)×Unit):=sF Tryz.prog [] (fun _ _ _ _=>none) (fun _ _=>false) 100 113 vA vB
theorem zh3:Con.Ok Tryz.prog 113 ⟨vA,vB,zbZ⟩:=zz zi zm (by kernel_rfl)
def Yq:za→(zJ×Unit)→Option (za×(Unit)):=sP Tryz.prog ⟨[],[(112,⟨ze,yw,yx,GI⟩),(52,⟨ze,qh,qi,uk⟩)]⟩ [(113,⟨vA,vB,zbZ⟩)] (fun _ _ _ _=>none) (fun _ _=>false) 100 81 ze jH jI
theorem zay:yT.Ok Tryz.prog 81 ⟨ze,jH,jI,Yq⟩:=xp ⟨qw,(zO zfb (zO uw je))⟩ (zf zh3 zi) zm (by kernel_rfl)
def zc3:((List Int)×Int×Unit)→Option ((List Int)×Unit):=sF Tryz.prog [] (fun _ _ _ _=>none) (fun _ _=>false) 100 115 vT vU
theorem zib:Con.Ok Tryz.prog 115 ⟨vT,vU,zc3⟩:=zz zi zm (by kernel_rfl)
def zty:(jJ×(List zv)×Int×Unit)→Option ((List zv)×Int×Unit):=sF Tryz.prog [(25,⟨vY,vZ,zfK⟩),(110,⟨ka,ke,zee⟩)] (fun _ _ _ _=>none) (fun _ _=>false) 100 116 uu uv
theorem zoL:Con.Ok Tryz.prog 116 ⟨uu,uv,zty⟩:=zz (zf zh2 (zf zf4 zi)) zm (by kernel_rfl)
def ziW:T (qn uu)→Option (T (qn uv)):=Gm [((rF,[(1,0,3,6,100,0,(200,16384),9000,[[0,2,4]])],1,()),([],0,()))]
theorem zoM:Con.Ok Tryz.prog 116 ⟨uu,uv,ziW⟩:=Gn zoL (Je (by kernel_rfl) zbg)
def GJ:za→(zJ×Unit)→Option (za×(Unit)):=sP Tryz.prog ⟨[],[(107,⟨ze,jx,jy,Yg⟩),(108,⟨ze,jz,jA,Yh⟩)]⟩ [(114,⟨wH,wI,Yi⟩),(115,⟨vT,vU,zc3⟩),(116,⟨uu,uv,ziW⟩),(111,⟨wU,wW,VO⟩)] (fun _ _ _ _=>none) (fun _ _=>false) 100 82 ze yy yz
theorem zfc:yT.Ok Tryz.prog 82 ⟨ze,yy,yz,GJ⟩:=xp ⟨qw,(zO Kl (zO Km je))⟩ (zf Kn (zf zib (zf zoM (zf GH zi)))) zm (by kernel_rfl)
def Ug:za→(zJ×Unit)→Option (za×(Unit)):=sP Tryz.prog ⟨[],[(24,⟨ze,qA,qB,kR⟩)]⟩ [(75,⟨jj,jk,JN⟩)] (fun _ _ _ _=>none) (fun _ _=>false) 100 83 ze wQ wR
theorem zdj:yT.Ok Tryz.prog 83 ⟨ze,wQ,wR,Ug⟩:=xp ⟨qw,(zO gV je)⟩ (zf Yf zi) zm (by kernel_rfl)
def GK:za→(zJ×Unit)→Option (za×(Unit)):=sP Tryz.prog ⟨[],[(80,⟨ze,yQ,yR,zah⟩),(81,⟨ze,jH,jI,Yq⟩),(82,⟨ze,yy,yz,GJ⟩),(83,⟨ze,wQ,wR,Ug⟩)]⟩ [] (fun _ _ _ _=>none) (fun _ _=>false) 100 54 ze yA yB
theorem zfd:yT.Ok Tryz.prog 54 ⟨ze,yA,yB,GK⟩:=xp ⟨qw,(zO zfM (zO zay (zO zfc (zO zdj je))))⟩ zi zm (by kernel_rfl)
def Jr:za→(Int×Int×Unit)→Option (za×(Int×Unit)):=sP Tryz.prog ⟨[],[(52,⟨ze,qh,qi,uk⟩),(54,⟨ze,yA,yB,GK⟩)]⟩ [(53,⟨yr,yu,Kk⟩)] (fun _ _ _ _=>none) (fun _ _=>false) 100 32 ze qW qX
theorem Xk:yT.Ok Tryz.prog 32 ⟨ze,qW,qX,Jr⟩:=xp ⟨qw,(zO uw (zO zfd je))⟩ (zf zc1 zi) zm (by kernel_rfl)
def XA:za→(Unit)→Option (za×(Unit)):=sP Tryz.prog ⟨[],[(33,⟨ze,qG,qH,gW⟩),(34,⟨ze,jb,jc,Wc⟩)]⟩ [] (fun _ _ _ _=>none) (fun _ _=>false) 100 23 ze jS jT
theorem UT:yT.Ok Tryz.prog 23 ⟨ze,jS,jT,XA⟩:=xp ⟨qw,(zO QS (zO XG je))⟩ zi zm (by kernel_rfl)
def zb0:za→(yn×Unit)→Option (za×(Int×Unit)):=sP Tryz.prog ⟨[],[(43,⟨ze,xu,xw,zbW⟩),(44,⟨ze,yp,yq,GD⟩),(32,⟨ze,qW,qX,Jr⟩),(23,⟨ze,jS,jT,XA⟩)]⟩ [] (fun _ _ _ _=>none) (fun _ _=>false) 100 27 ze xA xB
theorem zh4:yT.Ok Tryz.prog 27 ⟨ze,xA,xB,zb0⟩:=xp ⟨qw,(zO zhT (zO ze8 (zO Xk (zO UT je))))⟩ zi zm (by kernel_rfl)
def zjr:(zK×yn×Unit)→Option (zK×Int×Unit):=sFl Tryz.prog ⟨[],[(27,⟨ze,xA,xB,zb0⟩)]⟩ [] (fun _ _ _ _=>none) (fun _ _=>false) 100 12 kO kP
theorem zkB:Con.Ok Tryz.prog 12 ⟨kO,kP,zjr⟩:=zg0 ⟨qw,(zO zh4 je)⟩ zi zm (by kernel_rfl)
def zoN:(zK×(List yn)×Unit)→Option (zK×(List Int)×Unit):=sF Tryz.prog [(12,⟨kO,kP,zjr⟩)] (fun _ _ _ _=>none) (fun _ _=>false) 100 18 zhG zhH
theorem ztz:Con.Ok Tryz.prog 18 ⟨zhG,zhH,zoN⟩:=zz (zf zkB zi) zm (by kernel_rfl)
def zkC:(zK×Int×Unit)→Option (Int×Int×Unit):=sFl Tryz.prog ⟨[],[(24,⟨ze,qA,qB,kR⟩)]⟩ [] (fun _ _ _ _=>none) (fun _ _=>false) 100 10 gP gQ
theorem zpT:Con.Ok Tryz.prog 10 ⟨gP,gQ,zkC⟩:=zg0 ⟨qw,(zO gV je)⟩ zi zm (by kernel_rfl)
def ztA:(zK×Int×Unit)→Option (Bool×Unit):=sF Tryz.prog [(10,⟨gP,gQ,zkC⟩)] (fun _ _ _ _=>none) (fun _ _=>false) 100 20 zlw zlx
theorem zwA:Con.Ok Tryz.prog 20 ⟨zlw,zlx,ztA⟩:=zz (zf zpT zi) zm (by kernel_rfl)
def zmi:(zK×Unit)→Option (Bool×Unit):=sF Tryz.prog [] (fun _ _ _ _=>none) (fun _ _=>false) 100 16 zfx zfy
theorem zrJ:Con.Ok Tryz.prog 16 ⟨zfx,zfy,zmi⟩:=zz zi zm (by kernel_rfl)
def VP:za→(Unit)→Option (za×(Unit)):=sP Tryz.prog ⟨[],[(32,⟨ze,qW,qX,Jr⟩)]⟩ [] (fun _ _ _ _=>none) (fun _ _=>false) 100 22 ze wk wm
theorem zb9:yT.Ok Tryz.prog 22 ⟨ze,wk,wm,VP⟩:=xp ⟨qw,(zO Xk je)⟩ zi zm (by kernel_rfl)
def ziX:(zK×Unit)→Option (zK×Unit):=sFl Tryz.prog ⟨[],[(22,⟨ze,wk,wm,VP⟩),(23,⟨ze,jS,jT,XA⟩)]⟩ [] (fun _ _ _ _=>none) (fun _ _=>false) 100 8 ku kx
theorem zoO:Con.Ok Tryz.prog 8 ⟨ku,kx,ziX⟩:=zg0 ⟨qw,(zO zb9 (zO UT je))⟩ zi zm (by kernel_rfl)
def zmj:(Unit)→Option (Bool×Unit):=sF Tryz.prog [(15,⟨Xr,Xt,zqh⟩),(14,⟨WM,WN,zow⟩),(17,⟨zcs,zct,ziQ⟩),(18,⟨zhG,zhH,zoN⟩),(20,⟨zlw,zlx,ztA⟩),(12,⟨kO,kP,zjr⟩),(16,⟨zfx,zfy,zmi⟩),(8,⟨ku,kx,ziX⟩)] (fun _ _ _ _=>none) (fun _ _=>false) 100 6 KW KY
theorem zh5:Con.Ok Tryz.prog 6 ⟨KW,KY,zmj⟩:=zz (zf zu4 (zf ztm (zf zox (zf ztz (zf zwA (zf zkB (zf zrJ (zf zoO zi)))))))) zm (by kernel_rfl)
theorem zDO:zmj ()=some (true,()):=by kernel_rfl
def zpj:Unit→Option (Bool×Unit):=fun _=>some (true,())
theorem zDP:Con.Ok Tryz.prog 6 ⟨KW,KY,zpj⟩:=⟨zh5.1,fun x r h=>zh5.2 x r (by cases x;rw [←h];exact zDO)⟩
theorem u8w {n:Int} (h:wfT (.int .u8) n):0≤n∧n≤255:=h
theorem zF0 {m:qt} (h:wfT yk m):moP m:=⟨u8w h.1,u8w h.2.1,u8w h.2.2.1⟩
noncomputable def zc4:T (qn gR)→Option (T (qn JH)):=sF Tryz.prog [(6,⟨KW,KY,zpj⟩),(7,⟨KZ,Ua,Wb⟩),(8,⟨ku,kx,ky⟩),(9,⟨Qs,Qt,yJ⟩),(10,⟨gP,gQ,QN⟩),(11,⟨ud,ue,uV⟩),(12,⟨kO,kP,kQ⟩),(13,⟨Jo,Jp,wS⟩)] zaL (zM []) 30 4 gR JH
theorem zoP:Con.Ok Tryz.prog 4 ⟨gR,JH,zc4⟩:=zz (zf zDP (zf zrn (zf zof (zf zaK (zf zpH (zf zhw (zf zkd (zf zbS zi)))))))) zm (by kernel_rfl)
theorem zoQ (l:List qt) (m:qt):zc4 (l,m,())=JI zpj Wb ky yJ QN uV kQ wS l m:=zkh zpj Wb ky yJ QN uV kQ wS l m
abbrev A4:=gR
abbrev K4_ok:=zoP
theorem good4 (x:T (qn A4)) (h:wfT (qn A4) x):zc4 x=some (true,()):=by
 obtain ⟨l,m,⟨⟩⟩:=x
 rw [zoQ]
 have h2:List.length (α:=qt) l*10≤reachBytes:=h.1.1.2
 have h3:reachBytes≤1000000000000000000:=by decide
 exact zzK (l:=l) rfl (fun m hm=>zF0 (h.1.2 m hm)) (by omega) (zF0 h.2.1)
end Go.Proofs.YtleloebnggepoaaGreat.sg
end
