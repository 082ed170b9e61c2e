/- Parts of a proof, joined. -/
import Derived.Test.YtplhphmbkmpocaaGreatE67
set_option linter.unusedSectionVars false
set_option linter.unusedVariables false
set_option linter.unusedSimpArgs false
set_option maxHeartbeats 0
set_option maxRecDepth 100000
noncomputable section
namespace Go.Proofs.YtplhphmbkmpocaaGreat.ad
open Go Go.Fz Go.Fz.Sy
theorem zDI {n:Fab} {l:List qC} (h:okP n l) {p:Int} (hp:wI n.1 p) :
  (∃b v,(wA n l p)=(zIn b v,0)∧yg b∧zuG v∧b.2≤v.1∧load l p≠[]∧b=kD (load l p))∨((wA n l p).1=zB∧(wA n l p).2≠0):=by
 obtain ⟨g,hx,hge,hg,p0,p1⟩:=zoQ h.f hp
 obtain ⟨o1,o2,o3⟩:=zDH hg p0 p1 h.f.f.2.1 h.f.f.2.2
 unfold wA
 rw [hge]
 by_cases hne:load l p=[]
 ·rw [zQ hne];exact .inr ⟨rfl,by show (4:Int)≠0;decide⟩
 rw [zX hne,cond_false]
 rcases o3 with ⟨o4,o5⟩ | ⟨o4,o5⟩
 ·rw [o4,zQ rfl,cond_true]
  unfold Xt
  by_cases hb:yg (kD (load l p))
  ·rw [zQ hb,cond_true,zQ rfl,cond_true]
   by_cases hle:(kD (load l p)).2≤(ofS g (lnk n.1 p).2.2.1 n.2.2.2).1.1
   ·rw [zQ hle];exact .inl ⟨_,_,rfl,hb,o5,hle,hne,rfl⟩
   ·rw [zX hle];exact .inr ⟨rfl,by show (141:Int)≠0;decide⟩
  ·rw [zX hb,cond_false,zX (by simp)];exact .inr ⟨rfl,by show (6:Int)≠0;decide⟩
 ·rw [o4,zX (by simp)];exact .inr ⟨rfl,by show (411:Int)≠0;decide⟩
theorem zE6 {n:Fab} {l:List qC} (h:okP n l) {p:Int} (hp:wI n.1 p):0≤(wA n l p).1.2.2.1∧(wA n l p).1.2.2.1≤1099780063233:=by
 rcases zDI h hp with ⟨b,v,e,hb,hv,_⟩ | ⟨e,_⟩
 ·rw [e]
  have hd:=zst hb hv.ok
  have h1:=hv.2.2.1;have h2:=hv.2.2.2
  show 0≤v.2+cl v.1 (b.1*1048576)∧v.2+cl v.1 (b.1*1048576)≤_
  omega
 ·rw [e];exact ⟨Int.le_refl _,by show (0:Int)≤_;decide⟩
noncomputable def zpn (n:Fab) (l:List qC):List Int→Int→Int×Int
 |[],s=>(s,0)
 |p::r,s=>bif tv ((wA n l p).2=0) then zpn n l r (s+((wA n l p).1.2.2.1+(lnk n.1 p).2.2.2+n.2.1.2.2.1)) else (0,(wA n l p).2)
noncomputable def Zb (n:Fab) (l:List qC) (r:List Int):Int×Int:=zpn n l r 0
theorem zxn {n:Fab} (h:zso n) {p:Int} (hp:wI n.1 p):0≤(lnk n.1 p).2.2.2∧(lnk n.1 p).2.2.2≤10000:=by
 have hl:=(h.t.ls _ _ (Xp hp)).1
 exact ⟨hl.2.2.2.2.2.2.1,hl.2.2.2.2.2.2.2⟩
noncomputable def zG5 (n:Fab) (l:List qC) (m:GZ) (r:List Int):Option (Nat×((Int×(Int×(Int×(Int×Unit))))×(GZ×Unit))):=
 zD (fun s32:((Int×(Int×(Int×(Int×Unit))))×((List (Int×(((Int×Int)×((Int×Int)×(Int×Int)))×Int)))×Unit))=>
          bif (zj (s32.1.2.2.2.1) ((((r).length:Nat):Int))) then opt (atI (r) (s32.1.2.2.2.1)) fun x33=>
           opt (bif (!(mpH (α:=(((Int×Int)×((Int×Int)×(Int×Int)))×Int)) (s32.2.1) (x33))) then opt (zD (fun s34:((Int×Unit)×(((List (Int×Int))×Unit)×(Unit×(Unit×Unit))))=>
              bif (zj (s34.1.1) ((((l).length:Nat):Int))) then opt (atI (l) (s34.1.1)) fun x35=>
               opt (zD (fun s36:((Int×(Int×Unit))×(((List (Int×Int))×Unit)×(Unit×(Unit×Unit))))=>
                bif (zj (s36.1.2.1) ((((x35.2.2.2.2.2.2.2.2).length:Nat):Int))) then opt (atI (x35.2.2.2.2.2.2.2.2) (s36.1.2.1)) fun x37=>
                 opt (qS ((x37,(x33,())))) fun x38=>
                 bif x38.1 then some (.inl (1,((s36.1.2.1,(s36.1.2.1,())),((s36.2.1.1,()),((),((),()))))))
                 else some (.inr ((s36.1.1,((wrF .i64 ((s36.1.2.1+1))),())),((s36.2.1.1,()),((),((),())))))
                else some (.inl (0,((s36.1.1,(s36.1.2.1,())),((s36.2.1.1,()),((),((),()))))))) zL ((0,(0,())),((s34.2.1.1,()),((),((),()))))) fun x39=>
               bif (Nat.beq x39.1 0) then some (.inr (((wrF .i64 ((s34.1.1+1))),()),((x39.2.2.1.1,()),((),((),())))))
               else bif (!(zj (x39.2.1.1) (0))) then bif (qK ((x39.2.2.1.1).length) (((x35.2.2.2.2.2.2.1::[])).length) (16)) then some (.inr (((wrF .i64 ((s34.1.1+1))),()),(((x39.2.2.1.1++(x35.2.2.2.2.2.2.1::[])),()),((),((),())))))
                 else none
                else some (.inr (((wrF .i64 ((s34.1.1+1))),()),((x39.2.2.1.1,()),((),((),())))))
              else some (.inl (0,((s34.1.1,()),((s34.2.1.1,()),((),((),()))))))) zL ((0,()),(([],()),((),((),()))))) fun x40=>
             bif (Nat.beq x40.1 0) then bif (zh ((((x40.2.2.1.1).length:Nat):Int)) (0)) then some (0,(((((0,0),((0,0),(0,0))),4),()),((mpP (α:=(((Int×Int)×((Int×Int)×(Int×Int)))×Int)) (s32.2.1) (x33) ((((0,0),((0,0),(0,0))),4))),())))
              else opt (gb ((n.1,(x33,())))) fun x41=>
               bif (!(zh (x41.2.1) (0))) then some (0,(((((0,0),((0,0),(0,0))),x41.2.1),()),((mpP (α:=(((Int×Int)×((Int×Int)×(Int×Int)))×Int)) (s32.2.1) (x33) ((((0,0),((0,0),(0,0))),x41.2.1))),())))
               else opt (atI (n.2.2.1) (x33)) fun x42=>
                opt (xa ((x42,(x41.1,(n.2.2.2,()))))) fun x43=>
                bif (!(zh (x43.2.1) (0))) then some (0,(((((0,0),((0,0),(0,0))),411),()),((mpP (α:=(((Int×Int)×((Int×Int)×(Int×Int)))×Int)) (s32.2.1) (x33) ((((0,0),((0,0),(0,0))),411))),())))
                else opt (vA ((x40.2.2.1.1,()))) fun x44=>
                 bif (!(zh (x44.2.1) (0))) then some (0,(((((0,0),((0,0),(0,0))),x44.2.1),()),((mpP (α:=(((Int×Int)×((Int×Int)×(Int×Int)))×Int)) (s32.2.1) (x33) ((((0,0),((0,0),(0,0))),x44.2.1))),())))
                 else opt (xA (((x44.1::[]),(x43.1,())))) fun x45=>
                  bif (!(zh (x45.2.1) (0))) then some (0,(((((0,0),((0,0),(0,0))),x45.2.1),()),((mpP (α:=(((Int×Int)×((Int×Int)×(Int×Int)))×Int)) (s32.2.1) (x33) ((((0,0),((0,0),(0,0))),x45.2.1))),())))
                  else opt (yF ((x44.1,(x43.1,())))) fun x46=>
                   bif (!(zh (x46.2.1) (0))) then some (0,(((((0,0),((0,0),(0,0))),x46.2.1),()),((mpP (α:=(((Int×Int)×((Int×Int)×(Int×Int)))×Int)) (s32.2.1) (x33) ((((0,0),((0,0),(0,0))),x46.2.1))),())))
                   else some (0,((((x44.1,(x43.1,(x45.1,x46.1))),0),()),((mpP (α:=(((Int×Int)×((Int×Int)×(Int×Int)))×Int)) (s32.2.1) (x33) (((x44.1,(x43.1,(x45.1,x46.1))),0))),())))
             else bif (zh ((((x40.2.2.1.1).length:Nat):Int)) (0)) then some (0,(((((0,0),((0,0),(0,0))),4),()),((mpP (α:=(((Int×Int)×((Int×Int)×(Int×Int)))×Int)) (s32.2.1) (x33) ((((0,0),((0,0),(0,0))),4))),())))
              else opt (gb ((n.1,(x33,())))) fun x47=>
               bif (!(zh (x47.2.1) (0))) then some (0,(((((0,0),((0,0),(0,0))),x47.2.1),()),((mpP (α:=(((Int×Int)×((Int×Int)×(Int×Int)))×Int)) (s32.2.1) (x33) ((((0,0),((0,0),(0,0))),x47.2.1))),())))
               else opt (atI (n.2.2.1) (x33)) fun x48=>
                opt (xa ((x48,(x47.1,(n.2.2.2,()))))) fun x49=>
                bif (!(zh (x49.2.1) (0))) then some (0,(((((0,0),((0,0),(0,0))),411),()),((mpP (α:=(((Int×Int)×((Int×Int)×(Int×Int)))×Int)) (s32.2.1) (x33) ((((0,0),((0,0),(0,0))),411))),())))
                else opt (vA ((x40.2.2.1.1,()))) fun x50=>
                 bif (!(zh (x50.2.1) (0))) then some (0,(((((0,0),((0,0),(0,0))),x50.2.1),()),((mpP (α:=(((Int×Int)×((Int×Int)×(Int×Int)))×Int)) (s32.2.1) (x33) ((((0,0),((0,0),(0,0))),x50.2.1))),())))
                 else opt (xA (((x50.1::[]),(x49.1,())))) fun x51=>
                  bif (!(zh (x51.2.1) (0))) then some (0,(((((0,0),((0,0),(0,0))),x51.2.1),()),((mpP (α:=(((Int×Int)×((Int×Int)×(Int×Int)))×Int)) (s32.2.1) (x33) ((((0,0),((0,0),(0,0))),x51.2.1))),())))
                  else opt (yF ((x50.1,(x49.1,())))) fun x52=>
                   bif (!(zh (x52.2.1) (0))) then some (0,(((((0,0),((0,0),(0,0))),x52.2.1),()),((mpP (α:=(((Int×Int)×((Int×Int)×(Int×Int)))×Int)) (s32.2.1) (x33) ((((0,0),((0,0),(0,0))),x52.2.1))),())))
                   else some (0,((((x50.1,(x49.1,(x51.1,x52.1))),0),()),((mpP (α:=(((Int×Int)×((Int×Int)×(Int×Int)))×Int)) (s32.2.1) (x33) (((x50.1,(x49.1,(x51.1,x52.1))),0))),())))
            else some (0,(((mpD (α:=(((Int×Int)×((Int×Int)×(Int×Int)))×Int)) (s32.2.1) (x33) ((((0,0),((0,0),(0,0))),0))),()),(s32.2.1,())))) fun x53=>
           bif (!(zh (x53.2.1.1.2) (0))) then some (.inl (1,((0,(x53.2.1.1.2,(s32.1.2.2.1,(s32.1.2.2.2.1,())))),(x53.2.2.1,()))))
           else opt (JC ((n.1,(x33,())))) fun x54=>
            bif (!(zh (x54.2.1) (0))) then some (.inl (1,((0,(x54.2.1,(s32.1.2.2.1,(s32.1.2.2.2.1,())))),(x53.2.2.1,()))))
            else some (.inr ((s32.1.1,(s32.1.2.1,((wrF .i64 ((s32.1.2.2.1+(wrF .i64 (((wrF .i64 ((x53.2.1.1.1.2.2.1+x54.1)))+n.2.1.2.2.1)))))),((wrF .i64 ((s32.1.2.2.2.1+1))),())))),(x53.2.2.1,())))
          else some (.inl (0,((s32.1.1,(s32.1.2.1,(s32.1.2.2.1,(s32.1.2.2.2.1,())))),(s32.2.1,()))))) zL ((0,(0,(0,(0,())))),(m,()))
theorem zHS {n:Fab} {l:List qC} (h:okP n l) {r:List Int} (hr:qU n.1 r) {m:GZ} (hm:gI n l m) :
  qu (zG5 n l m r) fun x=>gI n l x.2.2.1∧((x.1=0∧x.2.1.2.2.1=(Zb n l r).1∧(Zb n l r).2=0)∨(x.1=1∧x.2.1.1=0∧x.2.1.2.1=(Zb n l r).2∧(Zb n l r).2≠0∧(Zb n l r).1=0)):=by
 have r8:=hr.n1
 have hu:=h.f.u.2.2.1
 unfold zG5
 refine zU r.length (fun i st=>∃s m',st=((0,(0,(s,((i:Int),())))),(m',()))∧gI n l m'∧Zb n l r=zpn n l (r.drop i) s∧0≤s∧s≤1099780083233*(i:Int)) (by omega) ⟨0,m,rfl,hm,rfl,Int.le_refl _,by omega⟩ ?_ ?_
 ·rintro i _ hi ⟨s,m',rfl,hk,ht,s0,s1⟩
  have hx:r[i]?=some r[i]:=List.getElem?_eq_getElem hi
  have hpt:=hr.pt _ (List.getElem_mem hi)
  have hdr:r.drop i=r[i]::r.drop (i+1):=List.drop_eq_getElem_cons hi
  generalize r[i]=p at hx hpt hdr
  have hb:=zE6 h hpt
  have hd:=zxn h.f hpt
  rw [hdr] at ht
  unfold zpn at ht
  refine ze (zR (show (i:Int) < (r.length:Int) by omega)) (zg (zy (n:=i) hx (zm (zE5 h hpt hk) ?_)))
  rintro ⟨j,⟨v,⟨⟩⟩,c,⟨⟩⟩ ⟨hv,hk2⟩
  simp only at hv hk2
  subst hv
  by_cases he:(wA n l p).2=0
  ·rw [zQ he,cond_true] at ht
   refine zf (show (!zh (wA n l p).2 0)=false by rw [he];rfl) ?_
   rw [zwq h.f.t hpt,zz]
   refine zf rfl (za (qg ⟨_,c,?_,hk2,ht,by omega,by omega⟩))
   show ((0,(0,((wrF .i64 (s+(wrF .i64 ((wrF .i64 ((wA n l p).1.2.2.1+(lnk n.1 p).2.2.2))+n.2.1.2.2.1)))),((wrF .i64 ((i:Int)+1)),())))),(c,()))=_
   rw [qj (by omega),zH (z:=(wA n l p).1.2.2.1+(lnk n.1 p).2.2.2) (by omega) (by omega),zH (z:=(wA n l p).1.2.2.1+(lnk n.1 p).2.2.2+n.2.1.2.2.1) (by omega) (by omega),zH (by omega) (by omega)]
  ·rw [zX he,cond_false] at ht
   refine ze (show (!zh (wA n l p).2 0)=true by rw [qL he];rfl) (za (zp ⟨hk2,.inr ⟨rfl,rfl,?_,?_,?_⟩⟩))
   ·rw [ht]
   ·rw [ht];exact he
   ·rw [ht]
 ·rintro _ ⟨s,m',rfl,hk,ht,s0,s1⟩
  rw [List.drop_length] at ht
  refine zf (zF (show ¬(r.length:Int) < (r.length:Int) by omega)) (za (zp ⟨hk,.inl ⟨rfl,?_,?_⟩⟩))
  ·rw [ht];rfl
  ·rw [ht];rfl
theorem zwB {n:Fab} {l:List qC} (h:okP n l) {r:List Int} (hr:qU n.1 r):Xm (n,l,r,())=some ((Zb n l r).1,(Zb n l r).2,()):=by
 have r8:=hr.n1
 have hu:=h.f.u.2.2.1
 rw [zub];unfold zho
 refine ve (zm (J:=fun x=>(x.1=0∧x.2.1.2.2.1=(Zb n l r).1∧(Zb n l r).2=0)∨(x.1=1∧x.2.1.1=(Zb n l r).1∧x.2.1.2.1=(Zb n l r).2)) (zU r.length (fun i st=>∃s,st=((0,(0,(s,((i:Int),())))),())∧Zb n l r=zpn n l (r.drop i) s∧0≤s∧s≤1099780083233*(i:Int)) (by omega) ⟨0,rfl,rfl,Int.le_refl _,by omega⟩ ?_ ?_) ?_)
 ·rintro i _ hi ⟨s,rfl,ht,s0,s1⟩
  have hx:r[i]?=some r[i]:=List.getElem?_eq_getElem hi
  have hpt:=hr.pt _ (List.getElem_mem hi)
  have hdr:r.drop i=r[i]::r.drop (i+1):=List.drop_eq_getElem_cons hi
  generalize r[i]=p at hx hpt hdr
  have hb:=zE6 h hpt
  have hd:=zxn h.f hpt
  rw [hdr] at ht
  unfold zpn at ht
  refine ze (zR (show (i:Int) < (r.length:Int) by omega)) (zg (zy (n:=i) hx ?_))
  rw [zl7 h hpt,zz]
  by_cases he:(wA n l p).2=0
  ·rw [zQ he,cond_true] at ht
   refine zf (show (!zh (wA n l p).2 0)=false by rw [he];rfl) (zg (zy (n:=i) hx ?_))
   rw [zuu h.f.t.ll hpt,zz]
   refine za (qg ⟨_,?_,ht,by omega,by omega⟩)
   show ((0,(0,((wrF .i64 ((wrF .i64 ((wrF .i64 (s+(wA n l p).1.2.2.1))+(lnk n.1 p).2.2.2))+n.2.1.2.2.1)),((wrF .i64 ((i:Int)+1)),())))),())=_
   rw [qj (by omega),zH (z:=s+(wA n l p).1.2.2.1) (by omega) (by omega),zH (z:=s+(wA n l p).1.2.2.1+(lnk n.1 p).2.2.2) (by omega) (by omega),zH (by omega) (by omega),show s+(wA n l p).1.2.2.1+(lnk n.1 p).2.2.2+n.2.1.2.2.1=s+((wA n l p).1.2.2.1+(lnk n.1 p).2.2.2+n.2.1.2.2.1) by omega]
  ·rw [zX he,cond_false] at ht
   refine ze (show (!zh (wA n l p).2 0)=true by rw [qL he];rfl) (za (zp (.inr ⟨rfl,?_,?_⟩)))
   ·rw [ht]
   ·rw [ht]
 ·rintro _ ⟨s,rfl,ht,s0,s1⟩
  rw [List.drop_length] at ht
  refine zf (zF (show ¬(r.length:Int) < (r.length:Int) by omega)) (za (zp (.inl ⟨rfl,?_,?_⟩)))
  ·rw [ht];rfl
  ·rw [ht];rfl
 ·rintro ⟨j,⟨a1,a2,a3,a4,⟨⟩⟩,⟨⟩⟩ (⟨rfl,h1,h2⟩ | ⟨rfl,h1,h2⟩)
  ·simp only at h1
   subst h1
   rw [h2]
   exact ze rfl (za rfl)
  ·simp only at h1 h2
   subst h1 h2
   exact zf rfl (za rfl)
noncomputable def zaG (l:List qC) (id:Int):Int×Int:=match gV (l,id,()) with
 |some (v,e,())=>(v,e)
 |none=>(0,0)
theorem zE7 {l:List qC} (hn:l.length≤1000000000000000000) (id:Int):kN (l,id,())=some ((zaG l id).1,(zaG l id).2,())∧gV (l,id,())=some ((zaG l id).1,(zaG l id).2,())∧(((zaG l id).2=0∧∃(i:Nat) (s:qC),(zaG l id).1=(i:Int)∧l[i]?=some s∧s.1=id∧∀(k:Nat) b,k < i→l[k]?=some b→b.1≠id)∨((zaG l id).2=4∧(zaG l id).1=0∧∀s∈l,s.1≠id)):=by
 obtain ⟨v,e,h1,h2,h3⟩:=zHK hn id
 have e1:zaG l id=(v,e):=by unfold zaG;rw [h2]
 rw [e1]
 exact ⟨h1,h2,h3⟩
def yG {α:Type} (f:α→Int):List α→Int
 |[]=>0
 |x::l=>if f x=0 then yG f l else f x
theorem zaH {α:Type} {f:α→Int}:∀{l:List α},yG f l=0↔∀x∈l,f x=0
 |[]=>by simp [yG]
 |x::l=>by
  unfold yG
  split
  ·rename_i h
   rw [zaH];simp [h]
  ·rename_i h
   simp [h]
theorem Ud {α:Type} {f:α→Int}:∀{l:List α} {i:Nat} {x:α},l[i]?=some x→(∀(k:Nat) y,k < i→l[k]?=some y→f y=0)→f x≠0→yG f l=f x
 |[],i,x,h,_,_=>by simp at h
 |a::l,0,x,h,_,hx=>by
  simp at h;subst h
  unfold yG;rw [if_neg hx]
 |a::l,i+1,x,h,hk,hx=>by
  unfold yG
  rw [if_pos (hk 0 a (by omega) rfl)]
  exact Ud (l:=l) (i:=i) (by simpa using h) (fun k y hk' hy=>hk (k+1) y (by omega) (by simpa using hy)) hx
noncomputable def Zc (n:Fab) (l:List qC) (p:Nat):Int:=bif tv ((wA n l p).2=4) then 0 else bif tv ((wA n l p).2=0) then bif tv (n.2.1.2.2.2 < (wA n l p).1.2.2.2) then 7 else 0 else (wA n l p).2
noncomputable def Ue (n:Fab) (l:List qC) (s:qC) (r:List Int):Int:=bif tv ((Zb n l r).2=0) then bif tv (s.2.2.2.2.2.2.2.1 < (Zb n l r).1) then 412 else 0 else (Zb n l r).2
noncomputable def JJ (n:Fab) (l:List qC) (s:qC):Int:=yG (Ue n l s) s.2.2.2.2.2.2.2.2
noncomputable def xc (n:Fab) (l:List qC):Int:=
 bif tv (zfY n l=0) then bif tv (yG (Zc n l) (List.range n.2.2.1.length)=0) then yG (JJ n l) l else yG (Zc n l) (List.range n.2.2.1.length) else zfY n l
theorem zCl {n:Fab} (h:zso n) {i:Nat} (hi:i < n.2.2.1.length):wI n.1 (i:Int):=⟨by omega,by have:=h.f.1;omega⟩
theorem zcr {n:Fab} (hn:n.2.2.1.length≤1000000000000000000) (l:List qC):kf (n,l,())=some (xc n l,()):=by
 rw [zse];unfold zfd xc
 rw [zwA hn,zz]
 by_cases h:zfY n l=0
 rotate_left
 ·rw [zX h,qL h];rfl
 rw [zQ h,h,cond_true]
 have ok:=zCk h
 have h12:=ok.n12
 have hf:=ok.f.f.1
 have hls:=ok.f.t.sz.ls
 refine wG (zf rfl (zm (J:=fun x=>(x.1=0∧x.2.1.1=0∧yG (Zc n l) (List.range n.2.2.1.length)=0)∨(x.1=1∧x.2.1.1=yG (Zc n l) (List.range n.2.2.1.length)∧yG (Zc n l) (List.range n.2.2.1.length)≠0)) (qE n.2.2.1.length (fun i=>Zc n l i=0) (by omega) ?_ ?_) ?_))
 ·intro i hi hp
  have hpt:=zCl ok.f hi
  have at_:Zc n l i≠0→yG (Zc n l) (List.range n.2.2.1.length)=Zc n l i:=fun hne=>Ud (i:=i) (by simp [hi]) (fun k y hk hy=>by
   rw [List.getElem?_range (by omega)] at hy;cases hy;exact hp k hk) hne
  refine ze (zR (show (i:Int) < (n.2.2.1.length:Int) by omega)) ?_
  rw [zl7 ok hpt,zz]
  unfold Zc at at_ ⊢
  by_cases h4:(wA n l (i:Int)).2=4
  ·rw [zQ h4]
   exact ze (uq h4) (za (jo (by omega) rfl))
  rw [zX h4,cond_false] at at_ ⊢
  refine zf (qL h4) ?_
  by_cases h0:(wA n l (i:Int)).2=0
  ·rw [zQ h0,cond_true] at at_ ⊢
   refine zf (show (!zh (wA n l (i:Int)).2 0)=false by rw [h0];rfl) ?_
   by_cases hc:n.2.1.2.2.2 < (wA n l (i:Int)).1.2.2.2
   ·rw [zQ hc,cond_true] at at_
    exact ze (zR hc) (za (zp (.inr ⟨rfl,(at_ (by decide)).symm,by rw [at_ (by decide)];decide⟩)))
   ·rw [zX hc]
    exact zf (zF hc) (za (jo (by omega) rfl))
  ·rw [zX h0,cond_false] at at_
   exact ze (show (!zh (wA n l (i:Int)).2 0)=true by rw [qL h0];rfl) (za (zp (.inr ⟨rfl,(at_ h0).symm,by rw [at_ h0];exact h0⟩)))
 ·intro hp
  refine zf (zF (show ¬(n.2.2.1.length:Int) < (n.2.2.1.length:Int) by omega)) (za (zp (.inl ⟨rfl,rfl,zaH.2 fun x hx=>hp x (List.mem_range.1 hx)⟩)))
 ·rintro ⟨j,⟨v,w,⟨⟩⟩,⟨⟩⟩ (⟨rfl,rfl,h1⟩ | ⟨rfl,h1,h2⟩)
  rotate_left
  ·simp only at h1
   subst h1
   rw [zX h2]
   exact zf rfl (za rfl)
  rw [zQ h1,cond_true]
  refine ze rfl (zm (J:=fun x=>(x.1=0∧yG (JJ n l) l=0)∨(x.1=1∧x.2.1.1=yG (JJ n l) l∧yG (JJ n l) l≠0)) (qE l.length (fun i=>∀s,l[i]?=some s→JJ n l s=0) (by omega) ?_ ?_) ?_)
  ·intro i hi hp
   have hx:l[i]?=some l[i]:=List.getElem?_eq_getElem hi
   have hm:=List.getElem_mem hi
   generalize l[i]=s at hx hm
   have hs:=ok.a s hm
   have rn:=hs.rn
   have at_:JJ n l s≠0→yG (JJ n l) l=JJ n l s:=fun hne=>Ud hx (fun k y hk hy=>hp k hk y hy) hne
   refine ze (zR (show (i:Int) < (l.length:Int) by omega)) ?_
   refine zm (J:=fun x=>(x.1=0∧x.2.1.1=0∧JJ n l s=0)∨(x.1=1∧x.2.1.1=JJ n l s∧JJ n l s≠0)) (qE s.2.2.2.2.2.2.2.2.length (fun k=>∀r,s.2.2.2.2.2.2.2.2[k]?=some r→Ue n l s r=0) (by omega) ?_ ?_) ?_
   ·intro k hk hpk
    have hy:s.2.2.2.2.2.2.2.2[k]?=some s.2.2.2.2.2.2.2.2[k]:=List.getElem?_eq_getElem hk
    have hmr:=List.getElem_mem hk
    generalize s.2.2.2.2.2.2.2.2[k]=r at hy hmr
    have atr:Ue n l s r≠0→JJ n l s=Ue n l s r:=fun hne=>Ud hy (fun k' y hk hy=>hpk k' hk y hy) hne
    refine zg (zy (n:=i) hx (ze (zR (show (k:Int) < (s.2.2.2.2.2.2.2.2.length:Int) by omega)) (zg (zy (n:=i) hx (zg (zy (n:=k) hy ?_))))))
    rw [zwB ok (hs.rt r hmr).1,zz]
    unfold Ue at atr
    by_cases h0:(Zb n l r).2=0
    ·rw [zQ h0,cond_true] at atr
     refine zf (show (!zh (Zb n l r).2 0)=false by rw [h0];rfl) (zg (zy (n:=i) hx ?_))
     by_cases hc:s.2.2.2.2.2.2.2.1 < (Zb n l r).1
     ·rw [zQ hc,cond_true] at atr
      exact ze (zR hc) (za (zp (.inr ⟨rfl,(atr (by decide)).symm,by rw [atr (by decide)];decide⟩)))
     ·exact zf (zF hc) (za (jo (by omega) fun r' hr'=>by rw [hy] at hr';cases hr';unfold Ue;rw [zQ h0,zX hc];rfl))
    ·rw [zX h0,cond_false] at atr
     exact ze (show (!zh (Zb n l r).2 0)=true by rw [qL h0];rfl) (za (zp (.inr ⟨rfl,(atr h0).symm,by rw [atr h0];exact h0⟩)))
   ·intro hpk
    refine zg (zy (n:=i) hx (zf (zF (show ¬(s.2.2.2.2.2.2.2.2.length:Int) < (s.2.2.2.2.2.2.2.2.length:Int) by omega)) (za (zp (.inl ⟨rfl,rfl,zaH.2 fun r hr=>?_⟩)))))
    obtain ⟨k,hk,hk2⟩:=jG hr
    exact hpk k hk r hk2
   ·rintro ⟨j,⟨v,w,⟨⟩⟩,⟨⟩⟩ (⟨rfl,rfl,hq⟩ | ⟨rfl,h1,hq⟩)
    ·exact ze rfl (za (jo (by omega) fun s' hs'=>by rw [hx] at hs';cases hs';exact hq))
    ·simp only at h1
     subst h1
     exact zf rfl (za (zp (.inr ⟨rfl,(at_ hq).symm,by rw [at_ hq];exact hq⟩)))
  ·intro hp
   refine zf (zF (show ¬(l.length:Int) < (l.length:Int) by omega)) (za (zp (.inl ⟨rfl,zaH.2 fun s hs=>?_⟩)))
   obtain ⟨k,hk,hk2⟩:=jG hs
   exact hp k hk s hk2
  ·rintro ⟨j,⟨v,w,⟨⟩⟩,⟨⟩⟩ (⟨rfl,hq⟩ | ⟨rfl,h1,hq⟩)
   ·rw [hq];exact ze rfl (za rfl)
   ·exact zf rfl (za h1)
theorem zcs {n:Fab} (hn:n.2.2.1.length≤1000000000000000000) (l:List qC):ka (n,l,())=some (xc n l,()):=by
 rw [zr1];unfold ze5 xc zfY
 rw [zj0 hn,zz]
 by_cases h1:UP n=0
 rotate_left
 ·rw [zX h1,cond_false]
  refine wG (ze (show (!zh (UP n) 0)=true by rw [qL h1];rfl) (ze (show (!zh (UP n) 0)=true by rw [qL h1];rfl) (za ?_)))
  rw [zX h1];rfl
 have hf:=zAW h1
 refine wG (zf (show (!zh (UP n) 0)=false by rw [h1];rfl) ?_)
 rw [zmC hf.t,zz,zQ h1,cond_true]
 by_cases h2:Ua n.1 l=0
 rotate_left
 ·rw [zX h2,cond_false]
  refine ze (show (!zh (Ua n.1 l) 0)=true by rw [qL h2];rfl) (ze (show (!zh (Ua n.1 l) 0)=true by rw [qL h2];rfl) (za ?_))
  rw [zX h2];rfl
 obtain ⟨h12,ha,hd⟩:=zA5 h2
 refine zf (show (!zh (Ua n.1 l) 0)=false by rw [h2];rfl) (zm (zGH (n:=n) h12 rfl) ?_)
 rw [zQ h2,cond_true]
 rintro ⟨j,⟨⟨⟩,v,w,⟨⟩⟩,⟨⟩⟩ (⟨rfl,rfl,hc⟩ | ⟨rfl,rfl,hc⟩)
 rotate_left
 ·rw [zX hc,cond_false,zX (by simp)]
  exact zf rfl (ze rfl (za rfl))
 rw [zQ hc,cond_true,zQ rfl,cond_true]
 have ok:okP n l:=⟨hf,ha,h12,hd,hc⟩
 have hfg:=ok.f.f.1
 have hls:=ok.f.t.sz.ls
 refine ze rfl (zm (J:=fun x=>gI n l x.2.2.1∧x.2.1.1=yG (Zc n l) (List.range n.2.2.1.length)) (zU n.2.2.1.length (fun i st=>∃m,st=((0,((i:Int),())),(m,()))∧gI n l m∧∀(k:Nat),k < i→Zc n l k=0) (by omega) ⟨[],rfl,zE4 n l,fun k hk=>by omega⟩ ?_ ?_) ?_)
 ·rintro i _ hi ⟨m,rfl,hm,hp⟩
  have hpt:=zCl ok.f hi
  have at_:Zc n l i≠0→yG (Zc n l) (List.range n.2.2.1.length)=Zc n l i:=fun hne=>Ud (i:=i) (by simp [hi]) (fun k y hk hy=>by
   rw [List.getElem?_range (by omega)] at hy;cases hy;exact hp k hk) hne
  have go:Zc n l i=0→∀c,gI n l c→qu (some (Sum.inr (((0:Int),((wrF .i64 ((i:Int)+1)),())),(c,())):(Nat×((Int×(Int×Unit))×(GZ×Unit))) ⊕ ((Int×(Int×Unit))×(GZ×Unit)))) (Nxt (fun x=>gI n l x.2.2.1∧x.2.1.1=yG (Zc n l) (List.range n.2.2.1.length)) fun st=>∃m,st=((0,(((i+1:Nat):Int),())),(m,()))∧gI n l m∧∀(k:Nat),k < i+1→Zc n l k=0):=fun h0 c hk=>by
   refine za (qg ⟨c,congrArg (fun z=>((0,(z,())),(c,()))) (qj (by omega)),hk,fun k hk'=>?_⟩)
   rcases Nat.lt_or_ge k i with h | h
   ·exact hp k h
   ·have:k=i:=by omega
    rw [this];exact h0
  refine ze (zR (show (i:Int) < (n.2.2.1.length:Int) by omega)) (zm (zE5 ok hpt hm) ?_)
  rintro ⟨j,⟨v,⟨⟩⟩,c,⟨⟩⟩ ⟨hv,hk⟩
  simp only at hv hk
  subst hv
  unfold Zc at at_ go
  by_cases h4:(wA n l (i:Int)).2=4
  ·rw [zQ h4] at go
   exact ze (uq h4) (go rfl c hk)
  rw [zX h4,cond_false] at at_ go
  refine zf (qL h4) ?_
  by_cases h0:(wA n l (i:Int)).2=0
  ·rw [zQ h0,cond_true] at at_ go
   refine zf (show (!zh (wA n l (i:Int)).2 0)=false by rw [h0];rfl) ?_
   by_cases hcc:n.2.1.2.2.2 < (wA n l (i:Int)).1.2.2.2
   ·rw [zQ hcc,cond_true] at at_
    exact ze (zR hcc) (za (zp ⟨hk,(at_ (by decide)).symm⟩))
   ·rw [zX hcc] at go
    exact zf (zF hcc) (go rfl c hk)
  ·rw [zX h0,cond_false] at at_
   exact ze (show (!zh (wA n l (i:Int)).2 0)=true by rw [qL h0];rfl) (za (zp ⟨hk,(at_ h0).symm⟩))
 ·rintro _ ⟨m,rfl,hm,hp⟩
  exact zf (zF (show ¬(n.2.2.1.length:Int) < (n.2.2.1.length:Int) by omega)) (za (zp ⟨hm,(zaH.2 fun x hx=>hp x (List.mem_range.1 hx)).symm⟩))
 rintro ⟨j,⟨v,w,⟨⟩⟩,c,⟨⟩⟩ ⟨hk,hv⟩
 simp only at hk hv
 subst hv
 by_cases h0:yG (Zc n l) (List.range n.2.2.1.length)=0
 rotate_left
 ·rw [zX h0]
  exact ze (show (!zh (yG (Zc n l) (List.range n.2.2.1.length)) 0)=true by rw [qL h0];rfl) (za rfl)
 rw [zQ h0,cond_true]
 refine zf (show (!zh (yG (Zc n l) (List.range n.2.2.1.length)) 0)=false by rw [h0];rfl) ?_
 refine zm (J:=fun x=>(x.1=0∧yG (JJ n l) l=0)∨(x.1=1∧x.2.1.1=yG (JJ n l) l∧yG (JJ n l) l≠0)) (zU l.length (fun i st=>∃m,st=((0,((i:Int),())),(m,()))∧gI n l m∧∀(k:Nat),k < i→∀s,l[k]?=some s→JJ n l s=0) (by omega) ⟨c,rfl,hk,fun k hk=>by omega⟩ ?_ ?_) ?_
 ·rintro i _ hi ⟨m,rfl,hm,hp⟩
  have hx:l[i]?=some l[i]:=List.getElem?_eq_getElem hi
  have hmm:=List.getElem_mem hi
  generalize l[i]=s at hx hmm
  have hs:=ok.a s hmm
  have rn:=hs.rn
  have at_:JJ n l s≠0→yG (JJ n l) l=JJ n l s:=fun hne=>Ud hx (fun k y hk hy=>hp k hk y hy) hne
  refine ze (zR (show (i:Int) < (l.length:Int) by omega)) (zg (zy (n:=i) hx ?_))
  refine zm (J:=fun x=>gI n l x.2.2.1∧((x.1=0∧x.2.1.1=0∧JJ n l s=0)∨(x.1=1∧x.2.1.1=JJ n l s∧JJ n l s≠0))) (zU s.2.2.2.2.2.2.2.2.length (fun k st=>∃m,st=((0,((k:Int),())),(m,()))∧gI n l m∧∀(k':Nat),k' < k→∀r,s.2.2.2.2.2.2.2.2[k']?=some r→Ue n l s r=0) (by omega) ⟨m,rfl,hm,fun k hk=>by omega⟩ ?_ ?_) ?_
  ·rintro k _ hk ⟨m,rfl,hm,hpk⟩
   have hy:s.2.2.2.2.2.2.2.2[k]?=some s.2.2.2.2.2.2.2.2[k]:=List.getElem?_eq_getElem hk
   have hmr:=List.getElem_mem hk
   generalize s.2.2.2.2.2.2.2.2[k]=r at hy hmr
   have atr:Ue n l s r≠0→JJ n l s=Ue n l s r:=fun hne=>Ud hy (fun k' y hk hy=>hpk k' hk y hy) hne
   refine ze (zR (show (k:Int) < (s.2.2.2.2.2.2.2.2.length:Int) by omega)) (zg (zy (n:=k) hy (zm (zHS ok (hs.rt r hmr).1 hm) ?_)))
   unfold Ue at atr
   rintro ⟨j,⟨a1,a2,a3,a4,⟨⟩⟩,c,⟨⟩⟩ ⟨hkc,⟨rfl,h1,h2⟩ | ⟨rfl,h1,h2,h3,h4⟩⟩
   ·simp only at h1 hkc
    subst h1
    rw [zQ h2,cond_true] at atr
    refine ze rfl ?_
    by_cases hcc:s.2.2.2.2.2.2.2.1 < (Zb n l r).1
    ·rw [zQ hcc,cond_true] at atr
     exact ze (zR hcc) (za (zp ⟨hkc,.inr ⟨rfl,(atr (by decide)).symm,by rw [atr (by decide)];decide⟩⟩))
    ·refine zf (zF hcc) (za (qg ⟨c,congrArg (fun z=>(((0:Int),(z,())),(c,()))) (qj (by omega)),hkc,fun k' hk' r' hr'=>?_⟩))
     rcases Nat.lt_or_ge k' k with h | h
     ·exact hpk k' h r' hr'
     ·have:k'=k:=by omega
      subst this
      rw [hy] at hr';cases hr'
      unfold Ue;rw [zQ h2,zX hcc];rfl
   ·simp only at h1 h2 hkc
    subst h1 h2
    rw [zX h3,cond_false] at atr
    exact zf rfl (ze (show (!zh (Zb n l r).2 0)=true by rw [qL h3];rfl) (za (zp ⟨hkc,.inr ⟨rfl,(atr h3).symm,by rw [atr h3];exact h3⟩⟩)))
  ·rintro _ ⟨m,rfl,hm,hpk⟩
   refine zf (zF (show ¬(s.2.2.2.2.2.2.2.2.length:Int) < (s.2.2.2.2.2.2.2.2.length:Int) by omega)) (za (zp ⟨hm,.inl ⟨rfl,rfl,zaH.2 fun r hr=>?_⟩⟩))
   obtain ⟨k,hk,hk2⟩:=jG hr
   exact hpk k hk r hk2
  ·rintro ⟨j,⟨v,w,⟨⟩⟩,c,⟨⟩⟩ ⟨hkc,⟨rfl,h1,hq⟩ | ⟨rfl,h1,hq⟩⟩
   ·simp only at h1 hkc
    subst h1
    refine ze rfl (za (qg ⟨c,congrArg (fun z=>(((0:Int),(z,())),(c,()))) (qj (by omega)),hkc,fun k' hk' s' hs'=>?_⟩))
    rcases Nat.lt_or_ge k' i with h | h
    ·exact hp k' h s' hs'
    ·have:k'=i:=by omega
     subst this
     rw [hx] at hs';cases hs';exact hq
   ·simp only at h1
    subst h1
    exact zf rfl (za (zp (.inr ⟨rfl,(at_ hq).symm,by rw [at_ hq];exact hq⟩)))
 ·rintro _ ⟨m,rfl,hm,hp⟩
  refine zf (zF (show ¬(l.length:Int) < (l.length:Int) by omega)) (za (zp (.inl ⟨rfl,zaH.2 fun s hs=>?_⟩)))
  obtain ⟨k,hk,hk2⟩:=jG hs
  exact hp k hk s hk2
 ·rintro ⟨j,⟨v,w,⟨⟩⟩,c,⟨⟩⟩ (⟨rfl,hq⟩ | ⟨rfl,h1,hq⟩)
  ·rw [hq];exact ze rfl (za rfl)
  ·exact zf rfl (za h1)
theorem zdw {n:Fab} {l:List qC} (h:xc n l=0):okP n l:=by
 unfold xc at h
 by_cases h1:zfY n l=0
 ·exact zCk h1
 ·rw [zX h1] at h;exact absurd h h1
noncomputable def zeh (n:Fab) (l:List qC) (s:qC):List qC×Int:=
 bif tv (xc n l=0) then bif tv (xb n.1 s) then bif tv (xc n (l++[s])=0) then (l++[s],0) else ([],xc n (l++[s])) else ([],321) else ([],xc n l)
theorem zuL {n:Fab} (hn:n.2.2.1.length≤1000000000000000000) (l:List qC) (s:qC):ke (n,l,s,())=some ((zeh n l s).1,(zeh n l s).2,()):=by
 rw [zr3];unfold ze6 zeh
 rw [zcs hn,zz]
 by_cases h:xc n l=0
 rotate_left
 ·rw [zX h,qL h];rfl
 have ok:=zdw h
 have h12:=ok.n12
 rw [zQ h,h,cond_true,show (!zh 0 0)=false from rfl,cond_false,zsn ok.f.t,zz]
 by_cases hs:xb n.1 s
 rotate_left
 ·rw [zX hs];rfl
 rw [zQ hs,cond_true,cond_true,show (!zh 0 0)=false from rfl,cond_false,zGy,zz]
 refine ve (ze (jC (by show (l.length+1)*96≤_;omega) (by show l.length+1≤_;omega)) ?_)
 rw [zcs hn,zz]
 by_cases h2:xc n (l++[s])=0
 ·rw [zQ h2]
  exact zf (show (!zh (xc n (l++[s])) 0)=false by rw [h2];rfl) (za rfl)
 ·rw [zX h2]
  exact ze (show (!zh (xc n (l++[s])) 0)=true by rw [qL h2];rfl) (za rfl)
theorem zuM {n:Fab} (hn:n.2.2.1.length≤1000000000000000000) (l:List qC) (s:qC):kg (n,l,s,())=some ((zeh n l s).1,(zeh n l s).2,()):=by
 rw [zsi];unfold zfh zeh
 rw [zcr hn,zz]
 by_cases h:xc n l=0
 rotate_left
 ·rw [zX h,qL h,cond_false,cond_false]
  refine ve (zm (J:=fun x=>x.2.1.1=xc n l) (za rfl) ?_)
  rintro ⟨j,⟨v,⟨⟩⟩,⟨⟩⟩ hv
  simp only at hv
  subst hv
  exact ze (show (!zh (xc n l) 0)=true by rw [qL h];rfl) (za rfl)
 have ok:=zdw h
 have h12:=ok.n12
 rw [zQ h,h,cond_true,show zh 0 0=true from rfl,cond_true,zux ok.f.t]
 by_cases hs:xb n.1 s
 rotate_left
 ·rw [zX hs];rfl
 rw [zQ hs,cond_true,cond_true]
 refine ve (zm (J:=fun x=>x.2.1.1=0) (za rfl) ?_)
 rintro ⟨j,⟨v,⟨⟩⟩,⟨⟩⟩ hv
 simp only at hv
 subst hv
 refine zf rfl (ze (jC (by show (0+l.length)*96≤_;omega) (by show 0+l.length≤_;omega)) (ze (jC (by show (l.length+1)*96≤_;omega) (by show l.length+1≤_;omega)) ?_))
 rw [zcr hn,zz]
 by_cases h2:xc n (l++[s])=0
 ·rw [zQ h2]
  exact zf (show (!zh (xc n (l++[s])) 0)=false by rw [h2];rfl) (za rfl)
 ·rw [zX h2]
  exact ze (show (!zh (xc n (l++[s])) 0)=true by rw [qL h2];rfl) (za rfl)
noncomputable def Uf (n:Fab) (l:List qC) (id:Int):List qC×Int:=
 bif tv (xc n l=0) then bif tv ((zaG l id).2=0) then (l.take (zaG l id).1.toNat++l.drop ((zaG l id).1.toNat+1),0) else ([],(zaG l id).2) else ([],xc n l)
theorem zp2 {n:Fab} (hn:n.2.2.1.length≤1000000000000000000) (l:List qC) (id:Int):xV (n,l,id,())=some ((Uf n l id).1,(Uf n l id).2,()):=by
 rw [zoy];unfold zcc Uf
 rw [zcs hn,zz]
 by_cases h:xc n l=0
 rotate_left
 ·rw [zX h,qL h];rfl
 have ok:=zdw h
 have h12:=ok.n12
 obtain ⟨i1,i2,i3⟩:=zE7 (l:=l) (by omega) id
 rw [zQ h,h,cond_true,show (!zh 0 0)=false from rfl,cond_false,i1,zz]
 rcases i3 with ⟨e0,i,s,ei,hx,_⟩ | ⟨e4,_⟩
 ·have hil:i < l.length:=by grind
  rw [e0,zQ rfl,cond_true,ei,show (!zh 0 0)=false from rfl,cond_false,zGz l i (by omega),zz,qj (by omega),znw l (i+1) (by omega),zz,Int.toNat_natCast]
  refine ve (ze (jC (by simp;omega) (by simp;omega)) (za rfl))
 ·rw [e4,zX (by simp)];rfl
theorem zp3 {n:Fab} (hn:n.2.2.1.length≤1000000000000000000) (l:List qC) (id:Int):xW (n,l,id,())=some ((Uf n l id).1,(Uf n l id).2,()):=by
 rw [zoA];unfold zce Uf
 rw [zcr hn,zz]
 by_cases h:xc n l=0
 rotate_left
 ·rw [zX h,qL h];rfl
 have ok:=zdw h
 have h12:=ok.n12
 obtain ⟨i1,i2,i3⟩:=zE7 (l:=l) (by omega) id
 rw [zQ h,h,cond_true,show (!zh 0 0)=false from rfl,cond_false,i2,zz]
 rcases i3 with ⟨e0,i,s,ei,hx,_⟩ | ⟨e4,_⟩
 ·have hil:i < l.length:=by grind
  rw [e0,zQ rfl,cond_true,ei,show (!zh 0 0)=false from rfl,cond_false,zph l i (by omega),zz]
  refine ve (ze (jC (by simp;omega) (by simp;omega)) ?_)
  rw [qj (by omega),znw l (i+1) (by omega),zz,Int.toNat_natCast]
  exact ze (jC (by simp;omega) (by simp;omega)) (za rfl)
 ·rw [e4,zX (by simp)];rfl
def u8 (l:List Int):Prop:=∀x∈l,0≤x∧x≤255
abbrev zoR:=Int×Int×List Int×List Int×List Int×List Int
structure tdP (d:zoR):Prop where
 b:0≤d.1∧d.1≤255
 s:0≤d.2.1∧d.2.1≤255
 c:u8 d.2.2.1
 h:u8 d.2.2.2.1
 p:u8 d.2.2.2.2.1
 e:u8 d.2.2.2.2.2
theorem UA {l:List Int} (hl:u8 l) {i:Int} (h0:0≤i):∃v,kY (l,i,())=some (v,())∧0≤v∧v≤255:=by
 have key:qu (kY (l,i,())) fun r=>0≤r.1∧r.1≤255:=by
  rw [ztd];unfold zgr
  refine zk (fun h=>?_) (fun h=>?_)
  ·have h:=qt h
   refine zg (qD h0 (by omega) fun x hx=>za ?_)
   have hm:=hl x (List.mem_of_getElem? hx)
   show 0≤wrF .i64 x∧wrF .i64 x≤255
   rw [zH (by omega) (by omega)];exact hm
  ·exact za ⟨Int.le_refl _,by show (0:Int)≤255;decide⟩
 obtain ⟨⟨v,⟨⟩⟩,e,h⟩:=key
 exact ⟨v,e,h⟩
theorem zoS {R:Type} {Q:R→Prop} {pers delays:List Int} {t:qk} (hs:szP t) {a b:Int} (hp:u8 pers) (hd:u8 delays) {KEEP KEEP2 KEEP3:Option R} {ADD:(Int×Unit)→(Int×Unit)→Option R}
  (e2:KEEP2=KEEP) (e3:KEEP3=KEEP)
  (hk:∀x y:Int,0≤x→x≤255→0≤y→y≤255→(t.2.2.length=24∨¬zdr t (a,(b,((wrF .i64 (1+(Int.tmod x 20))),(Int.tmod y 50))))∨∃o∈t.2.2,kh o a b)→qu KEEP Q)
  (ha:∀x y:Int,0≤x→x≤255→0≤y→y≤255→t.2.2.length≠24→zdr t (a,(b,((wrF .i64 (1+(Int.tmod x 20))),(Int.tmod y 50))))→(∀o∈t.2.2,¬kh o a b)→qu (ADD (x,()) (y,())) Q) :
  qu (opt (kY ((pers,((((t.2.2).length:Nat):Int),())))) fun x3=>
   opt (kY ((delays,((((t.2.2).length:Nat):Int),())))) fun x4=>
   bif (zh ((((t.2.2).length:Nat):Int)) (24)) then KEEP
   else opt (uE (((t.1,(t.2.1,t.2.2)),((a,(b,((wrF .i64 ((1+(Int.tmod x3.1 20)))),(Int.tmod x4.1 50)))),())))) fun x5=>
    bif (!x5.1) then KEEP2
    else opt (zD (fun s6:(((Int×((List Bool)×(List (Int×(Int×(Int×Int))))))×(Int×Unit))×Unit)=>
      bif (zj (s6.1.2.1) ((((t.2.2).length:Nat):Int))) then opt (atI (t.2.2) (s6.1.2.1)) fun x7=>
       opt (gl (t.2.2) ((Int.toNat s6.1.2.1))) fun x8=>
       opt (xw ((x8,(a,(b,()))))) fun x9=>
       bif x9.1 then some (.inl s6)
       else some (.inr ((s6.1.1,((wrF .i64 ((s6.1.2.1+1))),())),()))
      else some (.inl s6)) zL (((0,([],[])),(0,())),())) fun x10=>
     bif (zj (x10.1.2.1) ((((t.2.2).length:Nat):Int))) then opt (atI (t.2.2) (x10.1.2.1)) fun x11=>
      opt (gl (t.2.2) ((Int.toNat x10.1.2.1))) fun x12=>
      opt (xw ((x12,(a,(b,()))))) fun x13=>
      bif x13.1 then KEEP3
      else none
     else bif (qK ((t.2.2).length) ((((a,(b,((wrF .i64 ((1+(Int.tmod x3.1 20)))),(Int.tmod x4.1 50))))::[])).length) (32)) then ADD x3 x4
      else none) Q:=by
 subst e2 e3
 have hl:=hs.ls
 obtain ⟨x,ex,x0,x1⟩:=UA hp (i:=(t.2.2.length:Int)) (by omega)
 obtain ⟨y,ey,y0,y1⟩:=UA hd (i:=(t.2.2.length:Int)) (by omega)
 rw [ex,zz,ey,zz]
 refine zk (fun h24=>hk x y x0 x1 y0 y1 (.inl (by have:=qR h24;omega))) (fun h24=>?_)
 have h24:t.2.2.length≠24:=fun e=>jk h24 (by rw [e];rfl)
 rw [show ((t.1,(t.2.1,t.2.2)):qk)=t from rfl,zjX hs,zz]
 refine zk (fun hlk=>hk x y x0 x1 y0 y1 (.inr (.inl (ye hlk)))) (fun hlk=>?_)
 have hlk:=yW hlk
 refine zm (J:=fun s=>∃(i:Nat),s=(((0,([],[])),((i:Int),())),())∧((i=t.2.2.length∧∀o∈t.2.2,¬kh o a b)∨∃o,t.2.2[i]?=some o∧kh o a b)) (zU t.2.2.length (fun i s=>s=(((0,([],[])),((i:Int),())),())∧∀(k:Nat) o,k < i→t.2.2[k]?=some o→¬kh o a b) (by omega) ⟨rfl,fun k o hk=>by omega⟩ ?_ ?_) ?_
 ·rintro i _ hi ⟨rfl,hp⟩
  have hx:t.2.2[i]?=some t.2.2[i]:=List.getElem?_eq_getElem hi
  generalize t.2.2[i]=o at hx
  refine ze (zR (show (i:Int) < (t.2.2.length:Int) by omega)) (zg (zy (n:=i) hx (zg (qn (a:=o) (by show gl t.2.2 (Int.toNat (i:Int))=_;rw [Int.toNat_natCast,xm];exact hx) ?_))))
  rw [zcg,zz]
  refine zk (fun h=>?_) (fun h=>?_)
  ·exact za (zp ⟨i,rfl,.inr ⟨o,hx,ZH h⟩⟩)
  ·refine za (qg ⟨congrArg (fun z=>((_,(z,())),())) (qj (by omega)),fun k o' hk ho=>?_⟩)
   rcases Nat.lt_or_ge k i with h1 | h1
   ·exact hp k o' h1 ho
   ·have:k=i:=by omega
    subst this
    rw [hx] at ho;cases ho
    exact Zf h
 ·rintro _ ⟨rfl,hp⟩
  refine zf (zF (show ¬(t.2.2.length:Int) < (t.2.2.length:Int) by omega)) (za (zp ⟨t.2.2.length,rfl,.inl ⟨rfl,fun o ho=>?_⟩⟩))
  obtain ⟨k,hk,hk2⟩:=jG ho
  exact hp k o hk hk2
 ·rintro _ ⟨i,rfl,⟨rfl,hno⟩ | ⟨o,hx,hj⟩⟩
  ·exact zf (zF (show ¬(t.2.2.length:Int) < (t.2.2.length:Int) by omega)) (ze (jC (by show (t.2.2.length+1)*32≤_;omega) (by show t.2.2.length+1≤_;omega)) (ha x y x0 x1 y0 y1 h24 hlk hno))
  ·have hil:i < t.2.2.length:=by grind
   refine ze (zR (show (i:Int) < (t.2.2.length:Int) by omega)) (zg (zy (n:=i) hx (zg (qn (a:=o) (by show gl t.2.2 (Int.toNat (i:Int))=_;rw [Int.toNat_natCast,xm];exact hx) ?_))))
   rw [zcg,zz,zQ hj]
   exact ze rfl (hk x y x0 x1 y0 y1 (.inr (.inr ⟨o,List.mem_of_getElem? hx,hj⟩)))
def sts (b c:Nat):List Bool:=(List.range (b+c)).map fun n=>decide (b≤n)
def tOf (b c:Nat) (ls:List ya):qk:=(((b+c:Nat):Int),sts b c,ls)
theorem zCm (b c:Nat):(sts b c).length=b+c:=by simp [sts]
theorem zA6 {b c:Nat} {ls:List ya} {n:Nat} (h:n < b+c):stn (tOf b c ls) (n:Int)=decide (b≤n):=by
 unfold stn tOf sts
 simp [h]
structure Dr (b c:Nat) (ls:List ya):Prop where
 b1:1≤b
 b6:b≤6
 c2:2≤c
 c6:c≤6
 n24:ls.length≤24
 ok:zdP (tOf b c ls)
theorem Dr.sz {b c:Nat} {ls:List ya} (h:Dr b c ls):szP (tOf b c ls):=by
 have:=h.b1;have:=h.b6;have:=h.c2;have:=h.c6
 refine ⟨?_,?_,?_,h.n24⟩
 ·show 2≤((b+c:Nat):Int);omega
 ·show ((b+c:Nat):Int)≤12;omega
 ·show (((sts b c).length:Nat):Int)=((b+c:Nat):Int);rw [zCm]
theorem Dr.add {b c:Nat} {ls:List ya} (h:Dr b c ls) {l:ya} (h24:ls.length≠24) (hl:zdr (tOf b c ls) l) (hj:∀o∈ls,¬kh o l.1 l.2.1):Dr b c (ls++[l]):=by
 refine ⟨h.b1,h.b6,h.c2,h.c6,by have:=h.n24;simp;omega,fun i l' hi=>?_⟩
 have hi:(ls++[l])[i]?=some l':=hi
 rcases Nat.lt_or_ge i ls.length with h1 | h1
 ·rw [List.getElem?_append_left h1] at hi
  obtain ⟨h2,h3⟩:=h.ok i l' hi
  refine ⟨h2,fun k o hk ho=>h3 k o hk ?_⟩
  have ho:(ls++[l])[k]?=some o:=ho
  rw [List.getElem?_append_left (by omega)] at ho
  exact ho
 ·have hil:i=ls.length:=by
   have:i < (ls++[l]).length:=by grind
   simp at this;omega
  subst hil
  rw [List.getElem?_append_right (Nat.le_refl _),Nat.sub_self] at hi
  simp at hi;subst hi
  refine ⟨hl,fun k o hk ho=>?_⟩
  have ho:(ls++[l])[k]?=some o:=ho
  rw [List.getElem?_append_left hk] at ho
  exact hj o (List.mem_of_getElem? ho)
theorem zlk (ls:List ya) (l:ya) (n:Nat):cnt (ls++[l]) n=cnt ls n+(one l.1 n+one l.2.1 n):=by
 unfold cnt;simp
theorem zCn {b c:Nat} {ls:List ya} {m n:Nat} {x y:Int} (hm:m < b+c) (hn:n < b+c) (hne:m≠n) (hs:m < b∨n < b) (x0:0≤x) (x1:x≤255) (y0:0≤y) (y1:y≤255) :
  zdr (tOf b c ls) ((m:Int),((n:Int),((wrF .i64 (1+(Int.tmod x 20))),(Int.tmod y 50)))):=by
 have ex:Int.tmod x 20=x % 20:=Int.tmod_eq_emod_of_nonneg x0
 have ey:Int.tmod y 50=y % 50:=Int.tmod_eq_emod_of_nonneg y0
 have ew:wrF .i64 (1+x % 20)=1+x % 20:=zH (by omega) (by omega)
 unfold zdr jf
 rw [ex,ey,ew]
 simp only
 refine ⟨⟨by omega,by show (m:Int) < ((b+c:Nat):Int);omega⟩,⟨by omega,by show (n:Int) < ((b+c:Nat):Int);omega⟩,by omega,?_,by omega,by omega,by omega,by omega⟩
 rw [zA6 hm,zA6 hn]
 simp only [decide_eq_true_eq]
 omega
structure Vr (b c k s:Nat) (ls:List ya):Prop where
 ch:∀i,i < k→∃p d,ls[i]?=some ((i:Int),((i+1:Nat):Int),p,d)
 ho:∀i,i < s→∃(h:Nat) (p d:Int),ls[k+i]?=some (((b+i:Nat):Int),(h:Int),p,d)∧h < b
theorem Vr.app {b c k s:Nat} {ls:List ya} (h:Vr b c k s ls) (l:List ya):Vr b c k s (ls++l):=by
 refine ⟨fun i hi=>?_,fun i hi=>?_⟩
 ·obtain ⟨p,d,e⟩:=h.ch i hi
  exact ⟨p,d,by rw [List.getElem?_append_left (by grind)];exact e⟩
 ·obtain ⟨q,p,d,e,h2⟩:=h.ho i hi
  exact ⟨q,p,d,by rw [List.getElem?_append_left (by grind)];exact e,h2⟩
theorem zsv {r:List Bool} {l:ya} {n:Nat} (h:r[n]?=some true):(stp r l)[n]?=some true:=by
 unfold stp
 cases (r[l.1.toNat]?).getD false||(r[l.2.1.toNat]?).getD false with
 |false=>exact h
 |true=>
  have hn:n < r.length:=by grind
  show ((r.set l.1.toNat true).set l.2.1.toNat true)[n]?=some true
  rw [List.getElem?_set,List.getElem?_set]
  grind
theorem zoT {n:Nat}:∀(ls:List ya) {r:List Bool},r[n]?=some true→(ls.foldl stp r)[n]?=some true
 |[],r,h=>h
 |l::ls,r,h=>zoT ls (zsv h)
theorem zxo {ls:List ya} {n:Nat}:∀(k:Nat) {r:List Bool},r[n]?=some true→(UO ls k r)[n]?=some true
 |0,r,h=>h
 |k+1,r,h=>zxo k (zoT ls h)
theorem zCo {r:List Bool} {l:ya} {m n:Nat} (hm:r[m]?=some true) (hn:n < r.length) (h:(l.1.toNat=m∧l.2.1.toNat=n)∨(l.1.toNat=n∧l.2.1.toNat=m)):(stp r l)[n]?=some true:=by
 have hml:m < r.length:=by grind
 have e:((r[l.1.toNat]?).getD false||(r[l.2.1.toNat]?).getD false)=true:=by
  rcases h with ⟨h1,h2⟩ | ⟨h1,h2⟩
  ·rw [h1,hm];rfl
  ·rw [h2,hm,Option.getD_some,Bool.or_true]
 unfold stp
 rw [e,cond_true,List.getElem?_set,List.getElem?_set]
 grind
theorem zxp {ls:List ya} {i:Nat} {l:ya} (h:ls[i]?=some l) (r:List Bool):(ls.take (i+1)).foldl stp r=stp ((ls.take i).foldl stp r) l:=by
 rw [List.take_add_one,h,List.foldl_append];rfl
theorem zE8 {b c:Nat} {ls:List ya} (hb:1≤b) (hc:1≤c) (h:Vr b c (b - 1) c ls) (n:Nat) (hn:n < b+c):(reachS (tOf b c ls) 0)[n]?=some true:=by
 have hN:(tOf b c ls).1.toNat=b+c:=by show (((b+c:Nat):Int)).toNat=_;omega
 unfold reachS
 rw [hN]
 obtain ⟨k,hk⟩:∃k,b+c=k+1:=⟨b+c - 1,by omega⟩
 rw [show UO (tOf b c ls).2.2 (b+c)=UO ls (k+1) from by rw [hk];rfl]
 show (UO ls k (ls.foldl stp ((List.replicate (b+c) false).set 0 true)))[n]?=some true
 refine zxo k ?_
 generalize hr:(List.replicate (b+c) false).set 0 true=r0
 have hl:r0.length=b+c:=by rw [←hr];simp
 have h00:r0[0]?=some true:=by
  rw [←hr]
  exact List.getElem?_set_self (by rw [List.length_replicate];omega)
 have chain:∀i,i≤b - 1→∀j,j≤i→((ls.take i).foldl stp r0)[j]?=some true:=by
  intro i
  induction i with
  |zero=>
       intro _ j hj;have:j=0:=by omega
       subst this;exact h00
  |succ i ih=>
   intro hi j hj
   obtain ⟨p,d,e⟩:=h.ch i (by omega)
   rw [zxp e]
   rcases Nat.lt_or_ge j (i+1) with h1 | h1
   ·exact zsv (ih (by omega) j (by omega))
   ·have:j=i+1:=by omega
    subst this
    exact zCo (m:=i) (ih (by omega) i (Nat.le_refl _)) (by rw [zhF,hl];omega) (.inl ⟨by simp,by simp⟩)
 have home:∀i,i≤c→∀j,j < b+i→((ls.take (b - 1+i)).foldl stp r0)[j]?=some true:=by
  intro i
  induction i with
  |zero=>intro _ j hj;exact chain (b - 1) (Nat.le_refl _) j (by omega)
  |succ i ih=>
   intro hi j hj
   obtain ⟨q,p,d,e,hq⟩:=h.ho i (by omega)
   rw [show b - 1+(i+1)=b - 1+i+1 from rfl,zxp e]
   rcases Nat.lt_or_ge j (b+i) with h1 | h1
   ·exact zsv (ih (by omega) j h1)
   ·have:j=b+i:=by omega
    subst this
    exact zCo (m:=q) (ih (by omega) q (by omega)) (by rw [zhF,hl];omega) (.inr ⟨by show (((b+i:Nat):Int)).toNat=b+i;exact Int.toNat_natCast _,by simp⟩)
 have:=home c (Nat.le_refl _) n hn
 have e:ls.foldl stp r0=(ls.drop (b - 1+c)).foldl stp ((ls.take (b - 1+c)).foldl stp r0):=by
  rw [←List.foldl_append,List.take_append_drop]
 rw [e]
 exact zoT _ this
theorem zA7 {i:Nat} (h1:1≤i) (h:i≤1000000):wrF .i64 ((i:Int) - 1)=((i - 1:Nat):Int):=by rw [zH]<;>omega
theorem zA8 (n:Nat):one (n:Int) n=1:=by unfold one;rw [if_pos rfl]
theorem Ge {m n:Nat} (h:m≠n):one (m:Int) n=0:=by unfold one;rw [if_neg (by omega)]
theorem zE9 {b c:Nat} {ls:List ya} (h:Dr b c ls) (hb:Vr b c (b - 1) c ls) (hd:∀n,b≤n→n < b+c→1≤cnt ls n∧cnt ls n≤2):jz (tOf b c ls):=by
 have:=h.b1;have:=h.c2
 refine ⟨h.sz,h.ok,fun n hn=>zE8 h.b1 (by omega) hb n ?_,fun n hn hs=>?_⟩
 ·have hn:(n:Int) < ((b+c:Nat):Int):=hn
  omega
 ·have hn:(n:Int) < ((b+c:Nat):Int):=hn
  rw [zA6 (by omega)] at hs
  exact hd n (of_decide_eq_true hs) (by omega)
theorem zuN {d:zoR} (hd:tdP d):∃b c ls,wJ (d,())=some (tOf b c ls,())∧jz (tOf b c ls)∧1≤ls.length:=by
 obtain ⟨d0,d1⟩:=hd.b
 obtain ⟨e0,e1⟩:=hd.s
 have eb:wrF .i64 (1+wrF .i64 (Int.tmod d.1 6))=1+d.1 % 6:=by
  rw [Int.tmod_eq_emod_of_nonneg d0,zH (z:=d.1 % 6) (by omega) (by omega),zH (by omega) (by omega)]
 have ec:wrF .i64 (2+wrF .i64 (Int.tmod d.2.1 5))=2+d.2.1 % 5:=by
  rw [Int.tmod_eq_emod_of_nonneg e0,zH (z:=d.2.1 % 5) (by omega) (by omega),zH (by omega) (by omega)]
 obtain ⟨b,hb,b1,b6⟩:∃b:Nat,1+d.1 % 6=(b:Int)∧1≤b∧b≤6:=⟨(1+d.1 % 6).toNat,by omega,by omega,by omega⟩
 obtain ⟨c,hc,c2,c6⟩:∃c:Nat,2+d.2.1 % 5=(c:Int)∧2≤c∧c≤6:=⟨(2+d.2.1 % 5).toNat,by omega,by omega,by omega⟩
 rw [hb] at eb;rw [hc] at ec
 suffices key:qu (wJ (d,())) fun r=>∃ls,r.1=tOf b c ls∧jz (tOf b c ls)∧1≤ls.length by
  obtain ⟨⟨t,⟨⟩⟩,e,ls,h1,h2,h3⟩:=key
  simp only at h1
  subst h1
  exact ⟨b,c,ls,e,h2,h3⟩
 have eN:wrF .i64 ((b:Int)+(c:Int))=((b+c:Nat):Int):=by rw [zH]<;>omega
 have bnz:zh (b:Int) 0=false:=qL (by omega)
 have dr0:Dr b c []:=⟨b1,b6,c2,c6,by simp,fun i l h=>by cases h⟩
 rw [zjt];unfold KK
 simp only [eb,ec,eN]
 refine zm (J:=fun x=>x.2.2.1=(((b+c:Nat):Int),(sts b c,([],())))) (zU (b+c) (fun i s=>s=(((),((i:Int),())),((((b+c:Nat):Int),((sts b c).take i,([],()))),()))) (by omega) rfl ?_ ?_) ?_
 ·rintro i _ hi rfl
  have hx:(sts b c)[i]?=some (decide (b≤i)):=by unfold sts;simp [hi]
  refine ze (zR (show (i:Int) < ((b+c:Nat):Int) by omega)) (ze (jC (by show (((sts b c).take i).length+1)*1≤_;simp;omega) (by show ((sts b c).take i).length+1≤_;simp;omega)) (za (qg ?_)))
  have eo:(!zj (i:Int) (b:Int))=decide (b≤i):=by
   rw [xl]
   by_cases h:b≤i
   ·rw [decide_eq_true h,decide_eq_false (by omega)];rfl
   ·rw [decide_eq_false h,decide_eq_true (by omega)];rfl
  show (((),((wrF .i64 ((i:Int)+1)),())),((((b+c:Nat):Int),(((sts b c).take i++[(!zj (i:Int) (b:Int))]),([],()))),()))=_
  rw [eo,qj (by omega),List.take_add_one,hx];rfl
 ·rintro _ rfl
  refine zf (zF (show ¬((b+c:Nat):Int) < ((b+c:Nat):Int) by omega)) (za (zp ?_))
  show (((b+c:Nat):Int),((sts b c).take (b+c),([],())))=_
  rw [List.take_of_length_le (by rw [zCm];omega)]
 rintro ⟨j,⟨⟨⟩,w,⟨⟩⟩,⟨q,⟨⟩⟩⟩ hq
 simp only at hq
 subst hq
 refine zm (J:=fun x=>x.2.1.1=d∧∃ls,x.2.2.1=(((b+c:Nat):Int),(sts b c,(ls,())))∧Dr b c ls∧Vr b c (b - 1) 0 ls∧ls.length=b - 1)
  (zU (b - 1) (fun i s=>∃ls,s=((d,((),(((i+1:Nat):Int),()))),((((b+c:Nat):Int),(sts b c,(ls,()))),()))∧Dr b c ls∧Vr b c i 0 ls∧ls.length=i) (by omega) ⟨[],rfl,dr0,⟨fun i h=>by omega,fun i h=>by omega⟩,rfl⟩ ?_ ?_) ?_
 ·rintro i _ hi ⟨ls,rfl,dr,ba,hl⟩
  refine ze (zR (show ((i+1:Nat):Int) < (b:Int) by omega)) ?_
  have ep:wrF .i64 (((i+1:Nat):Int) - 1)=(i:Int):=by rw [zA7 (by omega) (by omega)];rfl
  have eq:wrF .i64 (((i+1:Nat):Int)+1)=((i+1+1:Nat):Int):=qj (by omega)
  simp only [ep,eq]
  have links:∀o∈ls,¬kh o (i:Int) ((i+1:Nat):Int):=by
   intro o ho hj
   obtain ⟨k,hk,hk2⟩:=jG ho
   obtain ⟨p,d',e⟩:=ba.ch k (by omega)
   rw [hk2] at e
   cases e
   unfold kh at hj
   simp only at hj
   omega
  refine zoS (t:=tOf b c ls) dr.sz (a:=(i:Int)) (b:=((i+1:Nat):Int)) hd.p hd.e rfl rfl ?_ ?_
  ·intro x y x0 x1 y0 y1 hbad
   exfalso
   rcases hbad with h | h | ⟨o,ho,hj⟩
   ·have h:ls.length=24:=h
    omega
   ·exact h (zCn (m:=i) (n:=i+1) (by omega) (by omega) (by omega) (.inl (by omega)) x0 x1 y0 y1)
   ·exact links o ho hj
  ·intro x y x0 x1 y0 y1 h24 hlk hno
   refine za (qg ⟨ls++[_],rfl,dr.add h24 hlk hno,⟨fun k hk=>?_,fun k hk=>by omega⟩,by simp [hl]⟩)
   rcases Nat.lt_or_ge k i with h1 | h1
   ·exact (ba.app _).ch k h1
   ·have:k=i:=by omega
    subst this
    exact ⟨_,_,by rw [←hl,List.getElem?_append_right (Nat.le_refl _),Nat.sub_self];rfl⟩
 ·rintro _ ⟨ls,rfl,dr,ba,hl⟩
  exact zf (zF (show ¬((b - 1+1:Nat):Int) < (b:Int) by omega)) (za (zp ⟨rfl,ls,rfl,dr,ba,hl⟩))
 rintro ⟨j,⟨q,⟨⟩,w,⟨⟩⟩,⟨u,⟨⟩⟩⟩ ⟨hq,ls0,hu,dr,ba,hl⟩
 simp only at hq hu
 subst hq hu
 have z0:∀n,b≤n→n < b+c→cnt ls0 n=0:=by
  intro n hn hn2
  have key:∀k,k≤b - 1→cnt (ls0.take k) n=0:=by
   intro k
   induction k with
   |zero=>intro _;simp [cnt]
   |succ k ih=>
    intro hk
    obtain ⟨p,d',e⟩:=ba.ch k (by omega)
    rw [zAT e,ih (by omega),Ge (show k≠n by omega),Ge (show k+1≠n by omega)];rfl
  have:=key (b - 1) (Nat.le_refl _)
  rwa [List.take_of_length_le (by omega)] at this
 refine zm (J:=fun x=>x.2.1.1=q∧∃ls,x.2.2.1=(((b+c:Nat):Int),(sts b c,(ls,())))∧Dr b c ls∧Vr b c (b - 1) c ls∧ls.length=b - 1+c∧∀n,b≤n→n < b+c→cnt ls n=1)
  (zU c (fun i s=>∃ls,s=((q,((),((i:Int),()))),((((b+c:Nat):Int),(sts b c,(ls,()))),()))∧Dr b c ls∧Vr b c (b - 1) i ls∧ls.length=b - 1+i∧∀n,b≤n→n < b+c→cnt ls n=if n < b+i then 1 else 0) (by omega) ⟨ls0,rfl,dr,ba,by omega,fun n h1 h2=>by rw [z0 n h1 h2,if_neg (by omega)]⟩ ?_ ?_) ?_
 ·rintro i _ hi ⟨ls,rfl,dr,ba,hl,hcn⟩
  refine ze (zR (show (i:Int) < (c:Int) by omega)) ?_
  have e2:wrF .i64 (2*(i:Int))=((2*i:Nat):Int):=by rw [zH]<;>omega
  have e3:wrF .i64 ((b:Int)+(i:Int))=((b+i:Nat):Int):=by rw [zH]<;>omega
  have eq:wrF .i64 ((i:Int)+1)=((i+1:Nat):Int):=qj (by omega)
  obtain ⟨x,ex,x0,x1⟩:=UA hd.h (i:=((2*i:Nat):Int)) (by omega)
  simp only [e2,e3,eq,ex,zz,bnz,cond_false]
  obtain ⟨hh,ehh,hhb⟩:∃hh:Nat,Int.tmod x (b:Int)=(hh:Int)∧hh < b:=⟨(x % (b:Int)).toNat,by rw [Int.tmod_eq_emod_of_nonneg x0];have:=Int.emod_nonneg x (show (b:Int)≠0 by omega);omega,by have:=Int.emod_lt_of_pos x (show 0 < (b:Int) by omega);have:=Int.emod_nonneg x (show (b:Int)≠0 by omega);omega⟩
  simp only [ehh]
  have links:∀o∈ls,¬kh o ((b+i:Nat):Int) (hh:Int):=by
   intro o ho hj
   obtain ⟨k,hk,hk2⟩:=jG ho
   unfold kh at hj
   rcases Nat.lt_or_ge k (b - 1) with h1 | h1
   ·obtain ⟨p,d',e⟩:=ba.ch k h1
    rw [hk2] at e
    cases e
    simp only at hj
    omega
   ·obtain ⟨q',p,d',e,hqb⟩:=ba.ho (k - (b - 1)) (by omega)
    rw [show b - 1+(k - (b - 1))=k by omega,hk2] at e
    cases e
    simp only at hj
    omega
  refine zoS (t:=tOf b c ls) dr.sz (a:=((b+i:Nat):Int)) (b:=(hh:Int)) hd.p hd.e rfl rfl ?_ ?_
  ·intro x y x0 x1 y0 y1 hbad
   exfalso
   rcases hbad with h | h | ⟨o,ho,hj⟩
   ·have h:ls.length=24:=h
    omega
   ·exact h (zCn (m:=b+i) (n:=hh) (by omega) (by omega) (by omega) (.inr hhb) x0 x1 y0 y1)
   ·exact links o ho hj
  ·intro x y x0 x1 y0 y1 h24 hlk hno
   refine za (qg ⟨ls++[_],rfl,dr.add h24 hlk hno,⟨fun k hk=>(ba.app _).ch k hk,fun k hk=>?_⟩,by simp [hl];omega,fun n h1 h2=>?_⟩)
   ·rcases Nat.lt_or_ge k i with h1 | h1
    ·exact (ba.app _).ho k h1
    ·have:k=i:=by omega
     subst this
     exact ⟨hh,_,_,by rw [←hl,List.getElem?_append_right (Nat.le_refl _),Nat.sub_self];rfl,hhb⟩
   ·rw [zlk,hcn n h1 h2]
    simp only
    rw [Ge (show hh≠n by omega)]
    by_cases h:n=b+i
    ·subst h
     rw [zA8,if_neg (by omega),if_pos (by omega)];rfl
    ·rw [Ge (show b+i≠n by omega)]
     by_cases h3:n < b+i
     ·rw [if_pos h3,if_pos (by omega)];rfl
     ·rw [if_neg h3,if_neg (by omega)];rfl
 ·rintro _ ⟨ls,rfl,dr,ba,hl,hcn⟩
  exact zf (zF (show ¬(c:Int) < (c:Int) by omega)) (za (zp ⟨rfl,ls,rfl,dr,ba,hl,fun n h1 h2=>by rw [hcn n h1 h2,if_pos h2]⟩))
 clear dr ba hl z0
 rintro ⟨j,⟨q',⟨⟩,w',⟨⟩⟩,⟨u,⟨⟩⟩⟩ ⟨hq,ls0,hu,dr,ba,hl,hcn⟩
 simp only at hq hu
 subst hq hu
 refine zm (J:=fun x=>x.2.1.1=q'∧∃ls,x.2.2.1=(((b+c:Nat):Int),(sts b c,(ls,())))∧Dr b c ls∧Vr b c (b - 1) c ls∧ls.length≤b+c∧∀n,b≤n→n < b+c→cnt ls n=1) ?_ ?_
 ·have keep:qu (some ((0:Nat),((q',((),())),((((b+c:Nat):Int),(sts b c,(ls0,()))),())))) fun x=>x.2.1.1=q'∧∃ls,x.2.2.1=(((b+c:Nat):Int),(sts b c,(ls,())))∧Dr b c ls∧Vr b c (b - 1) c ls∧ls.length≤b+c∧∀n,b≤n→n < b+c→cnt ls n=1:=
   za ⟨rfl,ls0,rfl,dr,ba,by omega,hcn⟩
  refine zk (fun hb2=>zk (fun _=>?_) (fun _=>keep)) (fun _=>keep)
  have hb2:=qt hb2
  have ep:wrF .i64 ((b:Int) - 1)=((b - 1:Nat):Int):=zA7 (by omega) (by omega)
  simp only [ep]
  refine zoS (t:=tOf b c ls0) dr.sz (a:=((b - 1:Nat):Int)) (b:=0) hd.p hd.e rfl rfl (fun x y x0 x1 y0 y1 _=>keep) ?_
  intro x y x0 x1 y0 y1 h24 hlk hno
  refine za ⟨rfl,ls0++[_],rfl,dr.add h24 hlk hno,ba.app _,by simp;omega,fun n h1 h2=>?_⟩
  rw [zlk,hcn n h1 h2]
  simp only
  rw [Ge (show b - 1≠n by omega),show one 0 n=0 from Ge (m:=0) (by omega)];rfl
 clear dr ba hl hcn
 rintro ⟨j,⟨q,⟨⟩,⟨⟩⟩,⟨u,⟨⟩⟩⟩ ⟨hq,ls0,hu,dr,ba,hl,hcn⟩
 simp only at hq hu
 subst hq hu
 refine zm (J:=fun x=>x.2.1.1=q∧∃ls,x.2.2.1=(((b+c:Nat):Int),(sts b c,(ls,())))∧Dr b c ls∧Vr b c (b - 1) c ls∧∀n,b≤n→n < b+c→1≤cnt ls n∧cnt ls n≤2)
  (zU c (fun i s=>∃ls,s=((q,((),((i:Int),()))),((((b+c:Nat):Int),(sts b c,(ls,()))),()))∧Dr b c ls∧Vr b c (b - 1) c ls∧∀n,b≤n→n < b+c→1≤cnt ls n∧cnt ls n≤if n < b+i then 2 else 1) (by omega) ⟨ls0,rfl,dr,ba,fun n h1 h2=>by rw [hcn n h1 h2];split<;>omega⟩ ?_ ?_) ?_
 ·rintro i _ hi ⟨ls,rfl,dr,ba,hcn⟩
  refine ze (zR (show (i:Int) < (c:Int) by omega)) ?_
  have e2:wrF .i64 ((wrF .i64 (2*(i:Int)))+1)=((2*i+1:Nat):Int):=by rw [zH (z:=2*(i:Int)) (by omega) (by omega),zH (by omega) (by omega)];omega
  have e3:wrF .i64 ((b:Int)+(i:Int))=((b+i:Nat):Int):=by rw [zH]<;>omega
  have eq:wrF .i64 ((i:Int)+1)=((i+1:Nat):Int):=qj (by omega)
  obtain ⟨x,ex,x0,x1⟩:=UA hd.h (i:=((2*i+1:Nat):Int)) (by omega)
  simp only [e2,e3,eq,ex,zz,bnz,cond_false]
  obtain ⟨hh,ehh,hhb⟩:∃hh:Nat,Int.tmod x (b:Int)=(hh:Int)∧hh < b:=⟨(x % (b:Int)).toNat,by rw [Int.tmod_eq_emod_of_nonneg x0];have:=Int.emod_nonneg x (show (b:Int)≠0 by omega);omega,by have:=Int.emod_lt_of_pos x (show 0 < (b:Int) by omega);have:=Int.emod_nonneg x (show (b:Int)≠0 by omega);omega⟩
  simp only [ehh]
  refine zm (J:=fun x=>x.2.1.1=q∧∃ls,x.2.2.1=(((b+c:Nat):Int),(sts b c,(ls,())))∧Dr b c ls∧Vr b c (b - 1) c ls∧∀n,b≤n→n < b+c→1≤cnt ls n∧cnt ls n≤if n < b+(i+1) then 2 else 1) ?_ ?_
  ·have keep:qu (some ((0:Nat),((q,((),())),((((b+c:Nat):Int),(sts b c,(ls,()))),())))) fun x=>x.2.1.1=q∧∃ls,x.2.2.1=(((b+c:Nat):Int),(sts b c,(ls,())))∧Dr b c ls∧Vr b c (b - 1) c ls∧∀n,b≤n→n < b+c→1≤cnt ls n∧cnt ls n≤if n < b+(i+1) then 2 else 1:=
    za ⟨rfl,ls,rfl,dr,ba,fun n h1 h2=>by
     have:=hcn n h1 h2
     split at this<;>split<;>omega⟩
   refine zk (fun _=>?_) (fun _=>keep)
   refine zoS (t:=tOf b c ls) dr.sz (a:=((b+i:Nat):Int)) (b:=(hh:Int)) hd.p hd.e rfl rfl (fun x y x0 x1 y0 y1 _=>keep) ?_
   intro x y x0 x1 y0 y1 h24 hlk hno
   refine za ⟨rfl,ls++[_],rfl,dr.add h24 hlk hno,ba.app _,fun n h1 h2=>?_⟩
   have h3:=hcn n h1 h2
   rw [zlk]
   simp only
   rw [Ge (show hh≠n by omega)]
   by_cases h:n=b+i
   ·subst h
    rw [zA8]
    rw [if_neg (by omega)] at h3
    rw [if_pos (by omega)];omega
   ·rw [Ge (show b+i≠n by omega)]
    split at h3<;>split<;>omega
  ·rintro ⟨j,⟨q',⟨⟩,⟨⟩⟩,⟨u,⟨⟩⟩⟩ ⟨hq,ls',hu,dr,ba,hcn⟩
   simp only at hq hu
   subst hq hu
   exact za (qg ⟨ls',rfl,dr,ba,hcn⟩)
 ·rintro _ ⟨ls,rfl,dr,ba,hcn⟩
  exact zf (zF (show ¬(c:Int) < (c:Int) by omega)) (za (zp ⟨rfl,ls,rfl,dr,ba,fun n h1 h2=>by have:=hcn n h1 h2;rwa [if_pos h2] at this⟩))
 clear dr ba hl hcn
 rintro ⟨j,⟨q',⟨⟩,w',⟨⟩⟩,⟨u,⟨⟩⟩⟩ ⟨hq,ls0,hu,dr,ba,hcn⟩
 simp only at hq hu
 subst hq hu
 refine zm (J:=fun x=>∃ls,x.2.2.1=(((b+c:Nat):Int),(sts b c,(ls,())))∧Dr b c ls∧Vr b c (b - 1) c ls∧∀n,b≤n→n < b+c→1≤cnt ls n∧cnt ls n≤2)
  (znv (fun s=>∃(i:Nat) (ls:List ya),s=((q',((),((i:Int),()))),((((b+c:Nat):Int),(sts b c,(ls,()))),()))∧i≤13∧Dr b c ls∧Vr b c (b - 1) c ls∧∀n,b≤n→n < b+c→1≤cnt ls n∧cnt ls n≤2) _ (fun s=>20 - s.1.2.2.1.toNat) ⟨0,ls0,rfl,by omega,dr,ba,hcn⟩ (by show 20 - (0:Int).toNat < _;omega) ?_) ?_
 ·rintro _ ⟨i,ls,rfl,hi13,dr,ba,hcn⟩
  have eq:wrF .i64 ((i:Int)+1)=((i+1:Nat):Int):=qj (by omega)
  have eq2:wrF .i64 ((i:Int)+2)=((i+2:Nat):Int):=by rw [zH]<;>omega
  simp only [eq,eq2,bnz,cond_false]
  have out:qu (some (.inl ((0:Nat),((q',((),((i:Int),()))),((((b+c:Nat):Int),(sts b c,(ls,()))),()))):(Nat×(((zoR)×(Unit×(Int×Unit)))×((Int×(List Bool×(List ya×Unit)))×Unit))) ⊕ (((zoR)×(Unit×(Int×Unit)))×((Int×(List Bool×(List ya×Unit)))×Unit)))) (zpf (fun s=>∃(i:Nat) (ls:List ya),s=((q',((),((i:Int),()))),((((b+c:Nat):Int),(sts b c,(ls,()))),()))∧i≤13∧Dr b c ls∧Vr b c (b - 1) c ls∧∀n,b≤n→n < b+c→1≤cnt ls n∧cnt ls n≤2) (fun x=>∃ls,x.2.2.1=(((b+c:Nat):Int),(sts b c,(ls,())))∧Dr b c ls∧Vr b c (b - 1) c ls∧∀n,b≤n→n < b+c→1≤cnt ls n∧cnt ls n≤2) (fun s=>20 - s.1.2.2.1.toNat) ((q',((),((i:Int),()))),((((b+c:Nat):Int),(sts b c,(ls,()))),()))):=
   za (znu ⟨ls,rfl,dr,ba,hcn⟩)
  refine zk (fun h1=>zk (fun h2=>?_) (fun _=>out)) (fun _=>out)
  have h1:=qt h1
  have h2:=qt (show zj (i:Int) 12=true from h2)
  have hx:q'.2.2.1[i]?=some (q'.2.2.1[i]'(by omega)):=List.getElem?_eq_getElem (by omega)
  have hy:q'.2.2.1[i+1]?=some (q'.2.2.1[i+1]'(by omega)):=List.getElem?_eq_getElem (by omega)
  have bx:=hd.c _ (List.getElem_mem (show i < q'.2.2.1.length by omega))
  have hyb:=hd.c _ (List.getElem_mem (show i+1 < q'.2.2.1.length by omega))
  generalize (q'.2.2.1[i]'(by omega))=x at hx bx
  generalize (q'.2.2.1[i+1]'(by omega))=y at hy hyb
  refine zg (zy (n:=i) hx (zg (zy (n:=i+1) hy ?_)))
  have ex:wrF .i64 x=x:=zH (by omega) (by omega)
  have ey:wrF .i64 y=y:=zH (by omega) (by omega)
  simp only [ex,ey]
  obtain ⟨m,em,hmb⟩:∃hh:Nat,Int.tmod x (b:Int)=(hh:Int)∧hh < b:=⟨(x % (b:Int)).toNat,by rw [Int.tmod_eq_emod_of_nonneg bx.1];have:=Int.emod_nonneg x (show (b:Int)≠0 by omega);omega,by have:=Int.emod_lt_of_pos x (show 0 < (b:Int) by omega);have:=Int.emod_nonneg x (show (b:Int)≠0 by omega);omega⟩
  obtain ⟨n,en,hnb⟩:∃hh:Nat,Int.tmod y (b:Int)=(hh:Int)∧hh < b:=⟨(y % (b:Int)).toNat,by rw [Int.tmod_eq_emod_of_nonneg hyb.1];have:=Int.emod_nonneg y (show (b:Int)≠0 by omega);omega,by have:=Int.emod_lt_of_pos y (show 0 < (b:Int) by omega);have:=Int.emod_nonneg y (show (b:Int)≠0 by omega);omega⟩
  simp only [em,en]
  refine zoS (t:=tOf b c ls) dr.sz (a:=(m:Int)) (b:=(n:Int)) hd.p hd.e rfl rfl (fun x y x0 x1 y0 y1 _=>?_) ?_
  ·refine za (zdb ⟨i+2,ls,rfl,by omega,dr,ba,hcn⟩ ?_)
   show 20 - (((i+2:Nat):Int)).toNat < 20 - ((i:Int)).toNat
   omega
  ·intro x y x0 x1 y0 y1 h24 hlk hno
   refine za (zdb ⟨i+2,ls++[_],rfl,by omega,dr.add h24 hlk hno,ba.app _,fun k h1 h2=>?_⟩ ?_)
   ·rw [zlk]
    simp only
    rw [Ge (show m≠k by omega),Ge (show n≠k by omega)]
    have:=hcn k h1 h2
    omega
   ·show 20 - (((i+2:Nat):Int)).toNat < 20 - ((i:Int)).toNat
    omega
 ·rintro ⟨j,⟨q,⟨⟩,w',⟨⟩⟩,⟨u,⟨⟩⟩⟩ ⟨ls,hu,dr,ba,hcn⟩
  simp only at hu
  subst hu
  refine za ⟨ls,rfl,zE9 dr ba hcn,?_⟩
  obtain ⟨h,p,d',e,_⟩:=ba.ho 0 (by omega)
  have:b - 1+0 < ls.length:=by grind
  omega
def Xu (t:qk) (n:Int):List Int:=((List.range (2*t.2.2.length)).map fun (p:Nat)=>(p:Int)).filter fun p=>frm t p == n
theorem zxq (t:qk) (n:Int):∀p∈Xu t n,wI t p:=by
 intro p hp
 unfold Xu at hp
 obtain ⟨k,hk,rfl⟩:=List.mem_map.1 (List.mem_filter.1 hp).1
 have:=List.mem_range.1 hk
 exact ⟨by omega,by omega⟩
theorem zuO (t:qk) (n:Int):(Xu t n).length≤2*t.2.2.length:=by
 unfold Xu
 have:=List.length_filter_le (fun p=>frm t p == n) ((List.range (2*t.2.2.length)).map fun (p:Nat)=>(p:Int))
 simpa using this
theorem Ks {t:qk} (hl:t.2.2.length≤24) (n:Int):Wc (t,n,())=some (Xu t n,()):=by
 have hll:t.2.2.length≤1000000000000000:=by omega
 rw [zq8];unfold zep
 rw [tw t hll]
 refine wG (zm (J:=fun x=>x.2.2.1=Xu t n) (zU (2*t.2.2.length) (fun i s=>s=(((i:Int),()),((((List.range i).map fun (p:Nat)=>(p:Int)).filter fun p=>frm t p == n),()))) (by omega) rfl ?_ ?_) ?_)
 ·rintro i _ hi rfl
  have hp:wI t (i:Int):=⟨by omega,by omega⟩
  refine ze (zR (show (i:Int) < 2*(t.2.2.length:Int) by omega)) ?_
  have e:((List.range (i+1)).map fun (p:Nat)=>(p:Int)).filter (fun p=>frm t p == n)=(((List.range i).map fun (p:Nat)=>(p:Int)).filter fun p=>frm t p == n)++(if frm t (i:Int) == n then [(i:Int)] else []):=by
   rw [List.range_succ,List.map_append,List.filter_append]
   congr 1
   simp only [List.map_cons,List.map_nil,List.filter_cons,List.filter_nil]
  have hlen:(((List.range i).map fun (p:Nat)=>(p:Int)).filter fun p=>frm t p == n).length≤i:=by
   have:=List.length_filter_le (fun p=>frm t p == n) ((List.range i).map fun (p:Nat)=>(p:Int))
   simpa using this
  rw [QV hll hp]
  refine zm (J:=fun x=>x.2.2.1=(((List.range (i+1)).map fun (p:Nat)=>(p:Int)).filter fun p=>frm t p == n)) ?_ ?_
  ·rw [e]
   refine zk (fun h=>?_) (fun h=>?_)
   ·have h:=qR h
    refine ze (jC (Nat.le_trans (Nat.mul_le_mul_right 8 (Nat.add_le_add_right hlen 1)) (by omega)) (Nat.le_trans (Nat.add_le_add_right hlen 1) (by omega))) (za ?_)
    rw [if_pos (by simpa using h)]
   ·have h:=jk h
    refine za ?_
    rw [if_neg (by simpa using h),List.append_nil]
  ·rintro ⟨j,⟨⟩,c,⟨⟩⟩ hc
   simp only at hc
   subst hc
   exact za (qg (congrArg (fun z=>((z,()),(_,()))) (qj (by omega))))
 ·rintro _ rfl
  exact zf (zF (show ¬((2*t.2.2.length:Nat):Int) < 2*(t.2.2.length:Int) by omega)) (za (zp rfl))
 ·rintro ⟨j,⟨z,⟨⟩⟩,c,⟨⟩⟩ hc
  exact za hc
noncomputable def JT (t:qk) (ps seen:List Int):List Int:=ps.filter fun p=>!tv (too t p∈seen)
theorem ziy {t:qk} (hll:t.2.2.length≤24) {ps seen:List Int} (hps:∀p∈ps,wI t p) (hpl:ps.length≤48) (hsl:seen.length≤100)
  {B:((Int×Unit)×((List Int)×((List Int)×Unit)))→Option ((Nat×((Int×Unit)×((List Int)×((List Int)×Unit)))) ⊕ ((Int×Unit)×((List Int)×((List Int)×Unit))))}
  (hB:B=fun s2=>bif (zj (s2.1.1) ((((ps).length:Nat):Int))) then opt (opt (atI (ps) (s2.1.1)) fun x3=>
        opt (yc ((t,(x3,())))) fun x4=>
        opt (yN ((s2.2.1,(x4.1,())))) fun x5=>
        bif (!x5.1) then opt (atI (ps) (s2.1.1)) fun x6=>
         bif (qK ((s2.2.2.1).length) (((x6::[])).length) (8)) then some (0,((),(s2.2.1,((s2.2.2.1++(x6::[])),()))))
         else none
        else some (0,((),(s2.2.1,(s2.2.2.1,()))))) fun x7=>
       some (.inr (((wrF .i64 ((s2.1.1+1))),()),(x7.2.2.1,(x7.2.2.2.1,()))))
      else some (.inl (0,((s2.1.1,()),(s2.2.1,(s2.2.2.1,())))))) :
  qu (zD B zL ((0,()),(seen,([],())))) fun x=>x.2.2.1=seen∧x.2.2.2.1=JT t ps seen:=by
 have hl2:t.2.2.length≤1000000000000000:=by omega
 subst hB
 refine zU ps.length (fun i s=>s=(((i:Int),()),(seen,(JT t (ps.take i) seen,())))) (by omega) rfl ?_ ?_
 ·rintro i _ hi rfl
  have hx:ps[i]?=some ps[i]:=List.getElem?_eq_getElem hi
  have hp:=hps _ (List.getElem_mem hi)
  generalize ps[i]=p at hx hp
  have hlen:(JT t (ps.take i) seen).length≤48:=by
   unfold JT
   have:=List.length_filter_le (fun p=>!tv (too t p∈seen)) (ps.take i)
   simp only [List.length_take] at this;omega
  have e:JT t (ps.take (i+1)) seen=JT t (ps.take i) seen++(if (!tv (too t p∈seen))=true then [p] else []):=by
   unfold JT
   rw [List.take_add_one,hx,List.filter_append]
   congr 1
   simp only [Option.toList,List.filter_cons,List.filter_nil]
  refine ze (zR (show (i:Int) < (ps.length:Int) by omega)) (zm (J:=fun x=>x.2.2.1=seen∧x.2.2.2.1=JT t (ps.take (i+1)) seen) ?_ ?_)
  ·refine zg (zy (n:=i) hx ?_)
   rw [JE hl2 hp,zz,zch (by show seen.length≤_;omega),zz,e]
   refine zk (fun h=>?_) (fun h=>?_)
   ·refine zg (zy (n:=i) hx (ze (jC (by show ((JT t (ps.take i) seen).length+1)*8≤_;omega) (by show (JT t (ps.take i) seen).length+1≤_;omega)) (za ⟨rfl,?_⟩)))
    rw [if_pos h]
   ·refine za ⟨rfl,?_⟩
    have h:(!tv (too t p∈seen))=false:=h
    rw [h,if_neg (by simp),List.append_nil]
  ·rintro ⟨j,⟨⟩,c,c2,⟨⟩⟩ ⟨h1,h2⟩
   simp only at h1 h2
   subst h1 h2
   exact za (qg (congrArg (fun z=>((z,()),_)) (qj (by omega))))
 ·rintro _ rfl
  refine zf (zF (show ¬(ps.length:Int) < (ps.length:Int) by omega)) (za (zp ⟨rfl,?_⟩))
  show JT t (ps.take ps.length) seen=_
  rw [List.take_length]
theorem zFa {t:qk} (ht:jz t) {a k:Int} (a0:0≤a) (a1:a≤255) (k0:0≤k) (k1:k≤255):∃r,ZO (t,a,k,())=some (r,()):=by
 have n0:=ht.sz.n0;have n1:=ht.sz.n1;have hls:=ht.sz.ls
 have hll:t.2.2.length≤1000000000000000:=by omega
 suffices key:qu (ZO (t,a,k,())) fun _=>True by
  obtain ⟨⟨r,⟨⟩⟩,e,_⟩:=key
  exact ⟨r,e⟩
 have ew:wrF .i64 a=a:=zH (by omega) (by omega)
 have em:Int.tmod a t.1=a % t.1:=Int.tmod_eq_emod_of_nonneg a0
 have m0:=Int.emod_nonneg a (show t.1≠0 by omega)
 have m1:=Int.emod_lt_of_pos a (show 0 < t.1 by omega)
 rw [ztm];unfold zgA
 rw [ew,em]
 refine zf (qL (show t.1≠0 by omega)) ?_
 have stop:∀(r:Option Int) (at_:Int) (out seen:List Int),True:=fun _ _ _ _=>trivial
 refine zm (J:=fun s=>∃r at_ out seen,s=((t,(r,(at_,()))),(out,(seen,())))∧jf t at_∧out.length≤8∧seen.length=out.length+1∧(8≤out.length∨(out≠[]∧stn t at_=true)∨JT t (Xu t at_) seen=[]))
  (znv (fun s=>∃r at_ out seen,s=((t,(r,(at_,()))),(out,(seen,())))∧jf t at_∧out.length≤8∧seen.length=out.length+1) _ (fun s=>20 - s.2.1.length) ⟨[],a % t.1,[],[a % t.1],rfl,⟨m0,m1⟩,by simp,rfl⟩ (by show 20 - 0 < _;omega) ?_) ?_
 ·rintro _ ⟨r,at_,out,seen,rfl,hn,ho,hs⟩
  have hpl:=zuO t at_
  have hpo:=zxq t at_
  have fin:(8≤out.length∨(out≠[]∧stn t at_=true)∨JT t (Xu t at_) seen=[])→qu (some (.inl ((t,(r,(at_,()))),(out,(seen,()))):((qk×((List Int)×(Int×Unit)))×((List Int)×((List Int)×Unit))) ⊕ ((qk×((List Int)×(Int×Unit)))×((List Int)×((List Int)×Unit))))) (zpf (fun s=>∃r at_ out seen,s=((t,(r,(at_,()))),(out,(seen,())))∧jf t at_∧out.length≤8∧seen.length=out.length+1) (fun s=>∃r at_ out seen,s=((t,(r,(at_,()))),(out,(seen,())))∧jf t at_∧out.length≤8∧seen.length=out.length+1∧(8≤out.length∨(out≠[]∧stn t at_=true)∨JT t (Xu t at_) seen=[])) (fun s=>20 - s.2.1.length) ((t,(r,(at_,()))),(out,(seen,())))):=fun h=>
   za (znu ⟨r,at_,out,seen,rfl,hn,ho,hs,h⟩)
  have step:out.length < 8→∀(seen' nx:List Int),seen'=seen→nx=JT t (Xu t at_) seen→qu (bif (zh ((((nx).length:Nat):Int)) (0)) then some (.inl ((t,(r,(at_,()))),(out,(seen,()))))
     else bif (zh ((((nx).length:Nat):Int)) (0)) then none
      else opt (atI (nx) ((Int.tmod (wrF .i64 (((wrF .i64 (k))+(wrF .i64 ((3*(((out).length:Nat):Int))))))) (((nx).length:Nat):Int)))) fun x9=>
       opt (gl (nx) ((Int.toNat (Int.tmod (wrF .i64 (((wrF .i64 (k))+(wrF .i64 ((3*(((out).length:Nat):Int))))))) (((nx).length:Nat):Int))))) fun x10=>
       bif (qK ((out).length) (((x10::[])).length) (8)) then opt (yc ((t,(x10,())))) fun x11=>
        bif (qK ((seen').length) (((x11.1::[])).length) (8)) then some (.inr ((t,(r,(x11.1,()))),((out++(x10::[])),((seen'++(x11.1::[])),()))))
        else none
       else none) (zpf (fun s=>∃r at_ out seen,s=((t,(r,(at_,()))),(out,(seen,())))∧jf t at_∧out.length≤8∧seen.length=out.length+1) (fun s=>∃r at_ out seen,s=((t,(r,(at_,()))),(out,(seen,())))∧jf t at_∧out.length≤8∧seen.length=out.length+1∧(8≤out.length∨(out≠[]∧stn t at_=true)∨JT t (Xu t at_) seen=[])) (fun s=>20 - s.2.1.length) ((t,(r,(at_,()))),(out,(seen,())))):=by
   intro h8 seen' nx e1 e2
   subst e1
   refine zk (fun h=>fin (.inr (.inr ?_))) (fun h=>?_)
   ·have h:=qR h
    rw [←e2];exact List.length_eq_zero_iff.1 (by omega)
   have hz:(nx.length:Int)≠0:=jk h
   have ek:wrF .i64 k=k:=zH (by omega) (by omega)
   have e3:wrF .i64 (3*(out.length:Int))=3*(out.length:Int):=zH (by omega) (by omega)
   have e4:wrF .i64 (k+3*(out.length:Int))=k+3*(out.length:Int):=zH (by omega) (by omega)
   rw [ek,e3,e4,Int.tmod_eq_emod_of_nonneg (by omega)]
   have i0:=Int.emod_nonneg (k+3*(out.length:Int)) hz
   have i1:=Int.emod_lt_of_pos (k+3*(out.length:Int)) (show 0 < (nx.length:Int) by omega)
   refine zf (qL hz) (zg (qD i0 i1 fun _ _=>zg (jx (by omega) fun p hp=>?_)))
   have hpt:wI t p:=by
    have:=List.mem_of_getElem? hp
    rw [e2] at this
    exact hpo p (List.mem_filter.1 this).1
   refine ze (jC (by show (out.length+1)*8≤_;omega) (by show out.length+1≤_;omega)) ?_
   rw [JE hll hpt,zz]
   refine ze (jC (by show (seen'.length+1)*8≤_;omega) (by show seen'.length+1≤_;omega)) (za (zdb ⟨r,too t p,out++[p],seen'++[too t p],rfl,(zaF ht.ls hpt).2.1,by simp;omega,by simp;omega⟩ ?_))
   show 20 - (out++[p]).length < 20 - out.length
   simp;omega
  refine zk (fun h8=>?_) (fun h8=>fin (.inl ?_))
  rotate_left
  ·have h8:(8:Int)≤(out.length:Int):=qB h8
   omega
  have h8:(out.length:Int) < 8:=qt h8
  refine zk (fun hz=>?_) (fun hz=>?_)
  ·rw [Ks hls,zz]
   refine zm (ziy hls hpo (by omega) (by show seen.length≤_;omega) rfl) ?_
   rintro ⟨j,⟨z,⟨⟩⟩,c,c2,⟨⟩⟩ ⟨h1,h2⟩
   exact step (by omega) c c2 h1 h2
  ·have hz:(out.length:Int)≠0:=jk hz
   refine zg (qn (a:=stn t at_) (by show atI t.2.1 at_=_;rw [show at_=((at_.toNat:Nat):Int) from (by have:=hn.1;omega),wB (n:=at_.toNat)];exact hn.get ht.sz) ?_)
   refine zk (fun hst=>?_) (fun hst=>fin (.inr (.inl ⟨fun e=>?_,by simpa using hst⟩)))
   ·rw [Ks hls,zz]
    refine zm (ziy hls hpo (by omega) (by show seen.length≤_;omega) rfl) ?_
    rintro ⟨j,⟨z,⟨⟩⟩,c,c2,⟨⟩⟩ ⟨h1,h2⟩
    exact step (by omega) c c2 h1 h2
   ·rw [e] at hz;exact hz rfl
 ·rintro _ ⟨r,at_,out,seen,rfl,hn,ho,hs,hstop⟩
  have hpl:=zuO t at_
  have hpo:=zxq t at_
  refine zk (fun h8=>?_) (fun _=>za trivial)
  have h8:(out.length:Int) < 8:=qt h8
  refine zk (fun hz=>?_) (fun hz=>?_)
  ·have hz:(out.length:Int)=0:=qR hz
   have hnx:JT t (Xu t at_) seen=[]:=by
    rcases hstop with h | ⟨h,_⟩ | h
    ·omega
    ·exact absurd (List.length_eq_zero_iff.1 (by omega)) h
    ·exact h
   rw [Ks hls,zz]
   refine zm (ziy hls hpo (by omega) (by show seen.length≤_;omega) rfl) ?_
   rintro ⟨j,⟨z,⟨⟩⟩,c,c2,⟨⟩⟩ ⟨h1,h2⟩
   simp only at h1 h2
   rw [hnx] at h2
   subst h2
   exact ze rfl (za trivial)
  ·refine zg (qn (a:=stn t at_) (by show atI t.2.1 at_=_;rw [show at_=((at_.toNat:Nat):Int) from (by have:=hn.1;omega),wB (n:=at_.toNat)];exact hn.get ht.sz) ?_)
   refine zk (fun hst=>?_) (fun _=>za trivial)
   have hnx:JT t (Xu t at_) seen=[]:=by
    rcases hstop with h | ⟨_,h⟩ | h
    ·omega
    ·rw [h] at hst;cases hst
    ·exact h
   rw [Ks hls,zz]
   refine zm (ziy hls hpo (by omega) (by show seen.length≤_;omega) rfl) ?_
   rintro ⟨j,⟨z,⟨⟩⟩,c,c2,⟨⟩⟩ ⟨h1,h2⟩
   simp only at h1 h2
   rw [hnx] at h2
   subst h2
   exact ze rfl (za trivial)
theorem zyT (z:Int):0≤wrF .u8 z∧wrF .u8 z≤255:=by
 rw [UR,IntKind.wrap_u8];omega
theorem zA9 {t:qk} (hs:szP t) {n:Int} (hn:jf t n):atI t.2.1 n=some (stn t n):=by
 have e:n=((n.toNat:Nat):Int):=by have:=hn.1;omega
 rw [e,wB (n:=n.toNat)]
 rw [←e];exact hn.get hs
theorem zxr {α:Type} {l:List α} (h:1≤l.length):zsM l=true:=by
 cases l with
 |nil=>simp at h
 |cons a b=>rfl
theorem zFb {t:qk} (ht:jz t) (nd w:Int)
  {B:(((Int×((List Bool)×(List (Int×(Int×(Int×Int))))))×((List Int)×(Int×Unit)))×Unit)→Option ((Nat×(((Int×((List Bool)×(List (Int×(Int×(Int×Int))))))×((List Int)×(Int×Unit)))×Unit)) ⊕ (((Int×((List Bool)×(List (Int×(Int×(Int×Int))))))×((List Int)×(Int×Unit)))×Unit))}
  (hB:B=fun s3:(((Int×((List Bool)×(List (Int×(Int×(Int×Int))))))×((List Int)×(Int×Unit)))×Unit)=>
   bif (zj (s3.1.2.2.1) (16)) then opt (ZO ((s3.1.1,((wrF .u8 (nd)),((wrF .u8 ((w+(wrF .u8 (s3.1.2.2.1))))),()))))) fun x4=>
    opt
      (bif (zj (0) ((((x4.1).length:Nat):Int))) then opt (vD ((s3.1.1,(x4.1,())))) fun x5=>
      bif x5.1 then opt (atI (x4.1) (0)) fun x6=>
       opt (jt ((s3.1.1,(x6,())))) fun x7=>
       opt (atI (s3.1.1.2.1) (x7.1)) fun x8=>
       bif x8 then opt (atI (x4.1) ((wrF .i64 (((((x4.1).length:Nat):Int) - 1))))) fun x9=>
        opt (yc ((s3.1.1,(x9,())))) fun x10=>
        opt (atI (s3.1.1.2.1) (x10.1)) fun x11=>
        bif x11 then some (1,((x4.1,()),()))
        else some (0,((s3.1.2.1,()),()))
       else some (0,((s3.1.2.1,()),()))
      else some (0,((s3.1.2.1,()),()))
     else some (0,((s3.1.2.1,()),()))) fun x12=>
    bif (Nat.beq x12.1 0) then some (.inr ((s3.1.1,(x12.2.1.1,((wrF .i64 ((s3.1.2.2.1+1))),()))),()))
    else some (.inl (1,((s3.1.1,(x12.2.1.1,(s3.1.2.2.1,()))),())))
   else some (.inl (0,((s3.1.1,(s3.1.2.1,(s3.1.2.2.1,()))),())))) :
  qu (zD B zL ((t,([],(0,()))),())) fun x=>x.1=0∨(x.1=1∧qU t x.2.1.2.1):=by
 have hll:t.2.2.length≤1000000000000000:=ht.ll
 subst hB
 refine zU 16 (fun i s=>s=((t,([],((i:Int),()))),())) (by omega) rfl ?_ ?_
 ·rintro i _ hi rfl
  refine ze (zR (show (i:Int) < 16 by omega)) ?_
  obtain ⟨r,hr⟩:=zFa ht (zyT nd).1 (zyT nd).2 (zyT (w+wrF .u8 (i:Int))).1 (zyT (w+wrF .u8 (i:Int))).2
  rw [hr,zz]
  refine zm (J:=fun x=>(x.1=0∧x.2.1.1=[])∨(x.1=1∧qU t x.2.1.1)) ?_ ?_
  ·have stay:qu (some ((0:Nat),((([]:List Int),()),()))) (fun x=>(x.1=0∧x.2.1.1=[])∨(x.1=1∧qU t x.2.1.1)):=za (.inl ⟨rfl,rfl⟩)
   refine zk (fun h=>?_) (fun h=>stay)
   have h:=qt h
   rw [zio ht,zz]
   refine zk (fun hv=>?_) (fun _=>stay)
   have hv:qU t r:=ZH hv
   have r0:=hv.n0;have r1:=hv.n1
   refine zg (qD (by omega) (by show (0:Int) < (r.length:Int);omega) fun p hp=>?_)
   have hpp:wI t p:=hv.pt p (List.mem_of_getElem? hp)
   rw [QV hll hpp,zz]
   refine zg (qn (zA9 ht.sz (zaF ht.ls hpp).1) ?_)
   refine zk (fun _=>?_) (fun _=>stay)
   have e:wrF .i64 ((r.length:Int) - 1)=(r.length:Int) - 1:=zH (by omega) (by omega)
   rw [e]
   refine zg (qD (by omega) (by show (r.length:Int) - 1 < (r.length:Int);omega) fun q hq=>?_)
   have hqp:wI t q:=hv.pt q (List.mem_of_getElem? hq)
   rw [JE hll hqp,zz]
   refine zg (qn (zA9 ht.sz (zaF ht.ls hqp).2.1) ?_)
   exact zk (fun _=>za (.inr ⟨rfl,hv⟩)) (fun _=>stay)
  ·rintro ⟨n,⟨r',⟨⟩⟩,⟨⟩⟩ (⟨h1,h2⟩ | ⟨h1,h2⟩)
   ·simp only at h1 h2
    subst h1 h2
    exact ze rfl (za (qg (congrArg (fun z=>((t,([],(z,()))),())) (qj (by omega)))))
   ·simp only at h1 h2
    subst h1
    exact zf rfl (za (zp (.inr ⟨rfl,h2⟩)))
 ·rintro _ rfl
  exact zf (zF (show ¬(16:Int) < 16 by omega)) (za (zp (.inl rfl)))
abbrev zuP:=Bool×Bool×Int×Int×Int×Int×Int×Int
def sdP (d:zuP):Prop:=(0≤d.2.2.1∧d.2.2.1≤255)∧(0≤d.2.2.2.2.2.1∧d.2.2.2.2.2.1≤255)
theorem zBJ {t:qk} (ht:jz t) {d:zuP} (hd:sdP d) (id:Int):∃s b,xp (d,t,id,())=some (s,b,()):=by
 have hll:t.2.2.length≤1000000000000000:=ht.ll
 have n0:=ht.sz.n0;have n1:=ht.sz.n1
 obtain ⟨⟨d0,d1⟩,d2,d3⟩:=hd
 suffices key:qu (xp (d,t,id,())) fun _=>True by
  obtain ⟨⟨s,b,⟨⟩⟩,e,_⟩:=key
  exact ⟨s,b,e⟩
 have m0:=Int.emod_nonneg d.2.2.1 (show t.1≠0 by omega)
 have m1:=Int.emod_lt_of_pos d.2.2.1 (show 0 < t.1 by omega)
 have ew:wrF .i64 d.2.2.1=d.2.2.1:=zH (by omega) (by omega)
 rw [zhM];unfold XZ
 rw [ew,Int.tmod_eq_emod_of_nonneg d0]
 refine zf (qL (show t.1≠0 by omega)) ?_
 refine zm (J:=fun _=>True) (zU t.1.toNat (fun i s=>∃n,jf t n∧s=((n,((i:Int),())),())) (by omega) ⟨_,⟨m0,m1⟩,rfl⟩ ?_ ?_) ?_
 ·rintro i _ hi ⟨n,hn,rfl⟩
  have:=hn.1;have:=hn.2
  refine ze (zR (show (i:Int) < t.1 by omega)) (zg (qn (zA9 ht.sz hn) ?_))
  refine zk (fun _=>?_) (fun _=>za (zp trivial))
  refine zf (qL (show t.1≠0 by omega)) (za (qg ⟨(n+1) % t.1,⟨Int.emod_nonneg _ (by omega),Int.emod_lt_of_pos _ (by omega)⟩,?_⟩))
  have e1:wrF .i64 (n+1)=n+1:=zH (by omega) (by omega)
  show ((Int.tmod (wrF .i64 (n+1)) t.1,(wrF .i64 ((i:Int)+1),())),())=_
  rw [e1,Int.tmod_eq_emod_of_nonneg (by omega),qj (by omega)]
 ·rintro _ ⟨n,hn,rfl⟩
  exact zf (zF (show ¬((t.1.toNat:Nat):Int) < t.1 by omega)) (za (zp trivial))
 rintro x2 -
 refine zm (zFb ht x2.2.1.1 d.2.2.2.1 rfl) ?_
 rintro ⟨k,⟨tt,r,z,⟨⟩⟩,⟨⟩⟩ h
 rcases h with h | ⟨h,hr⟩
 ·exact ze (by show Nat.beq k 0=true;rw [show k=0 from h];rfl) (za trivial)
 have hr:qU t r:=hr
 have r0:=hr.n0;have r1:=hr.n1
 have er:wrF .i64 ((r.length:Int) - 1)=(r.length:Int) - 1:=zH (by omega) (by omega)
 refine zf (by show Nat.beq k 0=false;rw [show k=1 from h];rfl) (ze (zxr r0) ?_)
 refine zg (qD (by omega) (by show (0:Int) < (r.length:Int);omega) fun p hp=>?_)
 have hpp:wI t p:=hr.pt p (List.mem_of_getElem? hp)
 rw [QV hll hpp,zz,er]
 refine zg (qD (by omega) (by show (r.length:Int) - 1 < (r.length:Int);omega) fun q hq=>?_)
 have hqp:wI t q:=hr.pt q (List.mem_of_getElem? hq)
 rw [JE hll hqp,zz]
 refine zm (J:=fun _=>True) ?_ ?_
 ·refine zk (fun _=>za trivial) (fun _=>?_)
  have p0:=Int.emod_nonneg d.2.2.2.2.2.1 (show (10:Int)≠0 by omega)
  have p1:=Int.emod_lt_of_pos d.2.2.2.2.2.1 (show 0 < (10:Int) by omega)
  rw [Int.tmod_eq_emod_of_nonneg d2]
  refine zg (qD p0 p1 fun _ _=>zg (jx ?_ fun _ _=>za trivial))
  show (d.2.2.2.2.2.1 % 10).toNat < 10
  omega
 rintro x20 -
 refine zm (J:=fun x=>x.2.1.1=t) (zU 24 (fun i s=>∃F,s=((t,((),((i:Int),()))),F)) (by omega) ⟨_,rfl⟩ ?_ ?_) ?_
 ·rintro i _ hi ⟨F,rfl⟩
  refine ze (zR (show (i:Int) < 24 by omega)) ?_
  have out:∀{k:Nat} {z:Int} {F'},qu (some (.inl (k,((t,((),(z,()))),F')):((Nat×(((Int×((List Bool)×(List (Int×(Int×(Int×Int))))))×(Unit×(Int×Unit)))×((Int×(Int×(Int×(Int×(Int×(Int×((Int×Int)×(Int×((List (List Int))×Unit)))))))))×Unit))) ⊕ (((Int×((List Bool)×(List (Int×(Int×(Int×Int))))))×(Unit×(Int×Unit)))×((Int×(Int×(Int×(Int×(Int×(Int×((Int×Int)×(Int×((List (List Int))×Unit)))))))))×Unit))))) (Nxt (fun x=>x.2.1.1=t) fun s=>∃F,s=((t,((),(((i+1:Nat):Int),()))),F)):=za (zp rfl)
  have on:∀{F'},qu (some (.inr ((t,((),(wrF .i64 ((i:Int)+1),()))),F'):((Nat×(((Int×((List Bool)×(List (Int×(Int×(Int×Int))))))×(Unit×(Int×Unit)))×((Int×(Int×(Int×(Int×(Int×(Int×((Int×Int)×(Int×((List (List Int))×Unit)))))))))×Unit))) ⊕ (((Int×((List Bool)×(List (Int×(Int×(Int×Int))))))×(Unit×(Int×Unit)))×((Int×(Int×(Int×(Int×(Int×(Int×((Int×Int)×(Int×((List (List Int))×Unit)))))))))×Unit))))) (Nxt (fun x=>x.2.1.1=t) fun s=>∃F,s=((t,((),(((i+1:Nat):Int),()))),F)):=fun {F'}=>za (qg ⟨F',congrArg (fun z=>((t,((),(z,()))),F')) (qj (by omega))⟩)
  refine zk (fun _=>zk (fun h1=>?_) (fun _=>out)) (fun _=>out)
  have h1:((F.1.2.2.2.2.2.2.2.2.1.length:Nat):Int)=1:=qR h1
  refine zm (zFb ht x2.2.1.1 (wrF .u8 (d.2.2.2.1+wrF .u8 (i:Int))) rfl) ?_
  rintro ⟨k2,⟨tt2,b,z2,⟨⟩⟩,⟨⟩⟩ h
  rcases h with h | ⟨h,hb⟩
  ·exact ze (by show Nat.beq k2 0=true;rw [show k2=0 from h];rfl) on
  have hb:qU t b:=hb
  have b0:=hb.n0;have b1:=hb.n1
  have eb:wrF .i64 ((b.length:Int) - 1)=(b.length:Int) - 1:=zH (by omega) (by omega)
  refine zf (by show Nat.beq k2 0=false;rw [show k2=1 from h];rfl) ?_
  refine zm (J:=fun _=>True) ?_ ?_
  ·refine ze (zxr b0) ?_
   rw [eb]
   refine zg (qD (by omega) (by show (b.length:Int) - 1 < (b.length:Int);omega) fun q hq=>?_)
   have hqp:wI t q:=hb.pt q (List.mem_of_getElem? hq)
   rw [JE hll hqp,zz]
   refine zk (fun _=>?_) (fun _=>za trivial)
   rw [ziq ht hr hb,zz]
   refine zk (fun _=>?_) (fun _=>za trivial)
   exact ze (jC (by show (F.1.2.2.2.2.2.2.2.2.1.length+1)*24≤_;omega) (by show F.1.2.2.2.2.2.2.2.2.1.length+1≤_;omega)) (za trivial)
  ·rintro x36 -
   exact on
 ·rintro _ ⟨F,rfl⟩
  exact zf (zF (show ¬(24:Int) < 24 by omega)) (za (zp rfl))
 rintro ⟨k3,⟨t3,⟨⟩,z3,⟨⟩⟩,F,⟨⟩⟩ h3
 have h3:t3=t:=h3
 subst h3
 rw [zco ht,zz]
 exact za trivial
abbrev zIp:=List Int×List Int
abbrev zj5:=zoR×List zIp×(Int×Int×Int)×Int×Int×List zuP×List Int
structure drP (d:zj5):Prop where
 t:tdP d.1
 g:∀x∈d.2.1,u8 x.1∧u8 x.2
 u:(0≤d.2.2.1.1∧d.2.2.1.1≤255)∧(0≤d.2.2.1.2.1∧d.2.2.1.2.1≤255)∧(0≤d.2.2.1.2.2∧d.2.2.1.2.2≤255)
 cap:0≤d.2.2.2.1∧d.2.2.2.1≤255
 most:0≤d.2.2.2.2.1∧d.2.2.2.2.1≤65535
 l:∀x∈d.2.2.2.2.2.1,sdP x
 ll:d.2.2.2.2.2.1.length*10≤140737488355328
theorem zBa {d:zj5} (hd:drP d):∃l,yY (d,())=some (l,())∧l.length≤6:=by
 suffices key:qu (yY (d,())) fun r=>r.1.length≤6 by
  obtain ⟨⟨l,⟨⟩⟩,e,h⟩:=key
  exact ⟨l,e,h⟩
 have hll:=hd.ll
 have hl:=hd.l
 rw [zgI];unfold YT
 refine zm (J:=fun x=>(∀y∈x.2.2.1,sdP y)∧x.2.2.1.length≤1000000000000000) (zU d.2.2.2.2.2.1.length (fun i s=>∃L:List zuP,s=(((i:Int),()),(L,()))∧L.length=i∧∀y∈L,sdP y) (by omega) ⟨[],rfl,rfl,fun y hy=>by cases hy⟩ ?_ ?_) ?_
 ·rintro i _ hi ⟨L,rfl,hL,hs⟩
  refine ze (zR (show (i:Int) < (d.2.2.2.2.2.1.length:Int) by omega)) (zg (qD (by show 0≤(i:Int);omega) (by show (i:Int) < (d.2.2.2.2.2.1.length:Int);omega) fun x hx=>?_))
  have hx:=hl x (List.mem_of_getElem? hx)
  refine ze (jC (by show (L.length+1)*10≤_;omega) (by show L.length+1≤_;omega)) (za (qg ⟨L++[(true,x.2)],congrArg (fun z=>((z,()),(L++[(true,x.2)],()))) (qj (by omega)),by simp [hL],fun y hy=>?_⟩))
  rcases List.mem_append.1 hy with h | h
  ·exact hs y h
  ·rw [List.mem_singleton.1 h];exact hx
 ·rintro _ ⟨L,rfl,hL,hs⟩
  exact zf (zF (show ¬((d.2.2.2.2.2.1.length:Nat):Int) < (d.2.2.2.2.2.1.length:Int) by omega)) (za (zp ⟨hs,by show L.length≤_;omega⟩))
 rintro ⟨k,⟨z,⟨⟩⟩,L,⟨⟩⟩ ⟨hs,hL⟩
 simp only at hs hL
 obtain ⟨b,c,ls,et,ht,h1⟩:=zuN hd.t
 rw [et,zz]
 generalize tOf b c ls=t at ht
 refine zm (J:=fun x=>x.2.2.2.1.length≤6) (zU L.length (fun i s=>∃out:List qC,s=((t,((i:Int),())),(L,(out,())))∧out.length≤6) (by omega) ⟨[],rfl,by simp⟩ ?_ ?_) ?_
 ·rintro i _ hi ⟨out,rfl,ho⟩
  have hx:L[i]?=some L[i]:=List.getElem?_eq_getElem hi
  have hxs:=hs _ (List.getElem_mem hi)
  generalize L[i]=x at hx hxs
  refine ze (zR (show (i:Int) < (L.length:Int) by omega)) (zk (fun h6=>?_) (fun _=>za (zp ho)))
  have h6:(out.length:Int) < 6:=qt h6
  refine zg (zy (n:=i) hx (zg (qn (a:=x) (by show gl L (Int.toNat (i:Int))=_;rw [Int.toNat_natCast,xm];exact hx) ?_)))
  obtain ⟨s,is,es⟩:=zBJ ht hxs (wrF .i64 ((out.length:Int)+1))
  rw [es,zz]
  refine zm (J:=fun x=>x.2.2.1.length≤6) (zk (fun _=>ze (jC (by show (out.length+1)*96≤_;omega) (by show out.length+1≤_;omega)) (za ?_)) (fun _=>za ho)) ?_
  ·show (out++[s]).length≤6
   simp;omega
  ·rintro ⟨k,⟨⟩,o2,⟨⟩⟩ h2
   exact za (qg ⟨o2,congrArg (fun z=>((t,(z,())),(L,(o2,())))) (qj (by omega)),h2⟩)
 ·rintro _ ⟨out,rfl,ho⟩
  exact zf (zF (show ¬((L.length:Nat):Int) < (L.length:Int) by omega)) (za (zp ho))
 rintro ⟨k,⟨t2,z,⟨⟩⟩,L2,out,⟨⟩⟩ h6
 have h6:out.length≤6:=h6
 refine zm (J:=fun x=>x.2.2.1.length≤6) (zU out.length (fun i s=>∃o:List qC,s=(((i:Int),()),(o,()))∧o.length=out.length) (by omega) ⟨out,rfl,rfl⟩ ?_ ?_) ?_
 ·rintro i _ hi ⟨o,rfl,ho⟩
  refine ze (zR (show (i:Int) < (o.length:Int) by omega)) (zm (J:=fun x=>x.2.2.1.length=out.length) ?_ ?_)
  ·refine zk (fun h=>?_) (fun _=>za ho)
   have h:(i:Int) < (d.2.2.2.2.2.2.length:Int):=qt h
   refine zg (qD (by show 0≤(i:Int);omega) h fun x hx=>zk (fun _=>?_) (fun _=>za ho))
   refine zg (qD (by show 0≤(i:Int);omega) h fun y hy=>zg (qD (by show 0≤(i:Int);omega) (by show (i:Int) < (o.length:Int);omega) fun y hy=>zg (jx (by show i < o.length;omega) fun y hy=>za ?_)))
   show (List.set _ _ _).length=_
   rw [List.length_set];exact ho
  ·rintro ⟨k,⟨⟩,o2,⟨⟩⟩ h2
   exact za (qg ⟨o2,congrArg (fun z=>((z,()),(o2,()))) (qj (by omega)),h2⟩)
 ·rintro _ ⟨o,rfl,ho⟩
  exact zf (zF (show ¬((out.length:Nat):Int) < (o.length:Int) by omega)) (za (zp (by show o.length≤6;omega)))
 rintro ⟨k,⟨z,⟨⟩⟩,o,⟨⟩⟩ ho
 exact za ho
def zll (e:Int×Int):Prop:=(0≤e.1∧e.1≤255)∧(1≤e.2∧e.2≤1100)
def m40 (e:Int×Int):Int×Int:=(e.1,40*e.2)
theorem zBb (l:List (Int×Int)) (x:Int×Int):qF (l++[x])=qF l+x.2:=by
 unfold qF;simp
theorem zoU {l:List (Int×Int)} (h:∀e∈l,zll e):0≤qF l∧qF l≤1100*l.length:=by
 unfold qF
 induction l with
 |nil=>simp
 |cons a l ih=>
  obtain ⟨_,h1,h2⟩:=h a (by simp)
  have:=ih fun e he=>h e (by simp [he])
  simp only [List.map_cons,List.sum_cons,List.length_cons]
  omega
theorem zHT (l:List (Int×Int)):qF (l.map m40)=40*qF l:=by
 unfold qF
 induction l with
 |nil=>rfl
 |cons a l ih=>
  simp only [List.map_cons,List.sum_cons,ih,m40]
  omega
theorem zHU {l:List (Int×Int)} (h:∀e∈l,zll e) (h0:1≤l.length) (h1:l.length≤10):qx (l,qF l):=by
 have:=zoU h
 exact ⟨h0,by show l.length≤128;omega,fun e he=>by obtain ⟨⟨a,b⟩,c,d⟩:=h e he;exact ⟨a,b,c,by omega⟩,rfl,by show qF l≤9600000;omega⟩
theorem zGI {l:List (Int×Int)} (h:∀e∈l,zll e) (h0:1≤l.length) (h1:l.length≤10):qx (l.map m40,40*qF l):=by
 have:=zoU h
 refine ⟨by simpa using h0,by show (l.map m40).length≤128;simp;omega,fun e he=>?_,zHT l,by show 40*qF l≤9600000;omega⟩
 obtain ⟨x,hx,rfl⟩:=List.mem_map.1 he
 obtain ⟨⟨a,b⟩,c,d⟩:=h x hx
 exact ⟨a,b,by show 1≤40*x.2;omega,by show 40*x.2≤9600000;omega⟩
theorem zIq {d:zj5} (hd:drP d):∃n,vT (d,())=some (n,())∧zso n∧1≤n.1.2.2.length:=by
 suffices key:qu (vT (d,())) fun r=>zso r.1∧1≤r.1.1.2.2.length by
  obtain ⟨⟨l,⟨⟩⟩,e,h⟩:=key
  exact ⟨l,e,h⟩
 obtain ⟨⟨u0,u1⟩,⟨u2,u3⟩,u4,u5⟩:=hd.u
 obtain ⟨c0,c1⟩:=hd.cap
 obtain ⟨m0,m1⟩:=hd.most
 obtain ⟨b,c,ls,et,ht,hls⟩:=zuN hd.t
 have hl1:1≤(tOf b c ls).2.2.length:=hls
 have es:ZY (d.2.2.1.1,d.2.2.1.2.1,d.2.2.1.2.2,())=some ((100+20*d.2.2.1.1,d.2.2.1.2.1 % 40,d.2.2.1.2.2,8000),()):=by
  rw [znC];unfold zbr
  have e1:wrF .i64 d.2.2.1.1=d.2.2.1.1:=zH (by omega) (by omega)
  have e2:wrF .i64 (20*d.2.2.1.1)=20*d.2.2.1.1:=zH (by omega) (by omega)
  have e3:wrF .i64 (100+20*d.2.2.1.1)=100+20*d.2.2.1.1:=zH (by omega) (by omega)
  have e4:wrF .i64 (d.2.2.1.2.1 % 40)=d.2.2.1.2.1 % 40:=zH (by omega) (by omega)
  have e5:wrF .i64 d.2.2.1.2.2=d.2.2.1.2.2:=zH (by omega) (by omega)
  simp only [e1,e2,e3,Int.tmod_eq_emod_of_nonneg u2,e4,e5]
 rw [zkL];unfold UF
 rw [et,zz,es,zz]
 have hl24:=ht.sz.ls
 generalize tOf b c ls=t at ht hl1 hl24
 have e1:wrF .i64 d.2.2.2.1=d.2.2.2.1:=zH (by omega) (by omega)
 have e2:wrF .i64 (200*d.2.2.2.1)=200*d.2.2.2.1:=zH (by omega) (by omega)
 have e3:wrF .i64 (2000+200*d.2.2.2.1)=2000+200*d.2.2.2.1:=zH (by omega) (by omega)
 have e4:wrF .i64 (d.2.2.2.2.1 % 500)=d.2.2.2.2.1 % 500:=zH (by omega) (by omega)
 have e5:wrF .i64 (339+d.2.2.2.2.1 % 500)=339+d.2.2.2.2.1 % 500:=zH (by omega) (by omega)
 have e6:wrF .i64 (2*((t.2.2.length:Nat):Int))=((2*t.2.2.length:Nat):Int):=by rw [zH]<;>omega
 simp only [e1,e2,e3,Int.tmod_eq_emod_of_nonneg m0,e4,e5]
 have hu:JG (100+20*d.2.2.1.1,d.2.2.1.2.1 % 40,d.2.2.1.2.2,2000+200*d.2.2.2.1):=⟨⟨by show 1≤100+20*d.2.2.1.1;omega,by show 100+20*d.2.2.1.1≤10000;omega⟩,⟨by show 0≤d.2.2.1.2.1 % 40;omega,by show d.2.2.1.2.1 % 40≤1000;omega⟩,⟨u4,by show d.2.2.1.2.2≤10000;omega⟩,⟨by show 1542≤2000+200*d.2.2.2.1;omega,by show 2000+200*d.2.2.2.1≤65536;omega⟩⟩
 have hm:84≤339+d.2.2.2.2.1 % 500∧339+d.2.2.2.2.1 % 500≤1542:=⟨by omega,by omega⟩
 generalize 339+d.2.2.2.2.1 % 500=most at hm
 generalize hU:(100+20*d.2.2.1.1,d.2.2.1.2.1 % 40,d.2.2.1.2.2,2000+200*d.2.2.2.1)=U at hu
 refine zm (J:=fun x=>x.2.2.1.1=t∧JG x.2.2.1.2.1∧x.2.2.1.2.2.1.length=2*t.2.2.length∧(∀g∈x.2.2.1.2.2.1,qx g)∧x.2.2.1.2.2.2.1=most)
  (zU (2*t.2.2.length) (fun i s=>∃gs:List Gts,s=((d,((),((i:Int),()))),((t,(U,(gs,(most,())))),()))∧gs.length=i∧∀g∈gs,qx g) (by omega) ⟨[],by rw [←hU];rfl,rfl,fun y hy=>by cases hy⟩ ?_ ?_) ?_
 ·rintro i _ hi ⟨gs,rfl,hg,hgs⟩
  refine ze (zR (by show (i:Int) < wrF .i64 (2*((t.2.2.length:Nat):Int));rw [e6];omega)) ?_
  refine zm (J:=fun x=>∃es cy,x.2.2.1=(es,(cy,()))∧es.length=1∧(∀e∈es,zll e)∧cy=qF es) (zU 1 (fun k s=>∃es cy,s=(((),((k:Int),())),((es,(cy,())),()))∧es.length=k∧(∀e∈es,zll e)∧cy=qF es) (by omega) ⟨[],0,rfl,rfl,fun y hy=>by (cases hy),rfl⟩ ?_ ?_) ?_
  ·rintro k _ hk ⟨es,cy,rfl,hl,he,hc⟩
   have:=zoU he
   have hk0:k=0:=by omega
   subst hk0
   refine ze (by rw [Wa,YO];exact zR (by show (0:Int) < 1;decide)) ?_
   refine ze (jC (by show (es.length+1)*16≤_;omega) (by show es.length+1≤_;omega)) (za (qg ⟨es++[(127,1)],cy+1,?_,by simp [hl],fun e h=>?_,by rw [zBb,hc]⟩))
   ·have e1:wrF .i64 (cy+1)=cy+1:=zH (by omega) (by omega)
    show (((),(wrF .i64 (0+1),())),((es++[(127,1)],(wrF .i64 (cy+1),())),()))=_
    rw [e1];rfl
   ·rcases List.mem_append.1 h with h | h
    ·exact he e h
    ·rw [List.mem_singleton.1 h];exact ⟨⟨by decide,by decide⟩,by decide,by decide⟩
  ·rintro _ ⟨es,cy,rfl,hl,he,hc⟩
   refine zf (by rw [Wa,YO];exact zF (by show ¬(1:Int) < 1;decide)) (za (zp ⟨es,cy,rfl,hl,he,hc⟩))
  rintro ⟨k6,⟨⟨⟩,z6,⟨⟩⟩,E6,⟨⟩⟩ ⟨es,cy,e,hl,he,hc⟩
  have e:E6=(es,(cy,())):=e
  subst e
  have hg6:qx (es,cy):=by rw [hc];exact zHU he (by omega) (by omega)
  refine zm (J:=fun x=>x.2.1.1=d∧qx (x.2.2.1.1,x.2.2.1.2.1)) ?_ ?_
  ·refine zk (fun hG=>zk (fun _=>?_) (fun _=>za ⟨rfl,hg6⟩)) (fun _=>za ⟨rfl,hg6⟩)
   have hG:(0:Int) < (d.2.1.length:Int):=qt hG
   have p0:=Int.emod_nonneg (i:Int) (show (d.2.1.length:Int)≠0 by omega)
   have p1:=Int.emod_lt_of_pos (i:Int) hG
   refine zf (qL (show (d.2.1.length:Int)≠0 by omega)) (zg ?_)
   rw [Int.tmod_eq_emod_of_nonneg (by show 0≤(i:Int);omega)]
   refine qD p0 p1 fun x hx=>?_
   obtain ⟨gx1,gx2⟩:=hd.g x (List.mem_of_getElem? hx)
   have en:∃N:Nat,uC 1 (js ((x.1.length:Nat):Int) 10)=(N:Int)∧1≤N∧N≤10:=⟨(uC 1 (js ((x.1.length:Nat):Int) 10)).toNat,by rw [Wa,YO];omega,by rw [Wa,YO];omega,by rw [Wa,YO];omega⟩
   obtain ⟨N,eN,N1,N2⟩:=en
   refine zm (J:=fun x=>∃es cy,x.2.2.1=(es,(cy,()))∧es.length=N∧(∀e∈es,zll e)∧cy=qF es) (zU N (fun k s=>∃es cy,s=(((),((k:Int),())),((es,(cy,())),()))∧es.length=k∧(∀e∈es,zll e)∧cy=qF es) (by omega) ⟨[],0,rfl,rfl,fun y hy=>by (cases hy),rfl⟩ ?_ ?_) ?_
   ·rintro k _ hk ⟨es,cy,rfl,hl,he,hc⟩
    have hq:=zoU he
    refine ze (by show zj (k:Int) (uC 1 (js ((x.1.length:Nat):Int) 10))=true;rw [eN];exact zR (by omega)) ?_
    refine zm (J:=fun x=>(0≤x.2.1.1.1∧x.2.1.1.1≤255)∧x.2.1.1.2=1) ?_ ?_
    ·refine zk (fun h=>?_) (fun _=>za ⟨⟨by show (0:Int)≤127;decide,by show (127:Int)≤255;decide⟩,rfl⟩)
     have h:(k:Int) < (x.1.length:Int):=qt h
     refine zg (qD (by show 0≤(k:Int);omega) h fun y hy=>?_)
     obtain ⟨y0,y1⟩:=gx1 y (List.mem_of_getElem? hy)
     rw [Int.tmod_eq_emod_of_nonneg y0]
     have p0:=Int.emod_nonneg y (show (6:Int)≠0 by omega)
     have p1:=Int.emod_lt_of_pos y (show 0 < (6:Int) by omega)
     refine zg (qD p0 p1 fun _ _=>zg (jx (by show (y % 6).toNat < 6;omega) fun v hv=>za ⟨?_,rfl⟩))
     have:=List.mem_of_getElem? hv
     simp at this
     show 0≤v∧v≤255
     omega
    rintro ⟨k12,⟨⟨a,b⟩,⟨⟩⟩,⟨⟩⟩ ⟨h12,hb⟩
    have hb:b=1:=hb
    subst hb
    have h12:0≤a∧a≤255:=h12
    refine zm (J:=fun x=>zll x.2.1.1) ?_ ?_
    ·refine zk (fun h=>?_) (fun _=>za ⟨h12,by show (1:Int)≤1;decide,by show (1:Int)≤1100;decide⟩)
     have h:(k:Int) < (x.2.length:Int):=qt h
     refine zg (qD (by show 0≤(k:Int);omega) h fun y hy=>?_)
     obtain ⟨y0,y1⟩:=gx2 y (List.mem_of_getElem? hy)
     have e1:wrF .i64 y=y:=zH (by omega) (by omega)
     have e2:wrF .i64 (4*y)=4*y:=zH (by omega) (by omega)
     have e3:wrF .i64 (1+4*y)=1+4*y:=zH (by omega) (by omega)
     rw [e1,e2,e3]
     exact za ⟨h12,by show 1≤1+4*y;omega,by show 1+4*y≤1100;omega⟩
    rintro ⟨k14,⟨q,⟨⟩⟩,⟨⟩⟩ hq14
    have hq14:zll q:=hq14
    refine ze (jC (by show (es.length+1)*16≤_;omega) (by show es.length+1≤_;omega)) (za (qg ⟨es++[q],cy+q.2,?_,by simp [hl],fun e h=>?_,by rw [zBb,hc]⟩))
    ·obtain ⟨_,q0,q1⟩:=hq14
     have e1:wrF .i64 (cy+q.2)=cy+q.2:=zH (by omega) (by omega)
     show (((),(wrF .i64 ((k:Int)+1),())),((es++[q],(wrF .i64 (cy+q.2),())),()))=_
     rw [e1,qj (by omega)]
    ·rcases List.mem_append.1 h with h | h
     ·exact he e h
     ·rw [List.mem_singleton.1 h];exact hq14
   ·rintro _ ⟨es,cy,rfl,hl,he,hc⟩
    exact zf (by show zj (N:Int) (uC 1 (js ((x.1.length:Nat):Int) 10))=false;rw [eN];exact zF (by omega)) (za (zp ⟨es,cy,rfl,hl,he,hc⟩))
   rintro ⟨k15,⟨⟨⟩,z15,⟨⟩⟩,E15,⟨⟩⟩ ⟨es,cy,e,hl,he,hc⟩
   have e:E15=(es,(cy,())):=e
   subst e
   have hq:=zoU he
   refine zm (J:=fun x=>x.2.2.1=(es.map m40,(cy,()))) (zU es.length (fun k s=>∃f:List (Int×Int),s=(((),((k:Int),())),((f,(cy,())),()))∧f.length=es.length∧∀j,f[j]?=if j < k then (es[j]?).map m40 else es[j]?) (by omega) ⟨es,rfl,rfl,fun j=>by simp⟩ ?_ ?_) ?_
   ·rintro k _ hk ⟨f,rfl,hf,hj⟩
    have hx2:f[k]?=some es[k]:=by rw [hj k,if_neg (by omega)];exact List.getElem?_eq_getElem hk
    have he2:=he _ (List.getElem_mem hk)
    have hx3:es[k]?=some es[k]:=List.getElem?_eq_getElem hk
    generalize es[k]=v at hx2 he2 hx3
    have hgl:gl f (Int.toNat (k:Int))=some v:=by rw [Int.toNat_natCast,xm];exact hx2
    refine ze (zR (by show (k:Int) < (f.length:Int);omega)) ?_
    refine zg (zy (n:=k) hx2 ?_)
    refine zg (qn hgl ?_)
    refine zg (zy (n:=k) hx2 ?_)
    refine zg (qn hgl ?_)
    refine za (qg ⟨f.set k (m40 v),?_,by simp [hf],fun j=>?_⟩)
    ·obtain ⟨_,q0,q1⟩:=he2
     have e1:wrF .i64 (40*v.2)=40*v.2:=zH (by omega) (by omega)
     show (((),(wrF .i64 ((k:Int)+1),())),((f.set (Int.toNat (k:Int)) (v.1,wrF .i64 (40*v.2)),(cy,())),()))=_
     rw [e1,qj (by omega),Int.toNat_natCast];rfl
    ·rw [List.getElem?_set,hj j]
     by_cases h1:k=j
     ·subst h1
      rw [if_pos rfl,if_pos (by omega),if_pos (by omega),hx3];rfl
     ·rw [if_neg h1]
      by_cases h2:j < k
      ·rw [if_pos h2,if_pos (by omega)]
      ·rw [if_neg h2,if_neg (by omega)]
   ·rintro _ ⟨f,rfl,hf,hj⟩
    refine zf (zF (by show ¬((es.length:Nat):Int) < (f.length:Int);omega)) (za (zp ?_))
    show (f,(cy,()))=_
    congr 1
    refine List.ext_getElem? fun j=>?_
    rw [hj j,List.getElem?_map]
    by_cases h:j < es.length
    ·rw [if_pos h]
    ·rw [if_neg h,List.getElem?_eq_none (by omega)];rfl
   rintro ⟨k21,⟨⟨⟩,z21,⟨⟩⟩,E21,⟨⟩⟩ e
   have e:E21=(es.map m40,(cy,())):=e
   subst e
   have e1:wrF .i64 (40*cy)=40*cy:=zH (by omega) (by omega)
   refine za ⟨rfl,?_⟩
   show qx (es.map m40,wrF .i64 (40*cy))
   rw [e1,hc]
   exact zGI he (by omega) (by omega)
  rintro ⟨k22,⟨d2,z22⟩,⟨es2,cy2,⟨⟩⟩,⟨⟩⟩ ⟨h1,h2⟩
  have h1:d2=d:=h1
  subst h1
  have h2:qx (es2,cy2):=h2
  refine ze (jC (by show (gs.length+1)*32≤_;omega) (by show gs.length+1≤_;omega)) (za (qg ⟨gs++[(es2,cy2)],congrArg (fun z=>((d2,((),(z,()))),((t,(U,(gs++[(es2,cy2)],(most,())))),()))) (qj (by omega)),by simp [hg],fun g h=>?_⟩))
  rcases List.mem_append.1 h with h | h
  ·exact hgs g h
  ·rw [List.mem_singleton.1 h];exact h2
 ·rintro _ ⟨gs,rfl,hg,hgs⟩
  refine zf (zF (by show ¬((2*t.2.2.length:Nat):Int) < wrF .i64 (2*((t.2.2.length:Nat):Int));rw [e6];omega)) (za (zp ⟨rfl,hu,hg,hgs,rfl⟩))
 rintro ⟨k,z,⟨t2,u2,gs,m2,⟨⟩⟩,⟨⟩⟩ ⟨h1,h2,h3,h4,h5⟩
 have h1:t2=t:=h1
 have h5:m2=most:=h5
 subst h1 h5
 have h3:gs.length=2*t2.2.2.length:=h3
 exact za ⟨⟨ht,h2,h4,by show ((gs.length:Nat):Int)=2*(t2.2.2.length:Int);omega,hm.1,hm.2⟩,hl1⟩
abbrev zyU:=Int×Int×Int×Gts×qC
def beP (b:zyU):Prop:=0≤b.1∧(0≤b.2.1∧b.2.1≤255)
theorem zFc {b:zyU} (hb:beP b) {n:Fab} {l:List qC} (hl:l.length≤6) (hg:1≤n.2.2.1.length) (hg2:n.2.2.1.length≤48) :
  ∃m o,kZ (b,n,l,())=some (m,o,())∧m.2.2.1.length≤49∧m.1.2.2.length=n.1.2.2.length∧o.length=l.length:=by
 suffices key:qu (kZ (b,n,l,())) fun r=>r.1.2.2.1.length≤49∧r.1.1.2.2.length=n.1.2.2.length∧r.2.1.length=l.length by
  obtain ⟨⟨m,o,⟨⟩⟩,e,h⟩:=key
  exact ⟨m,o,e,h⟩
 obtain ⟨b0,b1,b2⟩:=hb
 rw [znM];unfold zbE
 have ec:QG b.2.2.2.1.1 none (some (js ((b.2.2.2.1.1.length:Nat):Int) 130)) none=some (b.2.2.2.1.1.take (min b.2.2.2.1.1.length 130)):=by
  have:js ((b.2.2.2.1.1.length:Nat):Int) 130=((min b.2.2.2.1.1.length 130:Nat):Int):=by rw [YO];omega
  rw [this];exact zph _ _ (by omega)
 rw [ec,zz]
 generalize b.2.2.2.1.1.take (min b.2.2.2.1.1.length 130)=en
 refine ze (jC (by show (0+l.length)*96≤_;omega) (by show 0+l.length≤_;omega)) (ze (jC (by show (0+n.2.2.1.length)*32≤_;omega) (by show 0+n.2.2.1.length≤_;omega)) ?_)
 have ew:wrF .i64 b.2.1=b.2.1:=zH (by omega) (by omega)
 rw [ew,Int.tmod_eq_emod_of_nonneg b1,Int.tmod_eq_emod_of_nonneg b1]
 have p0:=Int.emod_nonneg b.2.1 (show (n.2.2.1.length:Int)≠0 by omega)
 have p1:=Int.emod_lt_of_pos b.2.1 (show (0:Int) < (n.2.2.1.length:Int) by omega)
 refine zk (fun _=>?_) fun _=>zk (fun _=>?_) fun _=>zk (fun _=>?_) fun _=>zk (fun _=>?_) fun _=>zk (fun _=>?_) fun _=>zk (fun _=>?_) fun _=>zk (fun h=>?_) fun _=>?_
 ·refine zf (qL (by omega)) (zg (qD p0 p1 fun _ _=>zg (jx (by omega) fun _ _=>za ⟨?_,rfl,rfl⟩)))
  show (List.set _ _ _).length≤49
  rw [List.length_set];omega
 ·refine ze (jC (by show (n.2.2.1.length+1)*32≤_;omega) (by show n.2.2.1.length+1≤_;omega)) (za ⟨?_,rfl,rfl⟩)
  show (_++[_]).length≤49
  simp;omega
 ·refine zg (qn (znw _ 1 hg) (za ⟨?_,rfl,rfl⟩))
  show (List.drop 1 n.2.2.1).length≤49
  simp;omega
 ·exact za ⟨by show n.2.2.1.length≤49;omega,rfl,rfl⟩
 ·exact za ⟨by show n.2.2.1.length≤49;omega,rfl,rfl⟩
 ·exact za ⟨by show n.2.2.1.length≤49;omega,rfl,rfl⟩
 ·have h:(0:Int) < (l.length:Int):=qt h
  have q0:=Int.emod_nonneg b.2.1 (show (l.length:Int)≠0 by omega)
  have q1:=Int.emod_lt_of_pos b.2.1 h
  refine zf (qL (by omega)) (zg (qD q0 q1 fun _ _=>zg (jx (by omega) fun _ _=>za ⟨by show n.2.2.1.length≤49;omega,rfl,?_⟩)))
  show (List.set _ _ _).length=_
  rw [List.length_set]
 ·exact za ⟨by show n.2.2.1.length≤49;omega,rfl,rfl⟩
theorem zdx (a:Int):zh a a=true:=uq rfl
structure zBc (l:List qC):Prop where
 n:l.length≤13
 r:∀s∈l,s.2.2.2.2.2.2.2.2.length≤2∧∀r∈s.2.2.2.2.2.2.2.2,r.length≤8
theorem zj6:zBc []:=⟨by simp,fun s h=>by cases h⟩
theorem zFd {n:Fab} {l:List qC} (h:okP n l):zBc l:=⟨by have:=h.n12;omega,fun s hs=>⟨(h.a s hs).rn.2,fun r hr=>((h.a s hs).rt r hr).1.n1⟩⟩
theorem zFe (n:Fab) (l:List qC) (s:qC):zBc (zeh n l s).1:=by
 unfold zeh
 by_cases h:xc n l=0
 ·rw [zQ h,cond_true]
  by_cases h2:xb n.1 s
  ·rw [zQ h2,cond_true]
   by_cases h3:xc n (l++[s])=0
   ·rw [zQ h3,cond_true];exact zFd (zdw h3)
   ·rw [zX h3,cond_false];exact zj6
  ·rw [zX h2,cond_false];exact zj6
 ·rw [zX h,cond_false];exact zj6
theorem zBK (n:Fab) (l:List qC) (id:Int):zBc (Uf n l id).1:=by
 unfold Uf
 by_cases h:xc n l=0
 ·have hl:=zFd (zdw h)
  rw [zQ h,cond_true]
  by_cases h2:(zaG l id).2=0
  ·rw [zQ h2,cond_true]
   refine ⟨?_,fun s hs=>hl.r s ?_⟩
   ·have:=hl.n
    simp only [List.length_append,List.length_take,List.length_drop];omega
   ·rcases List.mem_append.1 hs with h | h
    ·exact List.mem_of_mem_take h
    ·exact List.mem_of_mem_drop h
  ·rw [zX h2,cond_false];exact zj6
 ·rw [zX h,cond_false];exact zj6
theorem zxs {a:List qC} (h:zBc a):xE (a,a,())=some (true,()):=by
 have hn:=h.n
 rw [zue];unfold zhq
 refine wG (zf (by simp only [zdx];rfl) (zm (J:=fun y=>y.1=0) (zU a.length (fun i s=>s=((false,((i:Int),())),())) (by omega) rfl ?_ ?_) ?_))
 ·rintro i _ hi rfl
  have hx:a[i]?=some a[i]:=List.getElem?_eq_getElem hi
  have hr:=h.r _ (List.getElem_mem hi)
  generalize a[i]=s at hx hr
  obtain ⟨r2,r8⟩:=hr
  refine ze (zR (show (i:Int) < (a.length:Int) by omega)) (zg (zy (n:=i) hx (zg (zy (n:=i) hx ?_))))
  refine zm (J:=fun y=>y.1=0∧y.2.1.1=false) ?_ ?_
  ·simp only [zdx]
   exact za ⟨rfl,rfl⟩
  rintro ⟨k,⟨v',⟨⟩⟩,⟨⟩⟩ ⟨h1,h2⟩
  simp only at h1 h2
  subst h1 h2
  refine ze rfl (zm (J:=fun y=>y.1=0∧y.2.1.1=false) (zU s.2.2.2.2.2.2.2.2.length (fun i s=>s=((false,((i:Int),())),())) (by omega) rfl ?_ ?_) ?_)
  ·rintro j _ hj rfl
   have hy:s.2.2.2.2.2.2.2.2[j]?=some s.2.2.2.2.2.2.2.2[j]:=List.getElem?_eq_getElem hj
   have hr:=r8 _ (List.getElem_mem hj)
   generalize s.2.2.2.2.2.2.2.2[j]=r at hy hr
   refine ze (zR (show (j:Int) < (s.2.2.2.2.2.2.2.2.length:Int) by omega)) (zg (zy (n:=j) hy (zg (zy (n:=j) hy (zf (by simp only [zdx];rfl) ?_)))))
   refine zm (J:=fun y=>y.1=0∧y.2.1.1=false) (zU r.length (fun i s=>s=((false,((i:Int),())),())) (by omega) rfl ?_ ?_) ?_
   ·rintro k _ hk rfl
    have hz:r[k]?=some r[k]:=List.getElem?_eq_getElem hk
    generalize r[k]=q at hz
    refine zg (zy (n:=j) hy (ze (zR (show (k:Int) < (r.length:Int) by omega)) (zg (zy (n:=j) hy (zg (zy (n:=k) hz (zg (zy (n:=j) hy (zg (zy (n:=k) hz (zf (by simp only [zdx];rfl) (za (qg (congrArg (fun z=>((false,(z,())),())) (qj (by omega))))))))))))))))
   ·rintro _ rfl
    exact zg (zy (n:=j) hy (zf (zF (show ¬(r.length:Int) < (r.length:Int) by omega)) (za (zp ⟨rfl,rfl⟩))))
   ·rintro ⟨k,⟨v',z,⟨⟩⟩,⟨⟩⟩ ⟨h1,h2⟩
    simp only at h1 h2
    subst h1 h2
    exact ze rfl (za (qg (congrArg (fun z=>((false,(z,())),())) (qj (by omega)))))
  ·rintro _ rfl
   exact zf (zF (show ¬(s.2.2.2.2.2.2.2.2.length:Int) < (s.2.2.2.2.2.2.2.2.length:Int) by omega)) (za (zp ⟨rfl,rfl⟩))
  ·rintro ⟨k,⟨v',z,⟨⟩⟩,⟨⟩⟩ ⟨h1,h2⟩
   simp only at h1 h2
   subst h1 h2
   exact ze rfl (za (qg (congrArg (fun z=>((false,(z,())),())) (qj (by omega)))))
 ·rintro _ rfl
  exact zf (zF (show ¬(a.length:Int) < (a.length:Int) by omega)) (za (zp rfl))
 ·rintro ⟨k,⟨v',z,⟨⟩⟩,⟨⟩⟩ h1
  have h1:k=0:=h1
  subst h1
  exact ze rfl (za rfl)
abbrev zpo:=((((Int×((List Bool)×(List (Int×(Int×(Int×Int))))))×((Int×(Int×(Int×Int)))×((List ((List (Int×Int))×Int))×Int)))×(Bool×((List (Int×(Int×(Int×(Int×(Int×(Int×((Int×Int)×(Int×(List (List Int)))))))))))×(Int×Unit))))×Unit)
theorem zCp {x:Fab} (hn:x.2.2.1.length≤1000000000000000000) {l:List qC} (hl:l.length≤6) (dr:List Int) (v:Bool) (in0:List qC)
  {B:zpo→Option ((Nat×zpo) ⊕ zpo)} (hB:B=fun s5:((((Int×((List Bool)×(List (Int×(Int×(Int×Int))))))×((Int×(Int×(Int×Int)))×((List ((List (Int×Int))×Int))×Int)))×(Bool×((List (Int×(Int×(Int×(Int×(Int×(Int×((Int×Int)×(Int×(List (List Int)))))))))))×(Int×Unit))))×Unit)=>
        bif (zj (s5.1.2.2.2.1) ((((l).length:Nat):Int))) then opt (atI (l) (s5.1.2.2.2.1)) fun x6=>
         opt (ke ((s5.1.1,(s5.1.2.2.1,(x6,()))))) fun x7=>
         opt (atI (l) (s5.1.2.2.2.1)) fun x8=>
         opt (kg ((s5.1.1,(s5.1.2.2.1,(x8,()))))) fun x9=>
         opt (bif (!(zh (x7.2.1) (x9.2.1))) then some (1,((false,()),()))
          else opt (xE ((x7.1,(x9.1,())))) fun x10=>
           bif (!x10.1) then some (1,((false,()),()))
           else some (0,((s5.1.2.1,()),()))) fun x11=>
         bif
           (Nat.beq x11.1 0) then opt (bif (zh (x9.2.1) (0)) then some (0,((x9.1,()),()))
           else some (0,((s5.1.2.2.1,()),()))) fun x12=>
          opt
            (bif (zj (s5.1.2.2.2.1) ((((dr).length:Nat):Int))) then opt (atI (dr) (s5.1.2.2.2.1)) fun x13=>
            opt (xV ((s5.1.1,(x12.2.1.1,((wrF .i64 ((Int.tmod x13 7))),()))))) fun x14=>
            opt (atI (dr) (s5.1.2.2.2.1)) fun x15=>
            opt (xW ((s5.1.1,(x12.2.1.1,((wrF .i64 ((Int.tmod x15 7))),()))))) fun x16=>
            opt (bif (!(zh (x14.2.1) (x16.2.1))) then some (1,((false,()),()))
             else opt (xE ((x14.1,(x16.1,())))) fun x17=>
              bif (!x17.1) then some (1,((false,()),()))
              else some (0,((x11.2.1.1,()),()))) fun x18=>
            bif (Nat.beq x18.1 0) then opt (bif (zh (x16.2.1) (0)) then opt (atI (dr) (s5.1.2.2.2.1)) fun x19=>
               bif (zj (128) (x19)) then some (0,((x16.1,()),()))
               else some (0,((x12.2.1.1,()),()))
              else some (0,((x12.2.1.1,()),()))) fun x20=>
             some (0,((s5.1.1,(x14.1,(x14.2.1,(x16.1,(x16.2.1,(x18.2.1.1,(x20.2.1.1,()))))))),()))
            else some (1,((s5.1.1,(x14.1,(x14.2.1,(x16.1,(x16.2.1,(x18.2.1.1,(x12.2.1.1,()))))))),()))
           else some (0,((s5.1.1,(x7.1,(x7.2.1,(x9.1,(x9.2.1,(x11.2.1.1,(x12.2.1.1,()))))))),()))) fun x21=>
          bif (Nat.beq x21.1 0) then some (.inr ((x21.2.1.1,(x21.2.1.2.2.2.2.2.1,(x21.2.1.2.2.2.2.2.2.1,((wrF .i64 ((s5.1.2.2.2.1+1))),())))),()))
          else some (.inl (1,((x21.2.1.1,(x21.2.1.2.2.2.2.2.1,(x21.2.1.2.2.2.2.2.2.1,(s5.1.2.2.2.1,())))),())))
         else some (.inl (1,((s5.1.1,(x11.2.1.1,(s5.1.2.2.1,(s5.1.2.2.2.1,())))),())))
        else some (.inl (0,((s5.1.1,(s5.1.2.1,(s5.1.2.2.1,(s5.1.2.2.2.1,())))),())))) :
  qu (zD B zL ((x,(v,(in0,(0,())))),())) fun y=>y.1=0∧y.2.1.1=x∧y.2.1.2.1=v:=by
 subst hB
 refine zU l.length (fun i s=>∃m,s=((x,(v,(m,((i:Int),())))),())) (by omega) ⟨in0,rfl⟩ ?_ ?_
 ·rintro i _ hi ⟨m,rfl⟩
  have hx:l[i]?=some l[i]:=List.getElem?_eq_getElem hi
  generalize l[i]=s at hx
  refine ze (zR (show (i:Int) < (l.length:Int) by omega)) (zg (zy (n:=i) hx ?_))
  rw [zuL hn,zz]
  refine zg (zy (n:=i) hx ?_)
  rw [zuM hn,zz]
  refine zm (J:=fun y=>y.1=0∧y.2.1.1=v) ?_ ?_
  ·refine zf (by simp only [zdx];rfl) ?_
   rw [zxs (zFe x m s),zz]
   exact za ⟨rfl,rfl⟩
  rintro ⟨k,⟨v',⟨⟩⟩,⟨⟩⟩ ⟨h1,h2⟩
  simp only at h1 h2
  subst h1 h2
  refine ze rfl (zm (J:=fun _=>True) (zk (fun _=>za trivial) (fun _=>za trivial)) ?_)
  rintro x12 -
  refine zm (J:=fun y=>y.1=0∧y.2.1.1=x∧y.2.1.2.2.2.2.2.1=v') ?_ ?_
  ·refine zk (fun h=>?_) (fun _=>za ⟨rfl,rfl,rfl⟩)
   have h:(i:Int) < (dr.length:Int):=qt h
   refine zg (qD (by show 0≤(i:Int);omega) h fun y hy=>?_)
   rw [zp2 hn,zz]
   have hy2:atI dr (i:Int)=some y:=wB (n:=i) (by simpa using hy)
   refine zg (qn hy2 ?_)
   rw [zp3 hn,zz]
   refine zm (J:=fun y=>y.1=0∧y.2.1.1=v') ?_ ?_
   ·refine zf (by simp only [zdx];rfl) ?_
    rw [zxs (zBK x _ _),zz]
    exact za ⟨rfl,rfl⟩
   rintro ⟨k,⟨v2,⟨⟩⟩,⟨⟩⟩ ⟨h1,h2⟩
   simp only at h1 h2
   subst h1 h2
   refine ze rfl (zm (J:=fun _=>True) (zk (fun _=>zg (qn hy2 (zk (fun _=>za trivial) (fun _=>za trivial)))) (fun _=>za trivial)) ?_)
   rintro x20 -
   exact za ⟨rfl,rfl,rfl⟩
  rintro ⟨k,⟨x',p1,p2,p3,p4,v2,m2,⟨⟩⟩,⟨⟩⟩ ⟨h1,h2,h3⟩
  simp only at h1 h2 h3
  subst h1 h2 h3
  exact ze rfl (za (qg ⟨m2,congrArg (fun z=>((x',(v2,(m2,(z,())))),())) (qj (by omega))⟩))
 ·rintro _ ⟨m,rfl⟩
  exact zf (zF (show ¬(l.length:Int) < (l.length:Int) by omega)) (za (zp ⟨rfl,rfl,rfl⟩))
theorem zCq {x:Fab} (hn:x.2.2.1.length≤1000000000000000000) {l o:List qC} (hl:l.length≤6) (ho:o.length≤6) (dr:List Int) (v:Bool)
  {B:zpo→Option ((Nat×zpo) ⊕ zpo)} (hB:B=fun s4:((((Int×((List Bool)×(List (Int×(Int×(Int×Int))))))×((Int×(Int×(Int×Int)))×((List ((List (Int×Int))×Int))×Int)))×(Bool×((List (Int×(Int×(Int×(Int×(Int×(Int×((Int×Int)×(Int×(List (List Int)))))))))))×(Int×Unit))))×Unit)=>
     bif (zj (s4.1.2.2.2.1) (2)) then bif (zh (s4.1.2.2.2.1) (0)) then opt (zD (fun s5:((((Int×((List Bool)×(List (Int×(Int×(Int×Int))))))×((Int×(Int×(Int×Int)))×((List ((List (Int×Int))×Int))×Int)))×(Bool×((List (Int×(Int×(Int×(Int×(Int×(Int×((Int×Int)×(Int×(List (List Int)))))))))))×(Int×Unit))))×Unit)=>
        bif (zj (s5.1.2.2.2.1) ((((l).length:Nat):Int))) then opt (atI (l) (s5.1.2.2.2.1)) fun x6=>
         opt (ke ((s5.1.1,(s5.1.2.2.1,(x6,()))))) fun x7=>
         opt (atI (l) (s5.1.2.2.2.1)) fun x8=>
         opt (kg ((s5.1.1,(s5.1.2.2.1,(x8,()))))) fun x9=>
         opt (bif (!(zh (x7.2.1) (x9.2.1))) then some (1,((false,()),()))
          else opt (xE ((x7.1,(x9.1,())))) fun x10=>
           bif (!x10.1) then some (1,((false,()),()))
           else some (0,((s5.1.2.1,()),()))) fun x11=>
         bif
           (Nat.beq x11.1 0) then opt (bif (zh (x9.2.1) (0)) then some (0,((x9.1,()),()))
           else some (0,((s5.1.2.2.1,()),()))) fun x12=>
          opt
            (bif (zj (s5.1.2.2.2.1) ((((dr).length:Nat):Int))) then opt (atI (dr) (s5.1.2.2.2.1)) fun x13=>
            opt (xV ((s5.1.1,(x12.2.1.1,((wrF .i64 ((Int.tmod x13 7))),()))))) fun x14=>
            opt (atI (dr) (s5.1.2.2.2.1)) fun x15=>
            opt (xW ((s5.1.1,(x12.2.1.1,((wrF .i64 ((Int.tmod x15 7))),()))))) fun x16=>
            opt (bif (!(zh (x14.2.1) (x16.2.1))) then some (1,((false,()),()))
             else opt (xE ((x14.1,(x16.1,())))) fun x17=>
              bif (!x17.1) then some (1,((false,()),()))
              else some (0,((x11.2.1.1,()),()))) fun x18=>
            bif (Nat.beq x18.1 0) then opt (bif (zh (x16.2.1) (0)) then opt (atI (dr) (s5.1.2.2.2.1)) fun x19=>
               bif (zj (128) (x19)) then some (0,((x16.1,()),()))
               else some (0,((x12.2.1.1,()),()))
              else some (0,((x12.2.1.1,()),()))) fun x20=>
             some (0,((s5.1.1,(x14.1,(x14.2.1,(x16.1,(x16.2.1,(x18.2.1.1,(x20.2.1.1,()))))))),()))
            else some (1,((s5.1.1,(x14.1,(x14.2.1,(x16.1,(x16.2.1,(x18.2.1.1,(x12.2.1.1,()))))))),()))
           else some (0,((s5.1.1,(x7.1,(x7.2.1,(x9.1,(x9.2.1,(x11.2.1.1,(x12.2.1.1,()))))))),()))) fun x21=>
          bif (Nat.beq x21.1 0) then some (.inr ((x21.2.1.1,(x21.2.1.2.2.2.2.2.1,(x21.2.1.2.2.2.2.2.2.1,((wrF .i64 ((s5.1.2.2.2.1+1))),())))),()))
          else some (.inl (1,((x21.2.1.1,(x21.2.1.2.2.2.2.2.1,(x21.2.1.2.2.2.2.2.2.1,(s5.1.2.2.2.1,())))),())))
         else some (.inl (1,((s5.1.1,(x11.2.1.1,(s5.1.2.2.1,(s5.1.2.2.2.1,())))),())))
        else some (.inl (0,((s5.1.1,(s5.1.2.1,(s5.1.2.2.1,(s5.1.2.2.2.1,())))),())))) zL ((s4.1.1,(s4.1.2.1,(s4.1.2.2.1,(0,())))),())) fun x22=>
       bif (Nat.beq x22.1 0) then some (.inr ((x22.2.1.1,(x22.2.1.2.1,(x22.2.1.2.2.1,((wrF .i64 ((s4.1.2.2.2.1+1))),())))),()))
       else some (.inl (1,((x22.2.1.1,(x22.2.1.2.1,(x22.2.1.2.2.1,(s4.1.2.2.2.1,())))),())))
      else bif (zh (s4.1.2.2.2.1) (1)) then opt (zD (fun s23:((((Int×((List Bool)×(List (Int×(Int×(Int×Int))))))×((Int×(Int×(Int×Int)))×((List ((List (Int×Int))×Int))×Int)))×(Bool×((List (Int×(Int×(Int×(Int×(Int×(Int×((Int×Int)×(Int×(List (List Int)))))))))))×(Int×Unit))))×Unit)=>
         bif (zj (s23.1.2.2.2.1) ((((o).length:Nat):Int))) then opt (atI (o) (s23.1.2.2.2.1)) fun x24=>
          opt (ke ((s23.1.1,(s23.1.2.2.1,(x24,()))))) fun x25=>
          opt (atI (o) (s23.1.2.2.2.1)) fun x26=>
          opt (kg ((s23.1.1,(s23.1.2.2.1,(x26,()))))) fun x27=>
          opt (bif (!(zh (x25.2.1) (x27.2.1))) then some (1,((false,()),()))
           else opt (xE ((x25.1,(x27.1,())))) fun x28=>
            bif (!x28.1) then some (1,((false,()),()))
            else some (0,((s23.1.2.1,()),()))) fun x29=>
          bif
            (Nat.beq x29.1 0) then opt (bif (zh (x27.2.1) (0)) then some (0,((x27.1,()),()))
            else some (0,((s23.1.2.2.1,()),()))) fun x30=>
           opt
             (bif (zj (s23.1.2.2.2.1) ((((dr).length:Nat):Int))) then opt (atI (dr) (s23.1.2.2.2.1)) fun x31=>
             opt (xV ((s23.1.1,(x30.2.1.1,((wrF .i64 ((Int.tmod x31 7))),()))))) fun x32=>
             opt (atI (dr) (s23.1.2.2.2.1)) fun x33=>
             opt (xW ((s23.1.1,(x30.2.1.1,((wrF .i64 ((Int.tmod x33 7))),()))))) fun x34=>
             opt (bif (!(zh (x32.2.1) (x34.2.1))) then some (1,((false,()),()))
              else opt (xE ((x32.1,(x34.1,())))) fun x35=>
               bif (!x35.1) then some (1,((false,()),()))
               else some (0,((x29.2.1.1,()),()))) fun x36=>
             bif (Nat.beq x36.1 0) then opt (bif (zh (x34.2.1) (0)) then opt (atI (dr) (s23.1.2.2.2.1)) fun x37=>
                bif (zj (128) (x37)) then some (0,((x34.1,()),()))
                else some (0,((x30.2.1.1,()),()))
               else some (0,((x30.2.1.1,()),()))) fun x38=>
              some (0,((s23.1.1,(x32.1,(x32.2.1,(x34.1,(x34.2.1,(x36.2.1.1,(x38.2.1.1,()))))))),()))
             else some (1,((s23.1.1,(x32.1,(x32.2.1,(x34.1,(x34.2.1,(x36.2.1.1,(x30.2.1.1,()))))))),()))
            else some (0,((s23.1.1,(x25.1,(x25.2.1,(x27.1,(x27.2.1,(x29.2.1.1,(x30.2.1.1,()))))))),()))) fun x39=>
           bif (Nat.beq x39.1 0) then some (.inr ((x39.2.1.1,(x39.2.1.2.2.2.2.2.1,(x39.2.1.2.2.2.2.2.2.1,((wrF .i64 ((s23.1.2.2.2.1+1))),())))),()))
           else some (.inl (1,((x39.2.1.1,(x39.2.1.2.2.2.2.2.1,(x39.2.1.2.2.2.2.2.2.1,(s23.1.2.2.2.1,())))),())))
          else some (.inl (1,((s23.1.1,(x29.2.1.1,(s23.1.2.2.1,(s23.1.2.2.2.1,())))),())))
         else some (.inl (0,((s23.1.1,(s23.1.2.1,(s23.1.2.2.1,(s23.1.2.2.2.1,())))),())))) zL ((s4.1.1,(s4.1.2.1,(s4.1.2.2.1,(0,())))),())) fun x40=>
        bif (Nat.beq x40.1 0) then some (.inr ((x40.2.1.1,(x40.2.1.2.1,(x40.2.1.2.2.1,((wrF .i64 ((s4.1.2.2.2.1+1))),())))),()))
        else some (.inl (1,((x40.2.1.1,(x40.2.1.2.1,(x40.2.1.2.2.1,(s4.1.2.2.2.1,())))),())))
       else none
     else some (.inl (0,((s4.1.1,(s4.1.2.1,(s4.1.2.2.1,(s4.1.2.2.2.1,())))),())))) :
  qu (zD B zL ((x,(v,([],(0,())))),())) fun y=>y.1=0∧y.2.1.2.1=v:=by
 subst hB
 refine zU 2 (fun i s=>∃m,s=((x,(v,(m,((i:Int),())))),())) (by omega) ⟨[],rfl⟩ ?_ ?_
 ·rintro i _ hi ⟨m,rfl⟩
  refine ze (zR (show (i:Int) < 2 by omega)) (zk (fun h=>?_) (fun h=>zk (fun h1=>?_) (fun h1=>?_)))
  ·refine zm (zCp hn hl dr v m rfl) ?_
   rintro ⟨k,⟨x',v2,m2,z,⟨⟩⟩,⟨⟩⟩ ⟨h1,h2,h3⟩
   simp only at h1 h2 h3
   subst h1 h2 h3
   exact ze rfl (za (qg ⟨m2,congrArg (fun z=>((x',(v2,(m2,(z,())))),())) (qj (by omega))⟩))
  ·refine zm (zCp hn ho dr v m rfl) ?_
   rintro ⟨k,⟨x',v2,m2,z,⟨⟩⟩,⟨⟩⟩ ⟨h1,h2,h3⟩
   simp only at h1 h2 h3
   subst h1 h2 h3
   exact ze rfl (za (qg ⟨m2,congrArg (fun z=>((x',(v2,(m2,(z,())))),())) (qj (by omega))⟩))
  ·have h:(i:Int)≠0:=jk h
   have h1:(i:Int)≠1:=jk h1
   exfalso;omega
 ·rintro _ ⟨m,rfl⟩
  exact zf (zF (show ¬(2:Int) < 2 by omega)) (za (zp ⟨rfl,rfl⟩))
theorem zFf (hw:QD ()=some (true,())) {d:zj5} {b:zyU} (hd:drP d) (hb:beP b) (dr:List Int):Ye (d,b,dr,())=some (true,()):=by
 obtain ⟨n,en,hn,hn1⟩:=zIq hd
 obtain ⟨l,el,hl⟩:=zBa hd
 have hg:n.2.2.1.length=2*n.1.2.2.length:=by have:=hn.f.1;omega
 have h24:=hn.t.sz.ls
 obtain ⟨m,o,eb,hm,hm2,ho⟩:=zFc hb hl (n:=n) (by omega) (by omega)
 rw [zjV];unfold KY
 rw [en,zz,el,zz,eb,zz]
 refine wG (zm (J:=fun y=>y.1=0) (zU 2 (fun i s=>s=((false,((i:Int),())),())) (by omega) rfl ?_ ?_) ?_)
 ·rintro i _ hi rfl
  refine ze (zR (show (i:Int) < 2 by omega)) (zk (fun h=>?_) (fun h=>zk (fun h1=>?_) (fun h1=>?_)))
  ·refine zm (zCq (show n.2.2.1.length≤_ by omega) hl (show o.length≤6 by omega) dr false rfl) ?_
   rintro ⟨k,⟨x',v2,m2,z,⟨⟩⟩,⟨⟩⟩ ⟨h1,h2⟩
   simp only at h1 h2
   subst h1 h2
   exact ze rfl (za (qg (congrArg (fun z=>((false,(z,())),())) (qj (by omega)))))
  ·refine zm (zCq (show m.2.2.1.length≤_ by omega) hl (show o.length≤6 by omega) dr false rfl) ?_
   rintro ⟨k,⟨x',v2,m2,z,⟨⟩⟩,⟨⟩⟩ ⟨h1,h2⟩
   simp only at h1 h2
   subst h1 h2
   exact ze rfl (za (qg (congrArg (fun z=>((false,(z,())),())) (qj (by omega)))))
  ·have h:(i:Int)≠0:=jk h
   have h1:(i:Int)≠1:=jk h1
   exfalso;omega
 ·rintro _ rfl
  exact zf (zF (show ¬(2:Int) < 2 by omega)) (za (zp rfl))
 ·rintro ⟨k,⟨v',z,⟨⟩⟩,⟨⟩⟩ h
  have h:k=0:=h
  subst h
  refine ze rfl ?_
  rw [hw,zz]
  exact za rfl
theorem u8w {n:Int} (h:wfT (.int .u8) n):0≤n∧n≤255:=h
theorem zIN {n:Int} (h:wfT (.int .u16) n):0≤n∧n≤65535:=h
theorem u8l {l:List Int} (h:wfT (.list (.int .u8)) l):u8 l:=fun x hx=>u8w (h.2 x hx)
theorem zIB {d:zj5} (h:wfT yX d):drP d where
 t:=⟨u8w h.1.1,u8w h.1.2.1,u8l h.1.2.2.1,u8l h.1.2.2.2.1,u8l h.1.2.2.2.2.1,u8l h.1.2.2.2.2.2⟩
 g:=fun x hx=>⟨u8l (h.2.1.2 x hx).1,u8l (h.2.1.2 x hx).2⟩
 u:=⟨u8w h.2.2.1.1,u8w h.2.2.1.2.1,u8w h.2.2.1.2.2⟩
 cap:=u8w h.2.2.2.1
 most:=zIN h.2.2.2.2.1
 l:=fun x hx=>⟨u8w (h.2.2.2.2.2.1.2 x hx).2.2.1,u8w (h.2.2.2.2.2.1.2 x hx).2.2.2.2.2.1⟩
 ll:=Nat.le_trans (show d.2.2.2.2.2.1.length*10≤reachBytes from h.2.2.2.2.2.1.1.2) (by decide)
theorem zIC {b:zyU} (h:wfT kX b):beP b:=⟨(u8w h.1).1,u8w h.2.1⟩
theorem zGJ:QD ()=some (true,()):=zsd
abbrev A6:=Yd
abbrev K6_ok:=zjU
theorem good6 (x:T (zq A6)) (h:wfT (zq A6) x):Ye x=some (true,()):=by
 obtain ⟨d,b,dr,⟨⟩⟩:=x
 exact zFf zGJ (zIB h.1) (zIC h.2.1) dr
end Go.Proofs.YtplhphmbkmpocaaGreat.ad
end
