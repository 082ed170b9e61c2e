/- Parts of a proof, joined. -/
import Derived.Test.YtplhphmbkmpocaaGreatE77
set_option linter.unusedSectionVars false
set_option linter.unusedVariables false
set_option linter.unusedSimpArgs false
set_option maxHeartbeats 0
set_option maxRecDepth 100000
noncomputable section
namespace Go.Proofs.YtplhphmbkmpocaaGreat.ad
open Go Go.Fz Go.Fz.Sy
theorem zCT {n:Fab} {l:List qw} (h:okP n l) {p:Int} (hp:wu n.1 p) :
  (∃b v,(qG n l p)=(zCS b v,0)∧wA b∧zoM v∧b.2≤v.1∧load l p≠[]∧b=ja (load l p))∨((qG n l p).1=zB∧(qG n l p).2≠0):=by
 obtain ⟨g,hx,hge,hg,p0,p1⟩:=zhH h.f hp
 obtain ⟨o1,o2,o3⟩:=zxZ hg p0 p1 h.f.f.2.1 h.f.f.2.2
 unfold qG
 rw [hge]
 by_cases hne:load l p=[]
 ·rw [zA hne];exact .inr ⟨rfl,by show (4:Int)≠0;decide⟩
 rw [zM hne,cond_false]
 rcases o3 with ⟨o4,o5⟩ | ⟨o4,o5⟩
 ·rw [o4,zA rfl,cond_true]
  unfold Qc
  by_cases hb:wA (ja (load l p))
  ·rw [zA hb,cond_true,zA rfl,cond_true]
   by_cases hle:(ja (load l p)).2≤(ofS g (lnk n.1 p).2.2.1 n.2.2.2).1.1
   ·rw [zA hle];exact .inl ⟨_,_,rfl,hb,o5,hle,hne,rfl⟩
   ·rw [zM hle];exact .inr ⟨rfl,by show (141:Int)≠0;decide⟩
  ·rw [zM hb,cond_false,zM (by simp)];exact .inr ⟨rfl,by show (6:Int)≠0;decide⟩
 ·rw [o4,zM (by simp)];exact .inr ⟨rfl,by show (411:Int)≠0;decide⟩
theorem zEj {n:Fab} {l:List qw} (h:okP n l) {p:Int} (hp:wu n.1 p):0≤(qG n l p).1.2.2.1∧(qG n l p).1.2.2.1≤1099780063233:=by
 rcases zCT h hp with ⟨b,v,e,hb,hv,_⟩ | ⟨e,_⟩
 ·rw [e]
  have hd:=zrJ hb hv.ok
  have h1:=hv.2.2.1;have h2:=hv.2.2.2
  show 0≤v.2+cl v.1 (b.1*1048576)∧v.2+cl v.1 (b.1*1048576)≤_
  omega
 ·rw [e];exact ⟨Int.le_refl _,by show (0:Int)≤_;decide⟩
noncomputable def zbQ (n:Fab) (l:List qw):List Int→Int→Int×Int
 |[],s=>(s,0)
 |p::r,s=>bif tv ((qG n l p).2=0) then zbQ n l r (s+((qG n l p).1.2.2.1+(lnk n.1 p).2.2.2+n.2.1.2.2.1)) else (0,(qG n l p).2)
noncomputable def yb (n:Fab) (l:List qw) (r:List Int):Int×Int:=zbQ n l r 0
theorem zwu {n:Fab} (h:zig n) {p:Int} (hp:wu n.1 p):0≤(lnk n.1 p).2.2.2∧(lnk n.1 p).2.2.2≤10000:=by
 have hl:=(h.t.ls _ _ (Xp hp)).1
 exact ⟨hl.2.2.2.2.2.2.1,hl.2.2.2.2.2.2.2⟩
noncomputable def zGn (n:Fab) (l:List qw) (m:Gz) (r:List Int):Option (Nat×((Int×(Int×(Int×(Int×Unit))))×(Gz×Unit))):=
 zz (fun s32:((Int×(Int×(Int×(Int×Unit))))×((List (Int×(((Int×Int)×((Int×Int)×(Int×Int)))×Int)))×Unit))=>
          bif (zh (s32.1.2.2.2.1) ((((r).length:Nat):Int))) then opt (atI (r) (s32.1.2.2.2.1)) fun x33=>
           opt (bif (!(mpH (α:=(((Int×Int)×((Int×Int)×(Int×Int)))×Int)) (s32.2.1) (x33))) then opt (zz (fun s34:((Int×Unit)×(((List (Int×Int))×Unit)×(Unit×(Unit×Unit))))=>
              bif (zh (s34.1.1) ((((l).length:Nat):Int))) then opt (atI (l) (s34.1.1)) fun x35=>
               opt (zz (fun s36:((Int×(Int×Unit))×(((List (Int×Int))×Unit)×(Unit×(Unit×Unit))))=>
                bif (zh (s36.1.2.1) ((((x35.2.2.2.2.2.2.2.2).length:Nat):Int))) then opt (atI (x35.2.2.2.2.2.2.2.2) (s36.1.2.1)) fun x37=>
                 opt (qd ((x37,(x33,())))) fun x38=>
                 bif x38.1 then some (.inl (1,((s36.1.2.1,(s36.1.2.1,())),((s36.2.1.1,()),((),((),()))))))
                 else some (.inr ((s36.1.1,((wrF .i64 ((s36.1.2.1+1))),())),((s36.2.1.1,()),((),((),())))))
                else some (.inl (0,((s36.1.1,(s36.1.2.1,())),((s36.2.1.1,()),((),((),()))))))) zL ((0,(0,())),((s34.2.1.1,()),((),((),()))))) fun x39=>
               bif (Nat.beq x39.1 0) then some (.inr (((wrF .i64 ((s34.1.1+1))),()),((x39.2.2.1.1,()),((),((),())))))
               else bif (!(zh (x39.2.1.1) (0))) then bif (jb ((x39.2.2.1.1).length) (((x35.2.2.2.2.2.2.1::[])).length) (16)) then some (.inr (((wrF .i64 ((s34.1.1+1))),()),(((x39.2.2.1.1++(x35.2.2.2.2.2.2.1::[])),()),((),((),())))))
                 else none
                else some (.inr (((wrF .i64 ((s34.1.1+1))),()),((x39.2.2.1.1,()),((),((),())))))
              else some (.inl (0,((s34.1.1,()),((s34.2.1.1,()),((),((),()))))))) zL ((0,()),(([],()),((),((),()))))) fun x40=>
             bif (Nat.beq x40.1 0) then bif (zi ((((x40.2.2.1.1).length:Nat):Int)) (0)) then some (0,(((((0,0),((0,0),(0,0))),4),()),((mpP (α:=(((Int×Int)×((Int×Int)×(Int×Int)))×Int)) (s32.2.1) (x33) ((((0,0),((0,0),(0,0))),4))),())))
              else opt (xa ((n.1,(x33,())))) fun x41=>
               bif (!(zi (x41.2.1) (0))) then some (0,(((((0,0),((0,0),(0,0))),x41.2.1),()),((mpP (α:=(((Int×Int)×((Int×Int)×(Int×Int)))×Int)) (s32.2.1) (x33) ((((0,0),((0,0),(0,0))),x41.2.1))),())))
               else opt (atI (n.2.2.1) (x33)) fun x42=>
                opt (jH ((x42,(x41.1,(n.2.2.2,()))))) fun x43=>
                bif (!(zi (x43.2.1) (0))) then some (0,(((((0,0),((0,0),(0,0))),411),()),((mpP (α:=(((Int×Int)×((Int×Int)×(Int×Int)))×Int)) (s32.2.1) (x33) ((((0,0),((0,0),(0,0))),411))),())))
                else opt (wD ((x40.2.2.1.1,()))) fun x44=>
                 bif (!(zi (x44.2.1) (0))) then some (0,(((((0,0),((0,0),(0,0))),x44.2.1),()),((mpP (α:=(((Int×Int)×((Int×Int)×(Int×Int)))×Int)) (s32.2.1) (x33) ((((0,0),((0,0),(0,0))),x44.2.1))),())))
                 else opt (jM (((x44.1::[]),(x43.1,())))) fun x45=>
                  bif (!(zi (x45.2.1) (0))) then some (0,(((((0,0),((0,0),(0,0))),x45.2.1),()),((mpP (α:=(((Int×Int)×((Int×Int)×(Int×Int)))×Int)) (s32.2.1) (x33) ((((0,0),((0,0),(0,0))),x45.2.1))),())))
                  else opt (jg ((x44.1,(x43.1,())))) fun x46=>
                   bif (!(zi (x46.2.1) (0))) then some (0,(((((0,0),((0,0),(0,0))),x46.2.1),()),((mpP (α:=(((Int×Int)×((Int×Int)×(Int×Int)))×Int)) (s32.2.1) (x33) ((((0,0),((0,0),(0,0))),x46.2.1))),())))
                   else some (0,((((x44.1,(x43.1,(x45.1,x46.1))),0),()),((mpP (α:=(((Int×Int)×((Int×Int)×(Int×Int)))×Int)) (s32.2.1) (x33) (((x44.1,(x43.1,(x45.1,x46.1))),0))),())))
             else bif (zi ((((x40.2.2.1.1).length:Nat):Int)) (0)) then some (0,(((((0,0),((0,0),(0,0))),4),()),((mpP (α:=(((Int×Int)×((Int×Int)×(Int×Int)))×Int)) (s32.2.1) (x33) ((((0,0),((0,0),(0,0))),4))),())))
              else opt (xa ((n.1,(x33,())))) fun x47=>
               bif (!(zi (x47.2.1) (0))) then some (0,(((((0,0),((0,0),(0,0))),x47.2.1),()),((mpP (α:=(((Int×Int)×((Int×Int)×(Int×Int)))×Int)) (s32.2.1) (x33) ((((0,0),((0,0),(0,0))),x47.2.1))),())))
               else opt (atI (n.2.2.1) (x33)) fun x48=>
                opt (jH ((x48,(x47.1,(n.2.2.2,()))))) fun x49=>
                bif (!(zi (x49.2.1) (0))) then some (0,(((((0,0),((0,0),(0,0))),411),()),((mpP (α:=(((Int×Int)×((Int×Int)×(Int×Int)))×Int)) (s32.2.1) (x33) ((((0,0),((0,0),(0,0))),411))),())))
                else opt (wD ((x40.2.2.1.1,()))) fun x50=>
                 bif (!(zi (x50.2.1) (0))) then some (0,(((((0,0),((0,0),(0,0))),x50.2.1),()),((mpP (α:=(((Int×Int)×((Int×Int)×(Int×Int)))×Int)) (s32.2.1) (x33) ((((0,0),((0,0),(0,0))),x50.2.1))),())))
                 else opt (jM (((x50.1::[]),(x49.1,())))) fun x51=>
                  bif (!(zi (x51.2.1) (0))) then some (0,(((((0,0),((0,0),(0,0))),x51.2.1),()),((mpP (α:=(((Int×Int)×((Int×Int)×(Int×Int)))×Int)) (s32.2.1) (x33) ((((0,0),((0,0),(0,0))),x51.2.1))),())))
                  else opt (jg ((x50.1,(x49.1,())))) fun x52=>
                   bif (!(zi (x52.2.1) (0))) then some (0,(((((0,0),((0,0),(0,0))),x52.2.1),()),((mpP (α:=(((Int×Int)×((Int×Int)×(Int×Int)))×Int)) (s32.2.1) (x33) ((((0,0),((0,0),(0,0))),x52.2.1))),())))
                   else some (0,((((x50.1,(x49.1,(x51.1,x52.1))),0),()),((mpP (α:=(((Int×Int)×((Int×Int)×(Int×Int)))×Int)) (s32.2.1) (x33) (((x50.1,(x49.1,(x51.1,x52.1))),0))),())))
            else some (0,(((mpD (α:=(((Int×Int)×((Int×Int)×(Int×Int)))×Int)) (s32.2.1) (x33) ((((0,0),((0,0),(0,0))),0))),()),(s32.2.1,())))) fun x53=>
           bif (!(zi (x53.2.1.1.2) (0))) then some (.inl (1,((0,(x53.2.1.1.2,(s32.1.2.2.1,(s32.1.2.2.2.1,())))),(x53.2.2.1,()))))
           else opt (uX ((n.1,(x33,())))) fun x54=>
            bif (!(zi (x54.2.1) (0))) then some (.inl (1,((0,(x54.2.1,(s32.1.2.2.1,(s32.1.2.2.2.1,())))),(x53.2.2.1,()))))
            else some (.inr ((s32.1.1,(s32.1.2.1,((wrF .i64 ((s32.1.2.2.1+(wrF .i64 (((wrF .i64 ((x53.2.1.1.1.2.2.1+x54.1)))+n.2.1.2.2.1)))))),((wrF .i64 ((s32.1.2.2.2.1+1))),())))),(x53.2.2.1,())))
          else some (.inl (0,((s32.1.1,(s32.1.2.1,(s32.1.2.2.1,(s32.1.2.2.2.1,())))),(s32.2.1,()))))) zL ((0,(0,(0,(0,())))),(m,()))
theorem zBx {n:Fab} {l:List qw} (h:okP n l) {r:List Int} (hr:je n.1 r) {m:Gz} (hm:gR n l m) :
  qt (zGn n l m r) fun x=>gR n l x.2.2.1∧((x.1=0∧x.2.1.2.2.1=(yb n l r).1∧(yb n l r).2=0)∨(x.1=1∧x.2.1.1=0∧x.2.1.2.1=(yb n l r).2∧(yb n l r).2≠0∧(yb n l r).1=0)):=by
 have r8:=hr.n1
 have hu:=h.f.u.2.2.1
 unfold zGn
 refine zW r.length (fun i st=>∃s m',st=((0,(0,(s,((i:Int),())))),(m',()))∧gR n l m'∧yb n l r=zbQ n l (r.drop i) s∧0≤s∧s≤1099780083233*(i:Int)) (by omega) ⟨0,m,rfl,hm,rfl,Int.le_refl _,by omega⟩ ?_ ?_
 ·rintro i _ hi ⟨s,m',rfl,hk,ht,s0,s1⟩
  have hx:r[i]?=some r[i]:=List.getElem?_eq_getElem hi
  have hpt:=hr.pt _ (List.getElem_mem hi)
  have hdr:r.drop i=r[i]::r.drop (i+1):=List.drop_eq_getElem_cons hi
  generalize r[i]=p at hx hpt hdr
  have hb:=zEj h hpt
  have hd:=zwu h.f hpt
  rw [hdr] at ht
  unfold zbQ at ht
  refine zd (zT (show (i:Int) < (r.length:Int) by omega)) (zg (zy (n:=i) hx (zj (zAe h hpt hk) ?_)))
  rintro ⟨j,⟨v,⟨⟩⟩,c,⟨⟩⟩ ⟨hv,hk2⟩
  simp only at hv hk2
  subst hv
  by_cases he:(qG n l p).2=0
  ·rw [zA he,cond_true] at ht
   refine zf (show (!zi (qG n l p).2 0)=false by rw [he];rfl) ?_
   rw [zvz h.f.t hpt,zx]
   refine zf rfl (za (qj ⟨_,c,?_,hk2,ht,by omega,by omega⟩))
   show ((0,(0,((wrF .i64 (s+(wrF .i64 ((wrF .i64 ((qG n l p).1.2.2.1+(lnk n.1 p).2.2.2))+n.2.1.2.2.1)))),((wrF .i64 ((i:Int)+1)),())))),(c,()))=_
   rw [qp (by omega),zG (z:=(qG n l p).1.2.2.1+(lnk n.1 p).2.2.2) (by omega) (by omega),zG (z:=(qG n l p).1.2.2.1+(lnk n.1 p).2.2.2+n.2.1.2.2.1) (by omega) (by omega),zG (by omega) (by omega)]
  ·rw [zM he,cond_false] at ht
   refine zd (show (!zi (qG n l p).2 0)=true by rw [qM he];rfl) (za (zq ⟨hk2,.inr ⟨rfl,rfl,?_,?_,?_⟩⟩))
   ·rw [ht]
   ·rw [ht];exact he
   ·rw [ht]
 ·rintro _ ⟨s,m',rfl,hk,ht,s0,s1⟩
  rw [List.drop_length] at ht
  refine zf (zF (show ¬(r.length:Int) < (r.length:Int) by omega)) (za (zq ⟨hk,.inl ⟨rfl,?_,?_⟩⟩))
  ·rw [ht];rfl
  ·rw [ht];rfl
theorem zjk {n:Fab} {l:List qw} (h:okP n l) {r:List Int} (hr:je n.1 r):ZZ (n,l,r,())=some ((yb n l r).1,(yb n l r).2,()):=by
 have r8:=hr.n1
 have hu:=h.f.u.2.2.1
 rw [zts];unfold zgz
 refine xP (zj (J:=fun x=>(x.1=0∧x.2.1.2.2.1=(yb n l r).1∧(yb n l r).2=0)∨(x.1=1∧x.2.1.1=(yb n l r).1∧x.2.1.2.1=(yb n l r).2)) (zW r.length (fun i st=>∃s,st=((0,(0,(s,((i:Int),())))),())∧yb n l r=zbQ n l (r.drop i) s∧0≤s∧s≤1099780083233*(i:Int)) (by omega) ⟨0,rfl,rfl,Int.le_refl _,by omega⟩ ?_ ?_) ?_)
 ·rintro i _ hi ⟨s,rfl,ht,s0,s1⟩
  have hx:r[i]?=some r[i]:=List.getElem?_eq_getElem hi
  have hpt:=hr.pt _ (List.getElem_mem hi)
  have hdr:r.drop i=r[i]::r.drop (i+1):=List.drop_eq_getElem_cons hi
  generalize r[i]=p at hx hpt hdr
  have hb:=zEj h hpt
  have hd:=zwu h.f hpt
  rw [hdr] at ht
  unfold zbQ at ht
  refine zd (zT (show (i:Int) < (r.length:Int) by omega)) (zg (zy (n:=i) hx ?_))
  rw [zlw h hpt,zx]
  by_cases he:(qG n l p).2=0
  ·rw [zA he,cond_true] at ht
   refine zf (show (!zi (qG n l p).2 0)=false by rw [he];rfl) (zg (zy (n:=i) hx ?_))
   rw [ztJ h.f.t.ll hpt,zx]
   refine za (qj ⟨_,?_,ht,by omega,by omega⟩)
   show ((0,(0,((wrF .i64 ((wrF .i64 ((wrF .i64 (s+(qG n l p).1.2.2.1))+(lnk n.1 p).2.2.2))+n.2.1.2.2.1)),((wrF .i64 ((i:Int)+1)),())))),())=_
   rw [qp (by omega),zG (z:=s+(qG n l p).1.2.2.1) (by omega) (by omega),zG (z:=s+(qG n l p).1.2.2.1+(lnk n.1 p).2.2.2) (by omega) (by omega),zG (by omega) (by omega),show s+(qG n l p).1.2.2.1+(lnk n.1 p).2.2.2+n.2.1.2.2.1=s+((qG n l p).1.2.2.1+(lnk n.1 p).2.2.2+n.2.1.2.2.1) by omega]
  ·rw [zM he,cond_false] at ht
   refine zd (show (!zi (qG n l p).2 0)=true by rw [qM he];rfl) (za (zq (.inr ⟨rfl,?_,?_⟩)))
   ·rw [ht]
   ·rw [ht]
 ·rintro _ ⟨s,rfl,ht,s0,s1⟩
  rw [List.drop_length] at ht
  refine zf (zF (show ¬(r.length:Int) < (r.length:Int) by omega)) (za (zq (.inl ⟨rfl,?_,?_⟩)))
  ·rw [ht];rfl
  ·rw [ht];rfl
 ·rintro ⟨j,⟨a1,a2,a3,a4,⟨⟩⟩,⟨⟩⟩ (⟨rfl,h1,h2⟩ | ⟨rfl,h1,h2⟩)
  ·simp only at h1
   subst h1
   rw [h2]
   exact zd rfl (za rfl)
  ·simp only at h1 h2
   subst h1 h2
   exact zf rfl (za rfl)
noncomputable def QO (l:List qw) (id:Int):Int×Int:=match QH (l,id,()) with
 |some (v,e,())=>(v,e)
 |none=>(0,0)
theorem zog {l:List qw} (hn:l.length≤1000000000000000000) (id:Int):xD (l,id,())=some ((QO l id).1,(QO l id).2,())∧QH (l,id,())=some ((QO l id).1,(QO l id).2,())∧(((QO l id).2=0∧∃(i:Nat) (s:qw),(QO l id).1=(i:Int)∧l[i]?=some s∧s.1=id∧∀(k:Nat) b,k < i→l[k]?=some b→b.1≠id)∨((QO l id).2=4∧(QO l id).1=0∧∀s∈l,s.1≠id)):=by
 obtain ⟨v,e,h1,h2,h3⟩:=zG3 hn id
 have e1:QO l id=(v,e):=by unfold QO;rw [h2]
 rw [e1]
 exact ⟨h1,h2,h3⟩
noncomputable def zhI (l:List qw) (i:Int):List (List Int):=match l[i.toNat]? with
 |some s=>s.2.2.2.2.2.2.2.2
 |none=>[]
noncomputable def zhJ (n:Fab) (l:List qw) (id k:Int):Int×Int:=
 bif
   tv (JW n l=0) then bif tv ((QO l id).2=0) then
   bif tv (0≤k∧k < ((zhI l (QO l id).1).length:Int)) then yb n l (((zhI l (QO l id).1)[k.toNat]?).getD []) else (0,2)
  else (0,(QO l id).2)
 else (0,JW n l)
theorem K_ref31_Told_s {n:Fab} (hn:n.2.2.1.length≤1000000000000000000) (l:List qw) (id k:Int):znK (n,l,id,k,())=some ((zhJ n l id k).1,(zhJ n l id k).2,()):=by
 rw [ztt];unfold zgA zhJ
 rw [zjj hn,zx]
 by_cases h:JW n l=0
 rotate_left
 ·rw [zM h,qM h];rfl
 rw [zA h,h,cond_true]
 have ok:=zvH h
 obtain ⟨i1,i2,i3⟩:=zog (l:=l) (by have:=ok.n12;omega) id
 refine xP (zf rfl ?_)
 rw [i2,zx]
 rcases i3 with ⟨e0,i,s,ei,hx,_⟩ | ⟨e4,_⟩
 ·rw [e0,zA rfl,cond_true]
  have er:zhI l (QO l id).1=s.2.2.2.2.2.2.2.2:=by unfold zhI;rw [ei,Int.toNat_natCast,hx]
  rw [er]
  have hs:=ok.a s (List.mem_of_getElem? hx)
  refine zf rfl (zj (J:=fun x=>(x.1=0∧0≤k∧k < (s.2.2.2.2.2.2.2.2.length:Int))∨(x.1=1∧x.2.1.1=0∧x.2.1.2.1=2∧¬(0≤k∧k < (s.2.2.2.2.2.2.2.2.length:Int)))) ?_ ?_)
  ·refine zk (fun h=>za (.inr ⟨rfl,rfl,rfl,fun hk=>?_⟩)) fun h1=>zg (qk (a:=s) (by show atI l (QO l id).1=_;rw [ei];exact jJ hx) (zk (fun h=>za (.inr ⟨rfl,rfl,rfl,fun hk=>?_⟩)) fun h2=>za (.inl ⟨rfl,qE h1,qn (by simpa using h2)⟩)))
   ·have:=qn h;omega
   ·rw [zT hk.2] at h;cases h
  ·rintro ⟨j,⟨v,w,⟨⟩⟩,⟨⟩⟩ (⟨rfl,k0,k1⟩ | ⟨rfl,h1,h2,hk⟩)
   ·have hy:s.2.2.2.2.2.2.2.2[k.toNat]?=some (s.2.2.2.2.2.2.2.2[k.toNat]'(by omega)):=List.getElem?_eq_getElem (by omega)
    have hr:=(hs.rt _ (List.getElem_mem (show k.toNat < s.2.2.2.2.2.2.2.2.length by omega))).1
    generalize (s.2.2.2.2.2.2.2.2[k.toNat]'(by omega))=r at hy hr
    refine zd rfl (zg (qk (a:=s) (by show atI l (QO l id).1=_;rw [ei];exact jJ hx) (zg (qk (a:=r) (by rw [show k=((k.toNat:Nat):Int) by omega,jJ (n:=k.toNat)];exact hy) ?_))))
    rw [zjk ok hr,zx,zA ⟨k0,k1⟩,hy]
    exact za rfl
   ·simp only at h1 h2
    subst h1 h2
    rw [zM hk]
    exact zf rfl (za rfl)
 ·rw [e4,zM (by simp)]
  exact zd rfl (za rfl)
theorem zvI {n:Fab} (hn:n.2.2.1.length≤1000000000000000000) {l:List qw} (hln:l.length≤1000000000000000000) (id k:Int):JG (n,l,id,k,())=some ((zhJ n l id k).1,(zhJ n l id k).2,()):=by
 rw [ztr];unfold zgv zhJ JW
 rw [Xr hn,zx]
 by_cases h1:Qb n=0
 rotate_left
 ·rw [zM h1,cond_false]
  refine xP (zd (show (!zi (Qb n) 0)=true by rw [qM h1];rfl) (zd (show (!zi (Qb n) 0)=true by rw [qM h1];rfl) (za ?_)))
  rw [zM h1];rfl
 have hf:=zn6 h1
 refine xP (zf (show (!zi (Qb n) 0)=false by rw [h1];rfl) ?_)
 rw [VV hf.t,zx,zA h1,cond_true]
 by_cases h2:ZG n.1 l=0
 rotate_left
 ·rw [zM h2,cond_false]
  refine zd (show (!zi (ZG n.1 l) 0)=true by rw [qM h2];rfl) (zd (show (!zi (ZG n.1 l) 0)=true by rw [qM h2];rfl) (za ?_))
  rw [zM h2];rfl
 obtain ⟨h12,ha,hd⟩:=zof h2
 refine zf (show (!zi (ZG n.1 l) 0)=false by rw [h2];rfl) (zj (zrL (n:=n) h12 rfl) ?_)
 rw [zA h2,cond_true]
 rintro ⟨j,⟨⟨⟩,v,w,⟨⟩⟩,⟨⟩⟩ (⟨rfl,rfl,hc⟩ | ⟨rfl,rfl,hc⟩)
 rotate_left
 ·rw [zM hc,cond_false,zM (by simp)]
  exact zf rfl (zd rfl (za rfl))
 rw [zA hc,cond_true,zA rfl,cond_true]
 have ok:okP n l:=⟨hf,ha,h12,hd,hc⟩
 obtain ⟨i1,i2,i3⟩:=zog (l:=l) (by omega) id
 refine zd rfl ?_
 rw [i1,zx]
 rcases i3 with ⟨e0,i,s,ei,hx,_⟩ | ⟨e4,_⟩
 ·rw [e0,zA rfl,cond_true]
  have er:zhI l (QO l id).1=s.2.2.2.2.2.2.2.2:=by unfold zhI;rw [ei,Int.toNat_natCast,hx]
  rw [er]
  have hs:=ok.a s (List.mem_of_getElem? hx)
  refine zf rfl (zj (J:=fun x=>(x.1=0∧0≤k∧k < (s.2.2.2.2.2.2.2.2.length:Int))∨(x.1=1∧x.2.1.1=0∧x.2.1.2.1=2∧¬(0≤k∧k < (s.2.2.2.2.2.2.2.2.length:Int)))) ?_ ?_)
  ·refine zk (fun h=>za (.inr ⟨rfl,rfl,rfl,fun hk=>?_⟩)) fun h1=>zg (qk (a:=s) (by show atI l (QO l id).1=_;rw [ei];exact jJ hx) (zk (fun h=>za (.inr ⟨rfl,rfl,rfl,fun hk=>?_⟩)) fun h2=>za (.inl ⟨rfl,qE h1,qn (by simpa using h2)⟩)))
   ·have:=qn h;omega
   ·rw [zT hk.2] at h;cases h
  ·rintro ⟨j,⟨v,w,⟨⟩⟩,⟨⟩⟩ (⟨rfl,k0,k1⟩ | ⟨rfl,h1,h2,hk⟩)
   ·have hy:s.2.2.2.2.2.2.2.2[k.toNat]?=some (s.2.2.2.2.2.2.2.2[k.toNat]'(by omega)):=List.getElem?_eq_getElem (by omega)
    have hr:=(hs.rt _ (List.getElem_mem (show k.toNat < s.2.2.2.2.2.2.2.2.length by omega))).1
    generalize (s.2.2.2.2.2.2.2.2[k.toNat]'(by omega))=r at hy hr
    refine zd rfl (zg (qk (a:=s) (by show atI l (QO l id).1=_;rw [ei];exact jJ hx) (zg (qk (a:=r) (by rw [show k=((k.toNat:Nat):Int) by omega,jJ (n:=k.toNat)];exact hy) (zj (zBx ok hr (zoe n l)) ?_)))))
    rw [zA ⟨k0,k1⟩,hy]
    rintro ⟨j,⟨a1,a2,a3,a4,⟨⟩⟩,c,⟨⟩⟩ ⟨_,⟨rfl,h1,h2⟩ | ⟨rfl,h1,h2,h3,h4⟩⟩
    ·simp only at h1
     subst h1
     refine zd rfl (za ?_)
     show ((yb n l r).1,0,())=((yb n l r).1,(yb n l r).2,())
     rw [h2]
    ·simp only at h1 h2
     subst h1 h2
     refine zf rfl (za ?_)
     show (0,(yb n l r).2,())=((yb n l r).1,(yb n l r).2,())
     rw [h4]
   ·simp only at h1 h2
    subst h1 h2
    rw [zM hk]
    exact zf rfl (za rfl)
 ·rw [e4,zM (by simp)]
  exact zd rfl (za rfl)
def yB {α:Type} (f:α→Int):List α→Int
 |[]=>0
 |x::l=>if f x=0 then yB f l else f x
theorem ZH {α:Type} {f:α→Int}:∀{l:List α},yB f l=0↔∀x∈l,f x=0
 |[]=>by simp [yB]
 |x::l=>by
  unfold yB
  split
  ·rename_i h
   rw [ZH];simp [h]
  ·rename_i h
   simp [h]
theorem KU {α:Type} {f:α→Int}:∀{l:List α} {i:Nat} {x:α},l[i]?=some x→(∀(k:Nat) y,k < i→l[k]?=some y→f y=0)→f x≠0→yB f l=f x
 |[],i,x,h,_,_=>by simp at h
 |a::l,0,x,h,_,hx=>by
  simp at h;subst h
  unfold yB;rw [if_neg hx]
 |a::l,i+1,x,h,hk,hx=>by
  unfold yB
  rw [if_pos (hk 0 a (by omega) rfl)]
  exact KU (l:=l) (i:=i) (by simpa using h) (fun k y hk' hy=>hk (k+1) y (by omega) (by simpa using hy)) hx
noncomputable def vi (n:Fab) (l:List qw) (p:Nat):Int:=bif tv ((qG n l p).2=4) then 0 else bif tv ((qG n l p).2=0) then bif tv (n.2.1.2.2.2 < (qG n l p).1.2.2.2) then 7 else 0 else (qG n l p).2
noncomputable def Yg (n:Fab) (l:List qw) (s:qw) (r:List Int):Int:=bif tv ((yb n l r).2=0) then bif tv (s.2.2.2.2.2.2.2.1 < (yb n l r).1) then 412 else 0 else (yb n l r).2
noncomputable def JN (n:Fab) (l:List qw) (s:qw):Int:=yB (Yg n l s) s.2.2.2.2.2.2.2.2
noncomputable def jN (n:Fab) (l:List qw):Int:=
 bif tv (JW n l=0) then bif tv (yB (vi n l) (List.range n.2.2.1.length)=0) then yB (JN n l) l else yB (vi n l) (List.range n.2.2.1.length) else JW n l
theorem zoN {n:Fab} (h:zig n) {i:Nat} (hi:i < n.2.2.1.length):wu n.1 (i:Int):=⟨by omega,by have:=h.f.1;omega⟩
theorem K_ref31_Holds_s {n:Fab} (hn:n.2.2.1.length≤1000000000000000000) (l:List qw):zlt (n,l,())=some (jN n l,()):=by
 rw [zrA];unfold zeu jN
 rw [zjj hn,zx]
 by_cases h:JW n l=0
 rotate_left
 ·rw [zM h,qM h];rfl
 rw [zA h,h,cond_true]
 have ok:=zvH h
 have h12:=ok.n12
 have hf:=ok.f.f.1
 have hls:=ok.f.t.sz.ls
 refine ym (zf rfl (zj (J:=fun x=>(x.1=0∧x.2.1.1=0∧yB (vi n l) (List.range n.2.2.1.length)=0)∨(x.1=1∧x.2.1.1=yB (vi n l) (List.range n.2.2.1.length)∧yB (vi n l) (List.range n.2.2.1.length)≠0)) (qN n.2.2.1.length (fun i=>vi n l i=0) (by omega) ?_ ?_) ?_))
 ·intro i hi hp
  have hpt:=zoN ok.f hi
  have at_:vi n l i≠0→yB (vi n l) (List.range n.2.2.1.length)=vi n l i:=fun hne=>KU (i:=i) (by simp [hi]) (fun k y hk hy=>by
   rw [List.getElem?_range (by omega)] at hy;cases hy;exact hp k hk) hne
  refine zd (zT (show (i:Int) < (n.2.2.1.length:Int) by omega)) ?_
  rw [zlw ok hpt,zx]
  unfold vi at at_ ⊢
  by_cases h4:(qG n l (i:Int)).2=4
  ·rw [zA h4]
   exact zd (vH h4) (za (jC (by omega) rfl))
  rw [zM h4,cond_false] at at_ ⊢
  refine zf (qM h4) ?_
  by_cases h0:(qG n l (i:Int)).2=0
  ·rw [zA h0,cond_true] at at_ ⊢
   refine zf (show (!zi (qG n l (i:Int)).2 0)=false by rw [h0];rfl) ?_
   by_cases hc:n.2.1.2.2.2 < (qG n l (i:Int)).1.2.2.2
   ·rw [zA hc,cond_true] at at_
    exact zd (zT hc) (za (zq (.inr ⟨rfl,(at_ (by decide)).symm,by rw [at_ (by decide)];decide⟩)))
   ·rw [zM hc]
    exact zf (zF hc) (za (jC (by omega) rfl))
  ·rw [zM h0,cond_false] at at_
   exact zd (show (!zi (qG n l (i:Int)).2 0)=true by rw [qM h0];rfl) (za (zq (.inr ⟨rfl,(at_ h0).symm,by rw [at_ h0];exact h0⟩)))
 ·intro hp
  refine zf (zF (show ¬(n.2.2.1.length:Int) < (n.2.2.1.length:Int) by omega)) (za (zq (.inl ⟨rfl,rfl,ZH.2 fun x hx=>hp x (List.mem_range.1 hx)⟩)))
 ·rintro ⟨j,⟨v,w,⟨⟩⟩,⟨⟩⟩ (⟨rfl,rfl,h1⟩ | ⟨rfl,h1,h2⟩)
  rotate_left
  ·simp only at h1
   subst h1
   rw [zM h2]
   exact zf rfl (za rfl)
  rw [zA h1,cond_true]
  refine zd rfl (zj (J:=fun x=>(x.1=0∧yB (JN n l) l=0)∨(x.1=1∧x.2.1.1=yB (JN n l) l∧yB (JN n l) l≠0)) (qN l.length (fun i=>∀s,l[i]?=some s→JN n l s=0) (by omega) ?_ ?_) ?_)
  ·intro i hi hp
   have hx:l[i]?=some l[i]:=List.getElem?_eq_getElem hi
   have hm:=List.getElem_mem hi
   generalize l[i]=s at hx hm
   have hs:=ok.a s hm
   have rn:=hs.rn
   have at_:JN n l s≠0→yB (JN n l) l=JN n l s:=fun hne=>KU hx (fun k y hk hy=>hp k hk y hy) hne
   refine zd (zT (show (i:Int) < (l.length:Int) by omega)) ?_
   refine zj (J:=fun x=>(x.1=0∧x.2.1.1=0∧JN n l s=0)∨(x.1=1∧x.2.1.1=JN n l s∧JN n l s≠0)) (qN s.2.2.2.2.2.2.2.2.length (fun k=>∀r,s.2.2.2.2.2.2.2.2[k]?=some r→Yg n l s r=0) (by omega) ?_ ?_) ?_
   ·intro k hk hpk
    have hy:s.2.2.2.2.2.2.2.2[k]?=some s.2.2.2.2.2.2.2.2[k]:=List.getElem?_eq_getElem hk
    have hmr:=List.getElem_mem hk
    generalize s.2.2.2.2.2.2.2.2[k]=r at hy hmr
    have atr:Yg n l s r≠0→JN n l s=Yg n l s r:=fun hne=>KU hy (fun k' y hk hy=>hpk k' hk y hy) hne
    refine zg (zy (n:=i) hx (zd (zT (show (k:Int) < (s.2.2.2.2.2.2.2.2.length:Int) by omega)) (zg (zy (n:=i) hx (zg (zy (n:=k) hy ?_))))))
    rw [zjk ok (hs.rt r hmr).1,zx]
    unfold Yg at atr
    by_cases h0:(yb n l r).2=0
    ·rw [zA h0,cond_true] at atr
     refine zf (show (!zi (yb n l r).2 0)=false by rw [h0];rfl) (zg (zy (n:=i) hx ?_))
     by_cases hc:s.2.2.2.2.2.2.2.1 < (yb n l r).1
     ·rw [zA hc,cond_true] at atr
      exact zd (zT hc) (za (zq (.inr ⟨rfl,(atr (by decide)).symm,by rw [atr (by decide)];decide⟩)))
     ·exact zf (zF hc) (za (jC (by omega) fun r' hr'=>by rw [hy] at hr';cases hr';unfold Yg;rw [zA h0,zM hc];rfl))
    ·rw [zM h0,cond_false] at atr
     exact zd (show (!zi (yb n l r).2 0)=true by rw [qM h0];rfl) (za (zq (.inr ⟨rfl,(atr h0).symm,by rw [atr h0];exact h0⟩)))
   ·intro hpk
    refine zg (zy (n:=i) hx (zf (zF (show ¬(s.2.2.2.2.2.2.2.2.length:Int) < (s.2.2.2.2.2.2.2.2.length:Int) by omega)) (za (zq (.inl ⟨rfl,rfl,ZH.2 fun r hr=>?_⟩)))))
    obtain ⟨k,hk,hk2⟩:=jV hr
    exact hpk k hk r hk2
   ·rintro ⟨j,⟨v,w,⟨⟩⟩,⟨⟩⟩ (⟨rfl,rfl,hq⟩ | ⟨rfl,h1,hq⟩)
    ·exact zd rfl (za (jC (by omega) fun s' hs'=>by rw [hx] at hs';cases hs';exact hq))
    ·simp only at h1
     subst h1
     exact zf rfl (za (zq (.inr ⟨rfl,(at_ hq).symm,by rw [at_ hq];exact hq⟩)))
  ·intro hp
   refine zf (zF (show ¬(l.length:Int) < (l.length:Int) by omega)) (za (zq (.inl ⟨rfl,ZH.2 fun s hs=>?_⟩)))
   obtain ⟨k,hk,hk2⟩:=jV hs
   exact hp k hk s hk2
  ·rintro ⟨j,⟨v,w,⟨⟩⟩,⟨⟩⟩ (⟨rfl,hq⟩ | ⟨rfl,h1,hq⟩)
   ·rw [hq];exact zd rfl (za rfl)
   ·exact zf rfl (za h1)
theorem Kh {n:Fab} (hn:n.2.2.1.length≤1000000000000000000) (l:List qw):yG (n,l,())=some (jN n l,()):=by
 rw [zrn];unfold zem jN JW
 rw [Xr hn,zx]
 by_cases h1:Qb n=0
 rotate_left
 ·rw [zM h1,cond_false]
  refine ym (zd (show (!zi (Qb n) 0)=true by rw [qM h1];rfl) (zd (show (!zi (Qb n) 0)=true by rw [qM h1];rfl) (za ?_)))
  rw [zM h1];rfl
 have hf:=zn6 h1
 refine ym (zf (show (!zi (Qb n) 0)=false by rw [h1];rfl) ?_)
 rw [VV hf.t,zx,zA h1,cond_true]
 by_cases h2:ZG n.1 l=0
 rotate_left
 ·rw [zM h2,cond_false]
  refine zd (show (!zi (ZG n.1 l) 0)=true by rw [qM h2];rfl) (zd (show (!zi (ZG n.1 l) 0)=true by rw [qM h2];rfl) (za ?_))
  rw [zM h2];rfl
 obtain ⟨h12,ha,hd⟩:=zof h2
 refine zf (show (!zi (ZG n.1 l) 0)=false by rw [h2];rfl) (zj (zrL (n:=n) h12 rfl) ?_)
 rw [zA h2,cond_true]
 rintro ⟨j,⟨⟨⟩,v,w,⟨⟩⟩,⟨⟩⟩ (⟨rfl,rfl,hc⟩ | ⟨rfl,rfl,hc⟩)
 rotate_left
 ·rw [zM hc,cond_false,zM (by simp)]
  exact zf rfl (zd rfl (za rfl))
 rw [zA hc,cond_true,zA rfl,cond_true]
 have ok:okP n l:=⟨hf,ha,h12,hd,hc⟩
 have hfg:=ok.f.f.1
 have hls:=ok.f.t.sz.ls
 refine zd rfl (zj (J:=fun x=>gR n l x.2.2.1∧x.2.1.1=yB (vi n l) (List.range n.2.2.1.length)) (zW n.2.2.1.length (fun i st=>∃m,st=((0,((i:Int),())),(m,()))∧gR n l m∧∀(k:Nat),k < i→vi n l k=0) (by omega) ⟨[],rfl,zoe n l,fun k hk=>by omega⟩ ?_ ?_) ?_)
 ·rintro i _ hi ⟨m,rfl,hm,hp⟩
  have hpt:=zoN ok.f hi
  have at_:vi n l i≠0→yB (vi n l) (List.range n.2.2.1.length)=vi n l i:=fun hne=>KU (i:=i) (by simp [hi]) (fun k y hk hy=>by
   rw [List.getElem?_range (by omega)] at hy;cases hy;exact hp k hk) hne
  have go:vi n l i=0→∀c,gR n l c→qt (some (Sum.inr (((0:Int),((wrF .i64 ((i:Int)+1)),())),(c,())):(Nat×((Int×(Int×Unit))×(Gz×Unit))) ⊕ ((Int×(Int×Unit))×(Gz×Unit)))) (Nxt (fun x=>gR n l x.2.2.1∧x.2.1.1=yB (vi n l) (List.range n.2.2.1.length)) fun st=>∃m,st=((0,(((i+1:Nat):Int),())),(m,()))∧gR n l m∧∀(k:Nat),k < i+1→vi n l k=0):=fun h0 c hk=>by
   refine za (qj ⟨c,congrArg (fun z=>((0,(z,())),(c,()))) (qp (by omega)),hk,fun k hk'=>?_⟩)
   rcases Nat.lt_or_ge k i with h | h
   ·exact hp k h
   ·have:k=i:=by omega
    rw [this];exact h0
  refine zd (zT (show (i:Int) < (n.2.2.1.length:Int) by omega)) (zj (zAe ok hpt hm) ?_)
  rintro ⟨j,⟨v,⟨⟩⟩,c,⟨⟩⟩ ⟨hv,hk⟩
  simp only at hv hk
  subst hv
  unfold vi at at_ go
  by_cases h4:(qG n l (i:Int)).2=4
  ·rw [zA h4] at go
   exact zd (vH h4) (go rfl c hk)
  rw [zM h4,cond_false] at at_ go
  refine zf (qM h4) ?_
  by_cases h0:(qG n l (i:Int)).2=0
  ·rw [zA h0,cond_true] at at_ go
   refine zf (show (!zi (qG n l (i:Int)).2 0)=false by rw [h0];rfl) ?_
   by_cases hcc:n.2.1.2.2.2 < (qG n l (i:Int)).1.2.2.2
   ·rw [zA hcc,cond_true] at at_
    exact zd (zT hcc) (za (zq ⟨hk,(at_ (by decide)).symm⟩))
   ·rw [zM hcc] at go
    exact zf (zF hcc) (go rfl c hk)
  ·rw [zM h0,cond_false] at at_
   exact zd (show (!zi (qG n l (i:Int)).2 0)=true by rw [qM h0];rfl) (za (zq ⟨hk,(at_ h0).symm⟩))
 ·rintro _ ⟨m,rfl,hm,hp⟩
  exact zf (zF (show ¬(n.2.2.1.length:Int) < (n.2.2.1.length:Int) by omega)) (za (zq ⟨hm,(ZH.2 fun x hx=>hp x (List.mem_range.1 hx)).symm⟩))
 rintro ⟨j,⟨v,w,⟨⟩⟩,c,⟨⟩⟩ ⟨hk,hv⟩
 simp only at hk hv
 subst hv
 by_cases h0:yB (vi n l) (List.range n.2.2.1.length)=0
 rotate_left
 ·rw [zM h0]
  exact zd (show (!zi (yB (vi n l) (List.range n.2.2.1.length)) 0)=true by rw [qM h0];rfl) (za rfl)
 rw [zA h0,cond_true]
 refine zf (show (!zi (yB (vi n l) (List.range n.2.2.1.length)) 0)=false by rw [h0];rfl) ?_
 refine zj (J:=fun x=>(x.1=0∧yB (JN n l) l=0)∨(x.1=1∧x.2.1.1=yB (JN n l) l∧yB (JN n l) l≠0)) (zW l.length (fun i st=>∃m,st=((0,((i:Int),())),(m,()))∧gR n l m∧∀(k:Nat),k < i→∀s,l[k]?=some s→JN n l s=0) (by omega) ⟨c,rfl,hk,fun k hk=>by omega⟩ ?_ ?_) ?_
 ·rintro i _ hi ⟨m,rfl,hm,hp⟩
  have hx:l[i]?=some l[i]:=List.getElem?_eq_getElem hi
  have hmm:=List.getElem_mem hi
  generalize l[i]=s at hx hmm
  have hs:=ok.a s hmm
  have rn:=hs.rn
  have at_:JN n l s≠0→yB (JN n l) l=JN n l s:=fun hne=>KU hx (fun k y hk hy=>hp k hk y hy) hne
  refine zd (zT (show (i:Int) < (l.length:Int) by omega)) (zg (zy (n:=i) hx ?_))
  refine zj (J:=fun x=>gR n l x.2.2.1∧((x.1=0∧x.2.1.1=0∧JN n l s=0)∨(x.1=1∧x.2.1.1=JN n l s∧JN n l s≠0))) (zW s.2.2.2.2.2.2.2.2.length (fun k st=>∃m,st=((0,((k:Int),())),(m,()))∧gR n l m∧∀(k':Nat),k' < k→∀r,s.2.2.2.2.2.2.2.2[k']?=some r→Yg n l s r=0) (by omega) ⟨m,rfl,hm,fun k hk=>by omega⟩ ?_ ?_) ?_
  ·rintro k _ hk ⟨m,rfl,hm,hpk⟩
   have hy:s.2.2.2.2.2.2.2.2[k]?=some s.2.2.2.2.2.2.2.2[k]:=List.getElem?_eq_getElem hk
   have hmr:=List.getElem_mem hk
   generalize s.2.2.2.2.2.2.2.2[k]=r at hy hmr
   have atr:Yg n l s r≠0→JN n l s=Yg n l s r:=fun hne=>KU hy (fun k' y hk hy=>hpk k' hk y hy) hne
   refine zd (zT (show (k:Int) < (s.2.2.2.2.2.2.2.2.length:Int) by omega)) (zg (zy (n:=k) hy (zj (zBx ok (hs.rt r hmr).1 hm) ?_)))
   unfold Yg at atr
   rintro ⟨j,⟨a1,a2,a3,a4,⟨⟩⟩,c,⟨⟩⟩ ⟨hkc,⟨rfl,h1,h2⟩ | ⟨rfl,h1,h2,h3,h4⟩⟩
   ·simp only at h1 hkc
    subst h1
    rw [zA h2,cond_true] at atr
    refine zd rfl ?_
    by_cases hcc:s.2.2.2.2.2.2.2.1 < (yb n l r).1
    ·rw [zA hcc,cond_true] at atr
     exact zd (zT hcc) (za (zq ⟨hkc,.inr ⟨rfl,(atr (by decide)).symm,by rw [atr (by decide)];decide⟩⟩))
    ·refine zf (zF hcc) (za (qj ⟨c,congrArg (fun z=>(((0:Int),(z,())),(c,()))) (qp (by omega)),hkc,fun k' hk' r' hr'=>?_⟩))
     rcases Nat.lt_or_ge k' k with h | h
     ·exact hpk k' h r' hr'
     ·have:k'=k:=by omega
      subst this
      rw [hy] at hr';cases hr'
      unfold Yg;rw [zA h2,zM hcc];rfl
   ·simp only at h1 h2 hkc
    subst h1 h2
    rw [zM h3,cond_false] at atr
    exact zf rfl (zd (show (!zi (yb n l r).2 0)=true by rw [qM h3];rfl) (za (zq ⟨hkc,.inr ⟨rfl,(atr h3).symm,by rw [atr h3];exact h3⟩⟩)))
  ·rintro _ ⟨m,rfl,hm,hpk⟩
   refine zf (zF (show ¬(s.2.2.2.2.2.2.2.2.length:Int) < (s.2.2.2.2.2.2.2.2.length:Int) by omega)) (za (zq ⟨hm,.inl ⟨rfl,rfl,ZH.2 fun r hr=>?_⟩⟩))
   obtain ⟨k,hk,hk2⟩:=jV hr
   exact hpk k hk r hk2
  ·rintro ⟨j,⟨v,w,⟨⟩⟩,c,⟨⟩⟩ ⟨hkc,⟨rfl,h1,hq⟩ | ⟨rfl,h1,hq⟩⟩
   ·simp only at h1 hkc
    subst h1
    refine zd rfl (za (qj ⟨c,congrArg (fun z=>(((0:Int),(z,())),(c,()))) (qp (by omega)),hkc,fun k' hk' s' hs'=>?_⟩))
    rcases Nat.lt_or_ge k' i with h | h
    ·exact hp k' h s' hs'
    ·have:k'=i:=by omega
     subst this
     rw [hx] at hs';cases hs';exact hq
   ·simp only at h1
    subst h1
    exact zf rfl (za (zq (.inr ⟨rfl,(at_ hq).symm,by rw [at_ hq];exact hq⟩)))
 ·rintro _ ⟨m,rfl,hm,hp⟩
  refine zf (zF (show ¬(l.length:Int) < (l.length:Int) by omega)) (za (zq (.inl ⟨rfl,ZH.2 fun s hs=>?_⟩)))
  obtain ⟨k,hk,hk2⟩:=jV hs
  exact hp k hk s hk2
 ·rintro ⟨j,⟨v,w,⟨⟩⟩,c,⟨⟩⟩ (⟨rfl,hq⟩ | ⟨rfl,h1,hq⟩)
  ·rw [hq];exact zd rfl (za rfl)
  ·exact zf rfl (za h1)
theorem zrM {n:Fab} {l:List qw} (h:jN n l=0):okP n l:=by
 unfold jN at h
 by_cases h1:JW n l=0
 ·exact zvH h1
 ·rw [zM h1] at h;exact absurd h h1
noncomputable def Xu (n:Fab) (l:List qw) (s:qw):List qw×Int:=
 bif tv (jN n l=0) then bif tv (vF n.1 s) then bif tv (jN n (l++[s])=0) then (l++[s],0) else ([],jN n (l++[s])) else ([],321) else ([],jN n l)
theorem ztY {n:Fab} (hn:n.2.2.1.length≤1000000000000000000) (l:List qw) (s:qw):QJ (n,l,s,())=some ((Xu n l s).1,(Xu n l s).2,()):=by
 rw [zrp];unfold zen Xu
 rw [Kh hn,zx]
 by_cases h:jN n l=0
 rotate_left
 ·rw [zM h,qM h];rfl
 have ok:=zrM h
 have h12:=ok.n12
 rw [zA h,h,cond_true,show (!zi 0 0)=false from rfl,cond_false,zrE ok.f.t,zx]
 by_cases hs:vF n.1 s
 rotate_left
 ·rw [zM hs];rfl
 rw [zA hs,cond_true,cond_true,show (!zi 0 0)=false from rfl,cond_false,zFO,zx]
 refine xP (zd (xh (by show (l.length+1)*96≤_;omega) (by show l.length+1≤_;omega)) ?_)
 rw [Kh hn,zx]
 by_cases h2:jN n (l++[s])=0
 ·rw [zA h2]
  exact zf (show (!zi (jN n (l++[s])) 0)=false by rw [h2];rfl) (za rfl)
 ·rw [zM h2]
  exact zd (show (!zi (jN n (l++[s])) 0)=true by rw [qM h2];rfl) (za rfl)
noncomputable def Ys (n:Fab) (l:List qw) (id:Int):List qw×Int:=
 bif tv (jN n l=0) then bif tv ((QO l id).2=0) then (l.take (QO l id).1.toNat++l.drop ((QO l id).1.toNat+1),0) else ([],(QO l id).2) else ([],jN n l)
theorem zpq {n:Fab} (hn:n.2.2.1.length≤1000000000000000000) (l:List qw) (id:Int):gJ (n,l,id,())=some ((Ys n l id).1,(Ys n l id).2,()):=by
 rw [znX];unfold zbF Ys
 rw [Kh hn,zx]
 by_cases h:jN n l=0
 rotate_left
 ·rw [zM h,qM h];rfl
 have ok:=zrM h
 have h12:=ok.n12
 obtain ⟨i1,i2,i3⟩:=zog (l:=l) (by omega) id
 rw [zA h,h,cond_true,show (!zi 0 0)=false from rfl,cond_false,i1,zx]
 rcases i3 with ⟨e0,i,s,ei,hx,_⟩ | ⟨e4,_⟩
 ·have hil:i < l.length:=by grind
  rw [e0,zA rfl,cond_true,ei,show (!zi 0 0)=false from rfl,cond_false,zFP l i (by omega),zx,qp (by omega),zD0 l (i+1) (by omega),zx,Int.toNat_natCast]
  refine xP (zd (xh (by simp;omega) (by simp;omega)) (za rfl))
 ·rw [e4,zM (by simp)];rfl
def u8 (l:List Int):Prop:=∀x∈l,0≤x∧x≤255
abbrev zoh:=Int×Int×List Int×List Int×List Int×List Int
structure tdP (d:zoh):Prop where
 b:0≤d.1∧d.1≤255
 s:0≤d.2.1∧d.2.1≤255
 c:u8 d.2.2.1
 h:u8 d.2.2.2.1
 p:u8 d.2.2.2.2.1
 e:u8 d.2.2.2.2.2
theorem Us {l:List Int} (hl:u8 l) {i:Int} (h0:0≤i):∃v,gr (l,i,())=some (v,())∧0≤v∧v≤255:=by
 have key:qt (gr (l,i,())) fun r=>0≤r.1∧r.1≤255:=by
  rw [zsv];unfold zfD
  refine zk (fun h=>?_) (fun h=>?_)
  ·have h:=qn h
   refine zg (qP h0 (by omega) fun x hx=>za ?_)
   have hm:=hl x (List.mem_of_getElem? hx)
   show 0≤wrF .i64 x∧wrF .i64 x≤255
   rw [zG (by omega) (by omega)];exact hm
  ·exact za ⟨Int.le_refl _,by show (0:Int)≤255;decide⟩
 obtain ⟨⟨v,⟨⟩⟩,e,h⟩:=key
 exact ⟨v,e,h⟩
theorem zoi {R:Type} {Q:R→Prop} {pers delays:List Int} {t:qm} (hs:szP t) {a b:Int} (hp:u8 pers) (hd:u8 delays) {KEEP KEEP2 KEEP3:Option R} {ADD:(Int×Unit)→(Int×Unit)→Option R}
  (e2:KEEP2=KEEP) (e3:KEEP3=KEEP)
  (hk:∀x y:Int,0≤x→x≤255→0≤y→y≤255→(t.2.2.length=24∨¬zcP t (a,(b,((wrF .i64 (1+(Int.tmod x 20))),(Int.tmod y 50))))∨∃o∈t.2.2,kA o a b)→qt KEEP Q)
  (ha:∀x y:Int,0≤x→x≤255→0≤y→y≤255→t.2.2.length≠24→zcP t (a,(b,((wrF .i64 (1+(Int.tmod x 20))),(Int.tmod y 50))))→(∀o∈t.2.2,¬kA o a b)→qt (ADD (x,()) (y,())) Q) :
  qt (opt (gr ((pers,((((t.2.2).length:Nat):Int),())))) fun x3=>
   opt (gr ((delays,((((t.2.2).length:Nat):Int),())))) fun x4=>
   bif (zi ((((t.2.2).length:Nat):Int)) (24)) then KEEP
   else opt (uU (((t.1,(t.2.1,t.2.2)),((a,(b,((wrF .i64 ((1+(Int.tmod x3.1 20)))),(Int.tmod x4.1 50)))),())))) fun x5=>
    bif (!x5.1) then KEEP2
    else opt (zz (fun s6:(((Int×((List Bool)×(List (Int×(Int×(Int×Int))))))×(Int×Unit))×Unit)=>
      bif (zh (s6.1.2.1) ((((t.2.2).length:Nat):Int))) then opt (atI (t.2.2) (s6.1.2.1)) fun x7=>
       opt (gl (t.2.2) ((Int.toNat s6.1.2.1))) fun x8=>
       opt (xX ((x8,(a,(b,()))))) fun x9=>
       bif x9.1 then some (.inl s6)
       else some (.inr ((s6.1.1,((wrF .i64 ((s6.1.2.1+1))),())),()))
      else some (.inl s6)) zL (((0,([],[])),(0,())),())) fun x10=>
     bif (zh (x10.1.2.1) ((((t.2.2).length:Nat):Int))) then opt (atI (t.2.2) (x10.1.2.1)) fun x11=>
      opt (gl (t.2.2) ((Int.toNat x10.1.2.1))) fun x12=>
      opt (xX ((x12,(a,(b,()))))) fun x13=>
      bif x13.1 then KEEP3
      else none
     else bif (jb ((t.2.2).length) ((((a,(b,((wrF .i64 ((1+(Int.tmod x3.1 20)))),(Int.tmod x4.1 50))))::[])).length) (32)) then ADD x3 x4
      else none) Q:=by
 subst e2 e3
 have hl:=hs.ls
 obtain ⟨x,ex,x0,x1⟩:=Us hp (i:=(t.2.2.length:Int)) (by omega)
 obtain ⟨y,ey,y0,y1⟩:=Us hd (i:=(t.2.2.length:Int)) (by omega)
 rw [ex,zx,ey,zx]
 refine zk (fun h24=>hk x y x0 x1 y0 y1 (.inl (by have:=qU h24;omega))) (fun h24=>?_)
 have h24:t.2.2.length≠24:=fun e=>jU h24 (by rw [e];rfl)
 rw [show ((t.1,(t.2.1,t.2.2)):qm)=t from rfl,zja hs,zx]
 refine zk (fun hlk=>hk x y x0 x1 y0 y1 (.inr (.inl (yy hlk)))) (fun hlk=>?_)
 have hlk:=xu hlk
 refine zj (J:=fun s=>∃(i:Nat),s=(((0,([],[])),((i:Int),())),())∧((i=t.2.2.length∧∀o∈t.2.2,¬kA o a b)∨∃o,t.2.2[i]?=some o∧kA o a b)) (zW t.2.2.length (fun i s=>s=(((0,([],[])),((i:Int),())),())∧∀(k:Nat) o,k < i→t.2.2[k]?=some o→¬kA o a b) (by omega) ⟨rfl,fun k o hk=>by omega⟩ ?_ ?_) ?_
 ·rintro i _ hi ⟨rfl,hp⟩
  have hx:t.2.2[i]?=some t.2.2[i]:=List.getElem?_eq_getElem hi
  generalize t.2.2[i]=o at hx
  refine zd (zT (show (i:Int) < (t.2.2.length:Int) by omega)) (zg (zy (n:=i) hx (zg (qk (a:=o) (by show gl t.2.2 (Int.toNat (i:Int))=_;rw [Int.toNat_natCast,xQ];exact hx) ?_))))
  rw [zbH,zx]
  refine zk (fun h=>?_) (fun h=>?_)
  ·exact za (zq ⟨i,rfl,.inr ⟨o,hx,ZO h⟩⟩)
  ·refine za (qj ⟨congrArg (fun z=>((_,(z,())),())) (qp (by omega)),fun k o' hk ho=>?_⟩)
   rcases Nat.lt_or_ge k i with h1 | h1
   ·exact hp k o' h1 ho
   ·have:k=i:=by omega
    subst this
    rw [hx] at ho;cases ho
    exact Zn h
 ·rintro _ ⟨rfl,hp⟩
  refine zf (zF (show ¬(t.2.2.length:Int) < (t.2.2.length:Int) by omega)) (za (zq ⟨t.2.2.length,rfl,.inl ⟨rfl,fun o ho=>?_⟩⟩))
  obtain ⟨k,hk,hk2⟩:=jV ho
  exact hp k o hk hk2
 ·rintro _ ⟨i,rfl,⟨rfl,hno⟩ | ⟨o,hx,hj⟩⟩
  ·exact zf (zF (show ¬(t.2.2.length:Int) < (t.2.2.length:Int) by omega)) (zd (xh (by show (t.2.2.length+1)*32≤_;omega) (by show t.2.2.length+1≤_;omega)) (ha x y x0 x1 y0 y1 h24 hlk hno))
  ·have hil:i < t.2.2.length:=by grind
   refine zd (zT (show (i:Int) < (t.2.2.length:Int) by omega)) (zg (zy (n:=i) hx (zg (qk (a:=o) (by show gl t.2.2 (Int.toNat (i:Int))=_;rw [Int.toNat_natCast,xQ];exact hx) ?_))))
   rw [zbH,zx,zA hj]
   exact zd rfl (hk x y x0 x1 y0 y1 (.inr (.inr ⟨o,List.mem_of_getElem? hx,hj⟩)))
def sts (b c:Nat):List Bool:=(List.range (b+c)).map fun n=>decide (b≤n)
def tOf (b c:Nat) (ls:List yu):qm:=(((b+c:Nat):Int),sts b c,ls)
theorem zBy (b c:Nat):(sts b c).length=b+c:=by simp [sts]
theorem zAg {b c:Nat} {ls:List yu} {n:Nat} (h:n < b+c):stn (tOf b c ls) (n:Int)=decide (b≤n):=by
 unfold stn tOf sts
 simp [h]
structure Dr (b c:Nat) (ls:List yu):Prop where
 b1:1≤b
 b6:b≤6
 c2:2≤c
 c6:c≤6
 n24:ls.length≤24
 ok:zc9 (tOf b c ls)
theorem Dr.sz {b c:Nat} {ls:List yu} (h:Dr b c ls):szP (tOf b c ls):=by
 have:=h.b1;have:=h.b6;have:=h.c2;have:=h.c6
 refine ⟨?_,?_,?_,h.n24⟩
 ·show 2≤((b+c:Nat):Int);omega
 ·show ((b+c:Nat):Int)≤12;omega
 ·show (((sts b c).length:Nat):Int)=((b+c:Nat):Int);rw [zBy]
theorem Dr.add {b c:Nat} {ls:List yu} (h:Dr b c ls) {l:yu} (h24:ls.length≠24) (hl:zcP (tOf b c ls) l) (hj:∀o∈ls,¬kA o l.1 l.2.1):Dr b c (ls++[l]):=by
 refine ⟨h.b1,h.b6,h.c2,h.c6,by have:=h.n24;simp;omega,fun i l' hi=>?_⟩
 have hi:(ls++[l])[i]?=some l':=hi
 rcases Nat.lt_or_ge i ls.length with h1 | h1
 ·rw [List.getElem?_append_left h1] at hi
  obtain ⟨h2,h3⟩:=h.ok i l' hi
  refine ⟨h2,fun k o hk ho=>h3 k o hk ?_⟩
  have ho:(ls++[l])[k]?=some o:=ho
  rw [List.getElem?_append_left (by omega)] at ho
  exact ho
 ·have hil:i=ls.length:=by
   have:i < (ls++[l]).length:=by grind
   simp at this;omega
  subst hil
  rw [List.getElem?_append_right (Nat.le_refl _),Nat.sub_self] at hi
  simp at hi;subst hi
  refine ⟨hl,fun k o hk ho=>?_⟩
  have ho:(ls++[l])[k]?=some o:=ho
  rw [List.getElem?_append_left hk] at ho
  exact hj o (List.mem_of_getElem? ho)
theorem zkt (ls:List yu) (l:yu) (n:Nat):cnt (ls++[l]) n=cnt ls n+(one l.1 n+one l.2.1 n):=by
 unfold cnt;simp
theorem zBz {b c:Nat} {ls:List yu} {m n:Nat} {x y:Int} (hm:m < b+c) (hn:n < b+c) (hne:m≠n) (hs:m < b∨n < b) (x0:0≤x) (x1:x≤255) (y0:0≤y) (y1:y≤255) :
  zcP (tOf b c ls) ((m:Int),((n:Int),((wrF .i64 (1+(Int.tmod x 20))),(Int.tmod y 50)))):=by
 have ex:Int.tmod x 20=x % 20:=Int.tmod_eq_emod_of_nonneg x0
 have ey:Int.tmod y 50=y % 50:=Int.tmod_eq_emod_of_nonneg y0
 have ew:wrF .i64 (1+x % 20)=1+x % 20:=zG (by omega) (by omega)
 unfold zcP js
 rw [ex,ey,ew]
 simp only
 refine ⟨⟨by omega,by show (m:Int) < ((b+c:Nat):Int);omega⟩,⟨by omega,by show (n:Int) < ((b+c:Nat):Int);omega⟩,by omega,?_,by omega,by omega,by omega,by omega⟩
 rw [zAg hm,zAg hn]
 simp only [decide_eq_true_eq]
 omega
structure Vo (b c k s:Nat) (ls:List yu):Prop where
 ch:∀i,i < k→∃p d,ls[i]?=some ((i:Int),((i+1:Nat):Int),p,d)
 ho:∀i,i < s→∃(h:Nat) (p d:Int),ls[k+i]?=some (((b+i:Nat):Int),(h:Int),p,d)∧h < b
theorem Vo.app {b c k s:Nat} {ls:List yu} (h:Vo b c k s ls) (l:List yu):Vo b c k s (ls++l):=by
 refine ⟨fun i hi=>?_,fun i hi=>?_⟩
 ·obtain ⟨p,d,e⟩:=h.ch i hi
  exact ⟨p,d,by rw [List.getElem?_append_left (by grind)];exact e⟩
 ·obtain ⟨q,p,d,e,h2⟩:=h.ho i hi
  exact ⟨q,p,d,by rw [List.getElem?_append_left (by grind)];exact e,h2⟩
theorem zrN {r:List Bool} {l:yu} {n:Nat} (h:r[n]?=some true):(stp r l)[n]?=some true:=by
 unfold stp
 cases (r[l.1.toNat]?).getD false||(r[l.2.1.toNat]?).getD false with
 |false=>exact h
 |true=>
  have hn:n < r.length:=by grind
  show ((r.set l.1.toNat true).set l.2.1.toNat true)[n]?=some true
  rw [List.getElem?_set,List.getElem?_set]
  grind
theorem zoj {n:Nat}:∀(ls:List yu) {r:List Bool},r[n]?=some true→(ls.foldl stp r)[n]?=some true
 |[],r,h=>h
 |l::ls,r,h=>zoj ls (zrN h)
theorem zwv {ls:List yu} {n:Nat}:∀(k:Nat) {r:List Bool},r[n]?=some true→(UE ls k r)[n]?=some true
 |0,r,h=>h
 |k+1,r,h=>zwv k (zoj ls h)
theorem zBA {r:List Bool} {l:yu} {m n:Nat} (hm:r[m]?=some true) (hn:n < r.length) (h:(l.1.toNat=m∧l.2.1.toNat=n)∨(l.1.toNat=n∧l.2.1.toNat=m)):(stp r l)[n]?=some true:=by
 have hml:m < r.length:=by grind
 have e:((r[l.1.toNat]?).getD false||(r[l.2.1.toNat]?).getD false)=true:=by
  rcases h with ⟨h1,h2⟩ | ⟨h1,h2⟩
  ·rw [h1,hm];rfl
  ·rw [h2,hm,Option.getD_some,Bool.or_true]
 unfold stp
 rw [e,cond_true,List.getElem?_set,List.getElem?_set]
 grind
theorem zww {ls:List yu} {i:Nat} {l:yu} (h:ls[i]?=some l) (r:List Bool):(ls.take (i+1)).foldl stp r=stp ((ls.take i).foldl stp r) l:=by
 rw [List.take_add_one,h,List.foldl_append];rfl
theorem zEk {b c:Nat} {ls:List yu} (hb:1≤b) (hc:1≤c) (h:Vo b c (b - 1) c ls) (n:Nat) (hn:n < b+c):(reachS (tOf b c ls) 0)[n]?=some true:=by
 have hN:(tOf b c ls).1.toNat=b+c:=by show (((b+c:Nat):Int)).toNat=_;omega
 unfold reachS
 rw [hN]
 obtain ⟨k,hk⟩:∃k,b+c=k+1:=⟨b+c - 1,by omega⟩
 rw [show UE (tOf b c ls).2.2 (b+c)=UE ls (k+1) from by rw [hk];rfl]
 show (UE ls k (ls.foldl stp ((List.replicate (b+c) false).set 0 true)))[n]?=some true
 refine zwv k ?_
 generalize hr:(List.replicate (b+c) false).set 0 true=r0
 have hl:r0.length=b+c:=by rw [←hr];simp
 have h00:r0[0]?=some true:=by
  rw [←hr]
  exact List.getElem?_set_self (by rw [List.length_replicate];omega)
 have chain:∀i,i≤b - 1→∀j,j≤i→((ls.take i).foldl stp r0)[j]?=some true:=by
  intro i
  induction i with
  |zero=>
       intro _ j hj;have:j=0:=by omega
       subst this;exact h00
  |succ i ih=>
   intro hi j hj
   obtain ⟨p,d,e⟩:=h.ch i (by omega)
   rw [zww e]
   rcases Nat.lt_or_ge j (i+1) with h1 | h1
   ·exact zrN (ih (by omega) j (by omega))
   ·have:j=i+1:=by omega
    subst this
    exact zBA (m:=i) (ih (by omega) i (Nat.le_refl _)) (by rw [zgN,hl];omega) (.inl ⟨by simp,by simp⟩)
 have home:∀i,i≤c→∀j,j < b+i→((ls.take (b - 1+i)).foldl stp r0)[j]?=some true:=by
  intro i
  induction i with
  |zero=>intro _ j hj;exact chain (b - 1) (Nat.le_refl _) j (by omega)
  |succ i ih=>
   intro hi j hj
   obtain ⟨q,p,d,e,hq⟩:=h.ho i (by omega)
   rw [show b - 1+(i+1)=b - 1+i+1 from rfl,zww e]
   rcases Nat.lt_or_ge j (b+i) with h1 | h1
   ·exact zrN (ih (by omega) j h1)
   ·have:j=b+i:=by omega
    subst this
    exact zBA (m:=q) (ih (by omega) q (by omega)) (by rw [zgN,hl];omega) (.inr ⟨by show (((b+i:Nat):Int)).toNat=b+i;exact Int.toNat_natCast _,by simp⟩)
 have:=home c (Nat.le_refl _) n hn
 have e:ls.foldl stp r0=(ls.drop (b - 1+c)).foldl stp ((ls.take (b - 1+c)).foldl stp r0):=by
  rw [←List.foldl_append,List.take_append_drop]
 rw [e]
 exact zoj _ this
theorem zAh {i:Nat} (h1:1≤i) (h:i≤1000000):wrF .i64 ((i:Int) - 1)=((i - 1:Nat):Int):=by rw [zG]<;>omega
theorem zAi (n:Nat):one (n:Int) n=1:=by unfold one;rw [if_pos rfl]
theorem US {m n:Nat} (h:m≠n):one (m:Int) n=0:=by unfold one;rw [if_neg (by omega)]
theorem zEl {b c:Nat} {ls:List yu} (h:Dr b c ls) (hb:Vo b c (b - 1) c ls) (hd:∀n,b≤n→n < b+c→1≤cnt ls n∧cnt ls n≤2):jX (tOf b c ls):=by
 have:=h.b1;have:=h.c2
 refine ⟨h.sz,h.ok,fun n hn=>zEk h.b1 (by omega) hb n ?_,fun n hn hs=>?_⟩
 ·have hn:(n:Int) < ((b+c:Nat):Int):=hn
  omega
 ·have hn:(n:Int) < ((b+c:Nat):Int):=hn
  rw [zAg (by omega)] at hs
  exact hd n (of_decide_eq_true hs) (by omega)
theorem ztZ {d:zoh} (hd:tdP d):∃b c ls,yc (d,())=some (tOf b c ls,())∧jX (tOf b c ls)∧1≤ls.length:=by
 obtain ⟨d0,d1⟩:=hd.b
 obtain ⟨e0,e1⟩:=hd.s
 have eb:wrF .i64 (1+wrF .i64 (Int.tmod d.1 6))=1+d.1 % 6:=by
  rw [Int.tmod_eq_emod_of_nonneg d0,zG (z:=d.1 % 6) (by omega) (by omega),zG (by omega) (by omega)]
 have ec:wrF .i64 (2+wrF .i64 (Int.tmod d.2.1 5))=2+d.2.1 % 5:=by
  rw [Int.tmod_eq_emod_of_nonneg e0,zG (z:=d.2.1 % 5) (by omega) (by omega),zG (by omega) (by omega)]
 obtain ⟨b,hb,b1,b6⟩:∃b:Nat,1+d.1 % 6=(b:Int)∧1≤b∧b≤6:=⟨(1+d.1 % 6).toNat,by omega,by omega,by omega⟩
 obtain ⟨c,hc,c2,c6⟩:∃c:Nat,2+d.2.1 % 5=(c:Int)∧2≤c∧c≤6:=⟨(2+d.2.1 % 5).toNat,by omega,by omega,by omega⟩
 rw [hb] at eb;rw [hc] at ec
 suffices key:qt (yc (d,())) fun r=>∃ls,r.1=tOf b c ls∧jX (tOf b c ls)∧1≤ls.length by
  obtain ⟨⟨t,⟨⟩⟩,e,ls,h1,h2,h3⟩:=key
  simp only at h1
  subst h1
  exact ⟨b,c,ls,e,h2,h3⟩
 have eN:wrF .i64 ((b:Int)+(c:Int))=((b+c:Nat):Int):=by rw [zG]<;>omega
 have bnz:zi (b:Int) 0=false:=qM (by omega)
 have dr0:Dr b c []:=⟨b1,b6,c2,c6,by simp,fun i l h=>by cases h⟩
 rw [ziI];unfold Ky
 simp only [eb,ec,eN]
 refine zj (J:=fun x=>x.2.2.1=(((b+c:Nat):Int),(sts b c,([],())))) (zW (b+c) (fun i s=>s=(((),((i:Int),())),((((b+c:Nat):Int),((sts b c).take i,([],()))),()))) (by omega) rfl ?_ ?_) ?_
 ·rintro i _ hi rfl
  have hx:(sts b c)[i]?=some (decide (b≤i)):=by unfold sts;simp [hi]
  refine zd (zT (show (i:Int) < ((b+c:Nat):Int) by omega)) (zd (xh (by show (((sts b c).take i).length+1)*1≤_;simp;omega) (by show ((sts b c).take i).length+1≤_;simp;omega)) (za (qj ?_)))
  have eo:(!zh (i:Int) (b:Int))=decide (b≤i):=by
   rw [xO]
   by_cases h:b≤i
   ·rw [decide_eq_true h,decide_eq_false (by omega)];rfl
   ·rw [decide_eq_false h,decide_eq_true (by omega)];rfl
  show (((),((wrF .i64 ((i:Int)+1)),())),((((b+c:Nat):Int),(((sts b c).take i++[(!zh (i:Int) (b:Int))]),([],()))),()))=_
  rw [eo,qp (by omega),List.take_add_one,hx];rfl
 ·rintro _ rfl
  refine zf (zF (show ¬((b+c:Nat):Int) < ((b+c:Nat):Int) by omega)) (za (zq ?_))
  show (((b+c:Nat):Int),((sts b c).take (b+c),([],())))=_
  rw [List.take_of_length_le (by rw [zBy];omega)]
 rintro ⟨j,⟨⟨⟩,w,⟨⟩⟩,⟨q,⟨⟩⟩⟩ hq
 simp only at hq
 subst hq
 refine zj (J:=fun x=>x.2.1.1=d∧∃ls,x.2.2.1=(((b+c:Nat):Int),(sts b c,(ls,())))∧Dr b c ls∧Vo b c (b - 1) 0 ls∧ls.length=b - 1)
  (zW (b - 1) (fun i s=>∃ls,s=((d,((),(((i+1:Nat):Int),()))),((((b+c:Nat):Int),(sts b c,(ls,()))),()))∧Dr b c ls∧Vo b c i 0 ls∧ls.length=i) (by omega) ⟨[],rfl,dr0,⟨fun i h=>by omega,fun i h=>by omega⟩,rfl⟩ ?_ ?_) ?_
 ·rintro i _ hi ⟨ls,rfl,dr,ba,hl⟩
  refine zd (zT (show ((i+1:Nat):Int) < (b:Int) by omega)) ?_
  have ep:wrF .i64 (((i+1:Nat):Int) - 1)=(i:Int):=by rw [zAh (by omega) (by omega)];rfl
  have eq:wrF .i64 (((i+1:Nat):Int)+1)=((i+1+1:Nat):Int):=qp (by omega)
  simp only [ep,eq]
  have links:∀o∈ls,¬kA o (i:Int) ((i+1:Nat):Int):=by
   intro o ho hj
   obtain ⟨k,hk,hk2⟩:=jV ho
   obtain ⟨p,d',e⟩:=ba.ch k (by omega)
   rw [hk2] at e
   cases e
   unfold kA at hj
   simp only at hj
   omega
  refine zoi (t:=tOf b c ls) dr.sz (a:=(i:Int)) (b:=((i+1:Nat):Int)) hd.p hd.e rfl rfl ?_ ?_
  ·intro x y x0 x1 y0 y1 hbad
   exfalso
   rcases hbad with h | h | ⟨o,ho,hj⟩
   ·have h:ls.length=24:=h
    omega
   ·exact h (zBz (m:=i) (n:=i+1) (by omega) (by omega) (by omega) (.inl (by omega)) x0 x1 y0 y1)
   ·exact links o ho hj
  ·intro x y x0 x1 y0 y1 h24 hlk hno
   refine za (qj ⟨ls++[_],rfl,dr.add h24 hlk hno,⟨fun k hk=>?_,fun k hk=>by omega⟩,by simp [hl]⟩)
   rcases Nat.lt_or_ge k i with h1 | h1
   ·exact (ba.app _).ch k h1
   ·have:k=i:=by omega
    subst this
    exact ⟨_,_,by rw [←hl,List.getElem?_append_right (Nat.le_refl _),Nat.sub_self];rfl⟩
 ·rintro _ ⟨ls,rfl,dr,ba,hl⟩
  exact zf (zF (show ¬((b - 1+1:Nat):Int) < (b:Int) by omega)) (za (zq ⟨rfl,ls,rfl,dr,ba,hl⟩))
 rintro ⟨j,⟨q,⟨⟩,w,⟨⟩⟩,⟨u,⟨⟩⟩⟩ ⟨hq,ls0,hu,dr,ba,hl⟩
 simp only at hq hu
 subst hq hu
 have z0:∀n,b≤n→n < b+c→cnt ls0 n=0:=by
  intro n hn hn2
  have key:∀k,k≤b - 1→cnt (ls0.take k) n=0:=by
   intro k
   induction k with
   |zero=>intro _;simp [cnt]
   |succ k ih=>
    intro hk
    obtain ⟨p,d',e⟩:=ba.ch k (by omega)
    rw [zz3 e,ih (by omega),US (show k≠n by omega),US (show k+1≠n by omega)];rfl
  have:=key (b - 1) (Nat.le_refl _)
  rwa [List.take_of_length_le (by omega)] at this
 refine zj (J:=fun x=>x.2.1.1=q∧∃ls,x.2.2.1=(((b+c:Nat):Int),(sts b c,(ls,())))∧Dr b c ls∧Vo b c (b - 1) c ls∧ls.length=b - 1+c∧∀n,b≤n→n < b+c→cnt ls n=1)
  (zW c (fun i s=>∃ls,s=((q,((),((i:Int),()))),((((b+c:Nat):Int),(sts b c,(ls,()))),()))∧Dr b c ls∧Vo b c (b - 1) i ls∧ls.length=b - 1+i∧∀n,b≤n→n < b+c→cnt ls n=if n < b+i then 1 else 0) (by omega) ⟨ls0,rfl,dr,ba,by omega,fun n h1 h2=>by rw [z0 n h1 h2,if_neg (by omega)]⟩ ?_ ?_) ?_
 ·rintro i _ hi ⟨ls,rfl,dr,ba,hl,hcn⟩
  refine zd (zT (show (i:Int) < (c:Int) by omega)) ?_
  have e2:wrF .i64 (2*(i:Int))=((2*i:Nat):Int):=by rw [zG]<;>omega
  have e3:wrF .i64 ((b:Int)+(i:Int))=((b+i:Nat):Int):=by rw [zG]<;>omega
  have eq:wrF .i64 ((i:Int)+1)=((i+1:Nat):Int):=qp (by omega)
  obtain ⟨x,ex,x0,x1⟩:=Us hd.h (i:=((2*i:Nat):Int)) (by omega)
  simp only [e2,e3,eq,ex,zx,bnz,cond_false]
  obtain ⟨hh,ehh,hhb⟩:∃hh:Nat,Int.tmod x (b:Int)=(hh:Int)∧hh < b:=⟨(x % (b:Int)).toNat,by rw [Int.tmod_eq_emod_of_nonneg x0];have:=Int.emod_nonneg x (show (b:Int)≠0 by omega);omega,by have:=Int.emod_lt_of_pos x (show 0 < (b:Int) by omega);have:=Int.emod_nonneg x (show (b:Int)≠0 by omega);omega⟩
  simp only [ehh]
  have links:∀o∈ls,¬kA o ((b+i:Nat):Int) (hh:Int):=by
   intro o ho hj
   obtain ⟨k,hk,hk2⟩:=jV ho
   unfold kA at hj
   rcases Nat.lt_or_ge k (b - 1) with h1 | h1
   ·obtain ⟨p,d',e⟩:=ba.ch k h1
    rw [hk2] at e
    cases e
    simp only at hj
    omega
   ·obtain ⟨q',p,d',e,hqb⟩:=ba.ho (k - (b - 1)) (by omega)
    rw [show b - 1+(k - (b - 1))=k by omega,hk2] at e
    cases e
    simp only at hj
    omega
  refine zoi (t:=tOf b c ls) dr.sz (a:=((b+i:Nat):Int)) (b:=(hh:Int)) hd.p hd.e rfl rfl ?_ ?_
  ·intro x y x0 x1 y0 y1 hbad
   exfalso
   rcases hbad with h | h | ⟨o,ho,hj⟩
   ·have h:ls.length=24:=h
    omega
   ·exact h (zBz (m:=b+i) (n:=hh) (by omega) (by omega) (by omega) (.inr hhb) x0 x1 y0 y1)
   ·exact links o ho hj
  ·intro x y x0 x1 y0 y1 h24 hlk hno
   refine za (qj ⟨ls++[_],rfl,dr.add h24 hlk hno,⟨fun k hk=>(ba.app _).ch k hk,fun k hk=>?_⟩,by simp [hl];omega,fun n h1 h2=>?_⟩)
   ·rcases Nat.lt_or_ge k i with h1 | h1
    ·exact (ba.app _).ho k h1
    ·have:k=i:=by omega
     subst this
     exact ⟨hh,_,_,by rw [←hl,List.getElem?_append_right (Nat.le_refl _),Nat.sub_self];rfl,hhb⟩
   ·rw [zkt,hcn n h1 h2]
    simp only
    rw [US (show hh≠n by omega)]
    by_cases h:n=b+i
    ·subst h
     rw [zAi,if_neg (by omega),if_pos (by omega)];rfl
    ·rw [US (show b+i≠n by omega)]
     by_cases h3:n < b+i
     ·rw [if_pos h3,if_pos (by omega)];rfl
     ·rw [if_neg h3,if_neg (by omega)];rfl
 ·rintro _ ⟨ls,rfl,dr,ba,hl,hcn⟩
  exact zf (zF (show ¬(c:Int) < (c:Int) by omega)) (za (zq ⟨rfl,ls,rfl,dr,ba,hl,fun n h1 h2=>by rw [hcn n h1 h2,if_pos h2]⟩))
 clear dr ba hl z0
 rintro ⟨j,⟨q',⟨⟩,w',⟨⟩⟩,⟨u,⟨⟩⟩⟩ ⟨hq,ls0,hu,dr,ba,hl,hcn⟩
 simp only at hq hu
 subst hq hu
 refine zj (J:=fun x=>x.2.1.1=q'∧∃ls,x.2.2.1=(((b+c:Nat):Int),(sts b c,(ls,())))∧Dr b c ls∧Vo b c (b - 1) c ls∧ls.length≤b+c∧∀n,b≤n→n < b+c→cnt ls n=1) ?_ ?_
 ·have keep:qt (some ((0:Nat),((q',((),())),((((b+c:Nat):Int),(sts b c,(ls0,()))),())))) fun x=>x.2.1.1=q'∧∃ls,x.2.2.1=(((b+c:Nat):Int),(sts b c,(ls,())))∧Dr b c ls∧Vo b c (b - 1) c ls∧ls.length≤b+c∧∀n,b≤n→n < b+c→cnt ls n=1:=
   za ⟨rfl,ls0,rfl,dr,ba,by omega,hcn⟩
  refine zk (fun hb2=>zk (fun _=>?_) (fun _=>keep)) (fun _=>keep)
  have hb2:=qn hb2
  have ep:wrF .i64 ((b:Int) - 1)=((b - 1:Nat):Int):=zAh (by omega) (by omega)
  simp only [ep]
  refine zoi (t:=tOf b c ls0) dr.sz (a:=((b - 1:Nat):Int)) (b:=0) hd.p hd.e rfl rfl (fun x y x0 x1 y0 y1 _=>keep) ?_
  intro x y x0 x1 y0 y1 h24 hlk hno
  refine za ⟨rfl,ls0++[_],rfl,dr.add h24 hlk hno,ba.app _,by simp;omega,fun n h1 h2=>?_⟩
  rw [zkt,hcn n h1 h2]
  simp only
  rw [US (show b - 1≠n by omega),show one 0 n=0 from US (m:=0) (by omega)];rfl
 clear dr ba hl hcn
 rintro ⟨j,⟨q,⟨⟩,⟨⟩⟩,⟨u,⟨⟩⟩⟩ ⟨hq,ls0,hu,dr,ba,hl,hcn⟩
 simp only at hq hu
 subst hq hu
 refine zj (J:=fun x=>x.2.1.1=q∧∃ls,x.2.2.1=(((b+c:Nat):Int),(sts b c,(ls,())))∧Dr b c ls∧Vo b c (b - 1) c ls∧∀n,b≤n→n < b+c→1≤cnt ls n∧cnt ls n≤2)
  (zW c (fun i s=>∃ls,s=((q,((),((i:Int),()))),((((b+c:Nat):Int),(sts b c,(ls,()))),()))∧Dr b c ls∧Vo b c (b - 1) c ls∧∀n,b≤n→n < b+c→1≤cnt ls n∧cnt ls n≤if n < b+i then 2 else 1) (by omega) ⟨ls0,rfl,dr,ba,fun n h1 h2=>by rw [hcn n h1 h2];split<;>omega⟩ ?_ ?_) ?_
 ·rintro i _ hi ⟨ls,rfl,dr,ba,hcn⟩
  refine zd (zT (show (i:Int) < (c:Int) by omega)) ?_
  have e2:wrF .i64 ((wrF .i64 (2*(i:Int)))+1)=((2*i+1:Nat):Int):=by rw [zG (z:=2*(i:Int)) (by omega) (by omega),zG (by omega) (by omega)];omega
  have e3:wrF .i64 ((b:Int)+(i:Int))=((b+i:Nat):Int):=by rw [zG]<;>omega
  have eq:wrF .i64 ((i:Int)+1)=((i+1:Nat):Int):=qp (by omega)
  obtain ⟨x,ex,x0,x1⟩:=Us hd.h (i:=((2*i+1:Nat):Int)) (by omega)
  simp only [e2,e3,eq,ex,zx,bnz,cond_false]
  obtain ⟨hh,ehh,hhb⟩:∃hh:Nat,Int.tmod x (b:Int)=(hh:Int)∧hh < b:=⟨(x % (b:Int)).toNat,by rw [Int.tmod_eq_emod_of_nonneg x0];have:=Int.emod_nonneg x (show (b:Int)≠0 by omega);omega,by have:=Int.emod_lt_of_pos x (show 0 < (b:Int) by omega);have:=Int.emod_nonneg x (show (b:Int)≠0 by omega);omega⟩
  simp only [ehh]
  refine zj (J:=fun x=>x.2.1.1=q∧∃ls,x.2.2.1=(((b+c:Nat):Int),(sts b c,(ls,())))∧Dr b c ls∧Vo b c (b - 1) c ls∧∀n,b≤n→n < b+c→1≤cnt ls n∧cnt ls n≤if n < b+(i+1) then 2 else 1) ?_ ?_
  ·have keep:qt (some ((0:Nat),((q,((),())),((((b+c:Nat):Int),(sts b c,(ls,()))),())))) fun x=>x.2.1.1=q∧∃ls,x.2.2.1=(((b+c:Nat):Int),(sts b c,(ls,())))∧Dr b c ls∧Vo b c (b - 1) c ls∧∀n,b≤n→n < b+c→1≤cnt ls n∧cnt ls n≤if n < b+(i+1) then 2 else 1:=
    za ⟨rfl,ls,rfl,dr,ba,fun n h1 h2=>by
     have:=hcn n h1 h2
     split at this<;>split<;>omega⟩
   refine zk (fun _=>?_) (fun _=>keep)
   refine zoi (t:=tOf b c ls) dr.sz (a:=((b+i:Nat):Int)) (b:=(hh:Int)) hd.p hd.e rfl rfl (fun x y x0 x1 y0 y1 _=>keep) ?_
   intro x y x0 x1 y0 y1 h24 hlk hno
   refine za ⟨rfl,ls++[_],rfl,dr.add h24 hlk hno,ba.app _,fun n h1 h2=>?_⟩
   have h3:=hcn n h1 h2
   rw [zkt]
   simp only
   rw [US (show hh≠n by omega)]
   by_cases h:n=b+i
   ·subst h
    rw [zAi]
    rw [if_neg (by omega)] at h3
    rw [if_pos (by omega)];omega
   ·rw [US (show b+i≠n by omega)]
    split at h3<;>split<;>omega
  ·rintro ⟨j,⟨q',⟨⟩,⟨⟩⟩,⟨u,⟨⟩⟩⟩ ⟨hq,ls',hu,dr,ba,hcn⟩
   simp only at hq hu
   subst hq hu
   exact za (qj ⟨ls',rfl,dr,ba,hcn⟩)
 ·rintro _ ⟨ls,rfl,dr,ba,hcn⟩
  exact zf (zF (show ¬(c:Int) < (c:Int) by omega)) (za (zq ⟨rfl,ls,rfl,dr,ba,fun n h1 h2=>by have:=hcn n h1 h2;rwa [if_pos h2] at this⟩))
 clear dr ba hl hcn
 rintro ⟨j,⟨q',⟨⟩,w',⟨⟩⟩,⟨u,⟨⟩⟩⟩ ⟨hq,ls0,hu,dr,ba,hcn⟩
 simp only at hq hu
 subst hq hu
 refine zj (J:=fun x=>∃ls,x.2.2.1=(((b+c:Nat):Int),(sts b c,(ls,())))∧Dr b c ls∧Vo b c (b - 1) c ls∧∀n,b≤n→n < b+c→1≤cnt ls n∧cnt ls n≤2)
  (zmS (fun s=>∃(i:Nat) (ls:List yu),s=((q',((),((i:Int),()))),((((b+c:Nat):Int),(sts b c,(ls,()))),()))∧i≤13∧Dr b c ls∧Vo b c (b - 1) c ls∧∀n,b≤n→n < b+c→1≤cnt ls n∧cnt ls n≤2) _ (fun s=>20 - s.1.2.2.1.toNat) ⟨0,ls0,rfl,by omega,dr,ba,hcn⟩ (by show 20 - (0:Int).toNat < _;omega) ?_) ?_
 ·rintro _ ⟨i,ls,rfl,hi13,dr,ba,hcn⟩
  have eq:wrF .i64 ((i:Int)+1)=((i+1:Nat):Int):=qp (by omega)
  have eq2:wrF .i64 ((i:Int)+2)=((i+2:Nat):Int):=by rw [zG]<;>omega
  simp only [eq,eq2,bnz,cond_false]
  have out:qt (some (.inl ((0:Nat),((q',((),((i:Int),()))),((((b+c:Nat):Int),(sts b c,(ls,()))),()))):(Nat×(((zoh)×(Unit×(Int×Unit)))×((Int×(List Bool×(List yu×Unit)))×Unit))) ⊕ (((zoh)×(Unit×(Int×Unit)))×((Int×(List Bool×(List yu×Unit)))×Unit)))) (zoG (fun s=>∃(i:Nat) (ls:List yu),s=((q',((),((i:Int),()))),((((b+c:Nat):Int),(sts b c,(ls,()))),()))∧i≤13∧Dr b c ls∧Vo b c (b - 1) c ls∧∀n,b≤n→n < b+c→1≤cnt ls n∧cnt ls n≤2) (fun x=>∃ls,x.2.2.1=(((b+c:Nat):Int),(sts b c,(ls,())))∧Dr b c ls∧Vo b c (b - 1) c ls∧∀n,b≤n→n < b+c→1≤cnt ls n∧cnt ls n≤2) (fun s=>20 - s.1.2.2.1.toNat) ((q',((),((i:Int),()))),((((b+c:Nat):Int),(sts b c,(ls,()))),()))):=
   za (zmR ⟨ls,rfl,dr,ba,hcn⟩)
  refine zk (fun h1=>zk (fun h2=>?_) (fun _=>out)) (fun _=>out)
  have h1:=qn h1
  have h2:=qn (show zh (i:Int) 12=true from h2)
  have hx:q'.2.2.1[i]?=some (q'.2.2.1[i]'(by omega)):=List.getElem?_eq_getElem (by omega)
  have hy:q'.2.2.1[i+1]?=some (q'.2.2.1[i+1]'(by omega)):=List.getElem?_eq_getElem (by omega)
  have bx:=hd.c _ (List.getElem_mem (show i < q'.2.2.1.length by omega))
  have hyb:=hd.c _ (List.getElem_mem (show i+1 < q'.2.2.1.length by omega))
  generalize (q'.2.2.1[i]'(by omega))=x at hx bx
  generalize (q'.2.2.1[i+1]'(by omega))=y at hy hyb
  refine zg (zy (n:=i) hx (zg (zy (n:=i+1) hy ?_)))
  have ex:wrF .i64 x=x:=zG (by omega) (by omega)
  have ey:wrF .i64 y=y:=zG (by omega) (by omega)
  simp only [ex,ey]
  obtain ⟨m,em,hmb⟩:∃hh:Nat,Int.tmod x (b:Int)=(hh:Int)∧hh < b:=⟨(x % (b:Int)).toNat,by rw [Int.tmod_eq_emod_of_nonneg bx.1];have:=Int.emod_nonneg x (show (b:Int)≠0 by omega);omega,by have:=Int.emod_lt_of_pos x (show 0 < (b:Int) by omega);have:=Int.emod_nonneg x (show (b:Int)≠0 by omega);omega⟩
  obtain ⟨n,en,hnb⟩:∃hh:Nat,Int.tmod y (b:Int)=(hh:Int)∧hh < b:=⟨(y % (b:Int)).toNat,by rw [Int.tmod_eq_emod_of_nonneg hyb.1];have:=Int.emod_nonneg y (show (b:Int)≠0 by omega);omega,by have:=Int.emod_lt_of_pos y (show 0 < (b:Int) by omega);have:=Int.emod_nonneg y (show (b:Int)≠0 by omega);omega⟩
  simp only [em,en]
  refine zoi (t:=tOf b c ls) dr.sz (a:=(m:Int)) (b:=(n:Int)) hd.p hd.e rfl rfl (fun x y x0 x1 y0 y1 _=>?_) ?_
  ·refine za (zcB ⟨i+2,ls,rfl,by omega,dr,ba,hcn⟩ ?_)
   show 20 - (((i+2:Nat):Int)).toNat < 20 - ((i:Int)).toNat
   omega
  ·intro x y x0 x1 y0 y1 h24 hlk hno
   refine za (zcB ⟨i+2,ls++[_],rfl,by omega,dr.add h24 hlk hno,ba.app _,fun k h1 h2=>?_⟩ ?_)
   ·rw [zkt]
    simp only
    rw [US (show m≠k by omega),US (show n≠k by omega)]
    have:=hcn k h1 h2
    omega
   ·show 20 - (((i+2:Nat):Int)).toNat < 20 - ((i:Int)).toNat
    omega
 ·rintro ⟨j,⟨q,⟨⟩,w',⟨⟩⟩,⟨u,⟨⟩⟩⟩ ⟨ls,hu,dr,ba,hcn⟩
  simp only at hu
  subst hu
  refine za ⟨ls,rfl,zEl dr ba hcn,?_⟩
  obtain ⟨h,p,d',e,_⟩:=ba.ho 0 (by omega)
  have:b - 1+0 < ls.length:=by grind
  omega
def Xv (t:qm) (n:Int):List Int:=((List.range (2*t.2.2.length)).map fun (p:Nat)=>(p:Int)).filter fun p=>frm t p == n
theorem zwx (t:qm) (n:Int):∀p∈Xv t n,wu t p:=by
 intro p hp
 unfold Xv at hp
 obtain ⟨k,hk,rfl⟩:=List.mem_map.1 (List.mem_filter.1 hp).1
 have:=List.mem_range.1 hk
 exact ⟨by omega,by omega⟩
theorem zt0 (t:qm) (n:Int):(Xv t n).length≤2*t.2.2.length:=by
 unfold Xv
 have:=List.length_filter_le (fun p=>frm t p == n) ((List.range (2*t.2.2.length)).map fun (p:Nat)=>(p:Int))
 simpa using this
theorem Ki {t:qm} (hl:t.2.2.length≤24) (n:Int):Wg (t,n,())=some (Xv t n,()):=by
 have hll:t.2.2.length≤1000000000000000:=by omega
 rw [zqC];unfold zdJ
 rw [tw t hll]
 refine ym (zj (J:=fun x=>x.2.2.1=Xv t n) (zW (2*t.2.2.length) (fun i s=>s=(((i:Int),()),((((List.range i).map fun (p:Nat)=>(p:Int)).filter fun p=>frm t p == n),()))) (by omega) rfl ?_ ?_) ?_)
 ·rintro i _ hi rfl
  have hp:wu t (i:Int):=⟨by omega,by omega⟩
  refine zd (zT (show (i:Int) < 2*(t.2.2.length:Int) by omega)) ?_
  have e:((List.range (i+1)).map fun (p:Nat)=>(p:Int)).filter (fun p=>frm t p == n)=(((List.range i).map fun (p:Nat)=>(p:Int)).filter fun p=>frm t p == n)++(if frm t (i:Int) == n then [(i:Int)] else []):=by
   rw [List.range_succ,List.map_append,List.filter_append]
   congr 1
   simp only [List.map_cons,List.map_nil,List.filter_cons,List.filter_nil]
  have hlen:(((List.range i).map fun (p:Nat)=>(p:Int)).filter fun p=>frm t p == n).length≤i:=by
   have:=List.length_filter_le (fun p=>frm t p == n) ((List.range i).map fun (p:Nat)=>(p:Int))
   simpa using this
  rw [Ja hll hp]
  refine zj (J:=fun x=>x.2.2.1=(((List.range (i+1)).map fun (p:Nat)=>(p:Int)).filter fun p=>frm t p == n)) ?_ ?_
  ·rw [e]
   refine zk (fun h=>?_) (fun h=>?_)
   ·have h:=qU h
    refine zd (xh (Nat.le_trans (Nat.mul_le_mul_right 8 (Nat.add_le_add_right hlen 1)) (by omega)) (Nat.le_trans (Nat.add_le_add_right hlen 1) (by omega))) (za ?_)
    rw [if_pos (by simpa using h)]
   ·have h:=jU h
    refine za ?_
    rw [if_neg (by simpa using h),List.append_nil]
  ·rintro ⟨j,⟨⟩,c,⟨⟩⟩ hc
   simp only at hc
   subst hc
   exact za (qj (congrArg (fun z=>((z,()),(_,()))) (qp (by omega))))
 ·rintro _ rfl
  exact zf (zF (show ¬((2*t.2.2.length:Nat):Int) < 2*(t.2.2.length:Int) by omega)) (za (zq rfl))
 ·rintro ⟨j,⟨z,⟨⟩⟩,c,⟨⟩⟩ hc
  exact za hc
noncomputable def JX (t:qm) (ps seen:List Int):List Int:=ps.filter fun p=>!tv (too t p∈seen)
theorem zhK {t:qm} (hll:t.2.2.length≤24) {ps seen:List Int} (hps:∀p∈ps,wu t p) (hpl:ps.length≤48) (hsl:seen.length≤100)
  {B:((Int×Unit)×((List Int)×((List Int)×Unit)))→Option ((Nat×((Int×Unit)×((List Int)×((List Int)×Unit)))) ⊕ ((Int×Unit)×((List Int)×((List Int)×Unit))))}
  (hB:B=fun s2=>bif (zh (s2.1.1) ((((ps).length:Nat):Int))) then opt (opt (atI (ps) (s2.1.1)) fun x3=>
        opt (yw ((t,(x3,())))) fun x4=>
        opt (xm ((s2.2.1,(x4.1,())))) fun x5=>
        bif (!x5.1) then opt (atI (ps) (s2.1.1)) fun x6=>
         bif (jb ((s2.2.2.1).length) (((x6::[])).length) (8)) then some (0,((),(s2.2.1,((s2.2.2.1++(x6::[])),()))))
         else none
        else some (0,((),(s2.2.1,(s2.2.2.1,()))))) fun x7=>
       some (.inr (((wrF .i64 ((s2.1.1+1))),()),(x7.2.2.1,(x7.2.2.2.1,()))))
      else some (.inl (0,((s2.1.1,()),(s2.2.1,(s2.2.2.1,())))))) :
  qt (zz B zL ((0,()),(seen,([],())))) fun x=>x.2.2.1=seen∧x.2.2.2.1=JX t ps seen:=by
 have hl2:t.2.2.length≤1000000000000000:=by omega
 subst hB
 refine zW ps.length (fun i s=>s=(((i:Int),()),(seen,(JX t (ps.take i) seen,())))) (by omega) rfl ?_ ?_
 ·rintro i _ hi rfl
  have hx:ps[i]?=some ps[i]:=List.getElem?_eq_getElem hi
  have hp:=hps _ (List.getElem_mem hi)
  generalize ps[i]=p at hx hp
  have hlen:(JX t (ps.take i) seen).length≤48:=by
   unfold JX
   have:=List.length_filter_le (fun p=>!tv (too t p∈seen)) (ps.take i)
   simp only [List.length_take] at this;omega
  have e:JX t (ps.take (i+1)) seen=JX t (ps.take i) seen++(if (!tv (too t p∈seen))=true then [p] else []):=by
   unfold JX
   rw [List.take_add_one,hx,List.filter_append]
   congr 1
   simp only [Option.toList,List.filter_cons,List.filter_nil]
  refine zd (zT (show (i:Int) < (ps.length:Int) by omega)) (zj (J:=fun x=>x.2.2.1=seen∧x.2.2.2.1=JX t (ps.take (i+1)) seen) ?_ ?_)
  ·refine zg (zy (n:=i) hx ?_)
   rw [JI hl2 hp,zx,zbI (by show seen.length≤_;omega),zx,e]
   refine zk (fun h=>?_) (fun h=>?_)
   ·refine zg (zy (n:=i) hx (zd (xh (by show ((JX t (ps.take i) seen).length+1)*8≤_;omega) (by show (JX t (ps.take i) seen).length+1≤_;omega)) (za ⟨rfl,?_⟩)))
    rw [if_pos h]
   ·refine za ⟨rfl,?_⟩
    have h:(!tv (too t p∈seen))=false:=h
    rw [h,if_neg (by simp),List.append_nil]
  ·rintro ⟨j,⟨⟩,c,c2,⟨⟩⟩ ⟨h1,h2⟩
   simp only at h1 h2
   subst h1 h2
   exact za (qj (congrArg (fun z=>((z,()),_)) (qp (by omega))))
 ·rintro _ rfl
  refine zf (zF (show ¬(ps.length:Int) < (ps.length:Int) by omega)) (za (zq ⟨rfl,?_⟩))
  show JX t (ps.take ps.length) seen=_
  rw [List.take_length]
theorem zEm {t:qm} (ht:jX t) {a k:Int} (a0:0≤a) (a1:a≤255) (k0:0≤k) (k1:k≤255):∃r,ZT (t,a,k,())=some (r,()):=by
 have n0:=ht.sz.n0;have n1:=ht.sz.n1;have hls:=ht.sz.ls
 have hll:t.2.2.length≤1000000000000000:=by omega
 suffices key:qt (ZT (t,a,k,())) fun _=>True by
  obtain ⟨⟨r,⟨⟩⟩,e,_⟩:=key
  exact ⟨r,e⟩
 have ew:wrF .i64 a=a:=zG (by omega) (by omega)
 have em:Int.tmod a t.1=a % t.1:=Int.tmod_eq_emod_of_nonneg a0
 have m0:=Int.emod_nonneg a (show t.1≠0 by omega)
 have m1:=Int.emod_lt_of_pos a (show 0 < t.1 by omega)
 rw [zsF];unfold zfL
 rw [ew,em]
 refine zf (qM (show t.1≠0 by omega)) ?_
 have stop:∀(r:Option Int) (at_:Int) (out seen:List Int),True:=fun _ _ _ _=>trivial
 refine zj (J:=fun s=>∃r at_ out seen,s=((t,(r,(at_,()))),(out,(seen,())))∧js t at_∧out.length≤8∧seen.length=out.length+1∧(8≤out.length∨(out≠[]∧stn t at_=true)∨JX t (Xv t at_) seen=[]))
  (zmS (fun s=>∃r at_ out seen,s=((t,(r,(at_,()))),(out,(seen,())))∧js t at_∧out.length≤8∧seen.length=out.length+1) _ (fun s=>20 - s.2.1.length) ⟨[],a % t.1,[],[a % t.1],rfl,⟨m0,m1⟩,by simp,rfl⟩ (by show 20 - 0 < _;omega) ?_) ?_
 ·rintro _ ⟨r,at_,out,seen,rfl,hn,ho,hs⟩
  have hpl:=zt0 t at_
  have hpo:=zwx t at_
  have fin:(8≤out.length∨(out≠[]∧stn t at_=true)∨JX t (Xv t at_) seen=[])→qt (some (.inl ((t,(r,(at_,()))),(out,(seen,()))):((qm×((List Int)×(Int×Unit)))×((List Int)×((List Int)×Unit))) ⊕ ((qm×((List Int)×(Int×Unit)))×((List Int)×((List Int)×Unit))))) (zoG (fun s=>∃r at_ out seen,s=((t,(r,(at_,()))),(out,(seen,())))∧js t at_∧out.length≤8∧seen.length=out.length+1) (fun s=>∃r at_ out seen,s=((t,(r,(at_,()))),(out,(seen,())))∧js t at_∧out.length≤8∧seen.length=out.length+1∧(8≤out.length∨(out≠[]∧stn t at_=true)∨JX t (Xv t at_) seen=[])) (fun s=>20 - s.2.1.length) ((t,(r,(at_,()))),(out,(seen,())))):=fun h=>
   za (zmR ⟨r,at_,out,seen,rfl,hn,ho,hs,h⟩)
  have step:out.length < 8→∀(seen' nx:List Int),seen'=seen→nx=JX t (Xv t at_) seen→qt (bif (zi ((((nx).length:Nat):Int)) (0)) then some (.inl ((t,(r,(at_,()))),(out,(seen,()))))
     else bif (zi ((((nx).length:Nat):Int)) (0)) then none
      else opt (atI (nx) ((Int.tmod (wrF .i64 (((wrF .i64 (k))+(wrF .i64 ((3*(((out).length:Nat):Int))))))) (((nx).length:Nat):Int)))) fun x9=>
       opt (gl (nx) ((Int.toNat (Int.tmod (wrF .i64 (((wrF .i64 (k))+(wrF .i64 ((3*(((out).length:Nat):Int))))))) (((nx).length:Nat):Int))))) fun x10=>
       bif (jb ((out).length) (((x10::[])).length) (8)) then opt (yw ((t,(x10,())))) fun x11=>
        bif (jb ((seen').length) (((x11.1::[])).length) (8)) then some (.inr ((t,(r,(x11.1,()))),((out++(x10::[])),((seen'++(x11.1::[])),()))))
        else none
       else none) (zoG (fun s=>∃r at_ out seen,s=((t,(r,(at_,()))),(out,(seen,())))∧js t at_∧out.length≤8∧seen.length=out.length+1) (fun s=>∃r at_ out seen,s=((t,(r,(at_,()))),(out,(seen,())))∧js t at_∧out.length≤8∧seen.length=out.length+1∧(8≤out.length∨(out≠[]∧stn t at_=true)∨JX t (Xv t at_) seen=[])) (fun s=>20 - s.2.1.length) ((t,(r,(at_,()))),(out,(seen,())))):=by
   intro h8 seen' nx e1 e2
   subst e1
   refine zk (fun h=>fin (.inr (.inr ?_))) (fun h=>?_)
   ·have h:=qU h
    rw [←e2];exact List.length_eq_zero_iff.1 (by omega)
   have hz:(nx.length:Int)≠0:=jU h
   have ek:wrF .i64 k=k:=zG (by omega) (by omega)
   have e3:wrF .i64 (3*(out.length:Int))=3*(out.length:Int):=zG (by omega) (by omega)
   have e4:wrF .i64 (k+3*(out.length:Int))=k+3*(out.length:Int):=zG (by omega) (by omega)
   rw [ek,e3,e4,Int.tmod_eq_emod_of_nonneg (by omega)]
   have i0:=Int.emod_nonneg (k+3*(out.length:Int)) hz
   have i1:=Int.emod_lt_of_pos (k+3*(out.length:Int)) (show 0 < (nx.length:Int) by omega)
   refine zf (qM hz) (zg (qP i0 i1 fun _ _=>zg (wc (by omega) fun p hp=>?_)))
   have hpt:wu t p:=by
    have:=List.mem_of_getElem? hp
    rw [e2] at this
    exact hpo p (List.mem_filter.1 this).1
   refine zd (xh (by show (out.length+1)*8≤_;omega) (by show out.length+1≤_;omega)) ?_
   rw [JI hll hpt,zx]
   refine zd (xh (by show (seen'.length+1)*8≤_;omega) (by show seen'.length+1≤_;omega)) (za (zcB ⟨r,too t p,out++[p],seen'++[too t p],rfl,(zag ht.ls hpt).2.1,by simp;omega,by simp;omega⟩ ?_))
   show 20 - (out++[p]).length < 20 - out.length
   simp;omega
  refine zk (fun h8=>?_) (fun h8=>fin (.inl ?_))
  rotate_left
  ·have h8:(8:Int)≤(out.length:Int):=qE h8
   omega
  have h8:(out.length:Int) < 8:=qn h8
  refine zk (fun hz=>?_) (fun hz=>?_)
  ·rw [Ki hls,zx]
   refine zj (zhK hls hpo (by omega) (by show seen.length≤_;omega) rfl) ?_
   rintro ⟨j,⟨z,⟨⟩⟩,c,c2,⟨⟩⟩ ⟨h1,h2⟩
   exact step (by omega) c c2 h1 h2
  ·have hz:(out.length:Int)≠0:=jU hz
   refine zg (qk (a:=stn t at_) (by show atI t.2.1 at_=_;rw [show at_=((at_.toNat:Nat):Int) from (by have:=hn.1;omega),jJ (n:=at_.toNat)];exact hn.get ht.sz) ?_)
   refine zk (fun hst=>?_) (fun hst=>fin (.inr (.inl ⟨fun e=>?_,by simpa using hst⟩)))
   ·rw [Ki hls,zx]
    refine zj (zhK hls hpo (by omega) (by show seen.length≤_;omega) rfl) ?_
    rintro ⟨j,⟨z,⟨⟩⟩,c,c2,⟨⟩⟩ ⟨h1,h2⟩
    exact step (by omega) c c2 h1 h2
   ·rw [e] at hz;exact hz rfl
 ·rintro _ ⟨r,at_,out,seen,rfl,hn,ho,hs,hstop⟩
  have hpl:=zt0 t at_
  have hpo:=zwx t at_
  refine zk (fun h8=>?_) (fun _=>za trivial)
  have h8:(out.length:Int) < 8:=qn h8
  refine zk (fun hz=>?_) (fun hz=>?_)
  ·have hz:(out.length:Int)=0:=qU hz
   have hnx:JX t (Xv t at_) seen=[]:=by
    rcases hstop with h | ⟨h,_⟩ | h
    ·omega
    ·exact absurd (List.length_eq_zero_iff.1 (by omega)) h
    ·exact h
   rw [Ki hls,zx]
   refine zj (zhK hls hpo (by omega) (by show seen.length≤_;omega) rfl) ?_
   rintro ⟨j,⟨z,⟨⟩⟩,c,c2,⟨⟩⟩ ⟨h1,h2⟩
   simp only at h1 h2
   rw [hnx] at h2
   subst h2
   exact zd rfl (za trivial)
  ·refine zg (qk (a:=stn t at_) (by show atI t.2.1 at_=_;rw [show at_=((at_.toNat:Nat):Int) from (by have:=hn.1;omega),jJ (n:=at_.toNat)];exact hn.get ht.sz) ?_)
   refine zk (fun hst=>?_) (fun _=>za trivial)
   have hnx:JX t (Xv t at_) seen=[]:=by
    rcases hstop with h | ⟨_,h⟩ | h
    ·omega
    ·rw [h] at hst;cases hst
    ·exact h
   rw [Ki hls,zx]
   refine zj (zhK hls hpo (by omega) (by show seen.length≤_;omega) rfl) ?_
   rintro ⟨j,⟨z,⟨⟩⟩,c,c2,⟨⟩⟩ ⟨h1,h2⟩
   simp only at h1 h2
   rw [hnx] at h2
   subst h2
   exact zd rfl (za trivial)
theorem zx0 (z:Int):0≤wrF .u8 z∧wrF .u8 z≤255:=by
 rw [UG,IntKind.wrap_u8];omega
theorem zAj {t:qm} (hs:szP t) {n:Int} (hn:js t n):atI t.2.1 n=some (stn t n):=by
 have e:n=((n.toNat:Nat):Int):=by have:=hn.1;omega
 rw [e,jJ (n:=n.toNat)]
 rw [←e];exact hn.get hs
theorem zwy {α:Type} {l:List α} (h:1≤l.length):zr5 l=true:=by
 cases l with
 |nil=>simp at h
 |cons a b=>rfl
theorem zEn {t:qm} (ht:jX t) (nd w:Int)
  {B:(((Int×((List Bool)×(List (Int×(Int×(Int×Int))))))×((List Int)×(Int×Unit)))×Unit)→Option ((Nat×(((Int×((List Bool)×(List (Int×(Int×(Int×Int))))))×((List Int)×(Int×Unit)))×Unit)) ⊕ (((Int×((List Bool)×(List (Int×(Int×(Int×Int))))))×((List Int)×(Int×Unit)))×Unit))}
  (hB:B=fun s3:(((Int×((List Bool)×(List (Int×(Int×(Int×Int))))))×((List Int)×(Int×Unit)))×Unit)=>
   bif (zh (s3.1.2.2.1) (16)) then opt (ZT ((s3.1.1,((wrF .u8 (nd)),((wrF .u8 ((w+(wrF .u8 (s3.1.2.2.1))))),()))))) fun x4=>
    opt
      (bif (zh (0) ((((x4.1).length:Nat):Int))) then opt (vW ((s3.1.1,(x4.1,())))) fun x5=>
      bif x5.1 then opt (atI (x4.1) (0)) fun x6=>
       opt (jE ((s3.1.1,(x6,())))) fun x7=>
       opt (atI (s3.1.1.2.1) (x7.1)) fun x8=>
       bif x8 then opt (atI (x4.1) ((wrF .i64 (((((x4.1).length:Nat):Int) - 1))))) fun x9=>
        opt (yw ((s3.1.1,(x9,())))) fun x10=>
        opt (atI (s3.1.1.2.1) (x10.1)) fun x11=>
        bif x11 then some (1,((x4.1,()),()))
        else some (0,((s3.1.2.1,()),()))
       else some (0,((s3.1.2.1,()),()))
      else some (0,((s3.1.2.1,()),()))
     else some (0,((s3.1.2.1,()),()))) fun x12=>
    bif (Nat.beq x12.1 0) then some (.inr ((s3.1.1,(x12.2.1.1,((wrF .i64 ((s3.1.2.2.1+1))),()))),()))
    else some (.inl (1,((s3.1.1,(x12.2.1.1,(s3.1.2.2.1,()))),())))
   else some (.inl (0,((s3.1.1,(s3.1.2.1,(s3.1.2.2.1,()))),())))) :
  qt (zz B zL ((t,([],(0,()))),())) fun x=>x.1=0∨(x.1=1∧je t x.2.1.2.1):=by
 have hll:t.2.2.length≤1000000000000000:=ht.ll
 subst hB
 refine zW 16 (fun i s=>s=((t,([],((i:Int),()))),())) (by omega) rfl ?_ ?_
 ·rintro i _ hi rfl
  refine zd (zT (show (i:Int) < 16 by omega)) ?_
  obtain ⟨r,hr⟩:=zEm ht (zx0 nd).1 (zx0 nd).2 (zx0 (w+wrF .u8 (i:Int))).1 (zx0 (w+wrF .u8 (i:Int))).2
  rw [hr,zx]
  refine zj (J:=fun x=>(x.1=0∧x.2.1.1=[])∨(x.1=1∧je t x.2.1.1)) ?_ ?_
  ·have stay:qt (some ((0:Nat),((([]:List Int),()),()))) (fun x=>(x.1=0∧x.2.1.1=[])∨(x.1=1∧je t x.2.1.1)):=za (.inl ⟨rfl,rfl⟩)
   refine zk (fun h=>?_) (fun h=>stay)
   have h:=qn h
   rw [zhx ht,zx]
   refine zk (fun hv=>?_) (fun _=>stay)
   have hv:je t r:=ZO hv
   have r0:=hv.n0;have r1:=hv.n1
   refine zg (qP (by omega) (by show (0:Int) < (r.length:Int);omega) fun p hp=>?_)
   have hpp:wu t p:=hv.pt p (List.mem_of_getElem? hp)
   rw [Ja hll hpp,zx]
   refine zg (qk (zAj ht.sz (zag ht.ls hpp).1) ?_)
   refine zk (fun _=>?_) (fun _=>stay)
   have e:wrF .i64 ((r.length:Int) - 1)=(r.length:Int) - 1:=zG (by omega) (by omega)
   rw [e]
   refine zg (qP (by omega) (by show (r.length:Int) - 1 < (r.length:Int);omega) fun q hq=>?_)
   have hqp:wu t q:=hv.pt q (List.mem_of_getElem? hq)
   rw [JI hll hqp,zx]
   refine zg (qk (zAj ht.sz (zag ht.ls hqp).2.1) ?_)
   exact zk (fun _=>za (.inr ⟨rfl,hv⟩)) (fun _=>stay)
  ·rintro ⟨n,⟨r',⟨⟩⟩,⟨⟩⟩ (⟨h1,h2⟩ | ⟨h1,h2⟩)
   ·simp only at h1 h2
    subst h1 h2
    exact zd rfl (za (qj (congrArg (fun z=>((t,([],(z,()))),())) (qp (by omega)))))
   ·simp only at h1 h2
    subst h1
    exact zf rfl (za (zq (.inr ⟨rfl,h2⟩)))
 ·rintro _ rfl
  exact zf (zF (show ¬(16:Int) < 16 by omega)) (za (zq (.inl rfl)))
abbrev zt1:=Bool×Bool×Int×Int×Int×Int×Int×Int
def sdP (d:zt1):Prop:=(0≤d.2.2.1∧d.2.2.1≤255)∧(0≤d.2.2.2.2.2.1∧d.2.2.2.2.2.1≤255)
theorem zAW {t:qm} (ht:jX t) {d:zt1} (hd:sdP d) (id:Int):∃s b,xS (d,t,id,())=some (s,b,()):=by
 have hll:t.2.2.length≤1000000000000000:=ht.ll
 have n0:=ht.sz.n0;have n1:=ht.sz.n1
 obtain ⟨⟨d0,d1⟩,d2,d3⟩:=hd
 suffices key:qt (xS (d,t,id,())) fun _=>True by
  obtain ⟨⟨s,b,⟨⟩⟩,e,_⟩:=key
  exact ⟨s,b,e⟩
 have m0:=Int.emod_nonneg d.2.2.1 (show t.1≠0 by omega)
 have m1:=Int.emod_lt_of_pos d.2.2.1 (show 0 < t.1 by omega)
 have ew:wrF .i64 d.2.2.1=d.2.2.1:=zG (by omega) (by omega)
 rw [zgV];unfold XY
 rw [ew,Int.tmod_eq_emod_of_nonneg d0]
 refine zf (qM (show t.1≠0 by omega)) ?_
 refine zj (J:=fun _=>True) (zW t.1.toNat (fun i s=>∃n,js t n∧s=((n,((i:Int),())),())) (by omega) ⟨_,⟨m0,m1⟩,rfl⟩ ?_ ?_) ?_
 ·rintro i _ hi ⟨n,hn,rfl⟩
  have:=hn.1;have:=hn.2
  refine zd (zT (show (i:Int) < t.1 by omega)) (zg (qk (zAj ht.sz hn) ?_))
  refine zk (fun _=>?_) (fun _=>za (zq trivial))
  refine zf (qM (show t.1≠0 by omega)) (za (qj ⟨(n+1) % t.1,⟨Int.emod_nonneg _ (by omega),Int.emod_lt_of_pos _ (by omega)⟩,?_⟩))
  have e1:wrF .i64 (n+1)=n+1:=zG (by omega) (by omega)
  show ((Int.tmod (wrF .i64 (n+1)) t.1,(wrF .i64 ((i:Int)+1),())),())=_
  rw [e1,Int.tmod_eq_emod_of_nonneg (by omega),qp (by omega)]
 ·rintro _ ⟨n,hn,rfl⟩
  exact zf (zF (show ¬((t.1.toNat:Nat):Int) < t.1 by omega)) (za (zq trivial))
 rintro x2 -
 refine zj (zEn ht x2.2.1.1 d.2.2.2.1 rfl) ?_
 rintro ⟨k,⟨tt,r,z,⟨⟩⟩,⟨⟩⟩ h
 rcases h with h | ⟨h,hr⟩
 ·exact zd (by show Nat.beq k 0=true;rw [show k=0 from h];rfl) (za trivial)
 have hr:je t r:=hr
 have r0:=hr.n0;have r1:=hr.n1
 have er:wrF .i64 ((r.length:Int) - 1)=(r.length:Int) - 1:=zG (by omega) (by omega)
 refine zf (by show Nat.beq k 0=false;rw [show k=1 from h];rfl) (zd (zwy r0) ?_)
 refine zg (qP (by omega) (by show (0:Int) < (r.length:Int);omega) fun p hp=>?_)
 have hpp:wu t p:=hr.pt p (List.mem_of_getElem? hp)
 rw [Ja hll hpp,zx,er]
 refine zg (qP (by omega) (by show (r.length:Int) - 1 < (r.length:Int);omega) fun q hq=>?_)
 have hqp:wu t q:=hr.pt q (List.mem_of_getElem? hq)
 rw [JI hll hqp,zx]
 refine zj (J:=fun _=>True) ?_ ?_
 ·refine zk (fun _=>za trivial) (fun _=>?_)
  have p0:=Int.emod_nonneg d.2.2.2.2.2.1 (show (10:Int)≠0 by omega)
  have p1:=Int.emod_lt_of_pos d.2.2.2.2.2.1 (show 0 < (10:Int) by omega)
  rw [Int.tmod_eq_emod_of_nonneg d2]
  refine zg (qP p0 p1 fun _ _=>zg (wc ?_ fun _ _=>za trivial))
  show (d.2.2.2.2.2.1 % 10).toNat < 10
  omega
 rintro x20 -
 refine zj (J:=fun x=>x.2.1.1=t) (zW 24 (fun i s=>∃F,s=((t,((),((i:Int),()))),F)) (by omega) ⟨_,rfl⟩ ?_ ?_) ?_
 ·rintro i _ hi ⟨F,rfl⟩
  refine zd (zT (show (i:Int) < 24 by omega)) ?_
  have out:∀{k:Nat} {z:Int} {F'},qt (some (.inl (k,((t,((),(z,()))),F')):((Nat×(((Int×((List Bool)×(List (Int×(Int×(Int×Int))))))×(Unit×(Int×Unit)))×((Int×(Int×(Int×(Int×(Int×(Int×((Int×Int)×(Int×((List (List Int))×Unit)))))))))×Unit))) ⊕ (((Int×((List Bool)×(List (Int×(Int×(Int×Int))))))×(Unit×(Int×Unit)))×((Int×(Int×(Int×(Int×(Int×(Int×((Int×Int)×(Int×((List (List Int))×Unit)))))))))×Unit))))) (Nxt (fun x=>x.2.1.1=t) fun s=>∃F,s=((t,((),(((i+1:Nat):Int),()))),F)):=za (zq rfl)
  have on:∀{F'},qt (some (.inr ((t,((),(wrF .i64 ((i:Int)+1),()))),F'):((Nat×(((Int×((List Bool)×(List (Int×(Int×(Int×Int))))))×(Unit×(Int×Unit)))×((Int×(Int×(Int×(Int×(Int×(Int×((Int×Int)×(Int×((List (List Int))×Unit)))))))))×Unit))) ⊕ (((Int×((List Bool)×(List (Int×(Int×(Int×Int))))))×(Unit×(Int×Unit)))×((Int×(Int×(Int×(Int×(Int×(Int×((Int×Int)×(Int×((List (List Int))×Unit)))))))))×Unit))))) (Nxt (fun x=>x.2.1.1=t) fun s=>∃F,s=((t,((),(((i+1:Nat):Int),()))),F)):=fun {F'}=>za (qj ⟨F',congrArg (fun z=>((t,((),(z,()))),F')) (qp (by omega))⟩)
  refine zk (fun _=>zk (fun h1=>?_) (fun _=>out)) (fun _=>out)
  have h1:((F.1.2.2.2.2.2.2.2.2.1.length:Nat):Int)=1:=qU h1
  refine zj (zEn ht x2.2.1.1 (wrF .u8 (d.2.2.2.1+wrF .u8 (i:Int))) rfl) ?_
  rintro ⟨k2,⟨tt2,b,z2,⟨⟩⟩,⟨⟩⟩ h
  rcases h with h | ⟨h,hb⟩
  ·exact zd (by show Nat.beq k2 0=true;rw [show k2=0 from h];rfl) on
  have hb:je t b:=hb
  have b0:=hb.n0;have b1:=hb.n1
  have eb:wrF .i64 ((b.length:Int) - 1)=(b.length:Int) - 1:=zG (by omega) (by omega)
  refine zf (by show Nat.beq k2 0=false;rw [show k2=1 from h];rfl) ?_
  refine zj (J:=fun _=>True) ?_ ?_
  ·refine zd (zwy b0) ?_
   rw [eb]
   refine zg (qP (by omega) (by show (b.length:Int) - 1 < (b.length:Int);omega) fun q hq=>?_)
   have hqp:wu t q:=hb.pt q (List.mem_of_getElem? hq)
   rw [JI hll hqp,zx]
   refine zk (fun _=>?_) (fun _=>za trivial)
   rw [zhy ht hr hb,zx]
   refine zk (fun _=>?_) (fun _=>za trivial)
   exact zd (xh (by show (F.1.2.2.2.2.2.2.2.2.1.length+1)*24≤_;omega) (by show F.1.2.2.2.2.2.2.2.2.1.length+1≤_;omega)) (za trivial)
  ·rintro x36 -
   exact on
 ·rintro _ ⟨F,rfl⟩
  exact zf (zF (show ¬(24:Int) < 24 by omega)) (za (zq rfl))
 rintro ⟨k3,⟨t3,⟨⟩,z3,⟨⟩⟩,F,⟨⟩⟩ h3
 have h3:t3=t:=h3
 subst h3
 rw [zhA ht,zx]
 exact za trivial
abbrev zHI:=List Int×List Int
abbrev zjl:=zoh×List zHI×(Int×Int×Int)×Int×Int×List zt1×List Int
structure drP (d:zjl):Prop where
 t:tdP d.1
 g:∀x∈d.2.1,u8 x.1∧u8 x.2
 u:(0≤d.2.2.1.1∧d.2.2.1.1≤255)∧(0≤d.2.2.1.2.1∧d.2.2.1.2.1≤255)∧(0≤d.2.2.1.2.2∧d.2.2.1.2.2≤255)
 cap:0≤d.2.2.2.1∧d.2.2.2.1≤255
 most:0≤d.2.2.2.2.1∧d.2.2.2.2.1≤65535
 l:∀x∈d.2.2.2.2.2.1,sdP x
 ll:d.2.2.2.2.2.1.length*10≤140737488355328
theorem zAk {d:zjl} (hd:drP d):∃l,xx (d,())=some (l,())∧l.length≤6:=by
 suffices key:qt (xx (d,())) fun r=>r.1.length≤6 by
  obtain ⟨⟨l,⟨⟩⟩,e,h⟩:=key
  exact ⟨l,e,h⟩
 have hll:=hd.ll
 have hl:=hd.l
 rw [zfT];unfold YV
 refine zj (J:=fun x=>(∀y∈x.2.2.1,sdP y)∧x.2.2.1.length≤1000000000000000) (zW d.2.2.2.2.2.1.length (fun i s=>∃L:List zt1,s=(((i:Int),()),(L,()))∧L.length=i∧∀y∈L,sdP y) (by omega) ⟨[],rfl,rfl,fun y hy=>by cases hy⟩ ?_ ?_) ?_
 ·rintro i _ hi ⟨L,rfl,hL,hs⟩
  refine zd (zT (show (i:Int) < (d.2.2.2.2.2.1.length:Int) by omega)) (zg (qP (by show 0≤(i:Int);omega) (by show (i:Int) < (d.2.2.2.2.2.1.length:Int);omega) fun x hx=>?_))
  have hx:=hl x (List.mem_of_getElem? hx)
  refine zd (xh (by show (L.length+1)*10≤_;omega) (by show L.length+1≤_;omega)) (za (qj ⟨L++[(true,x.2)],congrArg (fun z=>((z,()),(L++[(true,x.2)],()))) (qp (by omega)),by simp [hL],fun y hy=>?_⟩))
  rcases List.mem_append.1 hy with h | h
  ·exact hs y h
  ·rw [List.mem_singleton.1 h];exact hx
 ·rintro _ ⟨L,rfl,hL,hs⟩
  exact zf (zF (show ¬((d.2.2.2.2.2.1.length:Nat):Int) < (d.2.2.2.2.2.1.length:Int) by omega)) (za (zq ⟨hs,by show L.length≤_;omega⟩))
 rintro ⟨k,⟨z,⟨⟩⟩,L,⟨⟩⟩ ⟨hs,hL⟩
 simp only at hs hL
 obtain ⟨b,c,ls,et,ht,h1⟩:=ztZ hd.t
 rw [et,zx]
 generalize tOf b c ls=t at ht
 refine zj (J:=fun x=>x.2.2.2.1.length≤6) (zW L.length (fun i s=>∃out:List qw,s=((t,((i:Int),())),(L,(out,())))∧out.length≤6) (by omega) ⟨[],rfl,by simp⟩ ?_ ?_) ?_
 ·rintro i _ hi ⟨out,rfl,ho⟩
  have hx:L[i]?=some L[i]:=List.getElem?_eq_getElem hi
  have hxs:=hs _ (List.getElem_mem hi)
  generalize L[i]=x at hx hxs
  refine zd (zT (show (i:Int) < (L.length:Int) by omega)) (zk (fun h6=>?_) (fun _=>za (zq ho)))
  have h6:(out.length:Int) < 6:=qn h6
  refine zg (zy (n:=i) hx (zg (qk (a:=x) (by show gl L (Int.toNat (i:Int))=_;rw [Int.toNat_natCast,xQ];exact hx) ?_)))
  obtain ⟨s,is,es⟩:=zAW ht hxs (wrF .i64 ((out.length:Int)+1))
  rw [es,zx]
  refine zj (J:=fun x=>x.2.2.1.length≤6) (zk (fun _=>zd (xh (by show (out.length+1)*96≤_;omega) (by show out.length+1≤_;omega)) (za ?_)) (fun _=>za ho)) ?_
  ·show (out++[s]).length≤6
   simp;omega
  ·rintro ⟨k,⟨⟩,o2,⟨⟩⟩ h2
   exact za (qj ⟨o2,congrArg (fun z=>((t,(z,())),(L,(o2,())))) (qp (by omega)),h2⟩)
 ·rintro _ ⟨out,rfl,ho⟩
  exact zf (zF (show ¬((L.length:Nat):Int) < (L.length:Int) by omega)) (za (zq ho))
 rintro ⟨k,⟨t2,z,⟨⟩⟩,L2,out,⟨⟩⟩ h6
 have h6:out.length≤6:=h6
 refine zj (J:=fun x=>x.2.2.1.length≤6) (zW out.length (fun i s=>∃o:List qw,s=(((i:Int),()),(o,()))∧o.length=out.length) (by omega) ⟨out,rfl,rfl⟩ ?_ ?_) ?_
 ·rintro i _ hi ⟨o,rfl,ho⟩
  refine zd (zT (show (i:Int) < (o.length:Int) by omega)) (zj (J:=fun x=>x.2.2.1.length=out.length) ?_ ?_)
  ·refine zk (fun h=>?_) (fun _=>za ho)
   have h:(i:Int) < (d.2.2.2.2.2.2.length:Int):=qn h
   refine zg (qP (by show 0≤(i:Int);omega) h fun x hx=>zk (fun _=>?_) (fun _=>za ho))
   refine zg (qP (by show 0≤(i:Int);omega) h fun y hy=>zg (qP (by show 0≤(i:Int);omega) (by show (i:Int) < (o.length:Int);omega) fun y hy=>zg (wc (by show i < o.length;omega) fun y hy=>za ?_)))
   show (List.set _ _ _).length=_
   rw [List.length_set];exact ho
  ·rintro ⟨k,⟨⟩,o2,⟨⟩⟩ h2
   exact za (qj ⟨o2,congrArg (fun z=>((z,()),(o2,()))) (qp (by omega)),h2⟩)
 ·rintro _ ⟨o,rfl,ho⟩
  exact zf (zF (show ¬((out.length:Nat):Int) < (o.length:Int) by omega)) (za (zq (by show o.length≤6;omega)))
 rintro ⟨k,⟨z,⟨⟩⟩,o,⟨⟩⟩ ho
 exact za ho
def zku (e:Int×Int):Prop:=(0≤e.1∧e.1≤255)∧(1≤e.2∧e.2≤1100)
def m40 (e:Int×Int):Int×Int:=(e.1,40*e.2)
theorem zAl (l:List (Int×Int)) (x:Int×Int):qO (l++[x])=qO l+x.2:=by
 unfold qO;simp
theorem zok {l:List (Int×Int)} (h:∀e∈l,zku e):0≤qO l∧qO l≤1100*l.length:=by
 unfold qO
 induction l with
 |nil=>simp
 |cons a l ih=>
  obtain ⟨_,h1,h2⟩:=h a (by simp)
  have:=ih fun e he=>h e (by simp [he])
  simp only [List.map_cons,List.sum_cons,List.length_cons]
  omega
theorem zHb (l:List (Int×Int)):qO (l.map m40)=40*qO l:=by
 unfold qO
 induction l with
 |nil=>rfl
 |cons a l ih=>
  simp only [List.map_cons,List.sum_cons,ih,m40]
  omega
theorem zHc {l:List (Int×Int)} (h:∀e∈l,zku e) (h0:1≤l.length) (h1:l.length≤10):qH (l,qO l):=by
 have:=zok h
 exact ⟨h0,by show l.length≤128;omega,fun e he=>by obtain ⟨⟨a,b⟩,c,d⟩:=h e he;exact ⟨a,b,c,by omega⟩,rfl,by show qO l≤9600000;omega⟩
theorem zFX {l:List (Int×Int)} (h:∀e∈l,zku e) (h0:1≤l.length) (h1:l.length≤10):qH (l.map m40,40*qO l):=by
 have:=zok h
 refine ⟨by simpa using h0,by show (l.map m40).length≤128;simp;omega,fun e he=>?_,zHb l,by show 40*qO l≤9600000;omega⟩
 obtain ⟨x,hx,rfl⟩:=List.mem_map.1 he
 obtain ⟨⟨a,b⟩,c,d⟩:=h x hx
 exact ⟨a,b,by show 1≤40*x.2;omega,by show 40*x.2≤9600000;omega⟩
theorem zHJ {d:zjl} (hd:drP d):∃n,uu (d,())=some (n,())∧zig n∧1≤n.1.2.2.length:=by
 suffices key:qt (uu (d,())) fun r=>zig r.1∧1≤r.1.1.2.2.length by
  obtain ⟨⟨l,⟨⟩⟩,e,h⟩:=key
  exact ⟨l,e,h⟩
 obtain ⟨⟨u0,u1⟩,⟨u2,u3⟩,u4,u5⟩:=hd.u
 obtain ⟨c0,c1⟩:=hd.cap
 obtain ⟨m0,m1⟩:=hd.most
 obtain ⟨b,c,ls,et,ht,hls⟩:=ztZ hd.t
 have hl1:1≤(tOf b c ls).2.2.length:=hls
 have es:Qg (d.2.2.1.1,d.2.2.1.2.1,d.2.2.1.2.2,())=some ((100+20*d.2.2.1.1,d.2.2.1.2.1 % 40,d.2.2.1.2.2,8000),()):=by
  rw [zmY];unfold za1
  have e1:wrF .i64 d.2.2.1.1=d.2.2.1.1:=zG (by omega) (by omega)
  have e2:wrF .i64 (20*d.2.2.1.1)=20*d.2.2.1.1:=zG (by omega) (by omega)
  have e3:wrF .i64 (100+20*d.2.2.1.1)=100+20*d.2.2.1.1:=zG (by omega) (by omega)
  have e4:wrF .i64 (d.2.2.1.2.1 % 40)=d.2.2.1.2.1 % 40:=zG (by omega) (by omega)
  have e5:wrF .i64 d.2.2.1.2.2=d.2.2.1.2.2:=zG (by omega) (by omega)
  simp only [e1,e2,e3,Int.tmod_eq_emod_of_nonneg u2,e4,e5]
 rw [zj0];unfold Ux
 rw [et,zx,es,zx]
 have hl24:=ht.sz.ls
 generalize tOf b c ls=t at ht hl1 hl24
 have e1:wrF .i64 d.2.2.2.1=d.2.2.2.1:=zG (by omega) (by omega)
 have e2:wrF .i64 (200*d.2.2.2.1)=200*d.2.2.2.1:=zG (by omega) (by omega)
 have e3:wrF .i64 (2000+200*d.2.2.2.1)=2000+200*d.2.2.2.1:=zG (by omega) (by omega)
 have e4:wrF .i64 (d.2.2.2.2.1 % 500)=d.2.2.2.2.1 % 500:=zG (by omega) (by omega)
 have e5:wrF .i64 (339+d.2.2.2.2.1 % 500)=339+d.2.2.2.2.1 % 500:=zG (by omega) (by omega)
 have e6:wrF .i64 (2*((t.2.2.length:Nat):Int))=((2*t.2.2.length:Nat):Int):=by rw [zG]<;>omega
 simp only [e1,e2,e3,Int.tmod_eq_emod_of_nonneg m0,e4,e5]
 have hu:JK (100+20*d.2.2.1.1,d.2.2.1.2.1 % 40,d.2.2.1.2.2,2000+200*d.2.2.2.1):=⟨⟨by show 1≤100+20*d.2.2.1.1;omega,by show 100+20*d.2.2.1.1≤10000;omega⟩,⟨by show 0≤d.2.2.1.2.1 % 40;omega,by show d.2.2.1.2.1 % 40≤1000;omega⟩,⟨u4,by show d.2.2.1.2.2≤10000;omega⟩,⟨by show 1542≤2000+200*d.2.2.2.1;omega,by show 2000+200*d.2.2.2.1≤65536;omega⟩⟩
 have hm:84≤339+d.2.2.2.2.1 % 500∧339+d.2.2.2.2.1 % 500≤1542:=⟨by omega,by omega⟩
 generalize 339+d.2.2.2.2.1 % 500=most at hm
 generalize hU:(100+20*d.2.2.1.1,d.2.2.1.2.1 % 40,d.2.2.1.2.2,2000+200*d.2.2.2.1)=U at hu
 refine zj (J:=fun x=>x.2.2.1.1=t∧JK x.2.2.1.2.1∧x.2.2.1.2.2.1.length=2*t.2.2.length∧(∀g∈x.2.2.1.2.2.1,qH g)∧x.2.2.1.2.2.2.1=most)
  (zW (2*t.2.2.length) (fun i s=>∃gs:List Gts,s=((d,((),((i:Int),()))),((t,(U,(gs,(most,())))),()))∧gs.length=i∧∀g∈gs,qH g) (by omega) ⟨[],by rw [←hU];rfl,rfl,fun y hy=>by cases hy⟩ ?_ ?_) ?_
 ·rintro i _ hi ⟨gs,rfl,hg,hgs⟩
  refine zd (zT (by show (i:Int) < wrF .i64 (2*((t.2.2.length:Nat):Int));rw [e6];omega)) ?_
  refine zj (J:=fun x=>∃es cy,x.2.2.1=(es,(cy,()))∧es.length=1∧(∀e∈es,zku e)∧cy=qO es) (zW 1 (fun k s=>∃es cy,s=(((),((k:Int),())),((es,(cy,())),()))∧es.length=k∧(∀e∈es,zku e)∧cy=qO es) (by omega) ⟨[],0,rfl,rfl,fun y hy=>by (cases hy),rfl⟩ ?_ ?_) ?_
  ·rintro k _ hk ⟨es,cy,rfl,hl,he,hc⟩
   have:=zok he
   have hk0:k=0:=by omega
   subst hk0
   refine zd (by rw [We,VC];exact zT (by show (0:Int) < 1;decide)) ?_
   refine zd (xh (by show (es.length+1)*16≤_;omega) (by show es.length+1≤_;omega)) (za (qj ⟨es++[(127,1)],cy+1,?_,by simp [hl],fun e h=>?_,by rw [zAl,hc]⟩))
   ·have e1:wrF .i64 (cy+1)=cy+1:=zG (by omega) (by omega)
    show (((),(wrF .i64 (0+1),())),((es++[(127,1)],(wrF .i64 (cy+1),())),()))=_
    rw [e1];rfl
   ·rcases List.mem_append.1 h with h | h
    ·exact he e h
    ·rw [List.mem_singleton.1 h];exact ⟨⟨by decide,by decide⟩,by decide,by decide⟩
  ·rintro _ ⟨es,cy,rfl,hl,he,hc⟩
   refine zf (by rw [We,VC];exact zF (by show ¬(1:Int) < 1;decide)) (za (zq ⟨es,cy,rfl,hl,he,hc⟩))
  rintro ⟨k6,⟨⟨⟩,z6,⟨⟩⟩,E6,⟨⟩⟩ ⟨es,cy,e,hl,he,hc⟩
  have e:E6=(es,(cy,())):=e
  subst e
  have hg6:qH (es,cy):=by rw [hc];exact zHc he (by omega) (by omega)
  refine zj (J:=fun x=>x.2.1.1=d∧qH (x.2.2.1.1,x.2.2.1.2.1)) ?_ ?_
  ·refine zk (fun hG=>zk (fun _=>?_) (fun _=>za ⟨rfl,hg6⟩)) (fun _=>za ⟨rfl,hg6⟩)
   have hG:(0:Int) < (d.2.1.length:Int):=qn hG
   have p0:=Int.emod_nonneg (i:Int) (show (d.2.1.length:Int)≠0 by omega)
   have p1:=Int.emod_lt_of_pos (i:Int) hG
   refine zf (qM (show (d.2.1.length:Int)≠0 by omega)) (zg ?_)
   rw [Int.tmod_eq_emod_of_nonneg (by show 0≤(i:Int);omega)]
   refine qP p0 p1 fun x hx=>?_
   obtain ⟨gx1,gx2⟩:=hd.g x (List.mem_of_getElem? hx)
   have en:∃N:Nat,uS 1 (jQ ((x.1.length:Nat):Int) 10)=(N:Int)∧1≤N∧N≤10:=⟨(uS 1 (jQ ((x.1.length:Nat):Int) 10)).toNat,by rw [We,VC];omega,by rw [We,VC];omega,by rw [We,VC];omega⟩
   obtain ⟨N,eN,N1,N2⟩:=en
   refine zj (J:=fun x=>∃es cy,x.2.2.1=(es,(cy,()))∧es.length=N∧(∀e∈es,zku e)∧cy=qO es) (zW N (fun k s=>∃es cy,s=(((),((k:Int),())),((es,(cy,())),()))∧es.length=k∧(∀e∈es,zku e)∧cy=qO es) (by omega) ⟨[],0,rfl,rfl,fun y hy=>by (cases hy),rfl⟩ ?_ ?_) ?_
   ·rintro k _ hk ⟨es,cy,rfl,hl,he,hc⟩
    have hq:=zok he
    refine zd (by show zh (k:Int) (uS 1 (jQ ((x.1.length:Nat):Int) 10))=true;rw [eN];exact zT (by omega)) ?_
    refine zj (J:=fun x=>(0≤x.2.1.1.1∧x.2.1.1.1≤255)∧x.2.1.1.2=1) ?_ ?_
    ·refine zk (fun h=>?_) (fun _=>za ⟨⟨by show (0:Int)≤127;decide,by show (127:Int)≤255;decide⟩,rfl⟩)
     have h:(k:Int) < (x.1.length:Int):=qn h
     refine zg (qP (by show 0≤(k:Int);omega) h fun y hy=>?_)
     obtain ⟨y0,y1⟩:=gx1 y (List.mem_of_getElem? hy)
     rw [Int.tmod_eq_emod_of_nonneg y0]
     have p0:=Int.emod_nonneg y (show (6:Int)≠0 by omega)
     have p1:=Int.emod_lt_of_pos y (show 0 < (6:Int) by omega)
     refine zg (qP p0 p1 fun _ _=>zg (wc (by show (y % 6).toNat < 6;omega) fun v hv=>za ⟨?_,rfl⟩))
     have:=List.mem_of_getElem? hv
     simp at this
     show 0≤v∧v≤255
     omega
    rintro ⟨k12,⟨⟨a,b⟩,⟨⟩⟩,⟨⟩⟩ ⟨h12,hb⟩
    have hb:b=1:=hb
    subst hb
    have h12:0≤a∧a≤255:=h12
    refine zj (J:=fun x=>zku x.2.1.1) ?_ ?_
    ·refine zk (fun h=>?_) (fun _=>za ⟨h12,by show (1:Int)≤1;decide,by show (1:Int)≤1100;decide⟩)
     have h:(k:Int) < (x.2.length:Int):=qn h
     refine zg (qP (by show 0≤(k:Int);omega) h fun y hy=>?_)
     obtain ⟨y0,y1⟩:=gx2 y (List.mem_of_getElem? hy)
     have e1:wrF .i64 y=y:=zG (by omega) (by omega)
     have e2:wrF .i64 (4*y)=4*y:=zG (by omega) (by omega)
     have e3:wrF .i64 (1+4*y)=1+4*y:=zG (by omega) (by omega)
     rw [e1,e2,e3]
     exact za ⟨h12,by show 1≤1+4*y;omega,by show 1+4*y≤1100;omega⟩
    rintro ⟨k14,⟨q,⟨⟩⟩,⟨⟩⟩ hq14
    have hq14:zku q:=hq14
    refine zd (xh (by show (es.length+1)*16≤_;omega) (by show es.length+1≤_;omega)) (za (qj ⟨es++[q],cy+q.2,?_,by simp [hl],fun e h=>?_,by rw [zAl,hc]⟩))
    ·obtain ⟨_,q0,q1⟩:=hq14
     have e1:wrF .i64 (cy+q.2)=cy+q.2:=zG (by omega) (by omega)
     show (((),(wrF .i64 ((k:Int)+1),())),((es++[q],(wrF .i64 (cy+q.2),())),()))=_
     rw [e1,qp (by omega)]
    ·rcases List.mem_append.1 h with h | h
     ·exact he e h
     ·rw [List.mem_singleton.1 h];exact hq14
   ·rintro _ ⟨es,cy,rfl,hl,he,hc⟩
    exact zf (by show zh (N:Int) (uS 1 (jQ ((x.1.length:Nat):Int) 10))=false;rw [eN];exact zF (by omega)) (za (zq ⟨es,cy,rfl,hl,he,hc⟩))
   rintro ⟨k15,⟨⟨⟩,z15,⟨⟩⟩,E15,⟨⟩⟩ ⟨es,cy,e,hl,he,hc⟩
   have e:E15=(es,(cy,())):=e
   subst e
   have hq:=zok he
   refine zj (J:=fun x=>x.2.2.1=(es.map m40,(cy,()))) (zW es.length (fun k s=>∃f:List (Int×Int),s=(((),((k:Int),())),((f,(cy,())),()))∧f.length=es.length∧∀j,f[j]?=if j < k then (es[j]?).map m40 else es[j]?) (by omega) ⟨es,rfl,rfl,fun j=>by simp⟩ ?_ ?_) ?_
   ·rintro k _ hk ⟨f,rfl,hf,hj⟩
    have hx2:f[k]?=some es[k]:=by rw [hj k,if_neg (by omega)];exact List.getElem?_eq_getElem hk
    have he2:=he _ (List.getElem_mem hk)
    have hx3:es[k]?=some es[k]:=List.getElem?_eq_getElem hk
    generalize es[k]=v at hx2 he2 hx3
    have hgl:gl f (Int.toNat (k:Int))=some v:=by rw [Int.toNat_natCast,xQ];exact hx2
    refine zd (zT (by show (k:Int) < (f.length:Int);omega)) ?_
    refine zg (zy (n:=k) hx2 ?_)
    refine zg (qk hgl ?_)
    refine zg (zy (n:=k) hx2 ?_)
    refine zg (qk hgl ?_)
    refine za (qj ⟨f.set k (m40 v),?_,by simp [hf],fun j=>?_⟩)
    ·obtain ⟨_,q0,q1⟩:=he2
     have e1:wrF .i64 (40*v.2)=40*v.2:=zG (by omega) (by omega)
     show (((),(wrF .i64 ((k:Int)+1),())),((f.set (Int.toNat (k:Int)) (v.1,wrF .i64 (40*v.2)),(cy,())),()))=_
     rw [e1,qp (by omega),Int.toNat_natCast];rfl
    ·rw [List.getElem?_set,hj j]
     by_cases h1:k=j
     ·subst h1
      rw [if_pos rfl,if_pos (by omega),if_pos (by omega),hx3];rfl
     ·rw [if_neg h1]
      by_cases h2:j < k
      ·rw [if_pos h2,if_pos (by omega)]
      ·rw [if_neg h2,if_neg (by omega)]
   ·rintro _ ⟨f,rfl,hf,hj⟩
    refine zf (zF (by show ¬((es.length:Nat):Int) < (f.length:Int);omega)) (za (zq ?_))
    show (f,(cy,()))=_
    congr 1
    refine List.ext_getElem? fun j=>?_
    rw [hj j,List.getElem?_map]
    by_cases h:j < es.length
    ·rw [if_pos h]
    ·rw [if_neg h,List.getElem?_eq_none (by omega)];rfl
   rintro ⟨k21,⟨⟨⟩,z21,⟨⟩⟩,E21,⟨⟩⟩ e
   have e:E21=(es.map m40,(cy,())):=e
   subst e
   have e1:wrF .i64 (40*cy)=40*cy:=zG (by omega) (by omega)
   refine za ⟨rfl,?_⟩
   show qH (es.map m40,wrF .i64 (40*cy))
   rw [e1,hc]
   exact zFX he (by omega) (by omega)
  rintro ⟨k22,⟨d2,z22⟩,⟨es2,cy2,⟨⟩⟩,⟨⟩⟩ ⟨h1,h2⟩
  have h1:d2=d:=h1
  subst h1
  have h2:qH (es2,cy2):=h2
  refine zd (xh (by show (gs.length+1)*32≤_;omega) (by show gs.length+1≤_;omega)) (za (qj ⟨gs++[(es2,cy2)],congrArg (fun z=>((d2,((),(z,()))),((t,(U,(gs++[(es2,cy2)],(most,())))),()))) (qp (by omega)),by simp [hg],fun g h=>?_⟩))
  rcases List.mem_append.1 h with h | h
  ·exact hgs g h
  ·rw [List.mem_singleton.1 h];exact h2
 ·rintro _ ⟨gs,rfl,hg,hgs⟩
  refine zf (zF (by show ¬((2*t.2.2.length:Nat):Int) < wrF .i64 (2*((t.2.2.length:Nat):Int));rw [e6];omega)) (za (zq ⟨rfl,hu,hg,hgs,rfl⟩))
 rintro ⟨k,z,⟨t2,u2,gs,m2,⟨⟩⟩,⟨⟩⟩ ⟨h1,h2,h3,h4,h5⟩
 have h1:t2=t:=h1
 have h5:m2=most:=h5
 subst h1 h5
 have h3:gs.length=2*t2.2.2.length:=h3
 exact za ⟨⟨ht,h2,h4,by show ((gs.length:Nat):Int)=2*(t2.2.2.length:Int);omega,hm.1,hm.2⟩,hl1⟩
theorem zFY (a:Int):zi a a=true:=vH rfl
abbrev zGo:=((Bool×(Int×Unit))×Unit)→Option ((Nat×((Bool×(Int×Unit))×Unit)) ⊕ ((Bool×(Int×Unit))×Unit))
theorem zol (b:Int×Int) (l:List (Int×Int)):ja (b::l)=(b.1+(ja l).1,b.2+(ja l).2):=by
 unfold ja;simp
theorem zFZ {a b:List (Int×Int)} (h:a.Sublist b) (hb:∀x∈b,wA x):(ja a).1≤(ja b).1∧(ja a).2≤(ja b).2:=by
 induction h with
 |slnil=>exact ⟨Int.le_refl _,Int.le_refl _⟩
 |cons x _ ih=>
  obtain ⟨⟨h1,_⟩,h2,_⟩:=hb x (by simp)
  have:=ih fun y hy=>hb y (by simp [hy])
  rw [zol]
  exact ⟨by show _≤x.1+_;omega,by show _≤x.2+_;omega⟩
 |cons_cons x _ ih=>
  have:=ih fun y hy=>hb y (by simp [hy])
  rw [zol,zol]
  exact ⟨by show x.1+_≤x.1+_;omega,by show x.2+_≤x.2+_;omega⟩
theorem zAm {l m:List qw} (h:l.Sublist m) (p:Int):(load l p).Sublist (load m p):=by
 unfold load;exact (h.filter _).map _
theorem zrO {l:List qw}:zif l↔l.Pairwise fun a b=>a.1≠b.1:=by
 rw [List.pairwise_iff_getElem]
 constructor
 ·intro h i j hi hj hij
  exact h j i _ _ hij (List.getElem?_eq_getElem hj) (List.getElem?_eq_getElem hi)
 ·intro h i k a b hki ha hb
  obtain ⟨hi,rfl⟩:=List.getElem?_eq_some_iff.1 ha
  obtain ⟨hk,rfl⟩:=List.getElem?_eq_some_iff.1 hb
  exact h k i hk hi hki
theorem zAn {n:Fab} {l m:List qw} (h:m.Sublist l) (hl:okP n l):okP n m:=
 ⟨hl.f,fun s hs=>hl.a s (h.mem hs),by have:=hl.n12;have:=h.length_le;omega,zrO.2 ((zrO.1 hl.d).sublist h),fun s hs=>hl.c s (h.mem hs)⟩
theorem zHd {n:Fab} (h:zig n):Qb n=0:=by
 unfold Qb;rw [zA h.t,zA h.u,zA h.g,zA h.f];rfl
theorem zkv {n:Fab} {l:List qw} (h:okP n l):JW n l=0:=by
 have e:ZG n.1 l=0:=by unfold ZG;rw [zA h.n12,zA h.a,zA h.d];rfl
 unfold JW
 rw [zA (zHd h.f),zA e,zA (show zrK n l from h.c)];rfl
theorem KV {n:Fab} {l:List qw}:jN n l=0↔okP n l∧(∀p < n.2.2.1.length,vi n l p=0)∧∀s∈l,∀r∈s.2.2.2.2.2.2.2.2,Yg n l s r=0:=by
 constructor
 ·intro h
  have ho:=zrM h
  unfold jN at h
  rw [zA (zkv ho),cond_true] at h
  by_cases h1:yB (vi n l) (List.range n.2.2.1.length)=0
  ·rw [zA h1,cond_true] at h
   exact ⟨ho,fun p hp=>ZH.1 h1 p (List.mem_range.2 hp),fun s hs r hr=>ZH.1 (ZH.1 h s hs) r hr⟩
  ·rw [zM h1,cond_false] at h;exact absurd h h1
 ·rintro ⟨ho,h1,h2⟩
  unfold jN
  rw [zA (zkv ho),cond_true,zA (ZH.2 fun p hp=>h1 p (List.mem_range.1 hp)),cond_true]
  exact ZH.2 fun s hs=>ZH.2 fun r hr=>h2 s hs r hr
theorem zEo {n:Fab} {l:List qw} {p:Int} (h:(qG n l p).2=0):∃v,load l p≠[]∧ofS ((n.2.2.1[p.toNat]?).getD ([],0)) (lnk n.1 p).2.2.1 n.2.2.2=(v,0)∧wA (ja (load l p))∧(ja (load l p)).2≤v.1∧qG n l p=(zCS (ja (load l p)) v,0):=by
 unfold qG at h ⊢
 generalize ofS ((n.2.2.1[p.toNat]?).getD ([],0)) (lnk n.1 p).2.2.1 n.2.2.2=o at h ⊢
 obtain ⟨v,e⟩:=o
 by_cases h1:load l p=[]
 ·rw [zA h1,cond_true] at h;cases h
 rw [zM h1,cond_false] at h ⊢
 by_cases h2:e=0
 ·subst h2
  rw [zA rfl,cond_true] at h ⊢
  by_cases h3:wA (ja (load l p))
  ·have e:Qc (load l p)=(ja (load l p),0):=by unfold Qc;rw [zA h3];rfl
   rw [e,zA rfl,cond_true] at h ⊢
   by_cases h4:(ja (load l p)).2≤v.1
   ·rw [zA h4,cond_true] at h ⊢
    exact ⟨v,h1,rfl,h3,h4,rfl⟩
   ·rw [zM h4,cond_false] at h;cases h
  ·have e:Qc (load l p)=((0,0),6):=by unfold Qc;rw [zM h3];rfl
   rw [e,zM (by decide),cond_false] at h;cases h
 ·rw [zM h2,cond_false] at h;cases h
theorem zHK {n:Fab} {l:List qw} {p:Int} {v:Int×Int} (h1:load l p≠[]) (h2:ofS ((n.2.2.1[p.toNat]?).getD ([],0)) (lnk n.1 p).2.2.1 n.2.2.2=(v,0)) (h3:wA (ja (load l p))) (h4:(ja (load l p)).2≤v.1):qG n l p=(zCS (ja (load l p)) v,0):=by
 have e:Qc (load l p)=(ja (load l p),0):=by unfold Qc;rw [zA h3];rfl
 unfold qG
 rw [h2,e,zM h1,cond_false,zA rfl,cond_true,cond_true,zA h4,cond_true]
theorem zBB {n:Fab} {l m:List qw} (ho:okP n l) (hs:m.Sublist l) {p:Int} (hp:wu n.1 p) (h:(qG n l p).2=0) (hm:load m p≠[]) :
  (qG n m p).2=0∧(qG n m p).1.2.2.1≤(qG n l p).1.2.2.1∧(qG n m p).1.2.2.2≤(qG n l p).1.2.2.2:=by
 obtain ⟨v,h1,h2,h3,h4,h5⟩:=zEo h
 obtain ⟨lb1,lb2⟩:=zji ho p
 obtain ⟨mb1,mb2⟩:=zji (zAn hs ho) p
 obtain ⟨s1,s2⟩:=zFZ (zAm hs p) lb2
 obtain ⟨m1,m2,m3,m4⟩:=zjf mb2
 have m0:1≤(load m p).length:=by
  rcases Nat.eq_zero_or_pos (load m p).length with h0 | h0
  ·exact absurd (List.length_eq_zero_iff.1 h0) hm
  ·exact h0
 obtain ⟨⟨b1,b2⟩,b3,b4⟩:=h3
 obtain ⟨g,hx,hge,hg,p0,p1⟩:=zhH ho.f hp
 have hv:zoM v:=by
  obtain ⟨_,_,o3⟩:=zxZ hg p0 p1 ho.f.f.2.1 ho.f.f.2.2
  rw [hge] at h2
  rw [h2] at o3
  rcases o3 with ⟨_,h⟩ | ⟨h,_⟩
  ·exact h
  ·cases h
 obtain ⟨v1,_,v3,_⟩:=hv
 have em:=zHK (n:=n) (l:=m) (p:=p) hm h2 ⟨⟨by omega,by omega⟩,by omega,by omega⟩ (by omega)
 rw [em,h5]
 refine ⟨rfl,?_,?_⟩
 ·show v.2+cl v.1 ((ja (load m p)).1*1048576)≤v.2+cl v.1 ((ja (load l p)).1*1048576)
  have:=zfd (d:=v.1) (by omega) (show (ja (load m p)).1*1048576≤(ja (load l p)).1*1048576 by omega)
  omega
 ·show (ja (load m p)).1+cl 1048576 ((ja (load m p)).2*v.2)≤(ja (load l p)).1+cl 1048576 ((ja (load l p)).2*v.2)
  have:=zfd (d:=1048576) (by omega) (Int.mul_le_mul_of_nonneg_right s2 v3)
  omega
theorem zwz {n:Fab} {l m:List qw}:∀{r:List Int} {s s':Int},(∀p∈r,(qG n l p).2=0→(qG n m p).2=0∧(qG n m p).1.2.2.1≤(qG n l p).1.2.2.1)→(zbQ n l r s).2=0→s'≤s→(zbQ n m r s').2=0∧(zbQ n m r s').1≤(zbQ n l r s).1
 |[],s,s',_,_,h=>⟨rfl,h⟩
 |p::r,s,s',hp,h,hs=>by
  unfold zbQ at h ⊢
  by_cases h1:(qG n l p).2=0
  ·obtain ⟨h2,h3⟩:=hp p (by simp) h1
   rw [zA h1,cond_true] at h ⊢
   rw [zA h2,cond_true]
   exact zwz (fun q hq=>hp q (by simp [hq])) h (by omega)
  ·rw [zM h1,cond_false] at h;exact absurd h h1
theorem zF0 {l:List qw} {s:qw} {r:List Int} {p:Int} (hs:s∈l) (hr:r∈s.2.2.2.2.2.2.2.2) (hp:p∈r):load l p≠[]:=by
 unfold load
 intro h
 have:=List.map_eq_nil_iff.1 h
 have hm:s∈l.filter fun s=>tv (gQ s p):=List.mem_filter.2 ⟨hs,zA ⟨r,hr,hp⟩⟩
 rw [this] at hm;cases hm
theorem zAo (b1 b2 b3:Bool) (x:Bnd):(bif b1 then bif b2 then bif b3 then (x,(0:Int)) else (zB,141) else (zB,6) else (zB,411)).2≠4:=by
 cases b1<;>cases b2<;>cases b3<;>simp
theorem zEp {n:Fab} {l m:List qw} (hs:m.Sublist l) (hl:jN n l=0):jN n m=0:=by
 obtain ⟨ho,h1,h2⟩:=KV.1 hl
 refine KV.2 ⟨zAn hs ho,fun p hp=>?_,fun s hsm r hr=>?_⟩
 ·have hpp:=zoN ho.f hp
  by_cases hm:load m (p:Int)=[]
  ·have e:qG n m (p:Int)=(zB,4):=by unfold qG;rw [zA hm];rfl
   unfold vi
   rw [e,zA rfl];rfl
  have h3:=h1 p hp
  have h4:(qG n l (p:Int)).2=0:=by
   by_cases h0:(qG n l (p:Int)).2=0
   ·exact h0
   ·unfold vi at h3
    by_cases h44:(qG n l (p:Int)).2=4
    ·exfalso
     unfold qG at h44
     by_cases hle:load l (p:Int)=[]
     ·have:=(zAm hs (p:Int)).length_le
      rw [hle] at this
      exact hm (List.length_eq_zero_iff.1 (by simpa using this))
     ·rw [zM hle,cond_false] at h44
      exact absurd h44 (zAo _ _ _ _)
    ·rw [zM h44,cond_false,zM h0,cond_false] at h3;exact h3
  obtain ⟨e1,e2,e3⟩:=zBB ho hs hpp h4 hm
  unfold vi at h3 ⊢
  rw [h4,zM (by decide),cond_false,zA rfl,cond_true] at h3
  rw [e1,zM (by decide),cond_false,zA rfl,cond_true]
  by_cases h5:n.2.1.2.2.2 < (qG n l (p:Int)).1.2.2.2
  ·rw [zA h5] at h3;cases h3
  ·rw [zM (by omega)];rfl
 ·have hsl:=hs.mem hsm
  have h3:=h2 s hsl r hr
  have hrt:=((ho.a s hsl).rt r hr).1
  unfold Yg at h3 ⊢
  by_cases h0:(yb n l r).2=0
  ·rw [zA h0,cond_true] at h3
   obtain ⟨e1,e2⟩:=zwz (n:=n) (l:=l) (m:=m) (r:=r) (s:=0) (s':=0) (fun p hp h=>by
    obtain ⟨a,b,_⟩:=zBB ho hs (hrt.pt p hp) h (zF0 hsm hr hp)
    exact ⟨a,b⟩) h0 (Int.le_refl _)
   have e1:(yb n m r).2=0:=e1
   have e2:(yb n m r).1≤(yb n l r).1:=e2
   rw [zA e1,cond_true]
   by_cases h5:s.2.2.2.2.2.2.2.1 < (yb n l r).1
   ·rw [zA h5] at h3;cases h3
   ·rw [zM (by omega)];rfl
  ·rw [zM h0,cond_false] at h3;exact absurd h3 h0
theorem u8w {n:Int} (h:wfT (.int .u8) n):0≤n∧n≤255:=h
theorem zH6 {n:Int} (h:wfT (.int .u16) n):0≤n∧n≤65535:=h
theorem u8l {l:List Int} (h:wfT (.list (.int .u8)) l):u8 l:=fun x hx=>u8w (h.2 x hx)
theorem zHV {d:zjl} (h:wfT xw d):drP d where
 t:=⟨u8w h.1.1,u8w h.1.2.1,u8l h.1.2.2.1,u8l h.1.2.2.2.1,u8l h.1.2.2.2.2.1,u8l h.1.2.2.2.2.2⟩
 g:=fun x hx=>⟨u8l (h.2.1.2 x hx).1,u8l (h.2.1.2 x hx).2⟩
 u:=⟨u8w h.2.2.1.1,u8w h.2.2.1.2.1,u8w h.2.2.1.2.2⟩
 cap:=u8w h.2.2.2.1
 most:=zH6 h.2.2.2.2.1
 l:=fun x hx=>⟨u8w (h.2.2.2.2.2.1.2 x hx).2.2.1,u8w (h.2.2.2.2.2.1.2 x hx).2.2.2.2.2.1⟩
 ll:=Nat.le_trans (show d.2.2.2.2.2.1.length*10≤reachBytes from h.2.2.2.2.2.1.1.2) (by decide)
theorem zF1:QM ()=some (true,()):=zrz
theorem zEq {n:Fab} (h:zig n):jN n []=0:=
 KV.2 ⟨⟨h,fun s hs=>(by cases hs),by simp,zrO.2 List.Pairwise.nil,fun s hs=>(by cases hs)⟩,fun p hp=>by
  have e:qG n [] (p:Int)=(zB,4):=by unfold qG;rw [zA (show load [] (p:Int)=[] from rfl)];rfl
  unfold vi
  rw [e,zA rfl];rfl,fun s hs=>(by cases hs)⟩
theorem zp0 {n:Fab} {l:List qw} (h:jN n l=0) (s:qw):(Xu n l s=(l++[s],0)∧jN n (l++[s])=0)∨((Xu n l s).1=[]∧(Xu n l s).2≠0):=by
 unfold Xu
 rw [zA h,cond_true]
 by_cases h2:vF n.1 s
 ·rw [zA h2,cond_true]
  by_cases h3:jN n (l++[s])=0
  ·rw [zA h3,cond_true];exact .inl ⟨rfl,h3⟩
  ·rw [zM h3,cond_false];exact .inr ⟨rfl,h3⟩
 ·rw [zM h2,cond_false];exact .inr ⟨rfl,by show (321:Int)≠0;decide⟩
theorem zlx {n:Fab} {l:List qw} (h:jN n l=0) (id:Int):((Ys n l id).2=0∧jN n (Ys n l id).1=0)∨(Ys n l id).2=4:=by
 have ho:=(KV.1 h).1
 have h12:=ho.n12
 obtain ⟨_,_,hi⟩:=zog (l:=l) (by omega) id
 unfold Ys
 rw [zA h,cond_true]
 rcases hi with ⟨h0,_⟩ | ⟨h4,_⟩
 ·rw [zA h0,cond_true]
  refine .inl ⟨rfl,zEp ?_ h⟩
  show (l.take _++l.drop _).Sublist l
  rw [←List.eraseIdx_eq_take_drop_succ]
  exact List.eraseIdx_sublist _ _
 ·rw [zM (by omega),cond_false];exact .inr h4
abbrev zCU:=((((Int×((List Bool)×(List (Int×(Int×(Int×Int))))))×((Int×(Int×(Int×Int)))×((List ((List (Int×Int))×Int))×Int)))×((List (Int×(Int×(Int×(Int×(Int×(Int×((Int×Int)×(Int×(List (List Int)))))))))))×(Bool×(Int×Unit))))×Unit)
theorem zEr {n:Fab} (hf:zig n) (hn:n.2.2.1.length≤1000000000000000000) {l:List qw} (hl:l.length≤6) (dr:List Int)
  {B:zCU→Option ((Nat×zCU) ⊕ zCU)} (hB:B=fun s3:((((Int×((List Bool)×(List (Int×(Int×(Int×Int))))))×((Int×(Int×(Int×Int)))×((List ((List (Int×Int))×Int))×Int)))×((List (Int×(Int×(Int×(Int×(Int×(Int×((Int×Int)×(Int×(List (List Int)))))))))))×(Bool×(Int×Unit))))×Unit)=>
   bif (zh (s3.1.2.2.2.1) ((((l).length:Nat):Int))) then opt (atI (l) (s3.1.2.2.2.1)) fun x4=>
    opt (QJ ((s3.1.1,(s3.1.2.1,(x4,()))))) fun x5=>
    bif (!((zi (x5.2.1) (0)) == (zi ((((x5.1).length:Nat):Int)) ((wrF .i64 (((((s3.1.2.1).length:Nat):Int)+1))))))) then some (.inl (1,((s3.1.1,(s3.1.2.1,(false,(s3.1.2.2.2.1,())))),())))
    else opt (bif (zi (x5.2.1) (0)) then some (0,((x5.1,()),()))
      else some (0,((s3.1.2.1,()),()))) fun x6=>
     opt
       (bif (zh (s3.1.2.2.2.1) ((((dr).length:Nat):Int))) then opt (atI (dr) (s3.1.2.2.2.1)) fun x7=>
       opt (gJ ((s3.1.1,(x6.2.1.1,((wrF .i64 ((Int.tmod x7 7))),()))))) fun x8=>
       opt (bif (zi (x8.2.1) (0)) then some (0,((x8.1,(s3.1.2.2.1,())),()))
        else bif (!(zi (x8.2.1) (4))) then some (1,((x6.2.1.1,(false,())),()))
         else some (0,((x6.2.1.1,(s3.1.2.2.1,())),()))) fun x9=>
       bif (Nat.beq x9.1 0) then some (0,((s3.1.1,(x9.2.1.1,(x9.2.1.2.1,()))),()))
       else some (1,((s3.1.1,(x9.2.1.1,(x9.2.1.2.1,()))),()))
      else some (0,((s3.1.1,(x6.2.1.1,(s3.1.2.2.1,()))),()))) fun x10=>
     bif (Nat.beq x10.1 0) then opt (yG ((x10.2.1.1,(x10.2.1.2.1,())))) fun x11=>
      bif (!(zi (x11.1) (0))) then some (.inl (1,((x10.2.1.1,(x10.2.1.2.1,(false,(s3.1.2.2.2.1,())))),())))
      else some (.inr ((x10.2.1.1,(x10.2.1.2.1,(x10.2.1.2.2.1,((wrF .i64 ((s3.1.2.2.2.1+1))),())))),()))
     else some (.inl (1,((x10.2.1.1,(x10.2.1.2.1,(x10.2.1.2.2.1,(s3.1.2.2.2.1,())))),())))
   else some (.inl (0,((s3.1.1,(s3.1.2.1,(s3.1.2.2.1,(s3.1.2.2.2.1,())))),())))) :
  qt (zz B zL ((n,([],(false,(0,())))),())) fun y=>y.1=0∧y.2.1.1=n∧y.2.1.2.2.1=false∧jN n y.2.1.2.1=0:=by
 subst hB
 refine zW l.length (fun i s=>∃m,s=((n,(m,(false,((i:Int),())))),())∧jN n m=0) (by omega) ⟨[],rfl,zEq hf⟩ ?_ ?_
 ·rintro i _ hi ⟨m,rfl,hm⟩
  have h12:=(KV.1 hm).1.n12
  have hx:l[i]?=some l[i]:=List.getElem?_eq_getElem hi
  generalize l[i]=s at hx
  refine zd (zT (show (i:Int) < (l.length:Int) by omega)) (zg (zy (n:=i) hx ?_))
  rw [ztY hn,zx]
  have ew:wrF .i64 ((m.length:Int)+1)=(m.length:Int)+1:=zG (by omega) (by omega)
  have eb:(zi (Xu n m s).2 0 == zi (((Xu n m s).1.length:Nat):Int) (wrF .i64 ((m.length:Int)+1)))=true:=by
   rw [ew]
   rcases zp0 hm s with ⟨e,_⟩ | ⟨e1,e2⟩
   ·rw [e,vH rfl,vH (by simp)];rfl
   ·rw [e1,qM e2,qM (by simp;omega)];rfl
  refine zf (by show (!(zi (Xu n m s).2 0 == zi (((Xu n m s).1.length:Nat):Int) (wrF .i64 ((m.length:Int)+1))))=false;rw [eb];rfl) ?_
  refine zj (J:=fun y=>jN n y.2.1.1=0) (zk (fun h=>za ?_) (fun _=>za hm)) ?_
  ·have h:(Xu n m s).2=0:=qU h
   rcases zp0 hm s with ⟨e,e2⟩ | ⟨e1,e2⟩
   ·show jN n (Xu n m s).1=0
    rw [e];exact e2
   ·exact absurd h e2
  rintro ⟨k6,⟨m6,⟨⟩⟩,⟨⟩⟩ hm6
  have hm6:jN n m6=0:=hm6
  refine zj (J:=fun y=>y.1=0∧y.2.1.1=n∧y.2.1.2.2.1=false∧jN n y.2.1.2.1=0) ?_ ?_
  ·refine zk (fun h=>?_) (fun _=>za ⟨rfl,rfl,rfl,hm6⟩)
   have h:(i:Int) < (dr.length:Int):=qn h
   refine zg (qP (by show 0≤(i:Int);omega) h fun y hy=>?_)
   rw [zpq hn,zx]
   refine zj (J:=fun y=>y.1=0∧y.2.1.2.1=false∧jN n y.2.1.1=0) ?_ ?_
   ·refine zk (fun h=>za ⟨rfl,rfl,?_⟩) (fun h=>zf ?_ (za ⟨rfl,rfl,hm6⟩))
    ·have h:=qU h
     rcases zlx hm6 (wrF .i64 (Int.tmod y 7)) with ⟨_,e⟩ | e
     ·exact e
     ·exfalso
      have h:(Ys n m6 (wrF .i64 (Int.tmod y 7))).2=0:=h
      omega
    ·have h:(Ys n m6 (wrF .i64 (Int.tmod y 7))).2≠0:=jU h
     rcases zlx hm6 (wrF .i64 (Int.tmod y 7)) with ⟨e,_⟩ | e
     ·exact absurd e h
     ·show (!zi (Ys n m6 (wrF .i64 (Int.tmod y 7))).2 4)=false
      rw [e];rfl
   rintro ⟨k9,⟨m9,v9,⟨⟩⟩,⟨⟩⟩ ⟨h1,h2,h3⟩
   simp only at h1 h2 h3
   subst h1 h2
   exact zd rfl (za ⟨rfl,rfl,rfl,h3⟩)
  rintro ⟨k10,⟨n10,m10,v10,⟨⟩⟩,⟨⟩⟩ ⟨h1,h2,h3,h4⟩
  simp only at h1 h2 h3 h4
  subst h1 h2 h3
  refine zd rfl ?_
  rw [Kh hn,zx]
  refine zf (by show (!zi (jN n10 m10) 0)=false;rw [h4];rfl) (za (qj ⟨m10,congrArg (fun z=>((n10,(m10,(false,(z,())))),())) (qp (by omega)),h4⟩))
 ·rintro _ ⟨m,rfl,hm⟩
  exact zf (zF (show ¬(l.length:Int) < (l.length:Int) by omega)) (za (zq ⟨rfl,rfl,rfl,hm⟩))
theorem zEs {m:List qw} {i:Nat} {s:qw} (h:m[i]?=some s) (p:Int):load (m.take (i+1)) p=load (m.take i) p++(if tv (gQ s p)=true then [s.2.2.2.2.2.2.1] else []):=by
 unfold load
 rw [List.take_add_one,h,List.filter_append,List.map_append]
 congr 1
 simp only [Option.toList,List.filter_cons,List.filter_nil]
 split<;>rfl
theorem zEt (l:List (Int×Int)) (b:Int×Int):ja (l++[b])=((ja l).1+b.1,(ja l).2+b.2):=by
 unfold ja;simp
theorem zEu {n:Fab} {m:List qw} (ho:okP n m) (p:Int)
  {B:((Int×(Bool×(Int×Unit)))×Unit)→Option ((Nat×((Int×(Bool×(Int×Unit)))×Unit)) ⊕ ((Int×(Bool×(Int×Unit)))×Unit))} (hB:B=fun s14:((Int×(Bool×(Int×Unit)))×Unit)=>
      bif
        (zh (s14.1.2.2.1) ((((m).length:Nat):Int))) then opt (opt (atI (m) (s14.1.2.2.1)) fun x15=>
        opt (xB ((x15,(p,())))) fun x16=>
        bif x16.1 then opt (atI (m) (s14.1.2.2.1)) fun x17=>
         some (0,(((wrF .i64 ((s14.1.1+x17.2.2.2.2.2.2.1.2))),(true,())),()))
        else some (0,((s14.1.1,(s14.1.2.1,())),()))) fun x18=>
       some (.inr ((x18.2.1.1,(x18.2.1.2.1,((wrF .i64 ((s14.1.2.2.1+1))),()))),()))
      else some (.inl (0,((s14.1.1,(s14.1.2.1,(s14.1.2.2.1,()))),())))) :
  qt (zz B zL ((0,(false,(0,()))),())) fun y=>y.2.1.1=(ja (load m p)).2∧y.2.1.2.1=tv (load m p≠[]):=by
 have h12:=ho.n12
 subst hB
 refine zW m.length (fun i s=>s=(((ja (load (m.take i) p)).2,(tv (load (m.take i) p≠[]),((i:Int),()))),())) (by omega) ?_ ?_ ?_
 ·rw [List.take_zero,zM (show ¬load [] p≠[] from fun h=>h rfl)];rfl
 ·rintro i _ hi rfl
  have hx:m[i]?=some m[i]:=List.getElem?_eq_getElem hi
  have hs:=ho.a _ (List.getElem_mem hi)
  generalize m[i]=s at hx hs
  have e:=zEs hx p
  obtain ⟨lb1,lb2⟩:=zji (zAn (List.take_sublist i m) ho) p
  have hb:=zjf lb2
  refine zd (zT (show (i:Int) < (m.length:Int) by omega)) (zj (J:=fun y=>y.2.1.1=(ja (load (m.take (i+1)) p)).2∧y.2.1.2.1=tv (load (m.take (i+1)) p≠[])) ?_ ?_)
  ·refine zg (zy (n:=i) hx ?_)
   rw [zgT hs,zx,e]
   refine zk (fun h=>?_) (fun h=>?_)
   ·have h:tv (gQ s p)=true:=h
    refine zg (zy (n:=i) hx (za ⟨?_,?_⟩))
    ·have hr:1≤s.2.2.2.2.2.2.1.2∧s.2.2.2.2.2.2.1.2≤2097152:=by
      have hc:=(ho.c s (List.mem_of_getElem? hx)).1
      rcases hs.cl with ⟨h7,_⟩ | ⟨_,_,_,h4⟩
      ·omega
      ·exact h4
     show wrF .i64 ((ja (load (m.take i) p)).2+s.2.2.2.2.2.2.1.2)=_
     rw [if_pos h,zEt,zG (by omega) (by omega)]
    ·rw [if_pos h]
     exact (zA (show load (m.take i) p++[s.2.2.2.2.2.2.1]≠[] by simp)).symm
   ·have h:tv (gQ s p)=false:=h
    refine za ?_
    rw [h,if_neg (by simp),List.append_nil]
    exact ⟨rfl,rfl⟩
  ·rintro ⟨k,⟨a,b,⟨⟩⟩,⟨⟩⟩ ⟨h1,h2⟩
   simp only at h1 h2
   subst h1 h2
   exact za (qj (congrArg (fun z=>((_,(_,(z,()))),())) (qp (by omega))))
 ·rintro _ rfl
  refine zf (zF (show ¬(m.length:Int) < (m.length:Int) by omega)) (za (zq ?_))
  show (ja (load (m.take m.length) p)).2=_∧tv (load (m.take m.length) p≠[])=_
  rw [List.take_length]
  exact ⟨rfl,rfl⟩
theorem zAX {n:Fab} (hn:n.2.2.1.length≤1000000000000000000) (hll:n.1.2.2.length≤1000000000000000) {m:List qw} (hm:jN n m=0)
  {B:zGo} (hB:B=fun s13:((Bool×(Int×Unit))×Unit)=>
    bif
      (zh (s13.1.2.1) ((((n.2.2.1).length:Nat):Int))) then opt (zz (fun s14:((Int×(Bool×(Int×Unit)))×Unit)=>
      bif
        (zh (s14.1.2.2.1) ((((m).length:Nat):Int))) then opt (opt (atI (m) (s14.1.2.2.1)) fun x15=>
        opt (xB ((x15,(s13.1.2.1,())))) fun x16=>
        bif x16.1 then opt (atI (m) (s14.1.2.2.1)) fun x17=>
         some (0,(((wrF .i64 ((s14.1.1+x17.2.2.2.2.2.2.1.2))),(true,())),()))
        else some (0,((s14.1.1,(s14.1.2.1,())),()))) fun x18=>
       some (.inr ((x18.2.1.1,(x18.2.1.2.1,((wrF .i64 ((s14.1.2.2.1+1))),()))),()))
      else some (.inl (0,((s14.1.1,(s14.1.2.1,(s14.1.2.2.1,()))),())))) zL ((0,(false,(0,()))),())) fun x19=>
     opt (Yp ((n,(m,(s13.1.2.1,()))))) fun x20=>
     opt (bif (!(x19.2.1.2.1 == (zi (x20.2.1) (0)))) then some (1,((false,()),()))
      else bif x19.2.1.2.1 then bif (!(zi (x19.2.1.1) (x20.1.1.2))) then some (1,((false,()),()))
        else bif (zh (x20.1.2.1.1) (x19.2.1.1)) then some (1,((false,()),()))
         else bif (zh (n.2.1.2.2.2) (x20.1.2.2.2)) then some (1,((false,()),()))
          else some (0,((s13.1.1,()),()))
       else some (0,((s13.1.1,()),()))) fun x21=>
     bif (Nat.beq x21.1 0) then some (.inr ((x21.2.1.1,((wrF .i64 ((s13.1.2.1+1))),())),()))
     else some (.inl (1,((x21.2.1.1,(s13.1.2.1,())),())))
    else some (.inl (0,((s13.1.1,(s13.1.2.1,())),())))) :
  qt (zz B zL ((false,(0,())),())) fun y=>y.1=0∧y.2.1.1=false:=by
 obtain ⟨ho,h1,_⟩:=KV.1 hm
 subst hB
 refine zW n.2.2.1.length (fun i s=>s=((false,((i:Int),())),())) (by omega) rfl ?_ ?_
 ·rintro i _ hi rfl
  have hpp:=zoN ho.f hi
  have hE:=h1 i hi
  refine zd (zT (show (i:Int) < (n.2.2.1.length:Int) by omega)) (zj (zEu ho (i:Int) rfl) ?_)
  rintro ⟨k,⟨a,b,z,⟨⟩⟩,⟨⟩⟩ ⟨e1,e2⟩
  simp only at e1 e2
  subst e1 e2
  rw [zxI hn hll,zx]
  have eh:zAf n m (i:Int)=qG n m (i:Int):=by unfold zAf;rw [zA (zkv ho),cond_true,zA hpp,cond_true]
  rw [eh]
  refine zj (J:=fun y=>y.1=0∧y.2.1.1=false) ?_ ?_
  ·by_cases hl:load m (i:Int)=[]
   ·have e:qG n m (i:Int)=(zB,4):=by unfold qG;rw [zA hl];rfl
    rw [e,zM (show ¬load m (i:Int)≠[] from fun h=>h hl)]
    exact za ⟨rfl,rfl⟩
   ·have h0:(qG n m (i:Int)).2=0:=by
     by_cases h0:(qG n m (i:Int)).2=0
     ·exact h0
     ·unfold vi at hE
      by_cases h44:(qG n m (i:Int)).2=4
      ·exfalso
       unfold qG at h44
       rw [zM hl,cond_false] at h44
       exact absurd h44 (zAo _ _ _ _)
      ·rw [zM h44,cond_false,zM h0,cond_false] at hE;exact hE
    obtain ⟨v,g1,g2,g3,g4,g5⟩:=zEo h0
    unfold vi at hE
    rw [h0,zM (by decide),cond_false,zA rfl,cond_true] at hE
    have hb:¬n.2.1.2.2.2 < (qG n m (i:Int)).1.2.2.2:=fun h=>by rw [zA h] at hE;cases hE
    rw [zA hl,h0]
    refine zf rfl (zd rfl ?_)
    refine zf (by show (!zi (ja (load m (i:Int))).2 (qG n m (i:Int)).1.1.2)=false;rw [g5];show (!zi (ja (load m (i:Int))).2 (ja (load m (i:Int))).2)=false;rw [zFY];rfl) ?_
    refine zf (by show zh (qG n m (i:Int)).1.2.1.1 (ja (load m (i:Int))).2=false;rw [g5];exact zF (by show ¬v.1 < _;omega)) ?_
    exact zf (zF hb) (za ⟨rfl,rfl⟩)
  rintro ⟨k,⟨v',⟨⟩⟩,⟨⟩⟩ ⟨h1,h2⟩
  simp only at h1 h2
  subst h1 h2
  exact zd rfl (za (qj (congrArg (fun z=>((false,(z,())),())) (qp (by omega)))))
 ·rintro _ rfl
  exact zf (zF (show ¬(n.2.2.1.length:Int) < (n.2.2.1.length:Int) by omega)) (za (zq ⟨rfl,rfl⟩))
theorem zHe {n:Fab} {m:List qw} (ho:okP n m) {i k:Nat} {s:qw} {r:List Int} (hx:m[i]?=some s) (hr:s.2.2.2.2.2.2.2.2[k]?=some r):zhJ n m s.1 (k:Int)=yb n m r:=by
 have h12:=ho.n12
 have hsm:=List.mem_of_getElem? hx
 have hk:k < s.2.2.2.2.2.2.2.2.length:=(List.getElem?_eq_some_iff.1 hr).1
 obtain ⟨_,_,hi⟩:=zog (l:=m) (by omega) s.1
 unfold zhJ
 rw [zA (zkv ho),cond_true]
 rcases hi with ⟨h0,j,s',hj,hjs,hid,hmin⟩ | ⟨_,_,h⟩
 ·have:j=i:=by
   rcases Nat.lt_trichotomy j i with h | h | h
   ·exact absurd hid (ho.d i j s s' h hx hjs)
   ·exact h
   ·exact absurd rfl (hmin i s h hx)
  subst this
  rw [zA h0,cond_true,hj]
  have e:zhI m (j:Int)=s.2.2.2.2.2.2.2.2:=by unfold zhI;rw [Int.toNat_natCast,hx]
  rw [e,zA ⟨by omega,by omega⟩,cond_true,Int.toNat_natCast,hr];rfl
 ·exact absurd rfl (h s hsm)
theorem zCV {n:Fab} (hn:n.2.2.1.length≤1000000000000000000) {m:List qw} (hm:jN n m=0)
  {B:zGo} (hB:B=fun s23:((Bool×(Int×Unit))×Unit)=>
     bif
       (zh (s23.1.2.1) ((((m).length:Nat):Int))) then opt (zz (fun s24:((Bool×(Int×Unit))×Unit)=>
       opt (atI (m) (s23.1.2.1)) fun x25=>
       bif (zh (s24.1.2.1) ((((x25.2.2.2.2.2.2.2.2).length:Nat):Int))) then opt (atI (m) (s23.1.2.1)) fun x26=>
        opt (JG ((n,(m,(x26.1,(s24.1.2.1,())))))) fun x27=>
        opt (bif (!(zi (x27.2.1) (0))) then some (1,((false,()),()))
         else opt (atI (m) (s23.1.2.1)) fun x28=>
          bif (zh (x28.2.2.2.2.2.2.2.1) (x27.1)) then some (1,((false,()),()))
          else some (0,((s24.1.1,()),()))) fun x29=>
        bif (Nat.beq x29.1 0) then some (.inr ((x29.2.1.1,((wrF .i64 ((s24.1.2.1+1))),())),()))
        else some (.inl (1,((x29.2.1.1,(s24.1.2.1,())),())))
       else some (.inl (0,((s24.1.1,(s24.1.2.1,())),())))) zL ((s23.1.1,(0,())),())) fun x30=>
      bif (Nat.beq x30.1 0) then some (.inr ((x30.2.1.1,((wrF .i64 ((s23.1.2.1+1))),())),()))
      else some (.inl (1,((x30.2.1.1,(s23.1.2.1,())),())))
     else some (.inl (0,((s23.1.1,(s23.1.2.1,())),())))) :
  qt (zz B zL ((false,(0,())),())) fun y=>y.1=0:=by
 obtain ⟨ho,_,h2⟩:=KV.1 hm
 have h12:=ho.n12
 subst hB
 refine zW m.length (fun i s=>s=((false,((i:Int),())),())) (by omega) rfl ?_ ?_
 ·rintro i _ hi rfl
  have hx:m[i]?=some m[i]:=List.getElem?_eq_getElem hi
  have hsm:=List.getElem_mem hi
  generalize m[i]=s at hx hsm
  have hrn:=(ho.a s hsm).rn
  refine zd (zT (show (i:Int) < (m.length:Int) by omega)) (zj (J:=fun y=>y.1=0∧y.2.1.1=false) (zW s.2.2.2.2.2.2.2.2.length (fun k s=>s=((false,((k:Int),())),())) (by omega) rfl ?_ ?_) ?_)
  ·rintro k _ hk rfl
   have hy:s.2.2.2.2.2.2.2.2[k]?=some s.2.2.2.2.2.2.2.2[k]:=List.getElem?_eq_getElem hk
   have hrm:=List.getElem_mem hk
   generalize s.2.2.2.2.2.2.2.2[k]=r at hy hrm
   have hE:=h2 s hsm r hrm
   have et:=zHe ho hx hy
   refine zg (zy (n:=i) hx (zd (zT (show (k:Int) < (s.2.2.2.2.2.2.2.2.length:Int) by omega)) (zg (zy (n:=i) hx ?_))))
   rw [zvI hn (by omega),zx,et]
   unfold Yg at hE
   have h0:(yb n m r).2=0:=by
    by_cases h:(yb n m r).2=0
    ·exact h
    ·rw [zM h,cond_false] at hE;exact hE
   rw [zA h0,cond_true] at hE
   have hb:¬s.2.2.2.2.2.2.2.1 < (yb n m r).1:=fun h=>by rw [zA h] at hE;cases hE
   refine zj (J:=fun y=>y.1=0∧y.2.1.1=false) (zf (by show (!zi (yb n m r).2 0)=false;rw [h0];rfl) (zg (zy (n:=i) hx (zf (zF hb) (za ⟨rfl,rfl⟩))))) ?_
   rintro ⟨k2,⟨v',⟨⟩⟩,⟨⟩⟩ ⟨h1,h2⟩
   simp only at h1 h2
   subst h1 h2
   exact zd rfl (za (qj (congrArg (fun z=>((false,(z,())),())) (qp (by omega)))))
  ·rintro _ rfl
   exact zg (zy (n:=i) hx (zf (zF (show ¬(s.2.2.2.2.2.2.2.2.length:Int) < (s.2.2.2.2.2.2.2.2.length:Int) by omega)) (za (zq ⟨rfl,rfl⟩))))
  ·rintro ⟨k2,⟨v',z,⟨⟩⟩,⟨⟩⟩ ⟨h1,h2⟩
   simp only at h1 h2
   subst h1 h2
   exact zd rfl (za (qj (congrArg (fun z=>((false,(z,())),())) (qp (by omega)))))
 ·rintro _ rfl
  exact zf (zF (show ¬(m.length:Int) < (m.length:Int) by omega)) (za (zq rfl))
theorem zEv (hw:QM ()=some (true,())) {d:zjl} (hd:drP d) (dr:List Int):Ye (d,dr,())=some (true,()):=by
 obtain ⟨n,en,hn,hn1⟩:=zHJ hd
 obtain ⟨l,el,hl⟩:=zAk hd
 have hg:n.2.2.1.length=2*n.1.2.2.length:=by have:=hn.f.1;omega
 have h24:=hn.t.sz.ls
 rw [zi8];unfold KQ
 rw [hw,zx]
 refine ym (zf rfl ?_)
 rw [en,zx,el,zx]
 refine zj (zEr hn (show n.2.2.1.length≤_ by omega) hl dr rfl) ?_
 rintro ⟨k,⟨n2,m,v,z,⟨⟩⟩,⟨⟩⟩ ⟨h1,h2,h3,h4⟩
 simp only at h1 h2 h3 h4
 subst h1 h2 h3
 refine zd rfl (zj (zAX (show n2.2.2.1.length≤_ by omega) (show n2.1.2.2.length≤_ by omega) h4 rfl) ?_)
 rintro ⟨k,⟨v',z,⟨⟩⟩,⟨⟩⟩ ⟨h1,h2⟩
 simp only at h1 h2
 subst h1 h2
 refine zd rfl (zj (zCV (show n2.2.2.1.length≤_ by omega) h4 rfl) ?_)
 rintro ⟨k,⟨v',z,⟨⟩⟩,⟨⟩⟩ h1
 have h1:k=0:=h1
 subst h1
 exact zd rfl (za rfl)
abbrev A7:=Yd
abbrev K7_ok:=zi7
theorem good7 (x:T (zp A7)) (h:wfT (zp A7) x):Ye x=some (true,()):=by
 obtain ⟨d,dr,⟨⟩⟩:=x
 exact zEv zF1 (zHV h.1) dr
end Go.Proofs.YtplhphmbkmpocaaGreat.ad
end
