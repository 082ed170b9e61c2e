/- Parts of a proof, joined. -/
import Derived.Test.YtleloebnggepoaaGreatS15
set_option linter.unusedSectionVars false
set_option linter.unusedVariables false
set_option linter.unusedSimpArgs false
set_option maxHeartbeats 0
set_option maxRecDepth 100000
noncomputable section
namespace Go.Proofs.YtleloebnggepoaaGreat.sg
open Go Go.Fz Go.Fz.Sy
abbrev yA:List VT:=[⟨true,qM⟩]
abbrev yB:List VT:=[]
def UH:qa:=zT [cdF ze,cdF qM,cdF qL,cdF zE,cdF zY,cdF we,cdF qx,cdF qo,cdF zu] [] [] [] [108,110,34]
def WO (wm:za→(Int×Unit)→Option (za×(Int×qw×Bool×Unit))) (jr:za→(qw×Unit)→Option (za×(Unit))) (zao:zeN) (uO:za→(zz×Unit)→Option (za×((List Int)×Unit))) (vl:XW) (wH:Jb) (jM:za→(qw×Unit)→Option (za×(Unit))) (s:za) (a0:zJ):Option (za×(Unit)):=
 opt (wm s (a0.2.1,())) fun x0=>
 bif !(zt x0.2.2.1.2.1 a0.2.2.1) then opt (bif zj a0.2.2.1 x0.2.2.1.2.1 then opt (jr x0.1 (x0.2.2.1,())) fun x1=>
    some (0,((x1.1,()),()))
   else some (0,((x0.1,()),()))) fun x2=>
  some (x2.2.1.1,())
 else opt (bif a0.2.2.2.2.1 then opt (zao (x0.1.1,(x0.1.2.1,(a0.2.2.2.2.2.1,())))) fun x3=>
    opt (bif !(zj x3.2.1 0) then some (0,((x0.1,(a0,((a0.2.1,(a0.2.2.1,(3,(x3.2.1,[])))),()))),()))
     else opt (uO (x0.1.1,(x3.1,x0.1.2.2)) (a0.2.2.2.2.2.1,())) fun x4=>
      some (0,((x4.1,(a0,((a0.2.1,(a0.2.2.1,(1,(0,x4.2.1)))),()))),()))) fun x5=>
    some (0,((x5.2.1.2.1,(x5.2.1.1,(x5.2.1.2.2.1,()))),()))
   else opt (vl (x0.1.2.1,(a0.2.1,()))) fun x6=>
    opt (bif !(zj x6.2.1 0) then some (0,((x0.1,((a0.2.1,(a0.2.2.1,(5,(0,[])))),())),()))
     else opt (atI x0.1.2.1 x6.1) fun x7=>
      opt (uO x0.1 (x7,())) fun x8=>
      some (0,((x8.1,((a0.2.1,(a0.2.2.1,(4,(0,x8.2.1)))),())),()))) fun x9=>
    some (0,((a0,(x9.2.1.1,(x9.2.1.2.1,()))),()))) fun x10=>
  opt (wH (x10.2.1.2.1.2.2.2.1,(x0.2.1,(x0.2.2.2.1,(x10.2.1.2.2.1,()))))) fun x11=>
  opt (jr (x10.2.1.2.1.1,(x10.2.1.2.1.2.1,(x10.2.1.2.1.2.2.1,(x11.1,x10.2.1.2.1.2.2.2.2)))) (x10.2.1.2.2.1,())) fun x12=>
  opt (jM x12.1 (x10.2.1.2.2.1,())) fun x13=>
  some (x13.1,())
theorem zht (wm:za→(Int×Unit)→Option (za×(Int×qw×Bool×Unit))) (jr:za→(qw×Unit)→Option (za×(Unit))) (zao:(jI×(List zz)×zz×Unit)→Option ((List zz)×Int×Unit)) (uO:za→(zz×Unit)→Option (za×((List Int)×Unit))) (vl:((List zz)×Int×Unit)→Option (Int×Int×Unit)) (wH:((List qw)×Int×Bool×qw×Unit)→Option ((List qw)×Unit)) (jM:za→(qw×Unit)→Option (za×(Unit))) (s:za) (a0:zJ):sP Tryz.prog ⟨[],[(107,⟨ze,jj,jk,wm⟩),(108,⟨ze,jl,jm,jr⟩),(109,⟨ze,xl,xm,uO⟩),(34,⟨ze,qW,qX,jM⟩)]⟩ [(11,⟨kF,kG,zao⟩),(110,⟨uK,uL,vl⟩),(111,⟨wD,wF,wH⟩)] UH (zL []) 30 80 ze yA yB s (a0,())=WO wm jr zao uO vl wH jM s a0:=by kernel_rfl
def vB:za→(zJ×Unit)→Option (za×(Unit)):=sP Tryz.prog ⟨[],[(107,⟨ze,jj,jk,jK⟩),(108,⟨ze,jl,jm,jn⟩),(109,⟨ze,xl,xm,yz⟩),(34,⟨ze,qW,qX,ju⟩)]⟩ [(11,⟨kF,kG,Yh⟩),(110,⟨uK,uL,xy⟩),(111,⟨wD,wF,jT⟩)] UH (zL []) 30 80 ze yA yB
theorem zeQ:yJ.Ok Tryz.prog 80 ⟨ze,yA,yB,vB⟩:=xk ⟨qy,(zV Vs (zV Vt (zV Kj (zV YV js))))⟩ (zf zqx (zf zfh (zf UG zi))) zm (by kernel_rfl)
theorem zeR (s:za) (a0:zJ):vB s (a0,())=WO jK jn Yh yz xy jT ju s a0:=zht jK jn Yh yz xy jT ju s a0
abbrev Wk:List VT:=[⟨false,(.list I)⟩]
abbrev Wl:List VT:=[⟨false,I⟩]
def zvF:qa:=zT [] [] [] [] []
def zgS (a0:(List Int)):Option (Int×Unit):=
 opt (qh (fun s0:((Int×(Int×Unit))×Unit)=>
  bif (zt s0.1.2.1 ((a0.length:Nat):Int)) then opt (atI a0 s0.1.2.1) fun x1=>
   bif !(zj x1 0) then some (.inl (1,((x1,(s0.1.2.1,())),())))
   else some (.inr ((s0.1.1,((wrF .i64 (s0.1.2.1+1)),())),()))
  else some (.inl (0,((s0.1.1,(s0.1.2.1,())),())))) qD ((0,(0,())),())) fun x2=>
 bif Nat.beq x2.1 0 then some (0,())
 else some (x2.2.1.1,())
abbrev zgT:Type:=((List Int)×Unit)→Option (Int×Unit)
def znw:zgT:=sF Tryz.prog [] zvF (zL []) 30 144 Wk Wl
theorem zxW (a0):znw (a0,())=zgS a0:=by kernel_rfl
def QK:zgT:=znw
theorem zse:Con.Ok Tryz.prog 144 ⟨Wk,Wl,QK⟩:=zy zi zm (by kernel_rfl)
theorem zsf (a0):QK (a0,())=zgS  a0:=zxW  a0
abbrev ye:List VT:=[⟨false,I⟩,⟨false,I⟩]
abbrev yf:List VT:=[⟨false,I⟩,⟨true,xE⟩,⟨false,.bool⟩]
def Uc:qa:=zT [cdF ze,cdF xE] [] [] [] [37,144]
def Wm (jB:Jx) (zcr:zgT) (s:za) (a0:Int) (a1:Int):Option (za×(Int×xF×Bool×Unit)):=
 opt (qh (fun s0:((Int×(Int×(Int×(Bool×(Int×Unit)))))×Unit)=>
  bif (zt s0.1.2.2.2.2.1 ((s.2.2.2.2.1.length:Nat):Int)) then opt (atI s.2.2.2.2.1 s0.1.2.2.2.2.1) fun x1=>
   opt (jB (x1.1,(s0.1.1,()))) fun x2=>
   opt (jB (x1.2.1,(s0.1.2.1,()))) fun x3=>
   opt (zcr ((x2.1::(x3.1::[])),())) fun x4=>
   bif !(zt x4.1 0) then some (.inl (1,((s0.1.1,(s0.1.2.1,(s0.1.2.2.2.2.1,((zj x4.1 0),(s0.1.2.2.2.2.1,()))))),())))
   else some (.inr ((s0.1.1,(s0.1.2.1,(s0.1.2.2.1,(s0.1.2.2.2.1,((wrF .i64 (s0.1.2.2.2.2.1+1)),()))))),()))
  else some (.inl (0,((s0.1.1,(s0.1.2.1,(s0.1.2.2.1,(s0.1.2.2.2.1,(s0.1.2.2.2.2.1,()))))),())))) qD ((a0,(a1,(0,(false,(0,()))))),())) fun x5=>
 bif Nat.beq x5.1 0 then some (s,(((s.2.2.2.2.1.length:Nat):Int),((x5.2.1.1,(x5.2.1.2.1,(0,false))),(false,()))))
 else bif !x5.2.1.2.2.2.1 then some (s,(x5.2.1.2.2.1,((x5.2.1.1,(x5.2.1.2.1,(0,false))),(false,()))))
  else opt (atI s.2.2.2.2.1 x5.2.1.2.2.1) fun x6=>
   some (s,(x5.2.1.2.2.1,(x6,(true,()))))
theorem zgU (jB:(Int×Int×Unit)→Option (Int×Unit)) (zcr:((List Int)×Unit)→Option (Int×Unit)) (s:za) (a0:Int) (a1:Int):sP Tryz.prog ⟨[],[]⟩ [(37,⟨wu,wv,jB⟩),(144,⟨Wk,Wl,zcr⟩)] Uc (zL []) 30 112 ze ye yf s (a0,a1,())=Wm jB zcr s a0 a1:=by kernel_rfl
def yU:za→(Int×Int×Unit)→Option (za×(Int×xF×Bool×Unit)):=sP Tryz.prog ⟨[],[]⟩ [(37,⟨wu,wv,jh⟩),(144,⟨Wk,Wl,QK⟩)] Uc (zL []) 30 112 ze ye yf
theorem zeh:yJ.Ok Tryz.prog 112 ⟨ze,ye,yf,yU⟩:=xk ⟨qy,js⟩ (zf VO (zf zse zi)) zm (by kernel_rfl)
theorem zei (s:za) (a0:Int) (a1:Int):yU s (a0,a1,())=Wm jh QK s a0 a1:=zgU jh QK s a0 a1
abbrev vf:List VT:=[⟨false,(.list xE)⟩,⟨false,I⟩,⟨false,.bool⟩,⟨true,xE⟩]
abbrev vg:List VT:=[⟨false,(.list xE)⟩]
def ziD:qa:=zT [cdF xE] [] [⟨2,27,some 8,xE,true⟩] [] []
def XY (a0:(List xF)) (a1:Int) (a2:Bool) (a3:xF):Option ((List xF)×Unit):=
 opt (ue a0 (some a1) none none) fun x0=>
 opt (bif a2 then opt (ue a0 (some (wrF .i64 (a1+1))) none none) fun x1=>
   some (0,((x1,()),()))
  else some (0,((x0,()),()))) fun x2=>
 opt (ue a0 none (some a1) (some a1)) fun x3=>
 bif (xj x3.length ((a3::[]).length) 32) then bif (xj ((x3++(a3::[])).length) x2.2.1.1.length 32) then some (((x3++(a3::[]))++x2.2.1.1),())
  else none
 else none
abbrev XZ:Type:=((List xF)×Int×Bool×xF×Unit)→Option ((List xF)×Unit)
def zbc:XZ:=sF Tryz.prog [] ziD (zL []) 30 113 vf vg
theorem zjw (a0) (a1) (a2) (a3):zbc (a0,a1,a2,a3,())=XY a0 a1 a2 a3:=by kernel_rfl
def vh:XZ:=zbc
theorem zgV:Con.Ok Tryz.prog 113 ⟨vf,vg,vh⟩:=zy zi zm (by kernel_rfl)
theorem zgW (a0) (a1) (a2) (a3):vh (a0,a1,a2,a3,())=XY  a0 a1 a2 a3:=zjw  a0 a1 a2 a3
abbrev jy:List VT:=[⟨true,qM⟩]
abbrev jz:List VT:=[]
def Wn:qa:=zT [cdF ze,cdF qM,cdF zE,cdF xE,cdF zu] [] [] [] [112,52]
def gx (gS:za→(Int×Int×Unit)→Option (za×(Int×xF×Bool×Unit))) (Ji:XZ) (zK:za→(zJ×Unit)→Option (za×(Unit))) (s:za) (a0:zJ):Option (za×(Unit)):=
 opt (gS s (a0.2.2.2.1,(a0.2.1,()))) fun x0=>
 bif zt a0.2.2.1 x0.2.2.1.2.2.1 then some (x0.1,())
 else opt (Ji (x0.1.2.2.2.2.1,(x0.2.1,(x0.2.2.2.1,((x0.2.2.1.1,(x0.2.2.1.2.1,(a0.2.2.1,(zj a0.1 2)))),()))))) fun x1=>
  opt (zK (x0.1.1,(x0.1.2.1,(x0.1.2.2.1,(x0.1.2.2.2.1,(x1.1,x0.1.2.2.2.2.2))))) ((4,(a0.2.1,(a0.2.2.1,(a0.2.2.2.1,(false,((0,(0,(0,(0,(0,(0,((0,0),(0,[])))))))),0)))))),())) fun x2=>
  some (x2.1,())
theorem zbo (gS:za→(Int×Int×Unit)→Option (za×(Int×xF×Bool×Unit))) (Ji:((List xF)×Int×Bool×xF×Unit)→Option ((List xF)×Unit)) (zK:za→(zJ×Unit)→Option (za×(Unit))) (s:za) (a0:zJ):sP Tryz.prog ⟨[],[(112,⟨ze,ye,yf,gS⟩),(52,⟨ze,qe,qf,zK⟩)]⟩ [(113,⟨vf,vg,Ji⟩)] Wn (zL []) 30 81 ze jy jz s (a0,())=gx gS Ji zK s a0:=by kernel_rfl
def jX:za→(zJ×Unit)→Option (za×(Unit)):=sP Tryz.prog ⟨[],[(112,⟨ze,ye,yf,yU⟩),(52,⟨ze,qe,qf,qk⟩)]⟩ [(113,⟨vf,vg,vh⟩)] Wn (zL []) 30 81 ze jy jz
theorem GD:yJ.Ok Tryz.prog 81 ⟨ze,jy,jz,jX⟩:=xk ⟨qy,(zV zeh (zV vW js))⟩ (zf zgV zi) zm (by kernel_rfl)
theorem GF (s:za) (a0:zJ):jX s (a0,())=gx yU vh qk s a0:=zbo yU vh qk s a0
abbrev vF:List VT:=[⟨false,(.list I)⟩,⟨false,I⟩]
abbrev vG:List VT:=[⟨false,(.list I)⟩]
def zjx:qa:=zT [] [] [] [] []
def VV (a0:(List Int)) (a1:Int):Option ((List Int)×Unit):=
 opt (ue a0 none (some a1) (some a1)) fun x0=>
 opt (ue a0 (some (wrF .i64 (a1+1))) none none) fun x1=>
 bif xj x0.length x1.length 8 then some ((x0++x1),())
 else none
abbrev VW:Type:=((List Int)×Int×Unit)→Option ((List Int)×Unit)
def zb3:VW:=sF Tryz.prog [] zjx (zL []) 30 115 vF vG
theorem zkQ (a0) (a1):zb3 (a0,a1,())=VV a0 a1:=by kernel_rfl
def vH:VW:=zb3
theorem zhu:Con.Ok Tryz.prog 115 ⟨vF,vG,vH⟩:=zy zi zm (by kernel_rfl)
theorem zhv (a0) (a1):vH (a0,a1,())=VV  a0 a1:=zkQ  a0 a1
abbrev vX:List VT:=[⟨true,qL⟩,⟨false,(.list zE)⟩,⟨false,I⟩]
abbrev vY:List VT:=[⟨false,(.list zE)⟩,⟨false,I⟩]
def zqz:qa:=zT [cdF qL,cdF zY,cdF qx,cdF qo,cdF jt] [] [⟨2,35,some 6,zE,true⟩,⟨5,35,some 6,zE,true⟩] [] [25,110]
def zb4 (jv:ZH) (vl:XW) (a0:jI) (a1:(List zz)) (a2:Int):Option ((List zz)×Int×Unit):=
 opt (jv (a0,(a1,()))) fun x0=>
 bif !(zj x0.1 0) then some ([],(x0.1,()))
 else opt (vl (a1,(a2,()))) fun x1=>
  bif !(zj x1.2.1 0) then some ([],(x1.2.1,()))
  else opt (ue a1 none (some x1.1) (some x1.1)) fun x2=>
   opt (ue a1 (some (wrF .i64 (x1.1+1))) none none) fun x3=>
   bif xj x2.length x3.length 96 then some ((x2++x3),(0,()))
   else none
abbrev zb5:Type:=(jI×(List zz)×Int×Unit)→Option ((List zz)×Int×Unit)
def zh0:ZH→XW→zb5:=fun jv vl=>sF Tryz.prog [(25,⟨vJ,vK,jv⟩),(110,⟨uK,uL,vl⟩)] zqz (zL []) 30 116 vX vY
theorem zsg (jv) (vl) (a0) (a1) (a2):zh0 jv vl (a0,a1,a2,())=zb4 jv vl a0 a1 a2:=by kernel_rfl
def gM:zb5:=zh0 xW xy
theorem znx:Con.Ok Tryz.prog 116 ⟨vX,vY,gM⟩:=zy (zf zaM (zf zfh zi)) zm (by kernel_rfl)
theorem zny (a0) (a1) (a2):gM (a0,a1,a2,())=zb4 xW xy a0 a1 a2:=zsg xW xy a0 a1 a2
abbrev yg:List VT:=[⟨true,qM⟩]
abbrev yh:List VT:=[]
def Ud:qa:=zT [cdF ze,cdF qM,cdF qL,cdF zE,cdF zY,cdF we,cdF qx,cdF qo,cdF zu] [] [] [] [114,108]
def Wo (wm:za→(Int×Unit)→Option (za×(Int×qw×Bool×Unit))) (qY:uw) (gT:VW) (YG:zb5) (wH:Jb) (jr:za→(qw×Unit)→Option (za×(Unit))) (s:za) (a0:zJ):Option (za×(Unit)):=
 opt (wm s (a0.2.1,())) fun x0=>
 bif !x0.2.2.2.1 then some (x0.1,())
 else bif !(zj x0.2.2.1.2.1 a0.2.2.1) then some (x0.1,())
  else bif !(zj x0.2.2.1.2.2.1 1) then bif !(zj x0.2.2.1.2.2.1 4) then some (x0.1,())
    else opt (qY (x0.2.2.1.2.2.2.2,(a0.2.2.2.1,()))) fun x1=>
     opt (bif !(zt x1.1 0) then opt (gT (x0.2.2.1.2.2.2.2,(x1.1,()))) fun x2=>
       some (0,(((x0.2.2.1.1,(x0.2.2.1.2.1,(x0.2.2.1.2.2.1,(x0.2.2.1.2.2.2.1,x2.1)))),()),()))
      else some (0,((x0.2.2.1,()),()))) fun x3=>
     opt (bif (zj ((x3.2.1.1.2.2.2.2.length:Nat):Int) 0) then opt (bif zj x3.2.1.1.2.2.1 1 then some (0,(((x3.2.1.1.1,(x3.2.1.1.2.1,(2,x3.2.1.1.2.2.2))),(x0.1,())),()))
        else opt (YG (x0.1.1,(x0.1.2.1,(x3.2.1.1.1,())))) fun x4=>
         opt (bif zj x4.2.1 0 then some (0,(((x0.1.1,(x4.1,x0.1.2.2)),()),()))
          else some (0,((x0.1,()),()))) fun x5=>
         some (0,(((x3.2.1.1.1,(x3.2.1.1.2.1,(5,x3.2.1.1.2.2.2))),(x5.2.1.1,())),()))) fun x6=>
       some (0,((x6.2.1.1,(x6.2.1.2.1,())),()))
      else some (0,((x3.2.1.1,(x0.1,())),()))) fun x7=>
     opt (wH (x7.2.1.2.1.2.2.2.1,(x0.2.1,(true,(x7.2.1.1,()))))) fun x8=>
     opt (jr (x7.2.1.2.1.1,(x7.2.1.2.1.2.1,(x7.2.1.2.1.2.2.1,(x8.1,x7.2.1.2.1.2.2.2.2)))) (x7.2.1.1,())) fun x9=>
     some (x9.1,())
   else opt (qY (x0.2.2.1.2.2.2.2,(a0.2.2.2.1,()))) fun x10=>
    opt (bif !(zt x10.1 0) then opt (gT (x0.2.2.1.2.2.2.2,(x10.1,()))) fun x11=>
      some (0,(((x0.2.2.1.1,(x0.2.2.1.2.1,(x0.2.2.1.2.2.1,(x0.2.2.1.2.2.2.1,x11.1)))),()),()))
     else some (0,((x0.2.2.1,()),()))) fun x12=>
    opt (bif (zj ((x12.2.1.1.2.2.2.2.length:Nat):Int) 0) then opt (bif zj x12.2.1.1.2.2.1 1 then some (0,(((x12.2.1.1.1,(x12.2.1.1.2.1,(2,x12.2.1.1.2.2.2))),(x0.1,())),()))
       else opt (YG (x0.1.1,(x0.1.2.1,(x12.2.1.1.1,())))) fun x13=>
        opt (bif zj x13.2.1 0 then some (0,(((x0.1.1,(x13.1,x0.1.2.2)),()),()))
         else some (0,((x0.1,()),()))) fun x14=>
        some (0,(((x12.2.1.1.1,(x12.2.1.1.2.1,(5,x12.2.1.1.2.2.2))),(x14.2.1.1,())),()))) fun x15=>
      some (0,((x15.2.1.1,(x15.2.1.2.1,())),()))
     else some (0,((x12.2.1.1,(x0.1,())),()))) fun x16=>
    opt (wH (x16.2.1.2.1.2.2.2.1,(x0.2.1,(true,(x16.2.1.1,()))))) fun x17=>
    opt (jr (x16.2.1.2.1.1,(x16.2.1.2.1.2.1,(x16.2.1.2.1.2.2.1,(x17.1,x16.2.1.2.1.2.2.2.2)))) (x16.2.1.1,())) fun x18=>
    some (x18.1,())
theorem zgX (wm:za→(Int×Unit)→Option (za×(Int×qw×Bool×Unit))) (qY:((List Int)×Int×Unit)→Option (Int×Unit)) (gT:((List Int)×Int×Unit)→Option ((List Int)×Unit)) (YG:(jI×(List zz)×Int×Unit)→Option ((List zz)×Int×Unit)) (wH:((List qw)×Int×Bool×qw×Unit)→Option ((List qw)×Unit)) (jr:za→(qw×Unit)→Option (za×(Unit))) (s:za) (a0:zJ):sP Tryz.prog ⟨[],[(107,⟨ze,jj,jk,wm⟩),(108,⟨ze,jl,jm,jr⟩)]⟩ [(114,⟨wi,wj,qY⟩),(115,⟨vF,vG,gT⟩),(116,⟨vX,vY,YG⟩),(111,⟨wD,wF,wH⟩)] Ud (zL []) 30 82 ze yg yh s (a0,())=Wo wm qY gT YG wH jr s a0:=by kernel_rfl
def vi:za→(zJ×Unit)→Option (za×(Unit)):=sP Tryz.prog ⟨[],[(107,⟨ze,jj,jk,jK⟩),(108,⟨ze,jl,jm,jn⟩)]⟩ [(114,⟨wi,wj,qQ⟩),(115,⟨vF,vG,vH⟩),(116,⟨vX,vY,gM⟩),(111,⟨wD,wF,jT⟩)] Ud (zL []) 30 82 ze yg yh
theorem zej:yJ.Ok Tryz.prog 82 ⟨ze,yg,yh,vi⟩:=xk ⟨qy,(zV Vs (zV Vt js))⟩ (zf Vu (zf zhu (zf znx (zf UG zi)))) zm (by kernel_rfl)
theorem zek (s:za) (a0:zJ):vi s (a0,())=Wo jK qQ vH gM jT jn s a0:=zgX jK qQ vH gM jT jn s a0
abbrev wA:List VT:=[⟨true,qM⟩]
abbrev wB:List VT:=[]
def Vy:qa:=zT [cdF ze,cdF qM,cdF wI,cdF zE,cdF zu] [] [] [] []
def Jt (qS:za→(Int×Unit)→Option (za×(Int×qE×Bool×Unit))) (qU:kT) (s:za) (a0:zJ):Option (za×(Unit)):=
 opt (qS s (a0.2.1,())) fun x0=>
 bif !x0.2.2.2.1 then some (x0.1,())
 else bif !(zj x0.2.2.1.2.1 a0.2.2.1) then some (x0.1,())
  else opt (bif zj x0.2.2.1.2.2.1 1 then bif zj a0.1 5 then some (0,(((x0.2.2.1.1,(x0.2.2.1.2.1,(2,x0.2.2.1.2.2.2))),()),()))
     else opt (bif zj x0.2.2.1.2.2.1 1 then bif zj a0.1 6 then some (0,(((x0.2.2.1.1,(x0.2.2.1.2.1,(3,(x0.2.2.1.2.2.2.1,a0.2.2.2.2.2.2)))),()),()))
        else opt (bif zj x0.2.2.1.2.2.1 4 then bif zj a0.1 7 then some (0,(((x0.2.2.1.1,(x0.2.2.1.2.1,(5,x0.2.2.1.2.2.2))),()),()))
           else some (1,((x0.2.2.1,()),()))
          else some (1,((x0.2.2.1,()),()))) fun x1=>
         bif Nat.beq x1.1 0 then some (0,((x1.2.1.1,()),()))
         else some (1,((x1.2.1.1,()),()))
       else opt (bif zj x0.2.2.1.2.2.1 4 then bif zj a0.1 7 then some (0,(((x0.2.2.1.1,(x0.2.2.1.2.1,(5,x0.2.2.1.2.2.2))),()),()))
          else some (1,((x0.2.2.1,()),()))
         else some (1,((x0.2.2.1,()),()))) fun x2=>
        bif Nat.beq x2.1 0 then some (0,((x2.2.1.1,()),()))
        else some (1,((x2.2.1.1,()),()))) fun x3=>
      bif Nat.beq x3.1 0 then some (0,((x3.2.1.1,()),()))
      else some (1,((x3.2.1.1,()),()))
    else opt (bif zj x0.2.2.1.2.2.1 1 then bif zj a0.1 6 then some (0,(((x0.2.2.1.1,(x0.2.2.1.2.1,(3,(x0.2.2.1.2.2.2.1,a0.2.2.2.2.2.2)))),()),()))
       else opt (bif zj x0.2.2.1.2.2.1 4 then bif zj a0.1 7 then some (0,(((x0.2.2.1.1,(x0.2.2.1.2.1,(5,x0.2.2.1.2.2.2))),()),()))
          else some (1,((x0.2.2.1,()),()))
         else some (1,((x0.2.2.1,()),()))) fun x4=>
        bif Nat.beq x4.1 0 then some (0,((x4.2.1.1,()),()))
        else some (1,((x4.2.1.1,()),()))
      else opt (bif zj x0.2.2.1.2.2.1 4 then bif zj a0.1 7 then some (0,(((x0.2.2.1.1,(x0.2.2.1.2.1,(5,x0.2.2.1.2.2.2))),()),()))
         else some (1,((x0.2.2.1,()),()))
        else some (1,((x0.2.2.1,()),()))) fun x5=>
       bif Nat.beq x5.1 0 then some (0,((x5.2.1.1,()),()))
       else some (1,((x5.2.1.1,()),()))) fun x6=>
     bif Nat.beq x6.1 0 then some (0,((x6.2.1.1,()),()))
     else some (1,((x6.2.1.1,()),()))) fun x7=>
   bif Nat.beq x7.1 0 then opt (qU (x0.1.2.2.1,(x0.2.1,(true,(x7.2.1.1,()))))) fun x8=>
    some ((x0.1.1,(x0.1.2.1,(x8.1,x0.1.2.2.2))),())
   else some (x0.1,())
theorem zeS (qS:za→(Int×Unit)→Option (za×(Int×qE×Bool×Unit))) (qU:((List qE)×Int×Bool×qE×Unit)→Option ((List qE)×Unit)) (s:za) (a0:zJ):sP Tryz.prog ⟨[],[(24,⟨ze,qI,qJ,qS⟩)]⟩ [(75,⟨jb,jc,qU⟩)] Vy (zL []) 30 83 ze wA wB s (a0,())=Jt qS qU s a0:=by kernel_rfl
def yx:za→(zJ×Unit)→Option (za×(Unit)):=sP Tryz.prog ⟨[],[(24,⟨ze,qI,qJ,qZ⟩)]⟩ [(75,⟨jb,jc,qF⟩)] Vy (zL []) 30 83 ze wA wB
theorem zcA:yJ.Ok Tryz.prog 83 ⟨ze,wA,wB,yx⟩:=xk ⟨qy,(zV Jy js)⟩ (zf Wd zi) zm (by kernel_rfl)
theorem zcB (s:za) (a0:zJ):yx s (a0,())=Jt qZ qF s a0:=zeS qZ qF s a0
abbrev yi:List VT:=[⟨true,qM⟩]
abbrev yj:List VT:=[]
def Ue:qa:=zT [cdF ze,cdF qM,cdF zE,cdF zu] [] [] [] [80,81,82,83]
def Wp (ZP:za→(zJ×Unit)→Option (za×(Unit))) (xi:za→(zJ×Unit)→Option (za×(Unit))) (gU:za→(zJ×Unit)→Option (za×(Unit))) (xD:za→(zJ×Unit)→Option (za×(Unit))) (s:za) (a0:zJ):Option (za×(Unit)):=
 bif zj 1 a0.1 then opt (opt (ZP s (a0,())) fun x0=>
   some (0,((x0.1,(a0,())),()))) fun x1=>
  some (x1.2.1.1,())
 else bif zj 2 a0.1 then opt (opt (xi s (a0,())) fun x2=>
    some (0,((x2.1,(a0,())),()))) fun x3=>
   some (x3.2.1.1,())
  else bif zj 3 a0.1 then opt (opt (xi s (a0,())) fun x4=>
     some (0,((x4.1,(a0,())),()))) fun x5=>
    some (x5.2.1.1,())
   else bif zj 4 a0.1 then opt (opt (gU s (a0,())) fun x6=>
      some (0,((x6.1,(a0,())),()))) fun x7=>
     some (x7.2.1.1,())
    else bif zj 5 a0.1 then opt (opt (xD s (a0,())) fun x8=>
       some (0,((x8.1,(a0,())),()))) fun x9=>
      some (x9.2.1.1,())
     else bif zj 6 a0.1 then opt (opt (xD s (a0,())) fun x10=>
        some (0,((x10.1,(a0,())),()))) fun x11=>
       some (x11.2.1.1,())
      else bif zj 7 a0.1 then opt (opt (xD s (a0,())) fun x12=>
         some (0,((x12.1,(a0,())),()))) fun x13=>
        some (x13.2.1.1,())
       else some (s,())
theorem zgY (ZP:za→(zJ×Unit)→Option (za×(Unit))) (xi:za→(zJ×Unit)→Option (za×(Unit))) (gU:za→(zJ×Unit)→Option (za×(Unit))) (xD:za→(zJ×Unit)→Option (za×(Unit))) (s:za) (a0:zJ):sP Tryz.prog ⟨[],[(80,⟨ze,yA,yB,ZP⟩),(81,⟨ze,jy,jz,xi⟩),(82,⟨ze,yg,yh,gU⟩),(83,⟨ze,wA,wB,xD⟩)]⟩ [] Ue (zL []) 30 54 ze yi yj s (a0,())=Wp ZP xi gU xD s a0:=by kernel_rfl
def vj:za→(zJ×Unit)→Option (za×(Unit)):=sP Tryz.prog ⟨[],[(80,⟨ze,yA,yB,vB⟩),(81,⟨ze,jy,jz,jX⟩),(82,⟨ze,yg,yh,vi⟩),(83,⟨ze,wA,wB,yx⟩)]⟩ [] Ue (zL []) 30 54 ze yi yj
theorem zel:yJ.Ok Tryz.prog 54 ⟨ze,yi,yj,vj⟩:=xk ⟨qy,(zV zeQ (zV GD (zV zej (zV zcA js))))⟩ zi zm (by kernel_rfl)
theorem zem (s:za) (a0:zJ):vj s (a0,())=Wp vB jX vi yx s a0:=zgY vB jX vi yx s a0
abbrev jD:List VT:=[⟨false,I⟩,⟨false,I⟩]
abbrev jE:List VT:=[⟨false,I⟩]
def Va:qa:=zT [cdF ze,cdF qM,cdF zE,cdF zu] [] [] [] [52,54]
def QL (zK:za→(zJ×Unit)→Option (za×(Unit))) (uX:QE) (gV:za→(zJ×Unit)→Option (za×(Unit))) (s:za) (a0:Int) (a1:Int):Option (za×(Int×Unit)):=
 opt (bif zt a1 0 then some (1,((2,()),()))
  else bif (!(zt a1 ((s.2.2.2.2.2.length:Nat):Int))) then some (1,((2,()),()))
   else some (0,((0,()),()))) fun x0=>
 bif Nat.beq x0.1 0 then opt (atI s.2.2.2.2.2 a1) fun x1=>
  bif zj a0 5 then opt (zK s (x1,())) fun x2=>
   some (x2.1,(0,()))
  else opt (uX (s.2.2.2.2.2,(a1,()))) fun x3=>
   opt (bif zj a0 3 then opt (gV (s.1,(s.2.1,(s.2.2.1,(s.2.2.2.1,(s.2.2.2.2.1,x3.1))))) (x1,())) fun x4=>
     some (0,((x4.1,()),()))
    else some (0,(((s.1,(s.2.1,(s.2.2.1,(s.2.2.2.1,(s.2.2.2.2.1,x3.1))))),()),()))) fun x5=>
   some (x5.2.1.1,(0,()))
 else some (s,(x0.2.1.1,()))
theorem zen (zK:za→(zJ×Unit)→Option (za×(Unit))) (uX:((List zJ)×Int×Unit)→Option ((List zJ)×Unit)) (gV:za→(zJ×Unit)→Option (za×(Unit))) (s:za) (a0:Int) (a1:Int):sP Tryz.prog ⟨[],[(52,⟨ze,qe,qf,zK⟩),(54,⟨ze,yi,yj,gV⟩)]⟩ [(53,⟨yb,yc,uX⟩)] Va (zL []) 30 32 ze jD jE s (a0,a1,())=QL zK uX gV s a0 a1:=by kernel_rfl
def yk:za→(Int×Int×Unit)→Option (za×(Int×Unit)):=sP Tryz.prog ⟨[],[(52,⟨ze,qe,qf,qk⟩),(54,⟨ze,yi,yj,vj⟩)]⟩ [(53,⟨yb,yc,yd⟩)] Va (zL []) 30 32 ze jD jE
theorem zb6:yJ.Ok Tryz.prog 32 ⟨ze,jD,jE,yk⟩:=xk ⟨qy,(zV vW (zV zel js))⟩ (zf zbN zi) zm (by kernel_rfl)
theorem zb7 (s:za) (a0:Int) (a1:Int):yk s (a0,a1,())=QL qk yd vj s a0 a1:=zen qk yd vj s a0 a1
abbrev wU:List VT:=[]
abbrev wW:List VT:=[]
def Gr:qa:=zT [cdF ze,cdF wI,cdF zE,cdF we,cdF zu] [] [] [] [33,34]
def YP (qC:za→(qE×Unit)→Option (za×(Unit))) (jM:za→(qw×Unit)→Option (za×(Unit))) (s:za):Option (za×(Unit)):=
 opt (qh (fun s0:(((((Int×((List Bool)×(List (Int×(Int×(Int×Int))))))×((Int×(Int×(Int×Int)))×((List ((List (Int×Int))×Int))×Int)))×((List (Int×(Int×(Int×(Int×(Int×(Int×((Int×Int)×(Int×(List (List Int)))))))))))×((List (Int×(Int×(Int×((Int×(Int×(Int×(Int×(Int×(Int×((Int×Int)×(Int×(List (List Int))))))))))×Int)))))×((List (Int×(Int×(Int×(Int×(List Int))))))×((List (Int×(Int×(Int×Bool))))×(List (Int×(Int×(Int×(Int×(Bool×((Int×(Int×(Int×(Int×(Int×(Int×((Int×Int)×(Int×(List (List Int))))))))))×Int))))))))))))×(Int×Unit))×Unit)=>
  bif (zt s0.1.2.1 ((s.2.2.1.length:Nat):Int)) then opt (atI s.2.2.1 s0.1.2.1) fun x1=>
   opt (qC s0.1.1 (x1,())) fun x2=>
   some (.inr ((x2.1,((wrF .i64 (s0.1.2.1+1)),())),()))
  else some (.inl (0,((s0.1.1,(s0.1.2.1,())),())))) qD ((s,(0,())),())) fun x3=>
 opt (qh (fun s4:(((((Int×((List Bool)×(List (Int×(Int×(Int×Int))))))×((Int×(Int×(Int×Int)))×((List ((List (Int×Int))×Int))×Int)))×((List (Int×(Int×(Int×(Int×(Int×(Int×((Int×Int)×(Int×(List (List Int)))))))))))×((List (Int×(Int×(Int×((Int×(Int×(Int×(Int×(Int×(Int×((Int×Int)×(Int×(List (List Int))))))))))×Int)))))×((List (Int×(Int×(Int×(Int×(List Int))))))×((List (Int×(Int×(Int×Bool))))×(List (Int×(Int×(Int×(Int×(Bool×((Int×(Int×(Int×(Int×(Int×(Int×((Int×Int)×(Int×(List (List Int))))))))))×Int))))))))))))×(Int×Unit))×Unit)=>
  bif (zt s4.1.2.1 ((x3.2.1.1.2.2.2.1.length:Nat):Int)) then opt (atI x3.2.1.1.2.2.2.1 s4.1.2.1) fun x5=>
   opt (jM s4.1.1 (x5,())) fun x6=>
   some (.inr ((x6.1,((wrF .i64 (s4.1.2.1+1)),())),()))
  else some (.inl (0,((s4.1.1,(s4.1.2.1,())),())))) qD ((x3.2.1.1,(0,())),())) fun x7=>
 some (x7.2.1.1,())
theorem ziE (qC:za→(qE×Unit)→Option (za×(Unit))) (jM:za→(qw×Unit)→Option (za×(Unit))) (s:za):sP Tryz.prog ⟨[],[(33,⟨ze,qA,qB,qC⟩),(34,⟨ze,qW,qX,jM⟩)]⟩ [] Gr (zL []) 30 23 ze wU wW s ()=YP qC jM s:=by kernel_rfl
def xR:za→(Unit)→Option (za×(Unit)):=sP Tryz.prog ⟨[],[(33,⟨ze,qA,qB,qK⟩),(34,⟨ze,qW,qX,ju⟩)]⟩ [] Gr (zL []) 30 23 ze wU wW
theorem zfR:yJ.Ok Tryz.prog 23 ⟨ze,wU,wW,xR⟩:=xk ⟨qy,(zV ZV (zV YV js))⟩ zi zm (by kernel_rfl)
theorem zfS (s:za):xR s ()=YP qK ju s:=ziE qK ju s
abbrev xe:List VT:=[⟨true,Yy⟩]
abbrev xf:List VT:=[⟨false,I⟩]
def GX:qa:=zT [cdF ze,cdF Yy,cdF zE,cdF zu] [] [] [] [43,44,32,23]
def Vb (Jj:za→(zz×Unit)→Option (za×(Int×Unit))) (gW:za→(Int×Unit)→Option (za×(Int×Unit))) (xh:za→(Int×Int×Unit)→Option (za×(Int×Unit))) (vR:za→(Unit)→Option (za×(Unit))) (s:za) (a0:yL):Option (za×(Int×Unit)):=
 bif zj a0.1 1 then opt (Jj s (a0.2.2.2,())) fun x0=>
  some (x0.1,(x0.2.1,()))
 else bif zj a0.1 2 then opt (gW s (a0.2.1,())) fun x1=>
   some (x1.1,(x1.2.1,()))
  else bif zj a0.1 3 then bif zj a0.1 3 then opt (xh s (a0.1,(a0.2.2.1,()))) fun x2=>
     some (x2.1,(x2.2.1,()))
    else bif zj a0.1 6 then opt (vR s ()) fun x3=>
      some (x3.1,(0,()))
     else some (s,(2,()))
   else bif zj a0.1 4 then bif zj a0.1 4 then opt (xh s (a0.1,(a0.2.2.1,()))) fun x4=>
      some (x4.1,(x4.2.1,()))
     else bif zj a0.1 6 then opt (vR s ()) fun x5=>
       some (x5.1,(0,()))
      else some (s,(2,()))
    else bif zj a0.1 5 then opt (xh s (a0.1,(a0.2.2.1,()))) fun x6=>
      some (x6.1,(x6.2.1,()))
     else bif zj a0.1 6 then opt (vR s ()) fun x7=>
       some (x7.1,(0,()))
      else some (s,(2,()))
theorem zjy (Jj:za→(zz×Unit)→Option (za×(Int×Unit))) (gW:za→(Int×Unit)→Option (za×(Int×Unit))) (xh:za→(Int×Int×Unit)→Option (za×(Int×Unit))) (vR:za→(Unit)→Option (za×(Unit))) (s:za) (a0:yL):sP Tryz.prog ⟨[],[(43,⟨ze,yZ,xa,Jj⟩),(44,⟨ze,wZ,ya,gW⟩),(32,⟨ze,jD,jE,xh⟩),(23,⟨ze,wU,wW,vR⟩)]⟩ [] GX (fun _ _=>false) 30 27 ze xe xf s (a0,())=Vb Jj gW xh vR s a0:=by kernel_rfl
def uh:za→(yL×Unit)→Option (za×(Int×Unit)):=sP Tryz.prog ⟨[],[(43,⟨ze,yZ,xa,ug⟩),(44,⟨ze,wZ,ya,ve⟩),(32,⟨ze,jD,jE,yk⟩),(23,⟨ze,wU,wW,xR⟩)]⟩ [] GX (fun _ _=>false) 30 27 ze xe xf
theorem zgZ:yJ.Ok Tryz.prog 27 ⟨ze,xe,xf,uh⟩:=xk ⟨qy,(zV zgv (zV zd5 (zV zb6 (zV zfR js))))⟩ zi zm (by kernel_rfl)
theorem zg0 (s:za) (a0:yL):uh s (a0,())=Vb ug ve yk xR s a0:=zjy ug ve yk xR s a0
abbrev Qw:List VT:=[⟨true,ja⟩,⟨true,Yy⟩]
abbrev Qx:List VT:=[⟨true,ja⟩,⟨false,I⟩]
def znz:qa:=zT [cdF ja,cdF qM,cdF qL,cdF wI,cdF Yy,cdF zE,cdF zY,cdF we,cdF xE,cdF qx,cdF qo,cdF jt] [] [] [] [27]
def ziF (Jk:za→(yL×Unit)→Option (za×(Int×Unit))) (a0:qj) (a1:yL):Option (qj×Int×Unit):=
 opt (Jk a0 (a1,())) fun x0=>
 bif !(zj x0.2.1 0) then some ((((0,([],[])),((0,(0,(0,0))),([],0))),([],([],([],([],[]))))),(x0.2.1,()))
 else some (x0.1,(0,()))
theorem zyU (Jk:za→(yL×Unit)→Option (za×(Int×Unit))) (a0:qj) (a1:yL):sFl Tryz.prog ⟨[],[(27,⟨ze,xe,xf,Jk⟩)]⟩ [] znz (zL []) 30 12 Qw Qx (a0,a1,())=ziF Jk a0 a1:=by kernel_rfl
def Ky:(qj×yL×Unit)→Option (qj×Int×Unit):=sFl Tryz.prog ⟨[],[(27,⟨ze,xe,xf,uh⟩)]⟩ [] znz (zL []) 30 12 Qw Qx
theorem ztR:Con.Ok Tryz.prog 12 ⟨Qw,Qx,Ky⟩:=zmY ⟨qy,(zV zgZ js)⟩ zi zm (by kernel_rfl)
theorem ztS (a0:qj) (a1:yL):Ky (a0,a1,())=ziF uh a0 a1:=zyU uh a0 a1
abbrev zg1:List VT:=[⟨true,ja⟩,⟨false,(.list Yy)⟩]
abbrev zg2:List VT:=[⟨true,ja⟩,⟨false,(.list I)⟩]
abbrev zdo:List VT:=[⟨true,ja⟩,⟨false,I⟩]
abbrev zdp:List VT:=[⟨false,I⟩,⟨false,I⟩]
abbrev zkR:List VT:=[⟨true,ja⟩,⟨false,I⟩]
abbrev zkS:List VT:=[⟨false,.bool⟩]
abbrev zeT:List VT:=[⟨true,ja⟩]
abbrev zeU:List VT:=[⟨false,.bool⟩]
abbrev Qk:List VT:=[]
abbrev Ql:List VT:=[]
abbrev zb8:List VT:=[⟨true,ja⟩]
abbrev zb9:List VT:=[⟨true,ja⟩]
abbrev Kk:List VT:=[]
abbrev Kl:List VT:=[⟨false,.bool⟩]
abbrev KK:List VT:=[⟨true,xG⟩]
abbrev KL:List VT:=[⟨true,zE⟩]
def zkT:qa:=zT [cdF zE,cdF xG,cdF zu] [] [] [] []
def KM (a0:qN):Option (zz×Unit):=
 opt (bif a0.2.2.2.1 then some (0,((((wrF .i64 (1+(wrF .i64 (Int.tmod a0.2.1 6)))),(3,(0,(6,(100,(0,(((wrF .i64 (100+(wrF .i64 (Int.tmod a0.2.2.2.2.1 2000)))),(wrF .i64 (1+(wrF .i64 a0.2.2.2.2.2.1)))),((wrF .i64 (1+(wrF .i64 a0.2.2.2.2.2.2))),((5::(3::(1::[])))::[]))))))))),()),()))
  else some (0,((((wrF .i64 (1+(wrF .i64 (Int.tmod a0.2.1 6)))),(0,(3,(6,(100,(0,(((wrF .i64 (100+(wrF .i64 (Int.tmod a0.2.2.2.2.1 2000)))),(wrF .i64 (1+(wrF .i64 a0.2.2.2.2.2.1)))),((wrF .i64 (1+(wrF .i64 a0.2.2.2.2.2.2))),((0::(2::(4::[])))::[]))))))))),()),()))) fun x0=>
 some (x0.2.1.1,())
abbrev WC:Type:=(qN×Unit)→Option (zz×Unit)
def zcL:WC:=sF Tryz.prog [] zkT (zL []) 30 9 KK KL
theorem zlV (a0):zcL (a0,())=KM a0:=by kernel_rfl
def kn:WC:=zcL
theorem ziG:Con.Ok Tryz.prog 9 ⟨KK,KL,kn⟩:=zy zi zm (by kernel_rfl)
theorem ziH (a0):kn (a0,())=KM  a0:=zlV  a0
abbrev VX:List VT:=[⟨true,xG⟩,⟨true,ja⟩]
abbrev VY:List VT:=[⟨true,Yy⟩]
def zoZ:qa:=zT [cdF ja,cdF qM,cdF qL,cdF wI,cdF Yy,cdF zE,cdF xG,cdF zY,cdF we,cdF xE,cdF qx,cdF qo,cdF jt] [] [] [] []
def zaN (kp:WC) (a0:qN) (a1:qj):Option (yL×Unit):=
 opt (bif (zt 0 ((a1.2.2.2.2.2.length:Nat):Int)) then bif zt a0.2.2.1 250 then bif (zj ((a1.2.2.2.2.2.length:Nat):Int) 0) then none
    else some (0,((((wrF .i64 (Int.tmod a0.1 8)),((wrF .i64 (1+(wrF .i64 (Int.tmod a0.2.1 6)))),((Int.tmod (wrF .i64 a0.2.2.1) ((a1.2.2.2.2.2.length:Nat):Int)),(0,(0,(0,(0,(0,(0,((0,0),(0,[]))))))))))),()),()))
   else some (0,((((wrF .i64 (Int.tmod a0.1 8)),((wrF .i64 (1+(wrF .i64 (Int.tmod a0.2.1 6)))),((wrF .i64 a0.2.2.1),(0,(0,(0,(0,(0,(0,((0,0),(0,[]))))))))))),()),()))
  else some (0,((((wrF .i64 (Int.tmod a0.1 8)),((wrF .i64 (1+(wrF .i64 (Int.tmod a0.2.1 6)))),((wrF .i64 a0.2.2.1),(0,(0,(0,(0,(0,(0,((0,0),(0,[]))))))))))),()),()))) fun x0=>
 opt (bif zj x0.2.1.1.1 1 then opt (kp (a0,())) fun x1=>
   some (0,((a0,((x0.2.1.1.1,(x0.2.1.1.2.1,(x0.2.1.1.2.2.1,x1.1))),())),()))
  else some (0,((a0,(x0.2.1.1,())),()))) fun x2=>
 some (x2.2.1.2.1,())
abbrev zaO:Type:=(qN×qj×Unit)→Option (yL×Unit)
def zg3:WC→zaO:=fun kp=>sF Tryz.prog [(9,⟨KK,KL,kp⟩)] zoZ (zL []) 30 21 VX VY
theorem zqA (kp) (a0) (a1):zg3 kp (a0,a1,())=zaN kp a0 a1:=by kernel_rfl
def Qm:zaO:=zg3 kn
theorem zlW:Con.Ok Tryz.prog 21 ⟨VX,VY,Qm⟩:=zy (zf ziG zi) zm (by kernel_rfl)
theorem zlX (a0) (a1):Qm (a0,a1,())=zaN kn a0 a1:=zqA kn a0 a1
abbrev zeV:List VT:=[⟨true,ja⟩,⟨false,I⟩]
abbrev zeW:List VT:=[⟨true,zE⟩,⟨false,.bool⟩]
def ztT:qa:=zT [cdF ja,cdF qM,cdF qL,cdF wI,cdF zE,cdF zY,cdF we,cdF xE,cdF qx,cdF qo,cdF jt] [] [] [] []
def zeX (a0:qj) (a1:Int):Option (zz×Bool×Unit):=
 opt (qh (fun s0:((Int×(Int×(Int×Unit)))×Unit)=>
  bif (zt s0.1.2.2.1 ((a0.2.1.length:Nat):Int)) then opt (atI a0.2.1 s0.1.2.2.1) fun x1=>
   bif zj x1.1 s0.1.1 then some (.inl (1,((s0.1.1,(s0.1.2.2.1,(s0.1.2.2.1,()))),())))
   else some (.inr ((s0.1.1,(s0.1.2.1,((wrF .i64 (s0.1.2.2.1+1)),()))),()))
  else some (.inl (0,((s0.1.1,(s0.1.2.1,(s0.1.2.2.1,()))),())))) qD ((a1,(0,(0,()))),())) fun x2=>
 bif Nat.beq x2.1 0 then some ((0,(0,(0,(0,(0,(0,((0,0),(0,[])))))))),(false,()))
 else bif zt x2.2.1.2.1 0 then some ((0,(0,(0,(0,(0,(0,((0,0),(0,[])))))))),(false,()))
  else opt (atI a0.2.1 x2.2.1.2.1) fun x3=>
   some (x3,(true,()))
abbrev zak:Type:=(qj×Int×Unit)→Option (zz×Bool×Unit)
def zlt:zak:=sF Tryz.prog [] ztT (zL []) 30 30 zeV zeW
theorem zvG (a0) (a1):zlt (a0,a1,())=zeX a0 a1:=by kernel_rfl
def Yi:zak:=zlt
theorem zqB:Con.Ok Tryz.prog 30 ⟨zeV,zeW,Yi⟩:=zy zi zm (by kernel_rfl)
theorem zqC (a0) (a1):Yi (a0,a1,())=zeX  a0 a1:=zvG  a0 a1
abbrev GG:List VT:=[⟨true,ja⟩,⟨true,zE⟩]
abbrev GH:List VT:=[⟨false,.bool⟩]
def znA:qa:=zT [cdF ja,cdF qM,cdF qL,cdF wI,cdF zE,cdF zY,cdF we,cdF xE,cdF qx,cdF qo,cdF jt] [] [] [] []
def GI (jZ:Jr) (a0:qj) (a1:zz):Option (Bool×Unit):=
 opt (qh (fun s0:(((((Int×((List Bool)×(List (Int×(Int×(Int×Int))))))×((Int×(Int×(Int×Int)))×((List ((List (Int×Int))×Int))×Int)))×((List (Int×(Int×(Int×(Int×(Int×(Int×((Int×Int)×(Int×(List (List Int)))))))))))×((List (Int×(Int×(Int×((Int×(Int×(Int×(Int×(Int×(Int×((Int×Int)×(Int×(List (List Int))))))))))×Int)))))×((List (Int×(Int×(Int×(Int×(List Int))))))×((List (Int×(Int×(Int×Bool))))×(List (Int×(Int×(Int×(Int×(Bool×((Int×(Int×(Int×(Int×(Int×(Int×((Int×Int)×(Int×(List (List Int))))))))))×Int))))))))))))×(Bool×(Int×Unit)))×Unit)=>
  bif (zt s0.1.2.2.1 ((a1.2.2.2.2.2.2.2.2.length:Nat):Int)) then opt (atI a1.2.2.2.2.2.2.2.2 s0.1.2.2.1) fun x1=>
   opt (jZ (s0.1.1.1.1,(x1,()))) fun x2=>
   opt (bif !(zj x2.2.1 0) then some (1,((false,()),()))
    else bif (zj ((x2.1.length:Nat):Int) 0) then some (1,((false,()),()))
     else some (0,((s0.1.2.1,()),()))) fun x3=>
   bif Nat.beq x3.1 0 then opt (qh (fun s4:(((((Int×((List Bool)×(List (Int×(Int×(Int×Int))))))×((Int×(Int×(Int×Int)))×((List ((List (Int×Int))×Int))×Int)))×((List (Int×(Int×(Int×(Int×(Int×(Int×((Int×Int)×(Int×(List (List Int)))))))))))×((List (Int×(Int×(Int×((Int×(Int×(Int×(Int×(Int×(Int×((Int×Int)×(Int×(List (List Int))))))))))×Int)))))×((List (Int×(Int×(Int×(Int×(List Int))))))×((List (Int×(Int×(Int×Bool))))×(List (Int×(Int×(Int×(Int×(Bool×((Int×(Int×(Int×(Int×(Int×(Int×((Int×Int)×(Int×(List (List Int))))))))))×Int))))))))))))×(Bool×(Int×Unit)))×Unit)=>
     bif (zt s4.1.2.2.1 ((x2.1.length:Nat):Int)) then opt (atI x2.1 s4.1.2.2.1) fun x5=>
      opt (qh (fun s6:((Int×(Int×(Int×Unit)))×Unit)=>
       bif (zt s6.1.2.2.1 ((s4.1.1.2.2.2.2.1.length:Nat):Int)) then opt (atI s4.1.1.2.2.2.2.1 s6.1.2.2.1) fun x7=>
        bif zj x7.1 s6.1.1 then bif zj x7.2.1 a1.1 then bif x7.2.2.2 then some (.inl (1,((s6.1.1,(s6.1.2.2.1,(s6.1.2.2.1,()))),())))
          else some (.inr ((s6.1.1,(s6.1.2.1,((wrF .i64 (s6.1.2.2.1+1)),()))),()))
         else some (.inr ((s6.1.1,(s6.1.2.1,((wrF .i64 (s6.1.2.2.1+1)),()))),()))
        else some (.inr ((s6.1.1,(s6.1.2.1,((wrF .i64 (s6.1.2.2.1+1)),()))),()))
       else some (.inl (0,((s6.1.1,(s6.1.2.1,(s6.1.2.2.1,()))),())))) qD ((x5,(0,(0,()))),())) fun x8=>
      bif Nat.beq x8.1 0 then bif (!(!(zt (-1) 0))) then some (.inl (1,((s4.1.1,(false,(s4.1.2.2.1,()))),())))
       else some (.inr ((s4.1.1,(s4.1.2.1,((wrF .i64 (s4.1.2.2.1+1)),()))),()))
      else bif (!(!(zt x8.2.1.2.1 0))) then some (.inl (1,((s4.1.1,(false,(s4.1.2.2.1,()))),())))
       else some (.inr ((s4.1.1,(s4.1.2.1,((wrF .i64 (s4.1.2.2.1+1)),()))),()))
     else some (.inl (0,((s4.1.1,(s4.1.2.1,(s4.1.2.2.1,()))),())))) qD ((s0.1.1,(x3.2.1.1,(0,()))),())) fun x9=>
    bif Nat.beq x9.1 0 then some (.inr ((x9.2.1.1,(x9.2.1.2.1,((wrF .i64 (s0.1.2.2.1+1)),()))),()))
    else some (.inl (1,((x9.2.1.1,(x9.2.1.2.1,(s0.1.2.2.1,()))),())))
   else some (.inl (1,((s0.1.1,(x3.2.1.1,(s0.1.2.2.1,()))),())))
  else some (.inl (0,((s0.1.1,(s0.1.2.1,(s0.1.2.2.1,()))),())))) qD ((a0,(false,(0,()))),())) fun x10=>
 bif Nat.beq x10.1 0 then some (true,())
 else some (x10.2.1.2.1,())
abbrev Xf:Type:=(qj×zz×Unit)→Option (Bool×Unit)
def zfi:Jr→Xf:=fun jZ=>sF Tryz.prog [(49,⟨kz,kA,jZ⟩)] znA (zL []) 30 31 GG GH
theorem zo0 (jZ) (a0) (a1):zfi jZ (a0,a1,())=GI jZ a0 a1:=by kernel_rfl
def Zn:Xf:=zfi yw
theorem zkU:Con.Ok Tryz.prog 31 ⟨GG,GH,Zn⟩:=zy (zf zaH zi) zm (by kernel_rfl)
theorem zkV (a0) (a1):Zn (a0,a1,())=GI yw a0 a1:=zo0 yw a0 a1
abbrev zaP:List VT:=[⟨false,(.list I)⟩,⟨false,(.list I)⟩]
abbrev zaQ:List VT:=[⟨false,.bool⟩]
def zo1:qa:=zT [] [] [] [] []
def zaR (a0:(List Int)) (a1:(List Int)):Option (Bool×Unit):=
 bif (!(zj ((a0.length:Nat):Int) ((a1.length:Nat):Int))) then some (false,())
 else opt (qh (fun s0:((Bool×(Int×Unit))×Unit)=>
   bif (zt s0.1.2.1 ((a0.length:Nat):Int)) then opt (atI a0 s0.1.2.1) fun x1=>
    opt (atI a1 s0.1.2.1) fun x2=>
    bif !(zj x1 x2) then some (.inl (1,((false,(s0.1.2.1,())),())))
    else some (.inr ((s0.1.1,((wrF .i64 (s0.1.2.1+1)),())),()))
   else some (.inl (0,((s0.1.1,(s0.1.2.1,())),())))) qD ((false,(0,())),())) fun x3=>
  bif Nat.beq x3.1 0 then some (true,())
  else some (x3.2.1.1,())
abbrev VZ:Type:=((List Int)×(List Int)×Unit)→Option (Bool×Unit)
def zg4:VZ:=sF Tryz.prog [] zo1 (zL []) 30 28 zaP zaQ
theorem zqD (a0) (a1):zg4 (a0,a1,())=zaR a0 a1:=by kernel_rfl
def Qn:VZ:=zg4
theorem zlY:Con.Ok Tryz.prog 28 ⟨zaP,zaQ,Qn⟩:=zy zi zm (by kernel_rfl)
theorem zlZ (a0) (a1):Qn (a0,a1,())=zaR  a0 a1:=zqD  a0 a1
abbrev UI:List VT:=[⟨true,zE⟩,⟨true,zE⟩]
abbrev UJ:List VT:=[⟨false,.bool⟩]
def zl0:qa:=zT [cdF zE,cdF zu] [] [] [] [28]
def UK (Qt:VZ) (a0:zz) (a1:zz):Option (Bool×Unit):=
 opt (bif !(zj a0.1 a1.1) then some (1,((false,()),()))
  else bif !(zj a0.2.1 a1.2.1) then some (1,((false,()),()))
   else bif !(zj a0.2.2.1 a1.2.2.1) then some (1,((false,()),()))
    else bif !(zj a0.2.2.2.1 a1.2.2.2.1) then some (1,((false,()),()))
     else bif !(zj a0.2.2.2.2.1 a1.2.2.2.2.1) then some (1,((false,()),()))
      else bif !(zj a0.2.2.2.2.2.1 a1.2.2.2.2.2.1) then some (1,((false,()),()))
       else bif (!((zj a0.2.2.2.2.2.2.1.1 a1.2.2.2.2.2.2.1.1)&&((zj a0.2.2.2.2.2.2.1.2 a1.2.2.2.2.2.2.1.2)&&true))) then some (1,((false,()),()))
        else bif !(zj a0.2.2.2.2.2.2.2.1 a1.2.2.2.2.2.2.2.1) then some (1,((false,()),()))
         else bif (!(zj ((a0.2.2.2.2.2.2.2.2.length:Nat):Int) ((a1.2.2.2.2.2.2.2.2.length:Nat):Int))) then some (1,((false,()),()))
          else some (0,((false,()),()))) fun x0=>
 bif Nat.beq x0.1 0 then opt (qh (fun s1:((Bool×(Int×Unit))×Unit)=>
   bif (zt s1.1.2.1 ((a0.2.2.2.2.2.2.2.2.length:Nat):Int)) then opt (atI a0.2.2.2.2.2.2.2.2 s1.1.2.1) fun x2=>
    opt (atI a1.2.2.2.2.2.2.2.2 s1.1.2.1) fun x3=>
    opt (Qt (x2,(x3,()))) fun x4=>
    bif !x4.1 then some (.inl (1,((false,(s1.1.2.1,())),())))
    else some (.inr ((s1.1.1,((wrF .i64 (s1.1.2.1+1)),())),()))
   else some (.inl (0,((s1.1.1,(s1.1.2.1,())),())))) qD ((x0.2.1.1,(0,())),())) fun x5=>
  bif Nat.beq x5.1 0 then some (true,())
  else some (x5.2.1.1,())
 else some (x0.2.1.1,())
abbrev YC:Type:=(zz×zz×Unit)→Option (Bool×Unit)
def zeo:VZ→YC:=fun Qt=>sF Tryz.prog [(28,⟨zaP,zaQ,Qt⟩)] zl0 (zL []) 30 13 UI UJ
theorem znB (Qt) (a0) (a1):zeo Qt (a0,a1,())=UK Qt a0 a1:=by kernel_rfl
def vz:YC:=zeo Qn
theorem zjz:Con.Ok Tryz.prog 13 ⟨UI,UJ,vz⟩:=zy (zf zlY zi) zm (by kernel_rfl)
theorem zjA (a0) (a1):vz (a0,a1,())=UK Qn a0 a1:=znB Qn a0 a1
abbrev zca:List VT:=[⟨true,ja⟩]
abbrev zcb:List VT:=[⟨false,.bool⟩]
def zvH:qa:=zT [cdF ja,cdF qM,cdF qL,cdF wI,cdF zE,cdF zY,cdF we,cdF xE,cdF qx,cdF qo,cdF jt] [] [] [] [25,31,13]
def zg5 (jv:ZH) (Jw:zak) (Zu:Xf) (gp:YC) (a0:qj):Option (Bool×Unit):=
 opt (jv (a0.1,(a0.2.1,()))) fun x0=>
 bif !(zj x0.1 0) then some (false,())
 else opt (qh (fun s1:(((((Int×((List Bool)×(List (Int×(Int×(Int×Int))))))×((Int×(Int×(Int×Int)))×((List ((List (Int×Int))×Int))×Int)))×((List (Int×(Int×(Int×(Int×(Int×(Int×((Int×Int)×(Int×(List (List Int)))))))))))×((List (Int×(Int×(Int×((Int×(Int×(Int×(Int×(Int×(Int×((Int×Int)×(Int×(List (List Int))))))))))×Int)))))×((List (Int×(Int×(Int×(Int×(List Int))))))×((List (Int×(Int×(Int×Bool))))×(List (Int×(Int×(Int×(Int×(Bool×((Int×(Int×(Int×(Int×(Int×(Int×((Int×Int)×(Int×(List (List Int))))))))))×Int))))))))))))×(Bool×(Int×Unit)))×Unit)=>
   bif (zt s1.1.2.2.1 ((a0.2.2.1.length:Nat):Int)) then opt (atI a0.2.2.1 s1.1.2.2.1) fun x2=>
    opt (Jw (s1.1.1,(x2.1,()))) fun x3=>
    opt (bif zj x2.2.2.1 2 then bif !x3.2.1 then some (1,((false,()),()))
      else opt (Zu (s1.1.1,(x3.1,()))) fun x4=>
       bif !x4.1 then some (1,((false,()),()))
       else opt (gp (x3.1,(x2.2.2.2.1,()))) fun x5=>
        bif !x5.1 then some (1,((false,()),()))
        else some (0,((s1.1.2.1,()),()))
     else some (0,((s1.1.2.1,()),()))) fun x6=>
    bif Nat.beq x6.1 0 then some (.inr ((s1.1.1,(x6.2.1.1,((wrF .i64 (s1.1.2.2.1+1)),()))),()))
    else some (.inl (1,((s1.1.1,(x6.2.1.1,(s1.1.2.2.1,()))),())))
   else some (.inl (0,((s1.1.1,(s1.1.2.1,(s1.1.2.2.1,()))),())))) qD ((a0,(false,(0,()))),())) fun x7=>
  bif Nat.beq x7.1 0 then opt (qh (fun s8:(((((Int×((List Bool)×(List (Int×(Int×(Int×Int))))))×((Int×(Int×(Int×Int)))×((List ((List (Int×Int))×Int))×Int)))×((List (Int×(Int×(Int×(Int×(Int×(Int×((Int×Int)×(Int×(List (List Int)))))))))))×((List (Int×(Int×(Int×((Int×(Int×(Int×(Int×(Int×(Int×((Int×Int)×(Int×(List (List Int))))))))))×Int)))))×((List (Int×(Int×(Int×(Int×(List Int))))))×((List (Int×(Int×(Int×Bool))))×(List (Int×(Int×(Int×(Int×(Bool×((Int×(Int×(Int×(Int×(Int×(Int×((Int×Int)×(Int×(List (List Int))))))))))×Int))))))))))))×(Bool×(Int×Unit)))×Unit)=>
    bif (zt s8.1.2.2.1 ((x7.2.1.1.2.2.2.2.1.length:Nat):Int)) then opt (atI x7.2.1.1.2.2.2.2.1 s8.1.2.2.1) fun x9=>
     opt (Jw (s8.1.1,(x9.2.1,()))) fun x10=>
     opt (bif x9.2.2.2 then bif !x10.2.1 then some (1,((false,()),()))
       else some (0,((s8.1.2.1,()),()))
      else some (0,((s8.1.2.1,()),()))) fun x11=>
     bif Nat.beq x11.1 0 then some (.inr ((s8.1.1,(x11.2.1.1,((wrF .i64 (s8.1.2.2.1+1)),()))),()))
     else some (.inl (1,((s8.1.1,(x11.2.1.1,(s8.1.2.2.1,()))),())))
    else some (.inl (0,((s8.1.1,(s8.1.2.1,(s8.1.2.2.1,()))),())))) qD ((x7.2.1.1,(x7.2.1.2.1,(0,()))),())) fun x12=>
   bif Nat.beq x12.1 0 then some (true,())
   else some (x12.2.1.2.1,())
  else some (x7.2.1.2.1,())
abbrev zg6:Type:=(qj×Unit)→Option (Bool×Unit)
def znC:ZH→zak→Xf→YC→zg6:=fun jv Jw Zu gp=>sF Tryz.prog [(25,⟨vJ,vK,jv⟩),(30,⟨zeV,zeW,Jw⟩),(31,⟨GG,GH,Zu⟩),(13,⟨UI,UJ,gp⟩)] zvH (zL []) 30 19 zca zcb
theorem zxX (jv) (Jw) (Zu) (gp) (a0):znC jv Jw Zu gp (a0,())=zg5 jv Jw Zu gp a0:=by kernel_rfl
def Vc:zg6:=znC xW Yi Zn vz
theorem zsh:Con.Ok Tryz.prog 19 ⟨zca,zcb,Vc⟩:=zy (zf zaM (zf zqB (zf zkU (zf zjz zi)))) zm (by kernel_rfl)
theorem zsi (a0):Vc (a0,())=zg5 xW Yi Zn vz a0:=zxX xW Yi Zn vz a0
abbrev Km:List VT:=[⟨false,(.list xG)⟩,⟨false,I⟩]
abbrev Kn:List VT:=[⟨true,ja⟩,⟨false,.bool⟩]
def zjB:qa:=zT [cdF ja,cdF qM,cdF qL,cdF wI,cdF Yy,cdF zE,cdF xG,cdF zY,cdF we,cdF xE,cdF qx,cdF qo,cdF jt] [] [] [] [19]
def zeY (zdO:zis) (zcs:zgt) (Kf:zaO) (zdP:(qj×yL×Unit)→Option (qj×Int×Unit)) (zct:zg6) (a0:(List qN)) (a1:Int):Option (qj×Bool×Unit):=
 opt (zdO ()) fun x0=>
 opt (zcs (x0.1,())) fun x1=>
 opt (ue a0 none (some (VI ((a0.length:Nat):Int) a1)) none) fun x2=>
 opt (qh (fun s3:(((((Int×((List Bool)×(List (Int×(Int×(Int×Int))))))×((Int×(Int×(Int×Int)))×((List ((List (Int×Int))×Int))×Int)))×((List (Int×(Int×(Int×(Int×(Int×(Int×((Int×Int)×(Int×(List (List Int)))))))))))×((List (Int×(Int×(Int×((Int×(Int×(Int×(Int×(Int×(Int×((Int×Int)×(Int×(List (List Int))))))))))×Int)))))×((List (Int×(Int×(Int×(Int×(List Int))))))×((List (Int×(Int×(Int×Bool))))×(List (Int×(Int×(Int×(Int×(Bool×((Int×(Int×(Int×(Int×(Int×(Int×((Int×Int)×(Int×(List (List Int))))))))))×Int))))))))))))×(Bool×(Int×Unit)))×Unit)=>
  bif (zt s3.1.2.2.1 ((x2.length:Nat):Int)) then opt (atI x2 s3.1.2.2.1) fun x4=>
   opt (Kf (x4,(s3.1.1,()))) fun x5=>
   opt (zdP (s3.1.1,(x5.1,()))) fun x6=>
   opt (bif zj x6.2.1 0 then bif s3.1.2.1 then opt (zct (x6.1,())) fun x7=>
      some (0,((x6.1,(x7.1,())),()))
     else some (0,((x6.1,(false,())),()))
    else some (0,((s3.1.1,(s3.1.2.1,())),()))) fun x8=>
   some (.inr ((x8.2.1.1,(x8.2.1.2.1,((wrF .i64 (s3.1.2.2.1+1)),()))),()))
  else some (.inl (0,((s3.1.1,(s3.1.2.1,(s3.1.2.2.1,()))),())))) qD ((x1.1,((zj x1.2.1 0),(0,()))),())) fun x9=>
 some (x9.2.1.1,(x9.2.1.2.1,()))
theorem zvI (zdO:(Unit)→Option (jI×Unit)) (zcs:(jI×Unit)→Option (qj×Int×Unit)) (Kf:(qN×qj×Unit)→Option (yL×Unit)) (zdP:(qj×yL×Unit)→Option (qj×Int×Unit)) (zct:(qj×Unit)→Option (Bool×Unit)) (a0:(List qN)) (a1:Int):sF Tryz.prog [(15,⟨YL,YM,zdO⟩),(14,⟨Wb,Wc,zcs⟩),(21,⟨VX,VY,Kf⟩),(12,⟨Qw,Qx,zdP⟩),(19,⟨zca,zcb,zct⟩)] zjB (zL []) 30 7 Km Kn (a0,a1,())=zeY zdO zcs Kf zdP zct a0 a1:=by kernel_rfl
def Ju:((List qN)×Int×Unit)→Option (qj×Bool×Unit):=sF Tryz.prog [(15,⟨YL,YM,Ku⟩),(14,⟨Wb,Wc,Xx⟩),(21,⟨VX,VY,Qm⟩),(12,⟨Qw,Qx,Ky⟩),(19,⟨zca,zcb,Vc⟩)] zjB (zL []) 30 7 Km Kn
theorem zqE:Con.Ok Tryz.prog 7 ⟨Km,Kn,Ju⟩:=zy (zf ztu (zf zrK (zf zlW (zf ztR (zf zsh zi))))) zm (by kernel_rfl)
theorem zqF (a0:(List qN)) (a1:Int):Ju (a0,a1,())=zeY Ku Xx Qm Ky Vc a0 a1:=zvI Ku Xx Qm Ky Vc a0 a1
abbrev QM:List VT:=[⟨false,(.list xG)⟩]
abbrev YD:List VT:=[⟨false,.bool⟩]
def zcM:qa:=zT [cdF ja,cdF qM,cdF qL,cdF wI,cdF zE,cdF zY,cdF we,cdF xE,cdF qx,cdF qo,cdF jt] [] [] [] [6]
def YE (zap:(Unit)→Option (Bool×Unit)) (zaq:((List qN)×Int×Unit)→Option (qj×Bool×Unit)) (a0:(List qN)):Option (Bool×Unit):=
 opt (zap ()) fun x0=>
 bif !x0.1 then some (false,())
 else opt (zaq (a0,(60,()))) fun x1=>
  some (x1.2.1,())
theorem znD (zap:(Unit)→Option (Bool×Unit)) (zaq:((List qN)×Int×Unit)→Option (qj×Bool×Unit)) (a0:(List qN)):sF Tryz.prog [(6,⟨Kk,Kl,zap⟩),(7,⟨Km,Kn,zaq⟩)] zcM (zL []) 30 3 QM YD (a0,())=YE zap zaq a0:=by kernel_rfl
end Go.Proofs.YtleloebnggepoaaGreat.sg
namespace Go.Fz.Sy
theorem Jc {α:Type} {l:List α} {z:Int} {Q:α→Prop} (h0:0≤z) (h1:z < l.length) (hq:∀x,l[z.toNat]?=some x→Q x):qu (atI l z) Q:=by
 obtain ⟨x,e,e2⟩:=zGv h0 h1
 exact ⟨x,e,hq x e2⟩
theorem Jd {α:Type} {l:List α} {i:Nat} {Q:α→Prop} (h1:i < l.length) (hq:∀x,l[i]?=some x→Q x):qu (gl l i) Q:=by
 have hx:l[i]?=some l[i]:=List.getElem?_eq_getElem h1
 exact ⟨l[i],by rw [uT,hx],hq _ hx⟩
def Nxt {X S:Type} (J:X→Prop) (I:S→Prop) (r:X ⊕ S):Prop:=(∀x,r=.inl x→J x)∧∀s',r=.inr s'→I s'
theorem zD {X S:Type} {J:X→Prop} {I:S→Prop} {x:X} (h:J x):Nxt J I (.inl x:X ⊕ S):=⟨fun y e=>by cases e;exact h,fun s' e=>by cases e⟩
theorem qR {X S:Type} {J:X→Prop} {I:S→Prop} {s:S} (h:I s):Nxt J I (.inr s:X ⊕ S):=⟨fun y e=>by (cases e),fun s' e=>by cases e;exact h⟩
theorem qt {X S:Type} {B:S→Option (X ⊕ S)} {s:S} {J:X→Prop} (n:Nat) (I:Nat→S→Prop) (hn:n < 1180591620717411303424) (h0:I 0 s)
  (h:∀i s,i < n→I i s→qu (B s) (Nxt J (I (i+1)))) (he:∀s,I n s→qu (B s) (Nxt J fun _=>False)):qu (qh B qD s) J:=by
 have key:∀(k i N:Nat) (s:S),i+k=n→k < N→I i s→qu (qh B N s) J:=by
  intro k
  induction k with
  |zero=>
   intro i N s hi hN hI
   obtain ⟨N,rfl⟩:∃M,N=M+1:=⟨N - 1,by omega⟩
   have hi':i=n:=by omega
   obtain ⟨r,e,h1,h2⟩:=he s (hi'▸hI)
   rw [UY,e]
   cases r with
   |inl x=>exact ⟨x,rfl,h1 x rfl⟩
   |inr s'=>exact (h2 s' rfl).elim
  |succ k ih=>
   intro i N s hi hN hI
   obtain ⟨N,rfl⟩:∃M,N=M+1:=⟨N - 1,by omega⟩
   obtain ⟨r,e,h1,h2⟩:=h i s (by omega) hI
   rw [UY,e]
   cases r with
   |inl x=>exact ⟨x,rfl,h1 x rfl⟩
   |inr s'=>exact ih (i+1) N s' (by omega) (by omega) (h2 s' rfl)
 exact key n 0 qD s (by omega) (Nat.lt_of_lt_of_le hn zFz) h0
noncomputable def tv (p:Prop):Bool:=@decide p (Classical.propDecidable p)
theorem zxY {p:Prop}:tv p=true↔p:=@decide_eq_true_iff p (Classical.propDecidable p)
theorem zM {p:Prop} (h:p):tv p=true:=zxY.2 h
theorem qn {p:Prop} (h:¬p):tv p=false:=by
 cases e:tv p with
 |false=>rfl
 |true=>exact absurd (zxY.1 e) h
theorem zGy {p:Prop} [inst:Decidable p]:tv p=decide p:=by
 by_cases h:p
 ·rw [zM h,decide_eq_true h]
 ·rw [qn h,decide_eq_false h]
theorem JO {o:Option (Bool×Unit)} {p:Prop} (h:qu o fun r=>(r.1=true↔p)):o=some (tv p,()):=by
 obtain ⟨⟨b,⟨⟩⟩,e,h⟩:=h
 rw [e]
 by_cases hp:p
 ·rw [zM hp,show b=true from h.2 hp]
 ·rw [qn hp]
  cases b with
  |false=>rfl
  |true=>exact absurd (h.1 rfl) hp
theorem kO {α:Type} {o:Option (α×Unit)} {v:α} (h:qu o fun r=>r.1=v):o=some (v,()):=by
 obtain ⟨⟨b,⟨⟩⟩,e,rfl⟩:=h
 exact e
theorem xT {α:Type} {o:Option α} {a:α} {Q:α→Prop} (e:o=some a) (h:Q a):qu o Q:=⟨a,e,h⟩
theorem zxZ {n:Nat} (h:n≤1000000000000000000):n < 1180591620717411303424:=by omega
theorem qO {i:Nat} (h:i≤1000000000000000000):wrF .i64 ((i:Int)+1)=((i+1:Nat):Int):=by rw [qT]<;>omega
theorem qq {a b:Int} (h:a < b):zt a b=true:=by rw [uY];exact decide_eq_true h
theorem zZ {a b:Int} (h:¬a < b):zt a b=false:=by rw [uY];exact decide_eq_false h
theorem wc {a b:Int} (h:a=b):zj a b=true:=by rw [wo,h];simp
theorem jg {a b:Int} (h:a≠b):zj a b=false:=by rw [wo];simp [h]
theorem yn {a b:Int} (h:zt a b=true):a < b:=by rw [uY] at h;exact of_decide_eq_true h
theorem wG {a b:Int} (h:zt a b=false):b≤a:=by rw [uY] at h;have:=of_decide_eq_false h;omega
theorem jo {a b:Int} (h:zj a b=true):a=b:=by rw [wo] at h;exact eq_of_beq h
theorem jG {a b:Int} (h:zj a b=false):a≠b:=by rw [wo] at h;intro e;subst e;simp at h
theorem zjC (a b:Int):WK a b=max a b:=by
 unfold WK
 rw [uY]
 by_cases h:a < b
 ·rw [decide_eq_true h,cond_true];omega
 ·rw [decide_eq_false h,cond_false];omega
theorem ztU (a b:Int):VI a b=min a b:=by
 unfold VI
 rw [uY]
 by_cases h:b < a
 ·rw [decide_eq_true h,cond_true];omega
 ·rw [decide_eq_false h,cond_false];omega
theorem zh {α:Type} {b:Bool} {x y:Option α} {Q:α→Prop} (hb:b=true) (h:qu x Q):qu (bif b then x else y) Q:=by subst hb;exact h
theorem zg {α:Type} {b:Bool} {x y:Option α} {Q:α→Prop} (hb:b=false) (h:qu y Q):qu (bif b then x else y) Q:=by subst hb;exact h
theorem uC {X V:Type} {B:((V×(Int×Unit))×Unit)→Option (X ⊕ ((V×(Int×Unit))×Unit))} {v:V} {J:X→Prop} (n:Nat) (P:Nat→Prop) (hn:n≤1000000000000000000)
  (h:∀i,i < n→(∀k,k < i→P k)→qu (B ((v,((i:Int),())),())) (Nxt J fun s=>s=((v,(((i+1:Nat):Int),())),())∧P i))
  (he:(∀k,k < n→P k)→qu (B ((v,((n:Int),())),())) (Nxt J fun _=>False)):qu (qh B qD ((v,(0,())),())) J:=by
 refine qt n (fun i s=>s=((v,((i:Int),())),())∧∀k,k < i→P k) (zxZ hn) ⟨rfl,fun k hk=>by omega⟩ ?_ ?_
 ·rintro i _ hi ⟨rfl,hp⟩
  obtain ⟨r,e,h1,h2⟩:=h i hi hp
  refine ⟨r,e,h1,fun s' hs=>?_⟩
  obtain ⟨h3,h4⟩:=h2 s' hs
  refine ⟨h3,fun k hk=>?_⟩
  rcases Nat.lt_or_ge k i with hk' | hk'
  ·exact hp k hk'
  ·have:k=i:=by omega
   exact this▸h4
 ·rintro _ ⟨rfl,hp⟩
  exact he hp
theorem gN {X V:Type} {v:V} {i:Nat} {J:X→Prop} {p:Prop} (hi:i≤1000000000000000000) (hp:p):Nxt J (fun s=>s=((v,(((i+1:Nat):Int),())),())∧p) (.inr ((v,(wrF .i64 ((i:Int)+1),())),())):=qR ⟨by rw [qO hi],hp⟩
theorem zdN {p:Prop} (h:tv p=true):p:=zxY.1 h
theorem GY {p:Prop} (h:tv p=false):¬p:=fun hp=>by rw [zM hp] at h;cases h
theorem Kz {p:Prop} (h:(!tv p)=true):¬p:=GY (by simpa using h)
theorem GZ {p:Prop} (h:(!tv p)=false):p:=zdN (by simpa using h)
theorem zjD {α:Type} (l:List α) (lo hi mx:Option Int) (h p:Nat) (h1:hiI l.length hi=some h) (h2:loI h lo=some p) (h3:mxI h mx=true):ue l lo hi mx=some ((l.take h).drop p):=by
 unfold ue
 simp only [h1,h2,h3,cond_true]
theorem zov {n q:Nat} (h:q≤n):hiI n (some (q:Int))=some q:=by
 show (bif Nat.ble q n then some q else none)=_
 rw [Nat.ble_eq_true_of_le h];rfl
theorem zzo {n q:Nat} (h:q≤n):loI n (some (q:Int))=some q:=by
 show (bif Nat.ble q n then some q else none)=_
 rw [Nat.ble_eq_true_of_le h];rfl
theorem ztV (n:Nat):mxI n (some (n:Int))=true:=by
 show Nat.beq n n=true
 exact Nat.beq_refl n
theorem zx0 {α:Type} (l:List α):ue l none (some ((l.length:Nat):Int)) (some ((l.length:Nat):Int))=some l:=by
 rw [zjD l _ _ _ l.length 0 (zov (Nat.le_refl _)) rfl (ztV _)];simp
theorem zep {α:Type} (l:List α) (n:Nat) (h:n≤l.length):ue l (some (n:Int)) none none=some (l.drop n):=by
 rw [zjD l _ _ _ l.length n rfl (zzo h) rfl];simp
theorem zzp {α:Type} (l:List α) (n:Nat) (h:n≤l.length):ue l none (some (n:Int)) none=some (l.take n):=by
 rw [zjD l _ _ _ n 0 (zov h) rfl rfl];simp
theorem zkW {α:Type} (l:List α) (n:Nat) (h:n≤l.length):ue l none (some (n:Int)) (some (n:Int))=some (l.take n):=by
 rw [zjD l _ _ _ n 0 (zov h) rfl (ztV _)];simp
theorem zEc {α:Type} (l:List α) (m n:Nat) (h:n≤l.length) (h2:m≤n):ue l (some (m:Int)) (some (n:Int)) (some (n:Int))=some ((l.take n).drop m):=by
 rw [zjD l _ _ _ n m (zov h) (zzo h2) (ztV _)]
theorem ztW {a b:Int} {k:Nat} (h0:0≤a) (h1:a≤b) (h2:(k:Int)*b≤281474976710656):zpU a b k=true:=by
 unfold zpU;rw [zZ (by omega),zZ (by omega),zZ (by omega)];rfl
theorem Qo {n m k:Nat} (h:(n+m)*k≤140737488355328) (h2:n+m≤9223372036854775807):xj n m k=true:=by
 unfold xj maxLen
 rw [Nat.ble_eq_true_of_le (by omega),Nat.ble_eq_true_of_le h];rfl
end Go.Fz.Sy
namespace Go.Proofs.YtleloebnggepoaaGreat.sg
open Go Go.Fz Go.Fz.Sy
abbrev Vd:=Int×Int×Int×Int
abbrev je:=Int×List Bool×List Vd
def uW (t:je) (n:Int):Prop:=0≤n∧n < t.1
def stn (t:je) (n:Int):Bool:=(t.2.1[n.toNat]?).getD false
def zqG (t:je) (l:Vd):Prop:=uW t l.1∧uW t l.2.1∧l.1≠l.2.1∧¬(stn t l.1=true∧stn t l.2.1=true)∧1≤l.2.2.1∧l.2.2.1≤1000∧0≤l.2.2.2∧l.2.2.2≤10000
def zcc (o:Vd) (a b:Int):Prop:=(o.1=a∧o.2.1=b)∨(o.1=b∧o.2.1=a)
structure szP (t:je):Prop where
 n0:2≤t.1
 n1:t.1≤12
 st:(t.2.1.length:Int)=t.1
 ls:t.2.2.length≤24
def zkX (t:je):Prop:=∀(i:Nat) l,t.2.2[i]?=some l→zqG t l∧∀(k:Nat) o,k < i→t.2.2[k]?=some o→¬zcc o l.1 l.2.1
def one (a:Int) (n:Nat):Int:=if a=(n:Int) then 1 else 0
def cnt (ls:List Vd) (n:Nat):Int:=(ls.map fun l=>one l.1 n+one l.2.1 n).sum
def stp (r:List Bool) (l:Vd):List Bool:=bif (r[l.1.toNat]?).getD false||(r[l.2.1.toNat]?).getD false then (r.set l.1.toNat true).set l.2.1.toNat true else r
def ziI (ls:List Vd):Nat→List Bool→List Bool
 |0,r=>r
 |n+1,r=>ziI ls n (ls.foldl stp r)
def reachS (t:je) (a:Nat):List Bool:=ziI t.2.2 t.1.toNat ((List.replicate t.1.toNat false).set a true)
structure vM (t:je):Prop where
 sz:szP t
 ls:zkX t
 re:∀(n:Nat),(n:Int) < t.1→(reachS t 0)[n]?=some true
 ct:∀(n:Nat),(n:Int) < t.1→stn t n=true→1≤cnt t.2.2 n∧cnt t.2.2 n≤2
theorem zGz {t:je} {n:Nat} {b:Bool} (h:t.2.1[n]?=some b):stn t n=b:=by unfold stn;simp [h]
theorem ztX {t:je} {n:Int} {b:Bool} (h:t.2.1[n.toNat]?=some b):stn t n=b:=by unfold stn;simp [h]
theorem zlu (t:je) (n:Int):Kx (t,n,())=some (tv (uW t n),()):=by
 rw [ztx];unfold zit uW
 refine JO ?_
 refine zr (fun h=>?_) (fun h=>?_)<;>refine zd ?_<;>simp only [uY] at *<;>grind
theorem uW.lt {t:je} {n:Int} (h:uW t n) (hs:szP t):n.toNat < t.2.1.length:=by
 have:=hs.st;have:=h.1;have:=h.2;omega
theorem zFB (r:List Bool) (l:Vd):(stp r l).length=r.length:=by
 unfold stp
 cases (r[l.1.toNat]?).getD false||(r[l.2.1.toNat]?).getD false<;>simp
theorem zx1 (ls:List Vd):∀r:List Bool,(ls.foldl stp r).length=r.length:=by
 induction ls with
 |nil=>intro r;rfl
 |cons l ls ih=>intro r;rw [List.foldl_cons,ih,zFB]
theorem zqH (ls:List Vd):∀(n:Nat) (r:List Bool),(ziI ls n r).length=r.length
 |0,r=>rfl
 |n+1,r=>by rw [ziI,zqH ls n,zx1]
theorem zu1 (ls:List Vd):∀(n:Nat) (r:List Bool),ziI ls (n+1) r=ls.foldl stp (ziI ls n r)
 |0,r=>rfl
 |n+1,r=>by rw [ziI,zu1 ls n,ziI]
def Wq (t:je) (i:Nat):List Int:=(List.range t.1.toNat).map (cnt (t.2.2.take i))
theorem zCe (a:Int) (n:Nat):0≤one a n∧one a n≤1:=by unfold one;split<;>omega
theorem zCf (ls:List Vd) (n:Nat):0≤cnt ls n∧cnt ls n≤2*ls.length:=by
 unfold cnt
 induction ls with
 |nil=>simp
 |cons l ls ih=>
  have:=zCe l.1 n;have:=zCe l.2.1 n
  simp only [List.map_cons,List.sum_cons,List.length_cons]
  omega
theorem zEd {ls:List Vd} {i:Nat} {l:Vd} (h:ls[i]?=some l) (n:Nat):cnt (ls.take (i+1)) n=cnt (ls.take i) n+(one l.1 n+one l.2.1 n):=by
 unfold cnt
 rw [List.take_add_one,h];simp
theorem zaS (t:je) (i:Nat):(Wq t i).length=t.1.toNat:=by simp [Wq]
theorem zdq {t:je} {i n:Nat} (h:n < t.1.toNat):(Wq t i)[n]?=some (cnt (t.2.2.take i) n):=by simp [Wq,h]
theorem zCg {t:je} {i:Nat} {l:Vd} (h:t.2.2[i]?=some l) (hl:t.2.2.length≤24) (ha:uW t l.1) (hb:uW t l.2.1) (hab:l.1≠l.2.1) {u v:Int}
  (hu:(Wq t i)[l.1.toNat]?=some u) (hv:((Wq t i).set l.1.toNat (wrF .i64 (u+1)))[l.2.1.toNat]?=some v) :
  ((Wq t i).set l.1.toNat (wrF .i64 (u+1))).set l.2.1.toNat (wrF .i64 (v+1))=Wq t (i+1):=by
 obtain ⟨a0,a1⟩:=ha;obtain ⟨b0,b1⟩:=hb
 have hne:l.1.toNat≠l.2.1.toNat:=by omega
 rw [zdq (by omega)] at hu
 rw [List.getElem?_set_ne hne,zdq (by omega)] at hv
 have hu:=Option.some.inj hu;have hv:=Option.some.inj hv
 have k1:=zCf (t.2.2.take i) l.1.toNat;have k2:=zCf (t.2.2.take i) l.2.1.toNat
 have k3:(t.2.2.take i).length≤24:=by simp;omega
 rw [qT (by omega) (by omega),qT (by omega) (by omega)]
 apply List.ext_getElem?
 intro n
 by_cases hn:n < t.1.toNat
 ·rw [zdq hn,zEd h,List.getElem?_set,List.getElem?_set,zdq hn]
  unfold one
  simp only [List.length_set,zaS]
  grind
 ·rw [List.getElem?_eq_none (by simp [zaS];omega),List.getElem?_eq_none (by simp [zaS];omega)]
theorem zGA (t:je):List.replicate t.1.toNat (0:Int)=Wq t 0:=by
 apply List.ext_getElem?
 intro n
 by_cases hn:n < t.1.toNat
 ·rw [zdq hn];simp [hn,cnt]
 ·rw [List.getElem?_eq_none (by simp;omega),List.getElem?_eq_none (by simp [zaS];omega)]
theorem zEe (t:je) {n:Nat} (h:n < t.1.toNat):(Wq t t.2.2.length)[n]?=some (cnt t.2.2 n):=by rw [zdq h,List.take_length]
theorem zqG.nodes {t:je} {l:Vd} (h:zqG t l):uW t l.1∧uW t l.2.1:=⟨h.1,h.2.1⟩
theorem zyV {t:je} (h:¬szP t):¬vM t:=fun h'=>h h'.sz
theorem zyW {t:je} (h:¬zkX t):¬vM t:=fun h'=>h h'.ls
def chk (t:je) (i:Nat) (l:Vd) (c:Nat):Prop:=match c with
 |0=>uW t l.1∧uW t l.2.1∧l.1≠l.2.1
 |1=>¬(stn t l.1=true∧stn t l.2.1=true)
 |2=>∀(k:Nat) o,k < i→t.2.2[k]?=some o→¬zcc o l.1 l.2.1
 |_=>1≤l.2.2.1∧l.2.2.1≤1000∧0≤l.2.2.2∧l.2.2.2≤10000
theorem ztY {t:je} (hs:szP t):Xu (t,())=some (tv (zkX t),()):=by
 have n0:=hs.n0;have n1:=hs.n1;have h3:=hs.ls;have h4:=hs.st
 rw [zrG];unfold zgo
 refine JO (zp (J:=fun x=>(x.1=0∧zkX t)∨(x.1=1∧x.2.1.1=false∧¬zkX t))
  (uC t.2.2.length (fun i=>∀l,t.2.2[i]?=some l→zqG t l∧∀(k:Nat) o,k < i→t.2.2[k]?=some o→¬zcc o l.1 l.2.1) (by omega) ?_ ?_) ?_)
 ·intro i hi hp
  have hx:t.2.2[i]?=some t.2.2[i]:=List.getElem?_eq_getElem hi
  generalize hgl:t.2.2[i]=l at hx
  refine zh (qq (show (i:Int) < (t.2.2.length:Int) by omega)) ?_
  refine zp (J:=fun x=>(x.1=0∧x.2.1.1=false∧∀c,c < 4→chk t i l c)∨(x.1=1∧x.2.1.1=false∧∃c,¬chk t i l c)) (uC 4 (chk t i l) (by omega) ?_ ?_) ?_
  ·intro c hc hpc
   refine zh (qq (show (c:Int) < 4 by omega)) ?_
   have:c=0∨c=1∨c=2∨c=3:=by omega
   rcases this with rfl | rfl | rfl | rfl
   ·refine zh (wc rfl) (zn (zQ (n:=i) hx ?_))
    rw [zlu]
    refine zr (fun h1=>?_) (fun h1=>?_)
    ·rw [zlu]
     refine zr (fun h2=>?_) (fun h2=>?_)
     ·refine zr (fun h=>?_) (fun h=>?_)
      ·have:=jo (show zj l.1 l.2.1=true by simpa using h)
       exact zd (zD (.inr ⟨rfl,rfl,0,fun hq=>hq.2.2 this⟩))
      ·have:=jG (show zj l.1 l.2.1=false by simpa using h)
       exact zd (gN (by omega) ⟨zdN h1,zdN h2,this⟩)
     ·exact zd (zD (.inr ⟨rfl,rfl,0,fun hq=>GY h2 hq.2.1⟩))
    ·exact zd (zD (.inr ⟨rfl,rfl,0,fun hq=>GY h1 hq.1⟩))
   ·obtain ⟨⟨a0,a1⟩,⟨b0,b1⟩,hab⟩:=hpc 0 (by omega)
    refine zg rfl (zh (wc rfl) (zn (zQ (n:=i) hx ?_)))
    refine zn (Jc a0 (by show l.1 < _;omega) fun x hx1=>?_)
    have e1:=ztX hx1
    refine zr (fun h1=>?_) (fun h1=>?_)
    ·exact zd (gN (by omega) (by show ¬_;grind))
    ·refine zn (Jc b0 (by show l.2.1 < _;omega) fun y hy1=>?_)
     have e2:=ztX hy1
     refine zr (fun h2=>?_) (fun h2=>?_)
     ·exact zd (zD (.inr ⟨rfl,rfl,1,fun hq=>hq (by grind)⟩))
     ·exact zd (gN (by omega) (by show ¬_;grind))
   ·refine zg rfl (zg rfl (zh (wc rfl) (zn (zQ (n:=i) hx ?_))))
    refine zn (xT (zzp t.2.2 i (by omega)) ?_)
    have lt:(t.2.2.take i).length=i:=by simp;omega
    refine zp (J:=fun x=>(x.1=0∧∀(k:Nat) o,k < i→t.2.2[k]?=some o→¬zcc o l.1 l.2.1)∨(x.1=1∧x.2.1.1=false∧∃(k:Nat) (o:Vd),k < i∧t.2.2[k]?=some o∧zcc o l.1 l.2.1))
     (uC i (fun k=>∀o,t.2.2[k]?=some o→¬zcc o l.1 l.2.1) (by omega) ?_ ?_) ?_
    ·intro k hk hpk
     have hy:t.2.2[k]?=some t.2.2[k]:=List.getElem?_eq_getElem (by omega)
     have hy':(t.2.2.take i)[k]?=some t.2.2[k]:=by rw [List.getElem?_take];simp [hk,hy]
     generalize hgo:t.2.2[k]=o at hy hy'
     refine zh (qq (show (k:Int) < (((t.2.2.take i).length:Nat):Int) by omega)) (zn (zQ (n:=k) hy' ?_))
     refine zp (J:=fun x=>(x.1=0∧x.2.1.1=false∧¬zcc o l.1 l.2.1)∨(x.1=1∧x.2.1.1=false∧zcc o l.1 l.2.1)) ?_ ?_
     ·unfold zcc
      repeat' first | refine zr (fun h=>?_) (fun h=>?_) | refine zd ?_
      all_goals simp only [wo] at *
      all_goals grind
     ·rintro ⟨j,⟨v,⟨⟩⟩,⟨⟩⟩ (⟨rfl,rfl,hq⟩ | ⟨rfl,rfl,hq⟩)
      ·exact zh rfl (zd (gN (by omega) fun o' ho=>by rw [hy] at ho;cases ho;exact hq))
      ·exact zg rfl (zd (zD (.inr ⟨rfl,rfl,k,o,hk,hy,hq⟩)))
    ·intro hpk
     exact zg (zZ (show ¬(i:Int) < (((t.2.2.take i).length:Nat):Int) by omega)) (zd (zD (.inl ⟨rfl,fun k' o hk'=>hpk k' hk' o⟩)))
    ·rintro ⟨j,⟨v,w,⟨⟩⟩,⟨⟩⟩ (⟨rfl,hq⟩ | ⟨rfl,rfl,k,o,hk,ho,hj⟩)
     ·exact zh rfl (zd (gN (by omega) hq))
     ·exact zg rfl (zh rfl (zd (zD (.inr ⟨rfl,rfl,2,fun hq=>hq k o hk ho hj⟩))))
   ·refine zg rfl (zg rfl (zg rfl (zh (wc rfl) (zn (zQ (n:=i) hx ?_)))))
    refine zr (fun h1=>?_) (fun h1=>?_)
    ·refine zr (fun h2=>?_) (fun h2=>?_)
     ·refine zr (fun h3=>?_) (fun h3=>?_)
      ·refine zr (fun h4=>?_) (fun h4=>?_)
       ·have:=yn (show zt 10000 l.2.2.2=true by simpa using h4)
        exact zd (zD (.inr ⟨rfl,rfl,3,fun hq=>by have:=hq.2.2.2;omega⟩))
       ·have:=wG (show zt l.2.2.1 1=false by simpa using h1)
        have:=wG (show zt 1000 l.2.2.1=false by simpa using h2)
        have:=wG (show zt l.2.2.2 0=false by simpa using h3)
        have:=wG (show zt 10000 l.2.2.2=false by simpa using h4)
        exact zd (gN (by omega) ⟨by omega,by omega,by omega,by omega⟩)
      ·have:=yn (show zt l.2.2.2 0=true by simpa using h3)
       exact zd (zD (.inr ⟨rfl,rfl,3,fun hq=>by have:=hq.2.2.1;omega⟩))
     ·have:=yn (show zt 1000 l.2.2.1=true by simpa using h2)
      exact zd (zD (.inr ⟨rfl,rfl,3,fun hq=>by have:=hq.2.1;omega⟩))
    ·have:=yn (show zt l.2.2.1 1=true by simpa using h1)
     exact zd (zD (.inr ⟨rfl,rfl,3,fun hq=>by have:=hq.1;omega⟩))
  ·intro hpc
   exact zg (zZ (show ¬((4:Nat):Int) < 4 by omega)) (zd (zD (.inl ⟨rfl,rfl,hpc⟩)))
  ·rintro ⟨j,⟨v,w,⟨⟩⟩,⟨⟩⟩ (⟨rfl,rfl,hq⟩ | ⟨rfl,rfl,c,hq⟩)
   ·obtain ⟨c0,c0',c0''⟩:=hq 0 (by omega)
    have c1:=hq 1 (by omega);have c2:=hq 2 (by omega)
    obtain ⟨d1,d2,d3,d4⟩:=hq 3 (by omega)
    exact zh rfl (zd (gN (by omega) fun l' hl'=>by rw [hx] at hl';cases hl';exact ⟨⟨c0,c0',c0'',c1,d1,d2,d3,d4⟩,c2⟩))
   ·refine zg rfl (zd (zD (.inr ⟨rfl,rfl,fun ht=>hq ?_⟩)))
    obtain ⟨⟨c0,c0',c0'',c1,d1,d2,d3,d4⟩,c2⟩:=ht i l hx
    unfold chk
    split
    ·exact ⟨c0,c0',c0''⟩
    ·exact c1
    ·exact c2
    ·exact ⟨d1,d2,d3,d4⟩
 ·intro hp
  exact zg (zZ (show ¬(t.2.2.length:Int) < (t.2.2.length:Int) by omega)) (zd (zD (.inl ⟨rfl,fun i l hl=>hp i (by grind) l hl⟩)))
 ·rintro ⟨j,⟨v,w,⟨⟩⟩,⟨⟩⟩ (⟨rfl,hq⟩ | ⟨rfl,rfl,hq⟩)
  ·exact zh rfl (zd ⟨fun _=>hq,fun _=>rfl⟩)
  ·exact zg rfl (zd ⟨fun h=>(by cases h),fun h=>absurd h hq⟩)
abbrev zHi:Bool×Bool×Bool×Bool×Bool×Bool×Bool×Bool×Bool×Bool×Bool×Bool×Bool×Bool×Bool×Bool×Bool×Bool×Bool×Bool×Bool×Bool×Bool×Bool:=(false,(false,(false,(false,(false,(false,(false,(false,(false,(false,(false,(false,(false,(false,(false,(false,(false,(false,(false,(false,(false,(false,(false,false)))))))))))))))))))))))
noncomputable def zER (q:List Bool) (x4:Vd):Option (Nat×(Unit×(List Bool×Unit))):=opt (atI q x4.1) fun x5=>
 opt (gl q (Int.toNat x4.1)) fun x6=>
 opt (atI q x4.2.1) fun x7=>
 opt (gl q (Int.toNat x4.2.1)) fun x8=>
 bif (!(x6 == x8)) then opt (atI q x4.1) fun x9=>
  opt (gl q (Int.toNat x4.1)) fun x10=>
  opt (atI (q.set (Int.toNat x4.1) true) x4.2.1) fun x11=>
  opt (gl (q.set (Int.toNat x4.1) true) (Int.toNat x4.2.1)) fun x12=>
  some (0,((),(((q.set (Int.toNat x4.1) true).set (Int.toNat x4.2.1) true),())))
 else some (0,((),(q,())))
theorem zFC {q:List Bool} {l:Vd} {n:Nat} (hq:q.length=n) (a0:0≤l.1) (a1:l.1 < n) (b0:0≤l.2.1) (b1:l.2.1 < n):qu (zER q l) fun x=>x.2.2.1=stp q l:=by
 unfold zER
 refine zn (Jc a0 (by omega) fun _ _=>zn (Jd (by omega) fun x hx=>zn (Jc b0 (by omega) fun _ _=>zn (Jd (by omega) fun y hy=>?_))))
 refine zr (fun h=>?_) (fun h=>?_)
 ·refine zn (Jc a0 (by omega) fun _ _=>zn (Jd (by omega) fun _ _=>?_))
  refine zn (Jc b0 (by simp;omega) fun _ _=>zn (Jd (by simp;omega) fun _ _=>?_))
  refine zd ?_
  show _=stp q l
  unfold stp
  rw [hx,hy]
  cases x<;>cases y<;>simp at h ⊢
 ·refine zd ?_
  show q=stp q l
  unfold stp
  rw [hx,hy]
  cases x<;>cases y<;>simp at h ⊢
  apply List.ext_getElem?
  intro k
  simp only [List.getElem?_set]
  grind
theorem ztZ {t:je} (hs:szP t) (hl:∀(i:Nat) l,t.2.2[i]?=some l→uW t l.1∧uW t l.2.1):Wa (t,0,zHi,())=some (reachS t 0,()):=by
 have h0:=hs.n0;have h1:=hs.n1;have h3:=hs.ls;have h4:=hs.st
 have e1:t.1.toNat=t.2.1.length:=by omega
 rw [zrI];unfold zgp
 refine kO ?_
 refine zh (ztW (by omega) (by omega) (by omega)) ?_
 refine zn (Jc (by omega) (by simp;omega) fun _ _=>zn (Jd (by simp;omega) fun _ _=>?_))
 refine zp (J:=fun x=>x.2.2.1=reachS t 0) (qt t.1.toNat (fun i s=>s=(((i:Int),()),(ziI t.2.2 i ((List.replicate t.1.toNat false).set 0 true),()))) (by omega) rfl ?_ ?_) ?_
 ·rintro i _ hi rfl
  refine zh (qq (show (i:Int) < _ by omega)) ?_
  generalize hr:ziI t.2.2 i ((List.replicate t.1.toNat false).set 0 true)=r
  have hrl:r.length=t.1.toNat:=by rw [←hr,zqH];simp
  refine zp (J:=fun x=>x.2.2.1=t.2.2.foldl stp r) (qt t.2.2.length (fun i s=>s=(((i:Int),()),((t.2.2.take i).foldl stp r,()))) (by omega) rfl ?_ ?_) ?_
  ·rintro k _ hk rfl
   refine zh (qq (show (k:Int) < _ by omega)) ?_
   have hx:t.2.2[k]?=some t.2.2[k]:=List.getElem?_eq_getElem hk
   obtain ⟨⟨a0,a1⟩,⟨b0,b1⟩⟩:=hl k _ hx
   have hnx:(t.2.2.take (k+1)).foldl stp r=stp ((t.2.2.take k).foldl stp r) t.2.2[k]:=by
    rw [List.take_add_one,hx,List.foldl_append];rfl
   have hlen:((t.2.2.take k).foldl stp r).length=t.1.toNat:=by rw [zx1,hrl]
   generalize (t.2.2.take k).foldl stp r=q at hnx hlen
   generalize t.2.2[k]=l at hx hnx a0 a1 b0 b1
   refine zn (zQ (n:=k) hx ?_)
   have key:=zFC hlen a0 (show l.1 < (t.1.toNat:Nat) by omega) b0 (show l.2.1 < (t.1.toNat:Nat) by omega)
   refine zp (J:=fun x=>x.2.2.1=stp q l) ?_ ?_
   ·rcases (by omega:k=0∨k=1∨k=2∨k=3∨k=4∨k=5∨k=6∨k=7∨k=8∨k=9∨k=10∨k=11∨k=12∨k=13∨k=14∨k=15∨k=16∨k=17∨k=18∨k=19∨k=20∨k=21∨k=22∨k=23) with rfl | rfl | rfl | rfl | rfl | rfl | rfl | rfl | rfl | rfl | rfl | rfl | rfl | rfl | rfl | rfl | rfl | rfl | rfl | rfl | rfl | rfl | rfl | rfl
    all_goals exact key
   ·rintro ⟨j,⟨⟩,q',⟨⟩⟩ hq
    refine zd (qR ?_)
    simp only at hq
    rw [hnx,←hq]
    exact congrArg (fun z=>(((z,()),(q',())):(Int×Unit)×(List Bool×Unit))) (qO (by omega))
  ·rintro _ rfl
   refine zg (zZ (show ¬(t.2.2.length:Int) < _ by omega)) (zd (zD ?_))
   simp
  ·rintro ⟨j,⟨z,⟨⟩⟩,q',⟨⟩⟩ hq
   refine zd (qR ?_)
   simp only at hq
   rw [zu1,hr,←hq]
   exact congrArg (fun z=>(((z,()),(q',())):(Int×Unit)×(List Bool×Unit))) (qO (by omega))
 ·rintro _ rfl
  exact zg (zZ (show ¬((t.1.toNat:Nat):Int) < _ by omega)) (zd (zD rfl))
 ·rintro ⟨j,⟨z,⟨⟩⟩,q',⟨⟩⟩ hq
  exact zd hq
theorem zdr {l:List Bool} (hn:l.length≤1000000000000000000) (b:Bool):qu (xr (l,b,())) fun r=>(0≤r.1∧b∈l)∨(r.1 = -1∧¬b∈l):=by
 rw [zcv];unfold Jq
 refine zp (J:=fun x=>(x.1=0∧¬b∈l)∨(x.1=1∧0≤x.2.1.1∧b∈l)) (uC l.length (fun i=>l[i]?≠some b) hn ?_ ?_) ?_
 ·intro i hi hp
  have hx:l[i]?=some l[i]:=List.getElem?_eq_getElem hi
  refine zh (qq (show (i:Int) < (l.length:Int) by omega)) (zn (zQ (n:=i) hx (zr (fun h=>?_) (fun h=>?_))))
  ·have:b=l[i]:=eq_of_beq h
   exact zd (zD (.inr ⟨rfl,by show (0:Int)≤(i:Int);omega,by rw [this];exact List.getElem_mem hi⟩))
  ·exact zd (gN (by omega) (by rw [hx];intro e;cases e;simp at h))
 ·intro hp
  refine zg (zZ (show ¬(l.length:Int) < (l.length:Int) by omega)) (zd (zD (.inl ⟨rfl,fun hm=>?_⟩)))
  obtain ⟨k,hk⟩:=List.getElem?_of_mem hm
  exact hp k (by grind) hk
 ·rintro ⟨j,⟨v,w,⟨⟩⟩,⟨⟩⟩ (⟨rfl,hp⟩ | ⟨rfl,h0,hp⟩)
  ·exact zh rfl (zd (.inr ⟨rfl,hp⟩))
  ·exact zg rfl (zd (.inl ⟨h0,hp⟩))
theorem zbp {l:List Bool} (hn:l.length≤1000000000000000000) (b:Bool):yF (l,b,())=some (tv (b∈l),()):=by
 rw [zaD];unfold ZJ
 refine JO (zp (zdr hn b) ?_)
 rintro ⟨v,⟨⟩⟩ (⟨h,hm⟩ | ⟨rfl,hm⟩)
 ·refine zd ⟨fun _=>hm,fun _=>?_⟩
  show (!zt v 0)=true
  rw [zZ (by simp only at h;omega)];rfl
 ·exact zd ⟨fun h=>(by cases h),fun h=>absurd h hm⟩
theorem JP (t:je):jJ (t,())=some (bif tv (vM t) then 0 else 260,()):=by
 have good:∀{v:Int},vM t→v=0→v=bif tv (vM t) then 0 else 260:=fun h e=>by rw [zM h,e];rfl
 have bad:∀{v:Int},¬vM t→v=260→v=bif tv (vM t) then 0 else 260:=fun h e=>by rw [qn h,e];rfl
 rw [zrJ];unfold zgq
 refine kO (zp (J:=fun x=>(x.1=0∧x.2.1.1=0∧2≤t.1∧t.1≤12∧(t.2.1.length:Int)=t.1)∨(x.1=1∧x.2.1.1=260∧¬szP t)) ?_ ?_)
 ·refine zr (fun h=>zd (.inr ⟨rfl,rfl,fun hs=>?_⟩)) (fun h1=>zr (fun h=>zd (.inr ⟨rfl,rfl,fun hs=>?_⟩)) (fun h2=>zr (fun h=>zd (.inr ⟨rfl,rfl,fun hs=>?_⟩)) (fun h3=>zd (.inl ⟨rfl,rfl,?_⟩))))
  ·have:=yn h;have:=hs.n0;omega
  ·have:=yn h;have:=hs.n1;omega
  ·have:=hs.st;rw [wc this] at h;cases h
  ·have h1:=wG h1;have h2:=wG h2
   exact ⟨h1,h2,jo (by simpa using h3)⟩
 rintro ⟨j,⟨v,⟨⟩⟩,⟨⟩⟩ (⟨rfl,rfl,h1,h2,h3⟩ | ⟨rfl,rfl,hs⟩)
 rotate_left
 ·exact zg rfl (zd (bad (zyV hs) rfl))
 refine zh rfl (zp (J:=fun x=>(x.1=0∧x.2.1.1=0∧szP t∧zkX t)∨(x.1=1∧x.2.1.1=260∧¬vM t)) ?_ ?_)
 ·refine zr (fun h=>zd (.inr ⟨rfl,rfl,fun hs=>?_⟩)) (fun h4=>?_)
  ·have:=yn h;have:=hs.sz.ls;omega
  have h4:=wG h4
  have hs:szP t:=⟨h1,h2,h3,by omega⟩
  rw [ztY hs]
  refine zr (fun h=>?_) (fun h=>?_)
  ·exact zd (.inr ⟨rfl,rfl,zyW (Kz h)⟩)
  ·exact zd (.inl ⟨rfl,rfl,hs,GZ h⟩)
 rintro ⟨j,⟨v,⟨⟩⟩,⟨⟩⟩ (⟨rfl,rfl,hs,hls⟩ | ⟨rfl,rfl,ht⟩)
 rotate_left
 ·exact zg rfl (zd (bad ht rfl))
 have h5:=hs.ls
 refine zh rfl (zh (ztW (by omega) (by omega) (by omega)) ?_)
 refine zp (J:=fun x=>x.2.2.1=Wq t t.2.2.length) (qt t.2.2.length (fun i s=>s=(((i:Int),()),(Wq t i,()))) (by omega) (by rw [zGA];rfl) ?_ ?_) ?_
 ·rintro i _ hi rfl
  have hx:t.2.2[i]?=some t.2.2[i]:=List.getElem?_eq_getElem hi
  refine zh (qq (show (i:Int) < (t.2.2.length:Int) by omega)) (zn (zQ (n:=i) hx ?_))
  generalize t.2.2[i]=l at hx
  have hl:=(hls i l hx).1
  obtain ⟨⟨a0,a1⟩,⟨b0,b1⟩⟩:=hl.nodes
  have lc:=zaS t i
  refine zn (Jc a0 (by show _ < (((Wq t i).length:Nat):Int);omega) fun _ _=>zn (Jd (by show _ < (Wq t i).length;omega) fun u hu=>zn (Jc a0 (by show _ < (((Wq t i).length:Nat):Int);omega) fun _ _=>zn (Jd (by show _ < (Wq t i).length;omega) fun _ _=>?_))))
  refine zn (Jc b0 (by show _ < ((((Wq t i).set _ _).length:Nat):Int);simp;omega) fun _ _=>zn (Jd (by show _ < ((Wq t i).set _ _).length;simp;omega) fun w hw=>zn (Jc b0 (by show _ < ((((Wq t i).set _ _).length:Nat):Int);simp;omega) fun _ _=>zn (Jd (by show _ < ((Wq t i).set _ _).length;simp;omega) fun _ _=>?_))))
  refine zd (qR ?_)
  have e:=zCg hx hs.ls hl.1 hl.2.1 hl.2.2.1 hu hw
  show (((wrF .i64 ((i:Int)+1)),()),((((Wq t i).set l.1.toNat (wrF .i64 (u+1))).set l.2.1.toNat (wrF .i64 (w+1))),()))=_
  rw [e,qO (by omega)]
 ·rintro _ rfl
  exact zg (zZ (show ¬(t.2.2.length:Int) < (t.2.2.length:Int) by omega)) (zd (zD rfl))
 rintro ⟨j,⟨z,⟨⟩⟩,c,⟨⟩⟩ hc
 simp only at hc
 subst hc
 refine zp (J:=fun x=>(x.1=0∧∀(n:Nat),(n:Int) < t.1→stn t n=true→1≤cnt t.2.2 n∧cnt t.2.2 n≤2)∨(x.1=1∧x.2.1.1=260∧¬vM t)) (uC t.2.1.length (fun n=>stn t n=true→1≤cnt t.2.2 n∧cnt t.2.2 n≤2) (by omega) ?_ ?_) ?_
 ·intro n hn hp
  have hst:t.2.1[n]?=some t.2.1[n]:=List.getElem?_eq_getElem (by omega)
  have e1:=zGz hst
  have hn':n < t.1.toNat:=by omega
  have e2:=zEe t hn'
  refine zh (qq (show (n:Int) < (t.2.1.length:Int) by omega)) (zn (zQ (n:=n) hst ?_))
  refine zp (J:=fun x=>(x.1=0∧x.2.1.1=0∧(stn t n=true→1≤cnt t.2.2 n∧cnt t.2.2 n≤2))∨(x.1=1∧x.2.1.1=260∧¬vM t)) (zr (fun h5=>?_) (fun h5=>?_)) ?_
  ·refine zn (zQ (n:=n) e2 (zn (Jd (by show n < _;rw [zaS];exact hn') fun u hu=>?_)))
   have hu:u=cnt t.2.2 n:=by have hu:(Wq t t.2.2.length)[n]?=some u:=hu;rw [e2] at hu;exact (Option.some.inj hu).symm
   subst hu
   refine zr (fun h6=>?_) (fun h6=>?_)
   ·have:=yn h6
    exact zd (.inr ⟨rfl,rfl,fun ht=>by have:=ht.ct n (by omega) (by grind);omega⟩)
   refine zn (zQ (n:=n) e2 (zn (Jd (by show n < _;rw [zaS];exact hn') fun u hu=>?_)))
   have hu:u=cnt t.2.2 n:=by have hu:(Wq t t.2.2.length)[n]?=some u:=hu;rw [e2] at hu;exact (Option.some.inj hu).symm
   subst hu
   refine zr (fun h7=>?_) (fun h7=>?_)
   ·have:=yn h7
    exact zd (.inr ⟨rfl,rfl,fun ht=>by have:=ht.ct n (by omega) (by grind);omega⟩)
   ·have:=wG h6;have:=wG h7
    exact zd (.inl ⟨rfl,rfl,fun _=>⟨by omega,by omega⟩⟩)
  ·exact zd (.inl ⟨rfl,rfl,fun hc=>by grind⟩)
  ·rintro ⟨j,⟨v,⟨⟩⟩,⟨⟩⟩ (⟨rfl,rfl,hq⟩ | ⟨rfl,rfl,hq⟩)
   ·exact zh rfl (zd (gN (by omega) hq))
   ·exact zg rfl (zd (zD (.inr ⟨rfl,rfl,hq⟩)))
 ·intro hp
  exact zg (zZ (show ¬(t.2.1.length:Int) < (t.2.1.length:Int) by omega)) (zd (zD (.inl ⟨rfl,fun n hn=>hp n (by omega)⟩)))
 rintro ⟨j,⟨v,w,⟨⟩⟩,⟨⟩⟩ (⟨rfl,hct⟩ | ⟨rfl,rfl,hq⟩)
 rotate_left
 ·exact zg rfl (zd (bad hq rfl))
 have hrl:(reachS t 0).length=t.1.toNat:=by unfold reachS;rw [zqH];simp
 refine zh rfl ?_
 rw [show Wa (t,0,_,())=some (reachS t 0,()) from ztZ hs (fun i l hl=>(hls i l hl).1.nodes),zG]
 rw [zbp (by show (reachS t 0).length≤_;omega),zG]
 refine zr (fun h=>?_) (fun h=>?_)
 ·refine zd (bad (fun ht=>?_) rfl)
  obtain ⟨k,hk⟩:=List.getElem?_of_mem (zdN h)
  have:=ht.re k (by grind)
  rw [this] at hk;cases hk
 ·refine zd (good ⟨hs,hls,fun n hn=>?_,hct⟩ rfl)
  have hr:(reachS t 0)[n]?=some (reachS t 0)[n]:=List.getElem?_eq_getElem (by omega)
  rw [hr]
  cases e:(reachS t 0)[n] with
  |true=>rfl
  |false=>exact absurd (by rw [←e];exact List.getElem_mem _) (GY h)
def Qy (t:je) (p:Int):Prop:=0≤p∧p < 2*(t.2.2.length:Int)
def lnk (t:je) (p:Int):Vd:=(t.2.2[p.toNat / 2]?).getD (0,0,0,0)
def frm (t:je) (p:Int):Int:=if p % 2=1 then (lnk t p).2.1 else (lnk t p).1
def too (t:je) (p:Int):Int:=if p % 2=1 then (lnk t p).1 else (lnk t p).2.1
theorem zAQ {p:Int} (h:0≤p) (h2:p≤1000000000000000000):wrF .i64 (Int.tdiv p 2)=((p.toNat / 2:Nat):Int):=by
 rw [Int.tdiv_eq_ediv_of_nonneg h,qT (by omega) (by omega)];omega
theorem par {p:Int} (h:0≤p):Int.tmod p 2=p % 2:=Int.tmod_eq_emod_of_nonneg h
theorem zds {t:je} {p:Int} (h:Qy t p):t.2.2[p.toNat / 2]?=some (lnk t p):=by
 have:=h.1;have:=h.2
 have hx:t.2.2[p.toNat / 2]?=some (t.2.2[p.toNat / 2]'(by omega)):=List.getElem?_eq_getElem (by omega)
 unfold lnk;rw [hx];rfl
theorem tw (t:je) (h:t.2.2.length≤1000000000000000):wrF .i64 (2*(t.2.2.length:Int))=2*(t.2.2.length:Int):=qT (by omega) (by omega)
theorem zx2 {t:je} (hl:zkX t) {p:Int} (h:Qy t p):uW t (frm t p)∧uW t (too t p)∧frm t p≠too t p:=by
 have:=(hl _ _ (zds h)).1
 have h1:=this.1;have h2:=this.2.1;have h3:=this.2.2.1
 unfold frm too
 split
 ·exact ⟨h2,h1,fun e=>h3 e.symm⟩
 ·exact ⟨h1,h2,h3⟩
theorem zkY {t:je} (h:t.2.2.length≤1000000000000000) {p:Int} (hp:Qy t p):zt p 0=false∧(!zt p (wrF .i64 (2*(t.2.2.length:Int))))=false:=by
 have:=hp.1;have:=hp.2
 rw [tw t h,zZ (by omega),qq (by omega)];simp
theorem zx3 {t:je} (ht:vM t) {p:Int} (hp:Qy t p):gK (t,p,())=some ((lnk t p).2.2.1,0,()):=by
 have hl:t.2.2.length≤1000000000000000:=by have:=ht.sz.ls;omega
 have:=hp.1;have:=hp.2
 obtain ⟨e1,e2⟩:=zkY hl hp
 rw [zvo];unfold zkH
 simp only [JP,zG,zM ht,cond_true,wc,Bool.not_true,cond_false,e1,e2,zAQ hp.1 (show p≤1000000000000000000 by omega),ZU (zds hp),zoN,zdl]
 rfl
theorem zt0 {t:je} (ht:vM t) {p:Int} (hp:Qy t p):Wj (t,p,())=some ((lnk t p).2.2.2,0,()):=by
 have hl:t.2.2.length≤1000000000000000:=by have:=ht.sz.ls;omega
 have:=hp.1;have:=hp.2
 obtain ⟨e1,e2⟩:=zkY hl hp
 rw [zsb];unfold zgQ
 simp only [JP,zG,zM ht,cond_true,wc,Bool.not_true,cond_false,e1,e2,zAQ hp.1 (show p≤1000000000000000000 by omega),ZU (zds hp),zlU,zaL]
 rfl
def zU (t:je) (r:List Int):List Int:=match r with
 |[]=>[]
 |p::_=>frm t p::r.map (too t)
theorem zbd (t:je) {r:List Int} (h:r≠[]):(zU t r).length=r.length+1:=by
 cases r with
 |nil=>exact absurd rfl h
 |cons p r=>simp [zU]
theorem zzq (t:je) {r:List Int} {p:Int} (h:r[0]?=some p):(zU t r)[0]?=some (frm t p):=by
 cases r with
 |nil=>cases h
 |cons q r=>simp at h;subst h;rfl
theorem zcd (t:je) {r:List Int} {i:Nat} {p:Int} (h:r[i]?=some p):(zU t r)[i+1]?=some (too t p):=by
 cases r with
 |nil=>cases h
 |cons q r=>simp only [zU,List.getElem?_cons_succ,List.getElem?_map,h,Option.map_some]
theorem Ka {t:je} (h:t.2.2.length≤1000000000000000) {r:List Int} (h0:r≠[]) (h8:r.length≤8) (hp:∀p∈r,Qy t p):xI (t,r,())=some (zU t r,()):=by
 rw [zjj];unfold Uz
 rw [show wrF .i64 ((r.length:Int)+1)=(r.length:Int)+1 from qT (by omega) (by omega)]
 refine kO (zh (ztW (by omega) (by omega) (by omega)) ?_)
 refine zp (J:=fun x=>x.2.2.1.1=zU t r) (qt r.length (fun i s=>s=(((i:Int),()),((((zU t r).take (if i=0 then 0 else i+1)),()),((),((),()))))) (by omega) rfl ?_ ?_) ?_
 ·rintro i _ hi rfl
  have hx:r[i]?=some r[i]:=List.getElem?_eq_getElem hi
  have hpi:=hp _ (List.getElem_mem hi)
  generalize r[i]=p at hx hpi
  have:=hpi.1;have:=hpi.2
  refine zh (qq (show (i:Int) < (r.length:Int) by omega)) (zn (zQ (n:=i) hx ?_))
  obtain ⟨e1,e2⟩:=zkY h hpi
  refine zg e1 (zg e2 ?_)
  rw [zAQ hpi.1 (by omega),ZU (zds hpi),zG]
  refine zp (J:=fun x=>x.2.1.1.2.1=frm t p∧x.2.1.1.2.2=too t p) ?_ ?_
  ·rw [par hpi.1]
   unfold frm too
   refine zr (fun h=>?_) (fun h=>?_)
   ·have:=jo h
    exact zd (by simp [this])
   ·have:=jG h
    exact zd (by simp [this])
  rintro ⟨j,⟨⟨u,v,w⟩,⟨⟩⟩,⟨⟩,⟨⟩,⟨⟩⟩ ⟨rfl,rfl⟩
  have hl:=zbd t h0
  refine zp (J:=fun x=>x.2.2.1.1=(zU t r).take (i+1)) (zr (fun h=>?_) (fun h=>?_)) ?_
  ·have:=jo h
   have hi0:i=0:=by simp only at this;omega
   subst hi0
   refine zh (Qo (by simp) (by simp)) (zd ?_)
   show List.take 0 (zU t r)++[frm t p]=_
   rw [List.take_add_one,zzq t hx];rfl
  ·have:=jG h
   have hi0:i≠0:=by intro e;apply this;simp only [e];rfl
   exact zd (by show (zU t r).take (if i=0 then 0 else i+1)=_;rw [if_neg hi0])
  ·rintro ⟨j,⟨⟩,⟨⟨c,⟨⟩⟩,⟨⟩,⟨⟩⟩⟩ hc
   simp only at hc
   subst hc
   refine zh (Qo (by show (((zU t r).take (i+1)).length+1)*8≤_;simp;omega) (by show ((zU t r).take (i+1)).length+1≤_;simp;omega)) (zd (qR ?_))
   have e:(zU t r).take (i+1+1)=(zU t r).take (i+1)++[too t p]:=by
    rw [List.take_add_one,zcd t hx];rfl
   have e2:(if i+1=0 then 0 else i+1+1)=i+1+1:=if_neg (by omega)
   rw [e2,e,←qO (by omega)]
 ·rintro _ rfl
  refine zg (zZ (show ¬(r.length:Int) < (r.length:Int) by omega)) (zd (zD ?_))
  have:r.length≠0:=fun e=>h0 (List.length_eq_zero_iff.1 e)
  show (zU t r).take (if r.length=0 then 0 else r.length+1)=_
  rw [if_neg this,List.take_of_length_le (by rw [zbd t h0];omega)]
 ·rintro ⟨j,⟨z,⟨⟩⟩,⟨c,⟨⟩⟩,⟨⟩,⟨⟩,⟨⟩⟩ hc
  exact zd hc
def zh1 (t:je) (r:List Int) (i:Nat) (p:Int):Prop:=¬too t p∈(zU t r).take (i+1)∧(0 < i→∀n,(zU t r)[i]?=some n→stn t n=false∧frm t p=n)
structure yV (t:je) (r:List Int):Prop where
 n0:1≤r.length
 n1:r.length≤8
 pt:∀p∈r,Qy t p
 st:∀(i:Nat) p,r[i]?=some p→zh1 t r i p
theorem yV.ne {t:je} {r:List Int} (h:yV t r):r≠[]:=by
 intro e;have:=h.n0;rw [e] at this;simp at this
theorem vM.ll {t:je} (h:vM t):t.2.2.length≤1000000000000000:=by have:=h.sz.ls;omega
theorem uW.get {t:je} (hs:szP t) {n:Int} (h:uW t n):t.2.1[n.toNat]?=some (stn t n):=by
 have hx:t.2.1[n.toNat]?=some (t.2.1[n.toNat]'(h.lt hs)):=List.getElem?_eq_getElem (h.lt hs)
 rw [hx,ztX hx]
def zce (t:je) (r:List Int) (i:Nat):List Bool:=(List.range 12).map fun n=>decide (((n:Nat):Int)∈(zU t r).take (if i=0 then 0 else i+1))
theorem zEf (t:je) (r:List Int) (i:Nat):(zce t r i).length=12:=by simp [zce]
def atS (t:je) (r:List Int) (i:Nat):Int:=if i=0 then 0 else ((zU t r)[i]?).getD 0
theorem zu2 {f g:Nat→Bool} (h:∀n,n < 12→f n=g n):(List.range 12).map f=(List.range 12).map g:=List.map_congr_left fun n hn=>h n (List.mem_range.1 hn)
theorem zu3 {f:Nat→Bool} {k:Nat} (hk:k < 12):((List.range 12).map f).set k true=(List.range 12).map fun n=>(f n||n == k):=by
 apply List.ext_getElem?
 intro n
 rw [List.getElem?_set]
 by_cases h:n < 12
 ·by_cases e:k=n
  ·subst e;simp [h]
  ·have:(n == k)=false:=by simp;omega
   simp [h,e,this]
 ·rw [List.getElem?_eq_none (by simp;omega),List.getElem?_eq_none (by simp;omega)]
  split<;>simp<;>omega
theorem zcf {t:je} (ht:vM t) (r:List Int):xJ (t,r,())=some (tv (yV t r),()):=by
 have hll:=ht.ll
 have n1:=ht.sz.n1
 rw [zjk];unfold UA
 refine JO (zp (J:=fun x=>(x.1=0∧x.2.1.1=false∧1≤r.length∧r.length≤8)∨(x.1=1∧x.2.1.1=false∧¬yV t r)) ?_ ?_)
 ·refine zr (fun h=>zd (.inr ⟨rfl,rfl,fun hs=>?_⟩)) (fun h1=>zr (fun h=>zd (.inr ⟨rfl,rfl,fun hs=>?_⟩)) (fun h2=>zd (.inl ⟨rfl,rfl,?_⟩)))
  ·have:=yn h;have:=hs.n0;omega
  ·have:=yn h;have:=hs.n1;omega
  ·have h1:=wG h1;have h2:=wG h2;omega
 rintro ⟨j,⟨v,⟨⟩⟩,⟨⟩⟩ (⟨rfl,rfl,h1,h8⟩ | ⟨rfl,rfl,hq⟩)
 rotate_left
 ·exact zg rfl (zd ⟨fun h=>(by cases h),fun h=>absurd h hq⟩)
 have hne:r≠[]:=by intro e;rw [e] at h1;simp at h1
 have hnl:=zbd t hne
 refine zh rfl (zp (J:=fun x=>(x.2.1.2.1=(r.length:Int)∧yV t r)∨(x.2.1.2.1 < (r.length:Int)∧¬yV t r))
  (qt r.length (fun i s=>s=((atS t r i,((i:Int),((i:Int),()))),(zce t r i,((),((),()))))∧∀(k:Nat),k < i→∀p,r[k]?=some p→Qy t p∧zh1 t r k p) (by omega) ⟨rfl,fun k hk=>by omega⟩ ?_ ?_) ?_)
 ·rintro i _ hi ⟨rfl,hp⟩
  have hx:r[i]?=some r[i]:=List.getElem?_eq_getElem hi
  have hmem:=List.getElem_mem hi
  generalize r[i]=p at hx hmem
  have bad:∀{x:Nat×((Int×(Int×(Int×Unit)))×(List Bool×(Unit×(Unit×Unit))))},x.2.1.2.1=(i:Int)→¬yV t r→(x.2.1.2.1=(r.length:Int)∧yV t r)∨(x.2.1.2.1 < (r.length:Int)∧¬yV t r):=fun e hq=>.inr ⟨by rw [e];omega,hq⟩
  refine zh (qq (show (i:Int) < (r.length:Int) by omega)) (zn (zQ (n:=i) hx ?_))
  refine zr (fun h=>zd (zD (bad rfl fun hr=>?_))) (fun hp0=>zr (fun h=>zd (zD (bad rfl fun hr=>?_))) (fun hp1=>?_))
  ·have:=yn h;have:=(hr.pt p hmem).1;omega
  ·have:=hr.pt p hmem
   rw [(zkY hll this).2] at h;cases h
  have hpi:Qy t p:=by
   have:=wG hp0
   rw [tw t hll] at hp1
   have:=yn (show zt p (2*(t.2.2.length:Int))=true by simpa using hp1)
   exact ⟨by omega,by omega⟩
  have:=hpi.1;have:=hpi.2
  obtain ⟨⟨f0,f1⟩,⟨g0,g1⟩,hfg⟩:=zx2 ht.ls hpi
  rw [zAQ hpi.1 (by omega),ZU (zds hpi),zG]
  refine zp (J:=fun x=>x.1=0∧x.2.1.1.2.1=frm t p∧x.2.1.1.2.2=too t p) ?_ ?_
  ·rw [par hpi.1]
   unfold frm too
   refine zr (fun h=>?_) (fun h=>?_)
   ·have:=jo h
    exact zd (by simp [this])
   ·have:=jG h
    exact zd (by simp [this])
  rintro ⟨j,⟨⟨u,v,w⟩,⟨⟩⟩,⟨⟩,⟨⟩,⟨⟩⟩ ⟨rfl,rfl,rfl⟩
  have hsl:=zEf t r i
  have htk:(zU t r).take (i+1+1)=(zU t r).take (i+1)++[too t p]:=by
   rw [List.take_add_one,zcd t hx];rfl
  refine zh rfl (zp (J:=fun x=>(x.1=0∧x.2.2.1=(List.range 12).map (fun n=>decide (((n:Nat):Int)∈(zU t r).take (i+1)))∧(0 < i→∀n,(zU t r)[i]?=some n→stn t n=false∧frm t p=n))∨(x.1=1∧¬yV t r)) (zr (fun h=>?_) (fun h=>?_)) ?_)
  ·have h0:=jo (show zj (i:Int) 0=true from h)
   have hi0:i=0:=by omega
   subst hi0
   refine zh (qq (show frm t p < 12 by omega)) (zn (Jc f0 (by show frm t p < (((zce t r 0).length:Nat):Int);omega) fun _ _=>zn (Jd (by show (frm t p).toNat < (zce t r 0).length;omega) fun _ _=>?_)))
   refine zd (.inl ⟨rfl,?_,fun h=>by omega⟩)
   show (zce t r 0).set (frm t p).toNat true=_
   unfold zce
   rw [zu3 (by omega)]
   refine zu2 fun n hn=>?_
   rw [List.take_add_one,zzq t hx]
   simp only [if_true,List.take_zero,List.nil_append,Option.toList,List.mem_singleton,List.not_mem_nil,decide_false,Bool.false_or]
   rw [Bool.eq_iff_iff];simp only [beq_iff_eq,decide_eq_true_eq];omega
  ·have h0:=jG (show zj (i:Int) 0=false from h)
   have hi0:i≠0:=fun e=>h0 (by rw [e];rfl)
   have hxn:(zU t r)[i]?=some (zU t r)[i]:=List.getElem?_eq_getElem (by omega)
   have hat:atS t r i=(zU t r)[i]:=by unfold atS;rw [if_neg hi0,hxn];rfl
   have hn:uW t (zU t r)[i]:=by
    obtain ⟨m,rfl⟩:∃m,i=m+1:=⟨i - 1,by omega⟩
    have hy:r[m]?=some r[m]:=List.getElem?_eq_getElem (by omega)
    have e:=zcd t hy
    rw [hxn] at e
    rw [Option.some.inj e]
    exact (zx2 ht.ls (hp m (by omega) _ hy).1).2.1
   generalize (zU t r)[i]=n at hxn hat hn
   refine zr (fun h2=>?_) (fun h2=>?_)
   ·refine zd (.inr ⟨rfl,fun hr=>?_⟩)
    have:=((hr.st i p hx).2 (by omega) n hxn).2
    have h2':(!zj (frm t p) (atS t r i))=true:=h2
    rw [hat,wc this] at h2';cases h2'
   ·have h2':(!zj (frm t p) (atS t r i))=false:=h2
    have e1:=jo (show zj (frm t p) (atS t r i)=true by simpa using h2')
    refine zn (xT (a:=stn t n) (by show atI t.2.1 (atS t r i)=_;rw [hat,show n=((n.toNat:Nat):Int) from (by have:=hn.1;omega),ZU (n:=n.toNat)];exact hn.get ht.sz) ?_)
    refine zr (fun h4=>?_) (fun h4=>?_)
    ·refine zd (.inr ⟨rfl,fun hr=>?_⟩)
     have:=((hr.st i p hx).2 (by omega) n hxn).1
     rw [this] at h4;cases h4
    ·refine zd (.inl ⟨rfl,?_,fun _ m hm=>by rw [hxn] at hm;cases hm;exact ⟨h4,by rw [e1,hat]⟩⟩)
     show zce t r i=_
     unfold zce
     rw [if_neg hi0]
  ·rintro ⟨j,⟨⟩,c,⟨⟩,⟨⟩⟩ (⟨rfl,hc,hst⟩ | ⟨rfl,hq⟩)
   rotate_left
   ·exact zg rfl (zd (zD (bad rfl hq)))
   simp only at hc
   have hcl:c.length=12:=by rw [hc];simp
   refine zh rfl (zh (qq (show too t p < 12 by omega)) (zn (Jc g0 (by show too t p < ((c.length:Nat):Int);omega) fun _ _=>zn (Jd (by show (too t p).toNat < c.length;omega) fun x hx2=>?_))))
   have hx2':c[(too t p).toNat]?=some x:=hx2
   have hmt:(((too t p).toNat:Nat):Int)=too t p:=by omega
   have hxe:x=decide (too t p∈(zU t r).take (i+1)):=by
    rw [hc] at hx2'
    simp only [List.getElem?_map,List.getElem?_range (show (too t p).toNat < 12 by omega),Option.map_some,hmt] at hx2'
    exact (Option.some.inj hx2').symm
   refine zr (fun h6=>?_) (fun h6=>?_)
   ·subst h6
    refine zd (zD (bad rfl fun hr=>(hr.st i p hx).1 ?_))
    exact of_decide_eq_true hxe.symm
   ·subst h6
    have hnm:¬too t p∈(zU t r).take (i+1):=of_decide_eq_false hxe.symm
    refine zh (qq (show too t p < 12 by omega)) (zn (Jc g0 (by show too t p < ((c.length:Nat):Int);omega) fun _ _=>zn (Jd (by show (too t p).toNat < c.length;omega) fun _ _=>?_)))
    refine zd (qR ⟨?_,fun k hk q hq=>?_⟩)
    ·have e1:atS t r (i+1)=too t p:=by unfold atS;rw [if_neg (by omega),zcd t hx];rfl
     have e2:c.set (too t p).toNat true=zce t r (i+1):=by
      rw [hc,zu3 (by omega)]
      unfold zce
      rw [if_neg (by omega),htk]
      refine zu2 fun n hn=>?_
      rw [Bool.eq_iff_iff]
      simp only [Bool.or_eq_true,decide_eq_true_eq,beq_iff_eq,List.mem_append,List.mem_singleton]
      constructor
      ·rintro (h | h)
       ·exact .inl h
       ·right;omega
      ·rintro (h | h)
       ·exact .inl h
       ·right;omega
     rw [e1,←e2,←qO (by omega)]
    ·rcases Nat.lt_or_ge k i with hki | hki
     ·exact hp k hki q hq
     ·have:k=i:=by omega
      subst this
      rw [hx] at hq;cases hq
      exact ⟨hpi,hnm,hst⟩
 ·rintro _ ⟨rfl,hp⟩
  refine zg (zZ (show ¬(r.length:Int) < (r.length:Int) by omega)) (zd (zD (.inl ⟨rfl,h1,h8,fun p hm=>?_,fun i p hi=>(hp i (by grind) p hi).2⟩)))
  obtain ⟨k,hk⟩:=List.getElem?_of_mem hm
  exact (hp k (by grind) p hk).1
 ·rintro ⟨j,⟨v,w,z,⟨⟩⟩,c,⟨⟩,⟨⟩,⟨⟩⟩ (⟨hg,hr⟩ | ⟨hg,hr⟩)
  ·simp only at hg
   refine zr (fun _=>?_) (fun _=>?_)<;>exact zd ⟨fun _=>hr,fun _=>wc hg⟩
  ·simp only at hg
   refine zr (fun _=>?_) (fun _=>?_)<;>exact zd ⟨fun h=>by have:=jo h;simp only at this;omega,fun h=>absurd h hr⟩
def Gm (a b:List Int):Prop:=∃p∈a,∃q∈b,Int.tdiv p 2=Int.tdiv q 2
def zal (a:List Int):List Int:=(a.take (a.length - 1)).drop 1
def Kb (a b:List Int):Prop:=∃n∈zal a,n∈b
def zsj (t:je) (a b:List Int):Prop:=¬Gm a b∧¬Kb (zU t a) (zU t b)∧¬Kb (zU t b) (zU t a)
theorem zG4 {p:Int} (h : -9223372036854775808≤p) (h2:p≤9223372036854775807):wrF .i64 (Int.tdiv p 2)=Int.tdiv p 2:=by
 rcases Int.le_total 0 p with h0 | h0
 ·rw [Int.tdiv_eq_ediv_of_nonneg h0];exact qT (by omega) (by omega)
 ·have e:Int.tdiv p 2 = -((-p) / 2):=by
   rw [←Int.tdiv_eq_ediv_of_nonneg (by omega),Int.neg_tdiv,Int.neg_neg]
  rw [e];exact qT (by omega) (by omega)
theorem zzr {t:je} (h:t.2.2.length≤1000000000000000) {p:Int} (hp:Qy t p):wrF .i64 (Int.tdiv p 2)=Int.tdiv p 2:=zG4 (by have:=hp.1;omega) (by have:=hp.2;omega)
theorem gm {α:Type} {l:List α} {x:α} (h:x∈l):∃i,i < l.length∧l[i]?=some x:=by
 obtain ⟨i,hi⟩:=List.getElem?_of_mem h
 exact ⟨i,by grind,hi⟩
theorem zqI {t:je} (h:t.2.2.length≤1000000000000000) {a b:List Int} (ha:∀p∈a,Qy t p) (hb:∀p∈b,Qy t p) (la:a.length≤8) (lb:b.length≤8):JJ (a,b,())=some (tv (Gm a b),()):=by
 rw [zoJ];unfold zdh
 refine JO (zp (J:=fun x=>(x.1=0∧¬Gm a b)∨(x.1=1∧x.2.1.1=true∧Gm a b)) (uC a.length (fun i=>∀p,a[i]?=some p→¬∃q∈b,Int.tdiv p 2=Int.tdiv q 2) (by omega) ?_ ?_) ?_)
 ·intro i hi hp
  have hx:a[i]?=some a[i]:=List.getElem?_eq_getElem hi
  have hm:=List.getElem_mem hi
  generalize a[i]=p at hx hm
  refine zh (qq (show (i:Int) < (a.length:Int) by omega)) (zn (zQ (n:=i) hx ?_))
  refine zp (J:=fun x=>(x.1=0∧x.2.1.1=false∧¬∃q∈b,Int.tdiv p 2=Int.tdiv q 2)∨(x.1=1∧x.2.1.1=true∧∃q∈b,Int.tdiv p 2=Int.tdiv q 2)) (uC b.length (fun k=>∀q,b[k]?=some q→Int.tdiv p 2≠Int.tdiv q 2) (by omega) ?_ ?_) ?_
  ·intro k hk hq
   have hy:b[k]?=some b[k]:=List.getElem?_eq_getElem hk
   have hmk:=List.getElem_mem hk
   generalize b[k]=q at hy hmk
   refine zh (qq (show (k:Int) < (b.length:Int) by omega)) (zn (zQ (n:=k) hy ?_))
   rw [zzr h (ha p hm),zzr h (hb q hmk)]
   refine zr (fun h=>?_) (fun h=>?_)
   ·exact zd (zD (.inr ⟨rfl,rfl,q,hmk,jo h⟩))
   ·exact zd (gN (by omega) fun q' hq'=>by rw [hy] at hq';cases hq';exact jG h)
  ·intro hq
   refine zg (zZ (show ¬(b.length:Int) < (b.length:Int) by omega)) (zd (zD (.inl ⟨rfl,rfl,fun ⟨q,hq1,hq2⟩=>?_⟩)))
   obtain ⟨k,hk,hk2⟩:=gm hq1
   exact hq k hk q hk2 hq2
  ·rintro ⟨j,⟨v,w,⟨⟩⟩,⟨⟩⟩ (⟨rfl,rfl,hq⟩ | ⟨rfl,rfl,hq⟩)
   ·exact zh rfl (zd (gN (by omega) fun p' hp'=>by rw [hx] at hp';cases hp';exact hq))
   ·exact zg rfl (zd (zD (.inr ⟨rfl,rfl,p,hm,hq⟩)))
 ·intro hp
  refine zg (zZ (show ¬(a.length:Int) < (a.length:Int) by omega)) (zd (zD (.inl ⟨rfl,fun ⟨p,hp1,hp2⟩=>?_⟩)))
  obtain ⟨k,hk,hk2⟩:=gm hp1
  exact hp k hk p hk2 hp2
 ·rintro ⟨j,⟨v,w,⟨⟩⟩,⟨⟩⟩ (⟨rfl,hq⟩ | ⟨rfl,rfl,hq⟩)
  ·exact zh rfl (zd ⟨fun h=>(by cases h),fun h=>absurd h hq⟩)
  ·exact zg rfl (zd ⟨fun _=>hq,fun _=>rfl⟩)
theorem zCh (a:List Int):(zal a).length=a.length - 1 - 1:=by unfold zal;simp
theorem zeZ {l:List Int} (hn:l.length≤1000000000000000000) (b:Int):qu (qQ (l,b,())) fun r=>(0≤r.1∧b∈l)∨(r.1 = -1∧¬b∈l):=by
 rw [Vv];unfold gJ
 refine zp (J:=fun x=>(x.1=0∧¬b∈l)∨(x.1=1∧0≤x.2.1.1∧b∈l)) (uC l.length (fun i=>l[i]?≠some b) hn ?_ ?_) ?_
 ·intro i hi hp
  have hx:l[i]?=some l[i]:=List.getElem?_eq_getElem hi
  refine zh (qq (show (i:Int) < (l.length:Int) by omega)) (zn (zQ (n:=i) hx (zr (fun h=>?_) (fun h=>?_))))
  ·have:b=l[i]:=jo h
   exact zd (zD (.inr ⟨rfl,by show (0:Int)≤(i:Int);omega,by rw [this];exact List.getElem_mem hi⟩))
  ·have:=jG (show zj b l[i]=false from h)
   exact zd (gN (by omega) (by rw [hx];intro e;cases e;exact this rfl))
 ·intro hp
  refine zg (zZ (show ¬(l.length:Int) < (l.length:Int) by omega)) (zd (zD (.inl ⟨rfl,fun hm=>?_⟩)))
  obtain ⟨k,hk,hk2⟩:=gm hm
  exact hp k hk hk2
 ·rintro ⟨j,⟨v,w,⟨⟩⟩,⟨⟩⟩ (⟨rfl,hp⟩ | ⟨rfl,h0,hp⟩)
  ·exact zh rfl (zd (.inr ⟨rfl,hp⟩))
  ·exact zg rfl (zd (.inl ⟨h0,hp⟩))
theorem zcC {l:List Int} (hn:l.length≤1000000000000000000) (b:Int):xd (l,b,())=some (tv (b∈l),()):=by
 rw [zbR];unfold QF
 refine JO (zp (zeZ hn b) ?_)
 rintro ⟨v,⟨⟩⟩ (⟨h,hm⟩ | ⟨rfl,hm⟩)
 ·refine zd ⟨fun _=>hm,fun _=>?_⟩
  show (!zt v 0)=true
  rw [zZ (by simp only at h;omega)];rfl
 ·exact zd ⟨fun h=>(by cases h),fun h=>absurd h hm⟩
theorem zcg {l:List Int} (hn:l.length≤1000000000000000000) (b:Int):qu (yQ (l,b,())) fun r=>(0≤r.1∧b∈l)∨(r.1 = -1∧¬b∈l):=by
 rw [zbm];unfold Qa
 refine zp (J:=fun x=>(x.1=0∧¬b∈l)∨(x.1=1∧0≤x.2.1.1∧b∈l)) (uC l.length (fun i=>l[i]?≠some b) hn ?_ ?_) ?_
 ·intro i hi hp
  have hx:l[i]?=some l[i]:=List.getElem?_eq_getElem hi
  refine zh (qq (show (i:Int) < (l.length:Int) by omega)) (zn (zQ (n:=i) hx (zr (fun h=>?_) (fun h=>?_))))
  ·have:b=l[i]:=jo h
   exact zd (zD (.inr ⟨rfl,by show (0:Int)≤(i:Int);omega,by rw [this];exact List.getElem_mem hi⟩))
  ·have:=jG (show zj b l[i]=false from h)
   exact zd (gN (by omega) (by rw [hx];intro e;cases e;exact this rfl))
 ·intro hp
  refine zg (zZ (show ¬(l.length:Int) < (l.length:Int) by omega)) (zd (zD (.inl ⟨rfl,fun hm=>?_⟩)))
  obtain ⟨k,hk,hk2⟩:=gm hm
  exact hp k hk hk2
 ·rintro ⟨j,⟨v,w,⟨⟩⟩,⟨⟩⟩ (⟨rfl,hp⟩ | ⟨rfl,h0,hp⟩)
  ·exact zh rfl (zd (.inr ⟨rfl,hp⟩))
  ·exact zg rfl (zd (.inl ⟨h0,hp⟩))
theorem zaa {l:List Int} (hn:l.length≤1000000000000000000) (b:Int):jx (l,b,())=some (tv (b∈l),()):=by
 rw [Gz];unfold gv
 refine JO (zp (zcg hn b) ?_)
 rintro ⟨v,⟨⟩⟩ (⟨h,hm⟩ | ⟨rfl,hm⟩)
 ·refine zd ⟨fun _=>hm,fun _=>?_⟩
  show (!zt v 0)=true
  rw [zZ (by simp only at h;omega)];rfl
 ·exact zd ⟨fun h=>(by cases h),fun h=>absurd h hm⟩
theorem zch {t:je} (ht:vM t) {a b:List Int} (ha:yV t a) (hb:yV t b):kY (t,a,b,())=some (tv (Kb (zU t a) (zU t b)),()):=by
 have hll:=ht.ll
 have na:=zbd t ha.ne;have nb:=zbd t hb.ne
 have a0:=ha.n0;have a8:=ha.n1;have b0:=hb.n0;have b8:=hb.n1
 rw [zjo];unfold UC
 simp only [Ka hll ha.ne ha.n1 ha.pt,Ka hll hb.ne hb.n1 hb.pt,zG]
 generalize zU t a=A at na
 generalize zU t b=B at nb
 have e1:wrF .i64 ((A.length:Int) - 1)=((A.length - 1:Nat):Int):=by rw [qT]<;>omega
 have e2:ue A (some 1) (some (((A.length - 1:Nat):Int))) (some (((A.length - 1:Nat):Int)))=some (zal A):=zEc A 1 (A.length - 1) (by omega) (by omega)
 rw [e1,e2,zG]
 have il:=zCh A
 refine JO (zp (J:=fun x=>(x.1=0∧¬Kb A B)∨(x.1=1∧x.2.1.1=true∧Kb A B)) (uC (zal A).length (fun i=>∀n,(zal A)[i]?=some n→¬n∈B) (by omega) ?_ ?_) ?_)
 ·intro i hi hp
  have hx:(zal A)[i]?=some (zal A)[i]:=List.getElem?_eq_getElem hi
  have hm:=List.getElem_mem hi
  generalize (zal A)[i]=n at hx hm
  refine zh (qq (show (i:Int) < ((zal A).length:Int) by omega)) (zn (zQ (n:=i) hx ?_))
  rw [zcC (by omega)]
  refine zr (fun h=>?_) (fun h=>?_)
  ·exact zd (zD (.inr ⟨rfl,rfl,n,hm,zdN h⟩))
  ·exact zd (gN (by omega) fun m hm=>by rw [hx] at hm;cases hm;exact GY h)
 ·intro hp
  refine zg (zZ (show ¬((zal A).length:Int) < ((zal A).length:Int) by omega)) (zd (zD (.inl ⟨rfl,fun ⟨n,h1,h2⟩=>?_⟩)))
  obtain ⟨k,hk,hk2⟩:=gm h1
  exact hp k hk n hk2 h2
 ·rintro ⟨j,⟨v,w,⟨⟩⟩,⟨⟩⟩ (⟨rfl,hq⟩ | ⟨rfl,rfl,hq⟩)
  ·exact zh rfl (zd ⟨fun h=>(by cases h),fun h=>absurd h hq⟩)
  ·exact zg rfl (zd ⟨fun _=>hq,fun _=>rfl⟩)
theorem zh2 {t:je} (ht:vM t) (r:List Int):ky (t,r,())=some (bif tv (yV t r) then 0 else 310,()):=by
 rw [zqb];unfold zeC
 simp only [JP,zG,zM ht,cond_true,zcf ht]
 rw [show (!zj 0 0)=false from rfl,cond_false]
 cases tv (yV t r)<;>rfl
theorem zsk {t:je} (ht:vM t) {a b:List Int} (ha:yV t a) (hb:yV t b):ZC (t,a,b,())=some (tv (zsj t a b),0,()):=by
 rw [zqe];unfold zeE
 simp only [zh2 ht,zG,zM ha,zM hb,cond_true,zcf ht,zqI ht.ll ha.pt hb.pt ha.n1 hb.n1,zch ht ha hb,zch ht hb ha]
 rw [show (!zj 0 0)=false from rfl,cond_false]
 simp only [Bool.not_true,cond_false]
 unfold zsj
 by_cases h1:Gm a b
 ·simp [zM h1,qn (show ¬(¬Gm a b∧¬Kb (zU t a) (zU t b)∧¬Kb (zU t b) (zU t a)) from fun h=>h.1 h1)]
 ·by_cases h2:Kb (zU t a) (zU t b)
  ·simp [qn h1,zM h2,qn (show ¬(¬Gm a b∧¬Kb (zU t a) (zU t b)∧¬Kb (zU t b) (zU t a)) from fun h=>h.2.1 h2)]
  ·by_cases h3:Kb (zU t b) (zU t a)
   ·simp [qn h1,qn h2,zM h3,qn (show ¬(¬Gm a b∧¬Kb (zU t a) (zU t b)∧¬Kb (zU t b) (zU t a)) from fun h=>h.2.2 h3)]
   ·simp [qn h1,qn h2,qn h3,zM (show ¬Gm a b∧¬Kb (zU t a) (zU t b)∧¬Kb (zU t b) (zU t a) from ⟨h1,h2,h3⟩)]
def zg7 (t:je) (r:List Int):Int:=frm t ((r[0]?).getD 0)
def zh3 (t:je) (r:List Int):Int:=too t ((r[r.length - 1]?).getD 0)
theorem zh4 {t:je} (ht:vM t) (r:List Int):yw (t,r,())=some (bif tv (yV t r) then (zU t r,0,()) else ([],310,())):=by
 rw [zqc];unfold zeD
 simp only [zh2 ht,zG]
 by_cases h:yV t r
 ·simp only [zM h,cond_true,Ka ht.ll h.ne h.n1 h.pt,zG];rfl
 ·simp only [qn h,cond_false];rfl
theorem zyX (t:je) {r:List Int} (h:r≠[]):(zU t r)[0]?=some (zg7 t r):=by
 cases r with
 |nil=>exact absurd rfl h
 |cons p r=>rfl
theorem zAR (t:je) {r:List Int} (h:r≠[]):(zU t r)[r.length]?=some (zh3 t r):=by
 have hl:0 < r.length:=List.length_pos_iff.2 h
 have hx:r[r.length - 1]?=some (r[r.length - 1]'(by omega)):=List.getElem?_eq_getElem (by omega)
 have:=zcd t hx
 rw [show r.length - 1+1=r.length by omega] at this
 rw [this];unfold zh3;rw [hx];rfl
theorem zt1 {t:je} (ht:vM t) (r:List Int):XC (t,r,())=some (bif tv (yV t r) then (zg7 t r,zh3 t r,0,()) else (0,0,310,())):=by
 rw [zrP];unfold zgC
 simp only [zh4 ht,zG]
 by_cases h:yV t r
 ·have hn:=zbd t h.ne
  have:=h.n1
  simp only [zM h,cond_true]
  rw [show (!zj 0 0)=false from rfl,cond_false]
  rw [show wrF .i64 (((zU t r).length:Int) - 1)=((r.length:Nat):Int) from by rw [qT]<;>omega]
  rw [show (0:Int)=((0:Nat):Int) from rfl,ZU (zyX t h.ne),zG,ZU (zAR t h.ne),zG]
 ·simp only [qn h,cond_false];rfl
theorem zqJ {t:je} (ht:vM t) (r:List Int) (a b:Int):ZZ (t,r,a,b,())=some (tv (yV t r∧zg7 t r=a∧zh3 t r=b),()):=by
 rw [zoH];unfold zdg
 simp only [zt1 ht,zG]
 by_cases h:yV t r
 ·simp only [zM h,cond_true]
  rw [show zj 0 0=true from rfl,cond_true]
  refine JO (zr (fun h1=>?_) (fun h1=>?_))
  ·exact zd ⟨fun h2=>⟨h,jo h1,jo h2⟩,fun h2=>wc h2.2.2⟩
  ·exact zd ⟨fun h2=>(by cases h2),fun h2=>absurd h2.2.1 (jG h1)⟩
 ·simp only [qn h,cond_false]
  rw [show zj 310 0=false from rfl,cond_false,qn fun h2=>h h2.1]
abbrev qv:=Int×Int×Int×Int×Int×Int×(Int×Int)×Int×List (List Int)
structure KB (t:je) (s:qv):Prop where
 id:1≤s.1∧s.1≤4095
 ta:uW t s.2.1∧stn t s.2.1=true
 li:uW t s.2.2.1∧stn t s.2.2.1=true
 tl:s.2.1≠s.2.2.1
 sz:84≤s.2.2.2.2.1∧s.2.2.2.2.1≤1542
 dl:1≤s.2.2.2.2.2.2.2.1∧s.2.2.2.2.2.2.2.1≤1099511627776
 cl:(s.2.2.2.1=7∧(1≤s.2.2.2.2.2.1∧s.2.2.2.2.2.1≤240)∧s.2.2.2.2.2.2.1=(0,0))∨(s.2.2.2.1=6∧s.2.2.2.2.2.1=0∧(s.2.2.2.2.1≤s.2.2.2.2.2.2.1.1∧s.2.2.2.2.2.2.1.1≤1048576)∧(1≤s.2.2.2.2.2.2.1.2∧s.2.2.2.2.2.2.1.2≤2097152))
 rn:1≤s.2.2.2.2.2.2.2.2.length∧s.2.2.2.2.2.2.2.2.length≤2
 rt:∀r∈s.2.2.2.2.2.2.2.2,yV t r∧zg7 t r=s.2.1∧zh3 t r=s.2.2.1
 ap:∀a b,s.2.2.2.2.2.2.2.2[0]?=some a→s.2.2.2.2.2.2.2.2[1]?=some b→zsj t a b
theorem zsl {a b c:Int} {R:Int→Int→Int→Option (Bool×Unit)} (hR:R a b c=(bif (!(zt (a) (b))) then some ((!(zt (c) (a))),()) else some (false,()))):R a b c=some (tv (b≤a∧a≤c),()):=by
 rw [hR]
 refine JO (zr (fun h=>?_) (fun h=>?_))<;>refine zd ?_<;>simp only [uY] at *<;>grind
theorem UL (a b c:Int):yv (a,b,c,())=some (tv (b≤a∧a≤c),()):=by
 rw [zlF];exact zsl (R:=zaE) rfl
theorem zjE (a b c:Int):km (a,b,c,())=some (tv (b≤a∧a≤c),()):=by
 rw [ziB];exact zsl (R:=KJ) rfl
theorem zFD {n:Int} (h : -1000000≤n) (h2:n≤1000000):wrF .i64 (n - 1)=n - 1:=qT (by omega) (by omega)
theorem znE {t:je} (hs:szP t) (n:Int):ZY (t,n,())=some (tv (uW t n∧stn t n=true),()):=by
 have h0:=hs.n0;have h1:=hs.n1
 rw [zlJ];unfold zaG
 simp only [UL,zG,zFD (show -1000000≤t.1 by omega) (by omega)]
 refine JO (zr (fun h=>?_) (fun h=>?_))
 ·obtain ⟨h2,h3⟩:=zdN h
  have hn:uW t n:=⟨h2,by omega⟩
  refine zn (xT (a:=stn t n) (by show atI t.2.1 n=_;rw [show n=((n.toNat:Nat):Int) from (by omega),ZU (n:=n.toNat)];exact hn.get hs) ?_)
  exact zd ⟨fun h=>⟨hn,h⟩,fun h=>h.2⟩
 ·have:=GY h
  exact zd ⟨fun h=>(by cases h),fun h=>absurd ⟨h.1.1,by have:=h.1.2;omega⟩ this⟩
def vC (b:Int×Int):Prop:=(1≤b.1∧b.1≤1048576)∧(1≤b.2∧b.2≤2097152)
theorem Wr (b:Int×Int):wQ (b,())=some (bif tv (vC b) then 0 else 130,()):=by
 rw [zoF];unfold zdf vC
 simp only [zjE,zG]
 by_cases h1:1≤b.1∧b.1≤1048576
 ·by_cases h2:1≤b.2∧b.2≤2097152
  ·simp only [zM h1,zM h2,zM (And.intro h1 h2)];rfl
  ·simp only [zM h1,qn h2,qn (fun h:(1≤b.1∧b.1≤1048576)∧(1≤b.2∧b.2≤2097152)=>h2 h.2)];rfl
 ·simp only [qn h1,qn (fun h:(1≤b.1∧b.1≤1048576)∧(1≤b.2∧b.2≤2097152)=>h1 h.1)];rfl
theorem zGB (b:Int×Int):((zj b.1 0)&&((zj b.2 0)&&true))=tv (b=(0,0)):=by
 obtain ⟨x,y⟩:=b
 rw [zGy,wo,wo]
 simp only [Bool.and_true]
 rw [Bool.eq_iff_iff]
 simp [Prod.ext_iff]
theorem zpu {t:je} (ht:vM t) {s:qv} {Q:Prop} (hn:1≤s.2.2.2.2.2.2.2.2.length∧s.2.2.2.2.2.2.2.2.length≤2) {B:((Bool×(Int×Unit))×Unit)→Option ((Nat×((Bool×(Int×Unit))×Unit)) ⊕ ((Bool×(Int×Unit))×Unit))}
  {K:(Nat×((Bool×(Int×Unit))×Unit))→Option (Bool×Unit)}
  (hB
    : B=fun s7=>bif (zt (s7.1.2.1) ((((s.2.2.2.2.2.2.2.2).length:Nat):Int))) then opt (atI (s.2.2.2.2.2.2.2.2) (s7.1.2.1)) fun x8=>
    opt (ZZ ((t,(x8,(s.2.1,(s.2.2.1,())))))) fun x9=>
    bif (!x9.1) then some (.inl (1,((false,(s7.1.2.1,())),())))
    else some (.inr ((s7.1.1,((wrF .i64 ((s7.1.2.1+1))),())),()))
   else some (.inl (0,((s7.1.1,(s7.1.2.1,())),()))))
  (hK :
     ∀x,K x=bif (Nat.beq x.1 0) then bif (zt ((((s.2.2.2.2.2.2.2.2).length:Nat):Int)) (2)) then some (true,())
     else opt (atI (s.2.2.2.2.2.2.2.2) (0)) fun x11=>opt (atI (s.2.2.2.2.2.2.2.2) (1)) fun x12=>opt (ZC ((t,(x11,(x12,()))))) fun x13=>
      bif (zj (x13.2.1) (0)) then bif (!x13.1) then some (false,()) else some (true,()) else some (false,())
    else bif (!x.2.1.1) then some (false,())
     else bif (zt ((((s.2.2.2.2.2.2.2.2).length:Nat):Int)) (2)) then some (true,())
      else opt (atI (s.2.2.2.2.2.2.2.2) (0)) fun x14=>opt (atI (s.2.2.2.2.2.2.2.2) (1)) fun x15=>opt (ZC ((t,(x14,(x15,()))))) fun x16=>
       bif (zj (x16.2.1) (0)) then bif (!x16.1) then some (false,()) else some (true,()) else some (false,()))
  (hQ:Q↔(∀r∈s.2.2.2.2.2.2.2.2,yV t r∧zg7 t r=s.2.1∧zh3 t r=s.2.2.1)∧∀a b,s.2.2.2.2.2.2.2.2[0]?=some a→s.2.2.2.2.2.2.2.2[1]?=some b→zsj t a b) :
  qu (opt (qh B qD ((false,(0,())),())) K) fun r=>(r.1=true↔Q):=by
 subst hB
 obtain ⟨n0,n2⟩:=hn
 refine zp (J:=fun x=>(x.1=0∧∀r∈s.2.2.2.2.2.2.2.2,yV t r∧zg7 t r=s.2.1∧zh3 t r=s.2.2.1)∨(x.1=1∧x.2.1.1=false∧¬Q)) (uC s.2.2.2.2.2.2.2.2.length (fun i=>∀r,s.2.2.2.2.2.2.2.2[i]?=some r→yV t r∧zg7 t r=s.2.1∧zh3 t r=s.2.2.1) (by omega) ?_ ?_) ?_
 ·intro i hi hp
  have hx:s.2.2.2.2.2.2.2.2[i]?=some s.2.2.2.2.2.2.2.2[i]:=List.getElem?_eq_getElem hi
  have hm:=List.getElem_mem hi
  generalize s.2.2.2.2.2.2.2.2[i]=r at hx hm
  refine zh (qq (show (i:Int) < (s.2.2.2.2.2.2.2.2.length:Int) by omega)) (zn (zQ (n:=i) hx ?_))
  rw [zqJ ht]
  refine zr (fun h=>?_) (fun h=>?_)
  ·exact zd (zD (.inr ⟨rfl,rfl,fun hq=>Kz h ((hQ.1 hq).1 r hm)⟩))
  ·exact zd (gN (by omega) fun r' hr'=>by rw [hx] at hr';cases hr';exact GZ h)
 ·intro hp
  refine zg (zZ (show ¬(s.2.2.2.2.2.2.2.2.length:Int) < (s.2.2.2.2.2.2.2.2.length:Int) by omega)) (zd (zD (.inl ⟨rfl,fun r hr=>?_⟩)))
  obtain ⟨k,hk,hk2⟩:=gm hr
  exact hp k hk r hk2
 ·rintro ⟨j,⟨v,w,⟨⟩⟩,⟨⟩⟩ (⟨rfl,hq⟩ | ⟨rfl,rfl,hq⟩)
  ·rw [hK]
   refine zh rfl (zr (fun h=>?_) (fun h=>?_))
   ·have h:=yn h
    have h:s.2.2.2.2.2.2.2.2.length < 2:=by omega
    exact zd ⟨fun _=>hQ.2 ⟨hq,fun a b _ hb=>by rw [List.getElem?_eq_none (by omega)] at hb;cases hb⟩,fun _=>rfl⟩
   ·have h:=wG h
    have h:2≤s.2.2.2.2.2.2.2.2.length:=by omega
    have hx0:s.2.2.2.2.2.2.2.2[0]?=some s.2.2.2.2.2.2.2.2[0]:=List.getElem?_eq_getElem (by omega)
    have hx1:s.2.2.2.2.2.2.2.2[1]?=some s.2.2.2.2.2.2.2.2[1]:=List.getElem?_eq_getElem (by omega)
    have r0:=(hq _ (List.getElem_mem (show 0 < s.2.2.2.2.2.2.2.2.length by omega))).1
    have r1:=(hq _ (List.getElem_mem (show 1 < s.2.2.2.2.2.2.2.2.length by omega))).1
    generalize s.2.2.2.2.2.2.2.2[0]=a at hx0 r0
    generalize s.2.2.2.2.2.2.2.2[1]=b at hx1 r1
    refine zn (zQ (n:=0) hx0 (zn (zQ (n:=1) hx1 ?_)))
    rw [zsk ht r0 r1]
    refine zr (fun h=>?_) (fun h=>?_)
    ·exact zd ⟨fun h=>(by cases h),fun hq2=>absurd ((hQ.1 hq2).2 a b hx0 hx1) (Kz h)⟩
    ·exact zd ⟨fun _=>hQ.2 ⟨hq,fun a' b' ha hb=>by rw [hx0] at ha;rw [hx1] at hb;cases ha;cases hb;exact GZ h⟩,fun _=>rfl⟩
  ·rw [hK]
   exact zg rfl (zh rfl (zd ⟨fun h=>(by cases h),fun h=>absurd h hq⟩))
theorem zg8 {t:je} (ht:vM t) (s:qv):uI (t,s,())=some (tv (KB t s),()):=by
 have no:¬KB t s→qu (some ((false,()):Bool×Unit)) fun r=>(r.1=true↔KB t s):=fun h=>zd ⟨fun h=>(by cases h),fun h2=>absurd h2 h⟩
 rw [zoK];unfold zdj
 simp only [UL,znE ht.sz,Wr,zG,zGB]
 refine JO (zr (fun h=>no fun hs=>Kz h hs.id) fun h1=>zr (fun h2=>zr (fun h3=>zr (fun h=>no fun hs=>?_) fun h4=>zr (fun h=>no fun hs=>Kz h hs.sz) fun h5=>zr (fun h=>no fun hs=>Kz h hs.dl) fun h6=>?_) fun h=>no fun hs=>GY h hs.li) fun h=>no fun hs=>GY h hs.ta)
 ·exact hs.tl (jo (show zj s.2.1 s.2.2.1=true by simpa using h))
 have h1:=GZ h1;have h2:=zdN h2;have h3:=zdN h3;have h5:=GZ h5;have h6:=GZ h6
 have h4:=jG (show zj s.2.1 s.2.2.1=false by simpa using h4)
 refine zr (fun c7=>?_) (fun c7=>zr (fun c6=>?_) (fun c6=>no fun hs=>?_))
 ·have c7:=jo c7
  refine zr (fun h7=>zr (fun h=>no fun hs=>?_) fun h8=>zr (fun h=>no fun hs=>?_) fun h9=>?_) (fun h=>no fun hs=>?_)
  ·rcases hs.cl with ⟨_,_,hb⟩ | ⟨h6',_⟩
   ·exact Kz h hb
   ·omega
  ·have:=Kz h
   have:=hs.rn
   omega
  ·have h9:=GZ h9
   refine zpu ht ⟨by omega,by omega⟩ rfl (fun _=>rfl) ⟨fun hs=>⟨hs.rt,hs.ap⟩,fun hr=>⟨h1,h2,h3,h4,h5,h6,.inl ⟨c7,zdN h7,GZ h8⟩,⟨by omega,by omega⟩,hr.1,hr.2⟩⟩
  ·rcases hs.cl with ⟨_,hb,_⟩ | ⟨h6',_⟩
   ·exact GY h hb
   ·omega
 ·have c6:=jo c6
  refine zr (fun h7=>zr (fun h8=>zr (fun h=>no fun hs=>?_) fun h9=>zr (fun h=>no fun hs=>?_) fun h10=>?_) (fun h=>no fun hs=>?_)) (fun h=>no fun hs=>?_)
  ·rcases hs.cl with ⟨h7',_⟩ | ⟨_,_,hb,_⟩
   ·omega
   ·have:=yn (show zt s.2.2.2.2.2.2.1.1 s.2.2.2.2.1=true by simpa using h)
    omega
  ·have:=Kz h
   have:=hs.rn
   omega
  ·have h10:=GZ h10
   have h7:=jo h7
   have h8:vC s.2.2.2.2.2.2.1:=by
    apply Classical.byContradiction
    intro hb
    rw [qn hb] at h8;cases h8
   have h9:=wG (show zt s.2.2.2.2.2.2.1.1 s.2.2.2.2.1=false by simpa using h9)
   refine zpu ht ⟨by omega,by omega⟩ rfl (fun _=>rfl) ⟨fun hs=>⟨hs.rt,hs.ap⟩,fun hr=>⟨h1,h2,h3,h4,h5,h6,.inr ⟨c6,h7,⟨h9,h8.1.2⟩,h8.2⟩,⟨by omega,by omega⟩,hr.1,hr.2⟩⟩
  ·rcases hs.cl with ⟨h7',_⟩ | ⟨_,_,hb,hr⟩
   ·omega
   ·have:=hs.sz
    have hbp:vC s.2.2.2.2.2.2.1:=⟨⟨by omega,hb.2⟩,hr⟩
    rw [zM hbp] at h;cases h
  ·rcases hs.cl with ⟨h7',_⟩ | ⟨_,hp,_⟩
   ·omega
   ·exact jG h hp
 ·rcases hs.cl with ⟨h7,_⟩ | ⟨h6',_⟩
  ·exact jG c7 h7
  ·exact jG c6 h6'
def zt2 (t:je) (l:List qv):Prop:=∀s∈l,KB t s
def zqK (l:List qv):Prop:=∀(i k:Nat) a b,k < i→l[i]?=some a→l[k]?=some b→b.1≠a.1
noncomputable def zdt (t:je) (l:List qv):Int:=bif tv (l.length≤12) then bif tv (zt2 t l) then bif tv (zqK l) then 0 else 322 else 321 else 3
theorem zzs {α:Type} (m:List (Int×α)) (a b:Int) (x z:α):mpD (mpP m a x) b z=if a=b then x else mpD m b z:=by
 induction m with
 |nil=>
  unfold mpP mpD
  rw [wo]
  by_cases h:a=b
  ·rw [if_pos h,h];simp
  ·rw [if_neg h,show (a == b)=false from by simpa using h];rfl
 |cons p m ih=>
  unfold mpP
  rw [wo]
  by_cases h:p.1=a
  ·rw [h];simp only [beq_self_eq_true,cond_true]
   unfold mpD
   rw [wo,wo]
   by_cases h2:a=b
   ·rw [if_pos h2,h2];simp
   ·rw [if_neg h2,h,show (a == b)=false from by simpa using h2];rfl
  ·rw [show (p.1 == a)=false from by simpa using h,cond_false]
   unfold mpD
   rw [ih,wo]
   by_cases h2:p.1=b
   ·rw [h2];simp only [beq_self_eq_true,cond_true]
    rw [if_neg (by rw [h2] at h;exact fun e=>h e.symm)]
   ·rw [show (p.1 == b)=false from by simpa using h2];rfl
theorem zFE {α:Type} (m:List (Int×α)) (a b:Int) (x:α):mpH (mpP m a x) b=(decide (a=b)||mpH m b):=by
 induction m with
 |nil=>
  unfold mpP mpH
  rw [wo]
  by_cases h:a=b
  ·rw [h];simp
  ·rw [show (a == b)=false from by simpa using h];simp [h,mpH]
 |cons p m ih=>
  unfold mpP
  rw [wo]
  by_cases h:p.1=a
  ·rw [h];simp only [beq_self_eq_true,cond_true]
   unfold mpH
   rw [wo,wo]
   by_cases h2:a=b
   ·rw [h2];simp
   ·rw [h,show (a == b)=false from by simpa using h2];simp [h2]
  ·rw [show (p.1 == a)=false from by simpa using h,cond_false]
   unfold mpH
   rw [ih,wo]
   by_cases h2:p.1=b
   ·rw [h2];simp
   ·rw [show (p.1 == b)=false from by simpa using h2];simp
theorem zl1 {t:je} (ht:vM t) (l:List qv):gZ (t,l,())=some (zdt t l,()):=by
 rw [zkG];unfold Gx zdt
 simp only [JP,zG,zM ht,cond_true]
 rw [show (!zj 0 0)=false from rfl,cond_false]
 refine kO (zr (fun h=>?_) (fun h=>?_))
 ·have h:=yn h
  rw [qn (show ¬l.length≤12 by omega)];exact zd rfl
 have h12:l.length≤12:=by have:=wG h;omega
 rw [zM h12,cond_true]
 refine zp (J:=fun x=>(x.1=0∧x.2.1.1=0∧zt2 t l)∨(x.1=1∧x.2.1.1=321∧¬zt2 t l)) (uC l.length (fun i=>∀s,l[i]?=some s→KB t s) (by omega) ?_ ?_) ?_
 ·intro i hi hp
  have hx:l[i]?=some l[i]:=List.getElem?_eq_getElem hi
  have hm:=List.getElem_mem hi
  generalize l[i]=s at hx hm
  refine zh (qq (show (i:Int) < (l.length:Int) by omega)) (zn (zQ (n:=i) hx ?_))
  rw [zg8 ht]
  refine zr (fun h=>?_) (fun h=>?_)
  ·exact zd (zD (.inr ⟨rfl,rfl,fun hq=>Kz h (hq s hm)⟩))
  ·exact zd (gN (by omega) fun r' hr'=>by rw [hx] at hr';cases hr';exact GZ h)
 ·intro hp
  refine zg (zZ (show ¬(l.length:Int) < (l.length:Int) by omega)) (zd (zD (.inl ⟨rfl,rfl,fun r hr=>?_⟩)))
  obtain ⟨k,hk,hk2⟩:=gm hr
  exact hp k hk r hk2
 rintro ⟨j,⟨v,w,⟨⟩⟩,⟨⟩⟩ (⟨rfl,rfl,hq⟩ | ⟨rfl,rfl,hq⟩)
 rotate_left
 ·rw [qn hq];exact zg rfl (zd rfl)
 rw [zM hq,cond_true]
 refine zh rfl (zp (J:=fun x=>(x.1=0∧zqK l)∨(x.1=1∧x.2.1.1=322∧¬zqK l))
  (qt l.length (fun i s=>(∃m,s=((0,((i:Int),())),(m,()))∧∀z,mpD m z false=true↔∃(k:Nat) (b:qv),k < i∧l[k]?=some b∧b.1=z)∧∀(k' k:Nat) a b,k' < i→k < k'→l[k']?=some a→l[k]?=some b→b.1≠a.1) (by omega) ⟨⟨[],rfl,fun z=>⟨fun h=>(by cases h),fun ⟨k,b,hk,_⟩=>by omega⟩⟩,fun k' k a b hk=>by omega⟩ ?_ ?_) ?_)
 ·rintro i _ hi ⟨⟨m,rfl,hm⟩,hp⟩
  have hx:l[i]?=some l[i]:=List.getElem?_eq_getElem hi
  generalize l[i]=s at hx
  refine zh (qq (show (i:Int) < (l.length:Int) by omega)) (zn (zQ (n:=i) hx ?_))
  refine zr (fun h=>?_) (fun h=>?_)
  ·obtain ⟨k,b,hk,hb,e⟩:=(hm s.1).1 h
   exact zd (zD (.inr ⟨rfl,rfl,fun hd=>hd i k s b hk hx hb e⟩))
  ·have hno:¬∃(k:Nat) (b:qv),k < i∧l[k]?=some b∧b.1=s.1:=fun he=>by
    have:=(hm s.1).2 he
    have h':mpD m s.1 false=false:=h
    rw [this] at h';cases h'
   refine zd (qR ⟨⟨_,congrArg (fun z=>(((0:Int),(z,())),(_,()))) (qO (by omega)),fun z=>?_⟩,fun k' k a b hk' hk ha hb=>?_⟩)
   ·show mpD (mpP m s.1 true) z false=true↔_
    rw [zzs]
    split
    ·rename_i e
     exact ⟨fun _=>⟨i,s,by omega,hx,e⟩,fun _=>rfl⟩
    ·rename_i e
     rw [hm z]
     constructor
     ·rintro ⟨k,b,h1,h2,h3⟩;exact ⟨k,b,by omega,h2,h3⟩
     ·rintro ⟨k,b,h1,h2,h3⟩
      rcases Nat.lt_or_ge k i with hk | hk
      ·exact ⟨k,b,hk,h2,h3⟩
      ·have:k=i:=by omega
       subst this
       rw [hx] at h2;cases h2
       exact absurd h3 e
   ·rcases Nat.lt_or_ge k' i with hki | hki
    ·exact hp k' k a b hki hk ha hb
    ·have:k'=i:=by omega
     subst this
     rw [hx] at ha;cases ha
     exact fun e=>hno ⟨k,b,hk,hb,e⟩
 ·rintro _ ⟨⟨m,rfl,hm⟩,hp⟩
  exact zg (zZ (show ¬(l.length:Int) < (l.length:Int) by omega)) (zd (zD (.inl ⟨rfl,fun i k a b hk ha hb=>hp i k a b (by grind) hk ha hb⟩)))
 ·rintro ⟨j,⟨v,w,⟨⟩⟩,c,⟨⟩⟩ (⟨rfl,hd⟩ | ⟨rfl,rfl,hd⟩)
  ·rw [zM hd];exact zh rfl (zd rfl)
  ·rw [qn hd];exact zg rfl (zd rfl)
theorem zqL {t:je} (ht:vM t) (s:qv):JN (t,s,())=some (bif tv (KB t s) then 0 else 321,()):=by
 rw [zoX];unfold zdm
 simp only [JP,zG,zM ht,cond_true,zg8 ht]
 rw [show (!zj 0 0)=false from rfl,cond_false]
 cases tv (KB t s)<;>rfl
theorem zFF {l:List qv} (hn:l.length≤1000000000000000000) (id:Int):∃v e,xy (l,id,())=some (v,e,())∧((e=0∧∃(i:Nat) (s:qv),v=(i:Int)∧l[i]?=some s∧s.1=id∧∀(k:Nat) b,k < i→l[k]?=some b→b.1≠id)∨(e=4∧v=0∧∀s∈l,s.1≠id)):=by
 have key:qu (xy (l,id,())) fun r=>(r.2.1=0∧∃(i:Nat) (s:qv),r.1=(i:Int)∧l[i]?=some s∧s.1=id∧∀(k:Nat) b,k < i→l[k]?=some b→b.1≠id)∨(r.2.1=4∧r.1=0∧∀s∈l,s.1≠id):=by
  rw [zoY];unfold zdn
  refine zp (J:=fun x=>(x.1=0∧∀s∈l,s.1≠id)∨(x.1=1∧x.2.1.2.1=0∧∃(i:Nat) (s:qv),x.2.1.1=(i:Int)∧l[i]?=some s∧s.1=id∧∀(k:Nat) b,k < i→l[k]?=some b→b.1≠id))
   (qt l.length (fun i s=>s=((0,(0,((i:Int),()))),())∧∀(k:Nat) b,k < i→l[k]?=some b→b.1≠id) (zxZ hn) ⟨rfl,fun k b hk=>by omega⟩ ?_ ?_) ?_
  ·rintro i _ hi ⟨rfl,hp⟩
   have hx:l[i]?=some l[i]:=List.getElem?_eq_getElem hi
   generalize l[i]=s at hx
   refine zh (qq (show (i:Int) < (l.length:Int) by omega)) (zn (zQ (n:=i) hx ?_))
   refine zr (fun h=>?_) (fun h=>?_)
   ·exact zd (zD (.inr ⟨rfl,rfl,i,s,rfl,hx,jo h,hp⟩))
   ·refine zd (qR ⟨congrArg (fun z=>(((0:Int),((0:Int),(z,()))),())) (qO (by omega)),fun k b hk hb=>?_⟩)
    rcases Nat.lt_or_ge k i with hki | hki
    ·exact hp k b hki hb
    ·have:k=i:=by omega
     subst this
     rw [hx] at hb;cases hb
     exact jG h
  ·rintro _ ⟨rfl,hp⟩
   refine zg (zZ (show ¬(l.length:Int) < (l.length:Int) by omega)) (zd (zD (.inl ⟨rfl,fun s hs=>?_⟩)))
   obtain ⟨k,hk,hk2⟩:=gm hs
   exact hp k s hk hk2
  ·rintro ⟨j,⟨v,w,z,⟨⟩⟩,⟨⟩⟩ (⟨rfl,hq⟩ | ⟨rfl,rfl,hq⟩)
   ·exact zh rfl (zd (.inr ⟨rfl,rfl,hq⟩))
   ·exact zg rfl (zd (.inl ⟨rfl,hq⟩))
 obtain ⟨⟨v,e,⟨⟩⟩,h1,h2⟩:=key
 exact ⟨v,e,h1,h2⟩
def UM (u:Int×Int×Int×Int):Prop:=(1≤u.1∧u.1≤10000)∧(0≤u.2.1∧u.2.1≤1000)∧(0≤u.2.2.1∧u.2.2.1≤10000)∧(1542≤u.2.2.2∧u.2.2.2≤65536)
theorem zjF (u:Int×Int×Int×Int):kf (u,())=some (bif tv (UM u) then 0 else 320,()):=by
 rw [ziv];unfold KH
 simp only [UL,zG]
 by_cases h1:1≤u.1∧u.1≤10000
 ·by_cases h2:0≤u.2.1∧u.2.1≤1000
  ·by_cases h3:0≤u.2.2.1∧u.2.2.1≤10000
   ·by_cases h4:1542≤u.2.2.2∧u.2.2.2≤65536
    ·rw [zM h1,zM h2,zM h3,zM h4,zM (show UM u from ⟨h1,h2,h3,h4⟩)];rfl
    ·rw [zM h1,zM h2,zM h3,qn h4,qn (fun h:UM u=>h4 h.2.2.2)];rfl
   ·rw [zM h1,zM h2,qn h3,qn (fun h:UM u=>h3 h.2.2.1)];rfl
  ·rw [zM h1,qn h2,qn (fun h:UM u=>h2 h.2.1)];rfl
 ·rw [qn h1,qn (fun h:UM u=>h1 h.1)];rfl
abbrev Gts:=List (Int×Int)×Int
def zci (e:Int×Int):Prop:=0≤e.1∧e.1≤255∧1≤e.2∧e.2≤9600000
def uS (l:List (Int×Int)):Int:=(l.map (·.2)).sum
structure yp (g:Gts):Prop where
 n0:1≤g.1.length
 n1:g.1.length≤128
 el:∀e∈g.1,zci e
 cy:uS g.1=g.2
 c1:g.2≤9600000
theorem Vz {l:List (Int×Int)} {n:Nat} {x:Int×Int} (h:l[n]?=some x):uS (l.take (n+1))=uS (l.take n)+x.2:=by
 unfold uS;rw [List.take_add_one,h];simp
theorem KD {l:List (Int×Int)} (h:∀e∈l,zci e):(l.length:Int)≤uS l∧uS l≤9600000*l.length:=by
 unfold uS
 induction l with
 |nil=>simp
 |cons a l ih=>
  obtain ⟨_,_,h1,h2⟩:=h a (by simp)
  have:=ih fun e he=>h e (by simp [he])
  simp only [List.map_cons,List.sum_cons,List.length_cons]
  omega
theorem zAS {g:Gts} (n1:g.1.length≤128) {α:Type} {z bad:α} {B:((α×(Int×(Int×Unit)))×Unit)→Option ((Nat×((α×(Int×(Int×Unit)))×Unit)) ⊕ ((α×(Int×(Int×Unit)))×Unit))}
  (hB
    : B=fun s1=>bif (zt (s1.1.2.2.1) ((((g.1).length:Nat):Int))) then opt (atI (g.1) (s1.1.2.2.1)) fun x2=>
    opt (bif (zt (x2.1) (0)) then some (1,((bad,()),()))
     else bif (zt (255) (x2.1)) then some (1,((bad,()),()))
      else bif (zt (x2.2) (1)) then some (1,((bad,()),()))
       else bif (zt (9600000) (x2.2)) then some (1,((bad,()),()))
        else some (0,((s1.1.1,()),()))) fun x3=>
    bif (Nat.beq x3.1 0) then some (.inr ((x3.2.1.1,((wrF .i64 ((s1.1.2.1+x2.2))),((wrF .i64 ((s1.1.2.2.1+1))),()))),()))
    else some (.inl (1,((x3.2.1.1,(s1.1.2.1,(s1.1.2.2.1,()))),())))
   else some (.inl (0,((s1.1.1,(s1.1.2.1,(s1.1.2.2.1,()))),())))) :
  qu (qh B qD ((z,(0,(0,()))),())) fun x=>(x.1=0∧x.2.1.1=z∧x.2.1.2.1=uS g.1∧∀e∈g.1,zci e)∨(x.1=1∧x.2.1.1=bad∧¬∀e∈g.1,zci e):=by
 subst hB
 refine qt g.1.length (fun i s=>s=((z,(uS (g.1.take i),((i:Int),()))),())∧∀e∈g.1.take i,zci e) (by omega) ⟨rfl,fun e he=>by simp at he⟩ ?_ ?_
 ·rintro i _ hi ⟨rfl,hp⟩
  have hx:g.1[i]?=some g.1[i]:=List.getElem?_eq_getElem hi
  have hm:=List.getElem_mem hi
  generalize g.1[i]=e at hx hm
  refine zh (qq (show (i:Int) < (g.1.length:Int) by omega)) (zn (zQ (n:=i) hx ?_))
  refine zp (J:=fun x=>(x.1=0∧x.2.1.1=z∧zci e)∨(x.1=1∧x.2.1.1=bad∧¬zci e)) ?_ ?_
  ·refine zr (fun h=>zd (.inr ⟨rfl,rfl,fun hs=>?_⟩)) fun h1=>zr (fun h=>zd (.inr ⟨rfl,rfl,fun hs=>?_⟩)) fun h2=>zr (fun h=>zd (.inr ⟨rfl,rfl,fun hs=>?_⟩)) fun h3=>zr (fun h=>zd (.inr ⟨rfl,rfl,fun hs=>?_⟩)) fun h4=>zd (.inl ⟨rfl,rfl,?_⟩)
   ·have:=yn h;have:=hs.1;omega
   ·have:=yn h;have:=hs.2.1;omega
   ·have:=yn h;have:=hs.2.2.1;omega
   ·have:=yn h;have:=hs.2.2.2;omega
   ·exact ⟨wG h1,wG h2,wG h3,wG h4⟩
  ·rintro ⟨j,⟨v,⟨⟩⟩,⟨⟩⟩ (⟨rfl,rfl,he⟩ | ⟨rfl,rfl,he⟩)
   ·have hb:=KD hp
    have hl:(g.1.take i).length=i:=by simp;omega
    have e1:wrF .i64 (uS (g.1.take i)+e.2)=uS (g.1.take (i+1)):=by
     rw [Vz hx,qT]<;>(have:=he.2.2.1;have:=he.2.2.2;omega)
    refine zh rfl (zd (qR ⟨?_,fun e' he'=>?_⟩))
    ·rw [←e1,←qO (by omega)]
    ·rw [List.take_add_one,hx] at he'
     simp only [Option.toList,List.mem_append,List.mem_singleton] at he'
     rcases he' with h | rfl
     ·exact hp e' h
     ·exact he
   ·exact zg rfl (zd (zD (.inr ⟨rfl,rfl,fun h=>he (h e hm)⟩)))
 ·rintro _ ⟨rfl,hp⟩
  refine zg (zZ (show ¬(g.1.length:Int) < (g.1.length:Int) by omega)) (zd (zD (.inl ⟨rfl,rfl,?_,?_⟩)))
  ·show uS (g.1.take g.1.length)=_
   rw [List.take_length]
  ·rw [List.take_length] at hp;exact hp
theorem zcj (g:Gts):xV (g,())=some (bif tv (yp g) then 0 else 370,()):=by
 have bad:∀{v:Int},¬yp g→v=370→v=bif tv (yp g) then 0 else 370:=fun h e=>by rw [qn h,e];rfl
 rw [zp8];unfold zeB
 refine kO (zp (J:=fun x=>(x.1=0∧x.2.1.1=0∧1≤g.1.length∧g.1.length≤128)∨(x.1=1∧x.2.1.1=370∧¬yp g)) ?_ ?_)
 ·refine zr (fun h=>zd (.inr ⟨rfl,rfl,fun hs=>?_⟩)) fun h1=>zr (fun h=>zd (.inr ⟨rfl,rfl,fun hs=>?_⟩)) fun h2=>zd (.inl ⟨rfl,rfl,?_⟩)
  ·have:=yn h;have:=hs.n0;omega
  ·have:=yn h;have:=hs.n1;omega
  ·have:=wG h1;have:=wG h2;omega
 rintro ⟨j,⟨v,⟨⟩⟩,⟨⟩⟩ (⟨rfl,rfl,n0,n1⟩ | ⟨rfl,rfl,hq⟩)
 rotate_left
 ·exact zg rfl (zd (bad hq rfl))
 refine zh rfl (zp (zAS n1 rfl) ?_)
 rintro ⟨j,⟨v,w,z,⟨⟩⟩,⟨⟩⟩ (⟨rfl,rfl,rfl,he⟩ | ⟨rfl,rfl,he⟩)
 rotate_left
 ·exact zg rfl (zd (bad (fun h=>he h.el) rfl))
 refine zh rfl (zp (J:=fun x=>(x.1=0∧yp g)∨(x.1=1∧x.2.1.1=370∧¬yp g)) ?_ ?_)
 ·refine zr (fun h=>zd (.inr ⟨rfl,rfl,fun hs=>?_⟩)) fun h1=>zr (fun h=>zd (.inr ⟨rfl,rfl,fun hs=>?_⟩)) fun h2=>zd (.inl ⟨rfl,n0,n1,he,jo (by simpa using h1),?_⟩)
  ·rw [wc hs.cy] at h;cases h
  ·have:=yn h;have:=hs.c1;have:=hs.cy;simp only at *;omega
  ·have:=wG h2
   have:uS g.1=g.2:=jo (by simpa using h1)
   simp only at *;omega
 ·rintro ⟨j,⟨v,⟨⟩⟩,⟨⟩⟩ (⟨rfl,hq⟩ | ⟨rfl,rfl,hq⟩)
  ·rw [zM hq];exact zh rfl (zd rfl)
  ·exact zg rfl (zd (bad hq rfl))
abbrev Fab:=je×(Int×Int×Int×Int)×List Gts×Int
def zsm (n:Fab):Prop:=∀g∈n.2.2.1,yp g
def zjG (n:Fab):Prop:=(n.2.2.1.length:Int)=2*(n.1.2.2.length:Int)∧84≤n.2.2.2∧n.2.2.2≤1542
noncomputable def zaT (n:Fab):Int:=bif tv (vM n.1) then bif tv (UM n.2.1) then bif tv (zsm n) then bif tv (zjG n) then 0 else 410 else 370 else 320 else 260
structure znF (n:Fab):Prop where
 t:vM n.1
 u:UM n.2.1
 g:zsm n
 f:zjG n
theorem zCi {n:Fab} (h:zaT n=0):znF n:=by
 unfold zaT at h
 by_cases h1:vM n.1
 ·by_cases h2:UM n.2.1
  ·by_cases h3:zsm n
   ·by_cases h4:zjG n
    ·exact ⟨h1,h2,h3,h4⟩
    ·rw [zM h1,zM h2,zM h3,qn h4] at h;cases h
   ·rw [zM h1,zM h2,qn h3] at h;cases h
  ·rw [zM h1,qn h2] at h;cases h
 ·rw [qn h1] at h;cases h
theorem zGC {n:Fab} (h:znF n):zaT n=0:=by unfold zaT;rw [zM h.t,zM h.u,zM h.g,zM h.f];rfl
theorem zAT {n:Fab} (hl:n.1.2.2.length≤24):qu (bif (!(zj ((((n.2.2.1).length:Nat):Int)) ((wrF .i64 ((2*(((n.1.2.2).length:Nat):Int))))))) then some ((1:Nat),(((410:Int),()),()))
     else bif (zt (n.2.2.2) (84)) then some (1,((410,()),()))
      else bif (zt (1542) (n.2.2.2)) then some (1,((410,()),()))
       else some (0,((0,()),()))) fun x=>(x.1=0∧x.2.1.1=0∧zjG n)∨(x.1=1∧x.2.1.1=410∧¬zjG n):=by
 rw [tw n.1 (by omega)]
 refine zr (fun h=>zd (.inr ⟨rfl,rfl,fun hs=>?_⟩)) fun h1=>zr (fun h=>zd (.inr ⟨rfl,rfl,fun hs=>?_⟩)) fun h2=>zr (fun h=>zd (.inr ⟨rfl,rfl,fun hs=>?_⟩)) fun h3=>zd (.inl ⟨rfl,rfl,?_⟩)
 ·rw [wc hs.1] at h;cases h
 ·have:=yn h;have:=hs.2.1;omega
 ·have:=yn h;have:=hs.2.2;omega
 ·exact ⟨jo (by simpa using h1),wG h2,wG h3⟩
theorem zbe {n:Fab} (hn:n.2.2.1.length≤1000000000000000000):yX (n,())=some (zaT n,()):=by
 rw [ziw];unfold KI zaT
 simp only [JP,zG]
 by_cases ht:vM n.1
 rotate_left
 ·rw [qn ht];rfl
 rw [zM ht]
 simp only [cond_true,zjF,zG]
 rw [show (!zj 0 0)=false from rfl,cond_false]
 by_cases hu:UM n.2.1
 rotate_left
 ·rw [qn hu];rfl
 rw [zM hu]
 simp only [cond_true]
 rw [show (!zj 0 0)=false from rfl,cond_false]
 refine kO (zp (J:=fun x=>(x.1=0∧x.2.1.1=0∧zsm n)∨(x.1=1∧x.2.1.1=370∧¬zsm n)) (uC n.2.2.1.length (fun i=>∀g,n.2.2.1[i]?=some g→yp g) hn ?_ ?_) ?_)
 ·intro i hi hp
  have hx:n.2.2.1[i]?=some n.2.2.1[i]:=List.getElem?_eq_getElem hi
  have hm:=List.getElem_mem hi
  generalize n.2.2.1[i]=g at hx hm
  refine zh (qq (show (i:Int) < (n.2.2.1.length:Int) by omega)) (zn (zQ (n:=i) hx ?_))
  rw [zcj,zG]
  by_cases hg:yp g
  ·rw [zM hg]
   exact zg rfl (zd (gN (by omega) fun r' hr'=>by rw [hx] at hr';cases hr';exact hg))
  ·rw [qn hg]
   exact zh rfl (zd (zD (.inr ⟨rfl,rfl,fun hq=>hg (hq g hm)⟩)))
 ·intro hp
  refine zg (zZ (show ¬(n.2.2.1.length:Int) < (n.2.2.1.length:Int) by omega)) (zd (zD (.inl ⟨rfl,rfl,fun r hr=>?_⟩)))
  obtain ⟨k,hk,hk2⟩:=gm hr
  exact hp k hk r hk2
 ·rintro ⟨j,⟨v,w,⟨⟩⟩,⟨⟩⟩ (⟨rfl,rfl,hq⟩ | ⟨rfl,rfl,hq⟩)
  ·rw [zM hq]
   refine zh rfl (zp (zAT ht.sz.ls) ?_)
   rintro ⟨j,⟨v,⟨⟩⟩,⟨⟩⟩ (⟨rfl,rfl,hf⟩ | ⟨rfl,rfl,hf⟩)
   ·rw [zM hf];exact zh rfl (zd rfl)
   ·rw [qn hf];exact zg rfl (zd rfl)
  ·rw [qn hq];exact zg rfl (zd rfl)
def opn (m:Int):Bool:=m / 64 % 2 == 1
theorem zHj {m:Int}:yu .i64 m 6=m / 64:=by
 show m.fdiv (2 ^ (min (6:Int).toNat 64))=m / 64
 rw [show (2:Int) ^ (min (6:Int).toNat 64)=64 from rfl]
 exact Int.fdiv_eq_ediv_of_nonneg m (by omega)
theorem vA {e:Int×Int} (h:zci e):vE (e,())=some (opn e.1,()):=by
 rw [zcK];unfold VR opn
 rw [zHj]
 have h0:=h.1;have h1:=h.2.1
 have:e.1 / 64=0∨e.1 / 64=1∨e.1 / 64=2∨e.1 / 64=3:=by omega
 rcases this with h | h | h | h<;>rw [h]<;>rfl
def opA:List (Int×Int)→Int→Bool
 |[],_=>false
 |e::l,r=>if r < e.2 then opn e.1 else opA l (r - e.2)
def opT (g:Gts) (t:Int):Bool:=opA g.1 (t % g.2)
theorem zCj:∀(l:List (Int×Int)),(∀e∈l,zci e)→∀(i:Nat) (e:Int×Int) (r:Int),l[i]?=some e→uS (l.take i)≤r→r < uS (l.take i)+e.2→opA l r=opn e.1
 |[],_,i,e,r,h,_,_=>by simp at h
 |a::l,hl,0,e,r,h,h1,h2=>by
  simp at h;subst h
  simp [uS] at h1 h2
  unfold opA;rw [if_pos h2]
 |a::l,hl,i+1,e,r,h,h1,h2=>by
  have h':l[i]?=some e:=by simpa using h
  have hh:=KD (l:=l.take i) fun e he=>hl e (by simp [List.mem_of_mem_take he])
  have ea:uS ((a::l).take (i+1))=a.2+uS (l.take i):=by simp [uS]
  rw [ea] at h1 h2
  unfold opA
  rw [if_neg (by omega)]
  exact zCj l (fun e he=>hl e (by simp [he])) i e (r - a.2) h' (by omega) (by omega)
theorem zFG (g:Gts) (t:Int):opT g (t+g.2)=opT g t:=by unfold opT;rw [Int.add_emod_right]
theorem zeq {l:List (Int×Int)} (h:∀e∈l,zci e) {i k:Nat} (hk:i≤k):uS (l.take i)≤uS (l.take k):=by
 obtain ⟨d,rfl⟩:∃d,k=i+d:=⟨k - i,by omega⟩
 induction d with
 |zero=>exact Int.le_refl _
 |succ d ih=>
  have:=ih (by omega)
  rcases Nat.lt_or_ge (i+d) l.length with h2 | h2
  ·have hx:l[i+d]?=some l[i+d]:=List.getElem?_eq_getElem h2
   have:=Vz hx
   have:=(h _ (List.getElem_mem h2)).2.2.1
   rw [show i+(d+1)=i+d+1 from rfl];omega
  ·rw [List.take_of_length_le (by omega:l.length≤i+(d+1)),←List.take_of_length_le (l:=l) (by omega:l.length≤i+d)]
   rw [List.take_of_length_le (l:=l) (by omega:l.length≤i+d)] at this ⊢
   exact this
theorem zdu (l:List (Int×Int)):uS (l.take l.length)=uS l:=by rw [List.take_length]
theorem yp.pos {g:Gts} (h:yp g):1≤g.2:=by
 have:=(KD h.el).1;have:=h.cy;have:=h.n0;omega
def tAt (g:Gts) (k:Nat):Int:=((k / g.1.length:Nat):Int)*g.2+uS (g.1.take (k % g.1.length))
theorem zx4 {g:Gts} {k:Nat} (h:k < g.1.length):tAt g k=uS (g.1.take k):=by
 unfold tAt;rw [Nat.div_eq_of_lt h,Nat.mod_eq_of_lt h];simp
theorem zzt {g:Gts} (hg:yp g) (k:Nat):tAt g (k+g.1.length)=tAt g k+g.2:=by
 have:=hg.n0
 unfold tAt
 rw [Nat.add_div_right _ (by omega),Nat.add_mod_right,Int.natCast_succ,Int.add_mul];omega
theorem zg9 {g:Gts} (hg:yp g) {k:Nat} {e:Int×Int} (h:g.1[k % g.1.length]?=some e):tAt g (k+1)=tAt g k+e.2:=by
 have h0:=hg.n0
 have hm:k % g.1.length < g.1.length:=Nat.mod_lt _ (by omega)
 have hk:=Nat.div_add_mod k g.1.length
 have hs:=Vz h
 unfold tAt
 rcases Nat.lt_or_ge (k % g.1.length+1) g.1.length with h1 | h1
 ·have e1:(k+1) % g.1.length=k % g.1.length+1:=by
   rw [Nat.add_mod,Nat.mod_eq_of_lt (show 1 < g.1.length by omega),Nat.mod_eq_of_lt h1]
  have e2:(k+1) / g.1.length=k / g.1.length:=by
   have a:=Nat.div_add_mod (k+1) g.1.length
   rw [e1] at a
   have b:g.1.length*((k+1) / g.1.length)=g.1.length*(k / g.1.length):=by omega
   exact Nat.eq_of_mul_eq_mul_left (by omega) b
  rw [e1,e2,hs];omega
 ·have h2:k % g.1.length+1=g.1.length:=by omega
  have e3:k+1=(k / g.1.length+1)*g.1.length:=by
   rw [Nat.add_mul,Nat.mul_comm];omega
  have e1:(k+1) % g.1.length=0:=by rw [e3];exact Nat.mul_mod_left _ _
  have e2:(k+1) / g.1.length=k / g.1.length+1:=by rw [e3];exact Nat.mul_div_left _ (by omega)
  rw [h2,zdu,hg.cy] at hs
  rw [e1,e2,Int.natCast_succ,Int.add_mul]
  simp only [List.take_zero]
  have:uS []=0:=rfl
  omega
theorem zx5 {g:Gts} (hg:yp g) {k:Nat} {e:Int×Int} (h:g.1[k % g.1.length]?=some e) {t:Int} (h1:tAt g k≤t) (h2:t < tAt g k+e.2):opT g t=opn e.1:=by
 have h0:=hg.n0
 have hm:k % g.1.length < g.1.length:=Nat.mod_lt _ (by omega)
 have hs:=Vz h
 have hb:=KD (l:=g.1.take (k % g.1.length)) fun e he=>hg.el e (List.mem_of_mem_take he)
 have hle:=zeq hg.el (show k % g.1.length+1≤g.1.length by omega)
 rw [zdu,hg.cy] at hle
 unfold tAt at h1 h2
 have hr:t % g.2=t - ((k / g.1.length:Nat):Int)*g.2:=by
  have:t=(t - ((k / g.1.length:Nat):Int)*g.2)+((k / g.1.length:Nat):Int)*g.2:=by omega
  rw [this,Int.add_mul_emod_self_right,Int.emod_eq_of_lt (by omega) (by omega)];omega
 unfold opT
 exact zCj g.1 hg.el (k % g.1.length) e _ h (by omega) (by omega)
def zck (l:List (Int×Int)):Prop:=∀e∈l,opn e.1=true
theorem zG5 {e:Int×Int} (h:zci e):zj (gG .and .i64 (yu .i64 e.1 6) 1) 1=opn e.1:=by
 have:=vA h
 rw [zcK] at this
 unfold VR at this
 exact congrArg (·.1) (Option.some.inj this)
theorem zt3 {g:Gts} (hg:yp g) {e:Int×Int} (h:g.1[0]?=some e):XH (g,0,())=some (0,e.2,()):=by
 have hp:=hg.pos;have hc:=hg.c1
 have he:=hg.el e (List.mem_of_getElem? h)
 have h2:=he.2.2.1;have h3:=he.2.2.2
 rw [zrX];unfold zgE
 rw [jg (show g.2≠0 by omega),cond_false,cond_false,show atI g.1 0=some e from ZU (n:=0) h]
 simp only [zG]
 rw [show Int.tmod 0 g.2=0 from Int.zero_tmod _,show wrF .i64 (0+g.2)=g.2 from by rw [qT]<;>omega,show Int.tmod g.2 g.2=0 from Int.tmod_self]
 rw [qq (show (0:Int) < e.2 by omega),show wrF .i64 (e.2 - 0)=e.2 from by rw [qT]<;>omega]
 rfl
theorem zt4 {g:Gts} (hg:yp g):qu (XK (g,6,0,())) fun r=>(r.1=1099511627776∧zck g.1)∨(r.1 < 1099511627776∧¬zck g.1):=by
 have h0:=hg.n0;have h1:=hg.n1;have hp:=hg.pos;have hc:=hg.c1
 have hx0:g.1[0]?=some g.1[0]:=List.getElem?_eq_getElem (by omega)
 generalize g.1[0]=e0 at hx0
 rw [zrZ];unfold zgF
 rw [zt3 hg hx0,zG]
 have ew:wrF .i64 ((g.1.length:Int)+1)=(g.1.length:Int)+1:=qT (by omega) (by omega)
 rw [ew]
 refine zp (J:=fun x=>(x.1=0∧x.2.1.2.1=g∧zck g.1)∨(x.1=1∧x.2.1.2.2.1 < g.2∧¬zck g.1))
  (qt (g.1.length+1) (fun i s=>∃e,g.1[i % g.1.length]?=some e∧s=((6,(g,(0,(tAt g i,(((i % g.1.length:Nat):Int),(e.2,((i:Int),()))))))),())∧∀(k:Nat),k < i→∀e',g.1[k % g.1.length]?=some e'→opn e'.1=true) (by omega)
   ⟨e0,by rw [Nat.zero_mod];exact hx0,by rw [zx4 (by omega),Nat.zero_mod];rfl,fun k hk=>by omega⟩ ?_ ?_) ?_
 ·rintro i _ hi ⟨e,he,rfl,hp'⟩
  have hm:i % g.1.length < g.1.length:=Nat.mod_lt _ (by omega)
  have hen:=hg.el e (List.mem_of_getElem? he)
  have hts:=zg9 hg he
  have htb:0≤tAt g i∧tAt g i≤2*9600000:=by
   unfold tAt
   have hb:=KD (l:=g.1.take (i % g.1.length)) fun e he=>hg.el e (List.mem_of_mem_take he)
   have hle:=zeq hg.el (show i % g.1.length≤g.1.length by omega)
   rw [zdu,hg.cy] at hle
   have hd:i / g.1.length≤1:=by
    have:i / g.1.length < 2:=Nat.div_lt_of_lt_mul (by omega)
    omega
   have:((i / g.1.length:Nat):Int)*g.2≤1*g.2:=Int.mul_le_mul_of_nonneg_right (by omega) (by omega)
   have:0≤((i / g.1.length:Nat):Int)*g.2:=Int.mul_nonneg (Int.natCast_nonneg _) (by omega)
   omega
  refine zh (qq (show (i:Int) < (g.1.length:Int)+1 by omega)) (zn (zQ (n:=i % g.1.length) he ?_))
  refine zg rfl ?_
  have hb:=zG5 hen
  refine zr (fun h=>?_) (fun h=>?_)
  ·have h':(!zj (gG .and .i64 (yu .i64 e.1 6) 1) 1)=true:=h
   rw [hb] at h'
   refine zd (zD (.inr ⟨rfl,?_,fun ha=>?_⟩))
   ·show tAt g i < g.2
    rcases Nat.lt_or_ge i g.1.length with hi2 | hi2
    ·rw [zx4 hi2]
     have hle:=zeq hg.el (show i+1≤g.1.length by omega)
     rw [zdu,hg.cy] at hle
     rw [Nat.mod_eq_of_lt hi2] at he
     rw [Vz he] at hle
     have:=hen.2.2.1;omega
    ·exfalso
     have hi3:i=g.1.length:=by omega
     rw [hi3,Nat.mod_self] at he
     have:=hp' 0 (by omega) e (by rw [Nat.zero_mod];exact he)
     rw [this] at h';cases h'
   ·rw [ha e (List.mem_of_getElem? he)] at h';cases h'
  ·have h':(!zj (gG .and .i64 (yu .i64 e.1 6) 1) 1)=false:=h
   rw [hb] at h'
   have hop:opn e.1=true:=by simpa using h'
   refine zg (jg (show (g.1.length:Int)≠0 by omega)) ?_
   have e1:Int.tmod (wrF .i64 (((i % g.1.length:Nat):Int)+1)) (g.1.length:Int)=(((i+1) % g.1.length:Nat):Int):=by
    rw [qO (by omega),Int.tmod_eq_emod_of_nonneg (by omega),←Int.natCast_emod,Nat.mod_add_mod]
   have hm2:(i+1) % g.1.length < g.1.length:=Nat.mod_lt _ (by omega)
   have hx2:g.1[(i+1) % g.1.length]?=some (g.1[(i+1) % g.1.length]'hm2):=List.getElem?_eq_getElem hm2
   refine zn (xT (a:=g.1[(i+1) % g.1.length]'hm2) (by show atI g.1 (Int.tmod (wrF .i64 (((i % g.1.length:Nat):Int)+1)) (g.1.length:Int))=_;rw [e1];exact ZU hx2) ?_)
   refine zd (qR ⟨_,hx2,?_,fun k hk e' he'=>?_⟩)
   ·show ((6,(g,(0,((wrF .i64 (tAt g i+e.2)),((Int.tmod (wrF .i64 (((i % g.1.length:Nat):Int)+1)) (g.1.length:Int)),(_,((wrF .i64 ((i:Int)+1)),()))))))),())=_
    rw [e1,qO (by omega),hts,qT (by have:=hen.2.2.1;omega) (by have:=hen.2.2.2;omega)]
   ·rcases Nat.lt_or_ge k i with hki | hki
    ·exact hp' k hki e' he'
    ·have:k=i:=by omega
     subst this
     rw [he] at he';cases he'
     exact hop
 ·rintro _ ⟨e,he,rfl,hp'⟩
  refine zg (zZ (show ¬((g.1.length+1:Nat):Int) < (g.1.length:Int)+1 by omega)) (zd (zD (.inl ⟨rfl,rfl,fun e' he'=>?_⟩)))
  obtain ⟨k,hk,hk2⟩:=gm he'
  exact hp' k (by omega) e' (by rw [Nat.mod_eq_of_lt hk];exact hk2)
 ·rintro ⟨j,⟨c,q,r,n,i,l,k,⟨⟩⟩,⟨⟩⟩ (⟨rfl,hq,ha⟩ | ⟨rfl,hq,ha⟩)
  ·simp only at hq
   subst hq
   exact zh rfl (zh (wc rfl) (zd (.inl ⟨rfl,ha⟩)))
  ·simp only at hq
   refine zg rfl (zg (jg (show r≠g.2 by omega)) (zd (.inr ⟨?_,ha⟩)))
   show r < _
   omega
theorem zer {g:Gts} (hg:yp g):Qd (g,())=some (tv (zck g.1),()):=by
 rw [zlP];unfold zaJ
 refine JO ?_
 have e1:WW (g,6,0,0,())=some (0,()):=by
  rw [zqh];unfold zeF
  rw [zcj,zM hg];rfl
 obtain ⟨⟨v,⟨⟩⟩,e2,hv⟩:=zt4 hg
 have e3:XN (g,6,0,())=some (v,0,()):=by
  rw [zr1];unfold zgG
  rw [e1,e2];rfl
 rw [e3]
 refine zd ?_
 rcases hv with ⟨h1,h2⟩ | ⟨h1,h2⟩
 ·exact ⟨fun _=>h2,fun _=>wc h1⟩
 ·exact ⟨fun h=>by have:=jo h;simp only at h1 this;omega,fun h=>absurd h h2⟩
structure Cov (o:Int→Bool) (a b:Int) (l:List (Int×Int)):Prop where
 bd:∀p∈l,a≤p.1∧p.1 < p.2∧p.2≤b
 pw:l.Pairwise fun p q=>p.2 < q.1
 iff:∀t,a≤t→t < b→(o t=true↔∃p∈l,p.1≤t∧t < p.2)
theorem zx6 {o:Int→Bool} {a b:Int} {p:Int×Int} {l:List (Int×Int)} (h:Cov o a b (p::l)):Cov o p.2 b l:=by
 have hp:=h.bd p (by simp)
 have hpw:=List.pairwise_cons.1 h.pw
 refine ⟨fun q hq=>?_,hpw.2,fun t h1 h2=>?_⟩
 ·have:=h.bd q (by simp [hq]);have:=hpw.1 q hq;omega
 ·rw [h.iff t (by omega) h2]
  constructor
  ·rintro ⟨q,hq,h3,h4⟩
   rcases List.mem_cons.1 hq with rfl | hq
   ·omega
   ·exact ⟨q,hq,h3,h4⟩
  ·rintro ⟨q,hq,h3,h4⟩
   exact ⟨q,by simp [hq],h3,h4⟩
theorem zx7 {o:Int→Bool}:∀{l m:List (Int×Int)} {a b:Int},Cov o a b l→Cov o a b m→l=m
 |[],[],_,_,_,_=>rfl
 |[],q::m,a,b,h,h'=>by
  have hq:=h'.bd q (by simp)
  have:=(h'.iff q.1 hq.1 (by omega)).2 ⟨q,by simp,by omega,hq.2.1⟩
  obtain ⟨p,hp,_⟩:=(h.iff q.1 hq.1 (by omega)).1 this
  cases hp
 |p::l,[],a,b,h,h'=>by
  have hq:=h.bd p (by simp)
  have:=(h.iff p.1 hq.1 (by omega)).2 ⟨p,by simp,by omega,hq.2.1⟩
  obtain ⟨p,hp,_⟩:=(h'.iff p.1 hq.1 (by omega)).1 this
  cases hp
 |p::l,q::m,a,b,h,h'=>by
  have hp:=h.bd p (by simp)
  have hq:=h'.bd q (by simp)
  have hpw:=List.pairwise_cons.1 h.pw
  have hqw:=List.pairwise_cons.1 h'.pw
  have e1:p.1=q.1:=by
   apply Classical.byContradiction
   intro hne
   rcases Int.lt_or_lt_of_ne hne with hlt | hlt
   ·have:=(h.iff p.1 hp.1 (by omega)).2 ⟨p,by simp,by omega,hp.2.1⟩
    obtain ⟨r,hr,h1,h2⟩:=(h'.iff p.1 hp.1 (by omega)).1 this
    rcases List.mem_cons.1 hr with rfl | hr
    ·omega
    ·have:=hqw.1 r hr;omega
   ·have:=(h'.iff q.1 hq.1 (by omega)).2 ⟨q,by simp,by omega,hq.2.1⟩
    obtain ⟨r,hr,h1,h2⟩:=(h.iff q.1 hq.1 (by omega)).1 this
    rcases List.mem_cons.1 hr with rfl | hr
    ·omega
    ·have:=hpw.1 r hr;omega
  have e2:p.2=q.2:=by
   apply Classical.byContradiction
   intro hne
   rcases Int.lt_or_lt_of_ne hne with hlt | hlt
   ·have:=(h'.iff p.2 (by omega) (by omega)).2 ⟨q,by simp,by omega,by omega⟩
    obtain ⟨r,hr,h1,h2⟩:=(h.iff p.2 (by omega) (by omega)).1 this
    rcases List.mem_cons.1 hr with rfl | hr
    ·omega
    ·have:=hpw.1 r hr;omega
   ·have:=(h.iff q.2 (by omega) (by omega)).2 ⟨p,by simp,by omega,by omega⟩
    obtain ⟨r,hr,h1,h2⟩:=(h'.iff q.2 (by omega) (by omega)).1 this
    rcases List.mem_cons.1 hr with rfl | hr
    ·omega
    ·have:=hqw.1 r hr;omega
  have e:p=q:=Prod.ext e1 e2
  subst e
  rw [zx7 (zx6 h) (zx6 h')]
theorem zt5 (o:Int→Bool) (a:Int):Cov o a a []:=⟨fun p h=>(by cases h),List.Pairwise.nil,fun t h1 h2=>by omega⟩
theorem zow {o:Int→Bool} {a b c:Int} {l:List (Int×Int)} (h:Cov o a b l) (hb:b≤c) (hab:a≤b) (hg:∀t,b≤t→t < c→o t=false):Cov o a c l:=by
 refine ⟨fun p hp=>by have:=h.bd p hp;omega,h.pw,fun t h1 h2=>?_⟩
 rcases Int.lt_or_le t b with h3 | h3
 ·exact h.iff t h1 h3
 ·rw [hg t h3 h2]
  constructor
  ·intro h;cases h
  ·rintro ⟨p,hp,h4,h5⟩
   have:=h.bd p hp;omega
theorem zzu {o:Int→Bool} {a b c:Int} {l:List (Int×Int)} (h:Cov o a b l) (hb:b < c) (hab:a≤b) (hl:∀p∈l,p.2 < b) (hg:∀t,b≤t→t < c→o t=true):Cov o a c (l++[(b,c)]):=by
 refine ⟨fun p hp=>?_,?_,fun t h1 h2=>?_⟩
 ·rcases List.mem_append.1 hp with hp | hp
  ·have:=h.bd p hp;omega
  ·simp at hp;subst hp;simp only;omega
 ·rw [List.pairwise_append]
  refine ⟨h.pw,List.pairwise_singleton _ _,fun p hp q hq=>?_⟩
  simp at hq;subst hq
  exact hl p hp
 ·rcases Int.lt_or_le t b with h3 | h3
  ·rw [h.iff t h1 h3]
   constructor
   ·rintro ⟨p,hp,h4⟩;exact ⟨p,by simp [hp],h4⟩
   ·rintro ⟨p,hp,h4,h5⟩
    rcases List.mem_append.1 hp with hp | hp
    ·exact ⟨p,hp,h4,h5⟩
    ·simp at hp;subst hp;simp only at h4;omega
  ·rw [hg t h3 h2]
   exact ⟨fun _=>⟨(b,c),by simp,h3,h2⟩,fun _=>rfl⟩
theorem zEg {o:Int→Bool} {a b c x:Int} {l:List (Int×Int)} (h:Cov o a b (l++[(x,b)])) (hb:b≤c) (hg:∀t,b≤t→t < c→o t=true):Cov o a c (l++[(x,c)]):=by
 have hx:=h.bd (x,b) (by simp)
 simp only at hx
 have hpw:=List.pairwise_append.1 h.pw
 refine ⟨fun p hp=>?_,?_,fun t h1 h2=>?_⟩
 ·rcases List.mem_append.1 hp with hp | hp
  ·have:=h.bd p (by simp [hp]);omega
  ·simp at hp;subst hp;simp only;omega
 ·rw [List.pairwise_append]
  refine ⟨hpw.1,List.pairwise_singleton _ _,fun p hp q hq=>?_⟩
  simp at hq;subst hq
  exact hpw.2.2 p hp (x,b) (by simp)
 ·rcases Int.lt_or_le t b with h3 | h3
  ·rw [h.iff t h1 h3]
   constructor
   ·rintro ⟨p,hp,h4,h5⟩
    rcases List.mem_append.1 hp with hp | hp
    ·exact ⟨p,by simp [hp],h4,h5⟩
    ·simp at hp;subst hp;exact ⟨(x,c),by simp,h4,by simp only at h5 ⊢;omega⟩
   ·rintro ⟨p,hp,h4,h5⟩
    rcases List.mem_append.1 hp with hp | hp
    ·exact ⟨p,by simp [hp],h4,h5⟩
    ·simp at hp;subst hp;exact ⟨(x,b),by simp,h4,h3⟩
  ·rw [hg t h3 h2]
   exact ⟨fun _=>⟨(x,c),by simp,by simp only;omega,h2⟩,fun _=>rfl⟩
theorem zCk (o:Int→Bool) (a:Int):∀n:Nat,∃l,Cov o a (a+n) l∧((∃m x,l=m++[(x,a+n)])∨∀p∈l,p.2 < a+n)
 |0=>⟨[],by rw [show a+((0:Nat):Int)=a by omega];exact zt5 o a,.inr fun p h=>by cases h⟩
 |n+1=>by
  obtain ⟨l,h,h2⟩:=zCk o a n
  have e:a+((n+1:Nat):Int)=a+n+1:=by omega
  rw [e]
  have one:∀(v:Bool),o (a+n)=v→∀t,a+n≤t→t < a+n+1→o t=v:=fun v hv t t1 t2=>by
   have:t=a+n:=by omega
   rw [this];exact hv
  cases ho:o (a+n) with
  |true=>
   rcases h2 with ⟨m,x,rfl⟩ | h2
   ·exact ⟨_,zEg h (by omega) (one true ho),.inl ⟨m,x,rfl⟩⟩
   ·exact ⟨_,zzu h (by omega) (by omega) h2 (one true ho),.inl ⟨l,_,rfl⟩⟩
  |false=>exact ⟨l,zow h (by omega) (by omega) (one false ho),.inr fun p hp=>by have:=h.bd p hp;omega⟩
def uM (lost:Int) (l:List (Int×Int)):Int:=(l.map fun p=>max 0 (p.2 - p.1 - lost)).sum
theorem zfY {lost:Int} (hl:0≤lost):∀{l:List (Int×Int)} {a b:Int},a≤b→(∀p∈l,a≤p.1∧p.1 < p.2∧p.2≤b)→l.Pairwise (fun p q=>p.2 < q.1)→0≤uM lost l∧uM lost l≤b - a∧(l.length:Int)≤b - a
 |[],a,b,hab,_,_=>by simp [uM];omega
 |p::l,a,b,hab,hb,hp=>by
  have h1:=hb p (by simp)
  have hpw:=List.pairwise_cons.1 hp
  have ih:=zfY (lost:=lost) hl (l:=l) (a:=p.2) (b:=b) (by omega) (fun q hq=>by have:=hb q (by simp [hq]);have:=hpw.1 q hq;omega) hpw.2
  unfold uM at ih ⊢
  simp only [List.map_cons,List.sum_cons,List.length_cons]
  omega
theorem zFH {o:Int→Bool} {a a' b:Int} {l:List (Int×Int)} (h:Cov o a b l) (hb:a'≤a) (hg:∀t,a'≤t→t < a→o t=false):Cov o a' b l:=by
 refine ⟨fun p hp=>by have:=h.bd p hp;omega,h.pw,fun t h1 h2=>?_⟩
 rcases Int.lt_or_le t a with h3 | h3
 ·rw [hg t h1 h3]
  constructor
  ·intro h;cases h
  ·rintro ⟨p,hp,h4,h5⟩
   have:=h.bd p hp;omega
 ·exact h.iff t h3 h2
def clo:List (Int×Int)→Nat
 |[]=>0
 |e::l=>if opn e.1=true then clo l+1 else 0
theorem zsn:∀l,clo l≤l.length
 |[]=>Nat.le_refl _
 |e::l=>by unfold clo;have:=zsn l;split<;>simp<;>omega
theorem zkZ:∀(l:List (Int×Int)) (i:Nat) (e:Int×Int),i < clo l→l[i]?=some e→opn e.1=true
 |[],i,e,h,_=>by simp [clo] at h
 |a::l,0,e,h,h2=>by
  simp at h2;subst h2
  unfold clo at h
  split at h
  ·assumption
  ·omega
 |a::l,i+1,e,h,h2=>by
  unfold clo at h
  split at h
  ·exact zkZ l i e (by omega) (by simpa using h2)
  ·omega
theorem zqM:∀(l:List (Int×Int)) (e:Int×Int),l[clo l]?=some e→opn e.1=false
 |[],e,h=>by simp [clo] at h
 |a::l,e,h=>by
  unfold clo at h
  split at h
  ·exact zqM l e (by simpa using h)
  ·rename_i h2
   simp at h;subst h
   simpa using h2
theorem znG {l:List (Int×Int)} (h:¬zck l):clo l < l.length:=by
 have:=zsn l
 apply Classical.byContradiction
 intro hn
 apply h
 intro e he
 obtain ⟨k,hk,hk2⟩:=gm he
 exact zkZ l k e (by omega) hk2
theorem zFI {l:List (Int×Int)} (h:zck l):clo l=l.length:=by
 have:=zsn l
 apply Classical.byContradiction
 intro hn
 have hx:l[clo l]?=some (l[clo l]'(by omega)):=List.getElem?_eq_getElem (by omega)
 have:=zqM l _ hx
 rw [h _ (List.getElem_mem _)] at this
 cases this
def Inv (o:Int→Bool) (A at_:Int) (now:Int×Int) (L:List (Int×Int)):Prop:=
 A≤at_∧((now.2=0∧Cov o A at_ L∧∀p∈L,p.2 < at_)∨(0 < now.2∧now.1+now.2=at_∧A≤now.1∧Cov o A now.1 L∧(∀p∈L,p.2 < now.1)∧∀t,now.1≤t→t < at_→o t=true))
theorem zx8 {o:Int→Bool} {A at_ d:Int} {now:Int×Int} {L:List (Int×Int)} (h:Inv o A at_ now L) (hd:0 < d) (ho:∀t,at_≤t→t < at_+d→o t=true):Inv o A (at_+d) (if now.2=0 then (at_,d) else (now.1,now.2+d)) L:=by
 obtain ⟨hA,h⟩:=h
 refine ⟨by omega,.inr ?_⟩
 rcases h with ⟨h1,h2,h3⟩ | ⟨h1,h2,h3,h4,h5,h6⟩
 ·rw [if_pos h1]
  exact ⟨hd,rfl,hA,h2,h3,ho⟩
 ·rw [if_neg (by omega)]
  refine ⟨by simp only;omega,by simp only;omega,h3,h4,h5,fun t t1 t2=>?_⟩
  simp only at t1
  rcases Int.lt_or_le t at_ with h7 | h7
  ·exact h6 t t1 h7
  ·exact ho t h7 t2
theorem zu4 {o:Int→Bool} {A at_ d:Int} {now:Int×Int} {L:List (Int×Int)} (h:Inv o A at_ now L) (hd:0 < d) (hn:now.2=0) (ho:∀t,at_≤t→t < at_+d→o t=false):Inv o A (at_+d) (0,0) L:=by
 obtain ⟨hA,h⟩:=h
 refine ⟨by omega,.inl ⟨rfl,?_⟩⟩
 rcases h with ⟨h1,h2,h3⟩ | ⟨h1,h2,h3,h4,h5,h6⟩
 ·exact ⟨zow h2 (by omega) hA ho,fun p hp=>by have:=h3 p hp;omega⟩
 ·omega
theorem zx9 {o:Int→Bool} {A at_ d:Int} {now:Int×Int} {L:List (Int×Int)} (h:Inv o A at_ now L) (hd:0 < d) (hn:0 < now.2) (ho:∀t,at_≤t→t < at_+d→o t=false):Inv o A (at_+d) (0,0) (L++[(now.1,now.1+now.2)]):=by
 obtain ⟨hA,h⟩:=h
 refine ⟨by omega,.inl ⟨rfl,?_⟩⟩
 rcases h with ⟨h1,h2,h3⟩ | ⟨h1,h2,h3,h4,h5,h6⟩
 ·omega
 ·have:=zzu (c:=now.1+now.2) h4 (by omega) h3 h5 fun t t1 t2=>h6 t t1 (by omega)
  refine ⟨zow this (by omega) (by omega) fun t t1 t2=>ho t (by omega) t2,fun p hp=>?_⟩
  rcases List.mem_append.1 hp with hp | hp
  ·have:=h5 p hp;omega
  ·simp at hp;subst hp;simp only;omega
def at0 (g:Gts):Int:=uS (g.1.take (clo g.1))
structure Ko (g:Gts) (L:List (Int×Int)):Prop where
 cv:Cov (opT g) (at0 g) (at0 g+g.2) L
 gt:∀p∈L,at0 g < p.1
theorem zso {g:Gts} (hg:yp g):0≤at0 g∧at0 g≤9600000:=by
 unfold at0
 have hb:=KD (l:=g.1.take (clo g.1)) fun e he=>hg.el e (List.mem_of_mem_take he)
 have hle:=zeq hg.el (zsn g.1)
 rw [zdu,hg.cy] at hle
 have:=hg.c1
 omega
theorem zox {g:Gts} (hg:yp g) (ha:¬zck g.1):∃e,g.1[clo g.1]?=some e∧opn e.1=false∧zci e∧tAt g (clo g.1)=at0 g:=by
 have hl:=znG ha
 have hx:g.1[clo g.1]?=some (g.1[clo g.1]):=List.getElem?_eq_getElem hl
 exact ⟨_,hx,zqM _ _ hx,hg.el _ (List.getElem_mem hl),zx4 hl⟩
theorem zya {g:Gts} (hg:yp g) (ha:¬zck g.1) {L L':List (Int×Int)} (h:Cov (opT g) (tAt g (clo g.1+1)) (tAt g (clo g.1+1)+g.2) L) (hr:Ko g L'):L'=L:=by
 obtain ⟨e,hx,he,hen,h0⟩:=zox hg ha
 have hm:clo g.1 % g.1.length=clo g.1:=Nat.mod_eq_of_lt (znG ha)
 have hts:=zg9 hg (k:=clo g.1) (e:=e) (by rw [hm];exact hx)
 have hd:=hen.2.2.1
 have hp:=hg.pos
 have hcl:∀t,at0 g≤t→t < at0 g+e.2→opT g t=false:=fun t t1 t2=>by
  rw [zx5 hg (k:=clo g.1) (e:=e) (by rw [hm];exact hx) (by omega) (by omega)];exact he
 have c1:Cov (opT g) (at0 g) (at0 g+g.2+e.2) L':=zow hr.cv (by omega) (by omega) fun t t1 t2=>by
  have:=zFG g (t - g.2)
  rw [Int.sub_add_cancel] at this
  rw [this];exact hcl _ (by omega) (by omega)
 have c2:Cov (opT g) (at0 g) (at0 g+g.2+e.2) L:=by
  rw [hts,h0] at h
  have:=zFH h (show at0 g≤at0 g+e.2 by omega) hcl
  rwa [show at0 g+e.2+g.2=at0 g+g.2+e.2 by omega] at this
 exact zx7 c1 c2
theorem zEh {g:Gts} (hg:yp g) (ha:¬zck g.1):∃L,Ko g L:=by
 have hl:=znG ha
 obtain ⟨e,hx,he,hen,h0⟩:=zox hg ha
 have h0b:=zso hg
 have hc:=hg.c1;have hp:=hg.pos;have hn:=hg.n1
 obtain ⟨L,hcv,_⟩:=zCk (opT g) (at0 g) g.2.toNat
 rw [show at0 g+(g.2.toNat:Int)=at0 g+g.2 by omega] at hcv
 refine ⟨L,hcv,fun p hp'=>?_⟩
 have hb:=hcv.bd p hp'
 have hm:clo g.1 % g.1.length=clo g.1:=Nat.mod_eq_of_lt hl
 have hd:=hen.2.2.1
 rcases Int.lt_or_le (at0 g) p.1 with h | h
 ·exact h
 ·exfalso
  have e1:p.1=at0 g:=by omega
  have:=(hcv.iff p.1 hb.1 (by omega)).2 ⟨p,hp',by omega,hb.2.1⟩
  rw [zx5 hg (k:=clo g.1) (e:=e) (by rw [hm];exact hx) (by omega) (by omega),he] at this
  cases this
theorem zsp {g:Gts} (hg:yp g) {k:Nat} (h:k≤4*g.1.length):0≤tAt g k∧tAt g k≤5*9600000:=by
 have h0:=hg.n0;have hp:=hg.pos;have hc:=hg.c1
 unfold tAt
 have hm:k % g.1.length < g.1.length:=Nat.mod_lt _ (by omega)
 have hb:=KD (l:=g.1.take (k % g.1.length)) fun e he=>hg.el e (List.mem_of_mem_take he)
 have hle:=zeq hg.el (show k % g.1.length≤g.1.length by omega)
 rw [zdu,hg.cy] at hle
 have hd:k / g.1.length≤4:=by
  have:k / g.1.length < 5:=Nat.div_lt_of_lt_mul (by omega)
  omega
 have h1:((k / g.1.length:Nat):Int)≤4:=by exact_mod_cast hd
 have:((k / g.1.length:Nat):Int)*g.2≤4*g.2:=Int.mul_le_mul_of_nonneg_right h1 (by omega)
 have:0≤((k / g.1.length:Nat):Int)*g.2:=Int.mul_nonneg (Int.natCast_nonneg _) (by omega)
 omega
theorem zzv {g:Gts} (hg:yp g) {c i:Nat} (hc:c < 1000000) (hi:i < 1000000):Int.tmod (wrF .i64 ((wrF .i64 ((c:Int)+1))+(i:Int))) (g.1.length:Int)=(((c+1+i) % g.1.length:Nat):Int):=by
 rw [qO (by omega),qT (by omega) (by omega),Int.tmod_eq_emod_of_nonneg (by omega),←Int.natCast_add,←Int.natCast_emod]
theorem zCl {g:Gts} (hg:yp g) (k:Nat):∃e,g.1[k % g.1.length]?=some e∧zci e∧tAt g (k+1)=tAt g k+e.2∧∀t,tAt g k≤t→t < tAt g k+e.2→opT g t=opn e.1:=by
 have h0:=hg.n0
 have hm:k % g.1.length < g.1.length:=Nat.mod_lt _ (by omega)
 have hx:g.1[k % g.1.length]?=some (g.1[k % g.1.length]):=List.getElem?_eq_getElem hm
 exact ⟨_,hx,hg.el _ (List.getElem_mem hm),zg9 hg hx,fun t t1 t2=>zx5 hg hx t1 t2⟩
theorem zCm {o:Int→Bool} {A at_:Int} {now:Int×Int} {L:List (Int×Int)} (h:Inv o A at_ now L) (hA:0≤A) (hat:at_≤5*9600000):0≤now.2∧now.2≤at_:=by
 obtain ⟨hA',h⟩:=h
 rcases h with ⟨h1,h2,h3⟩ | ⟨h1,h2,h3,h4,h5,h6⟩<;>omega
theorem zcN {g:Gts} (hg:yp g) (ha:¬zck g.1) {L:List (Int×Int)} (hr:Ko g L) {lost:Int} (l0:0≤lost) (l1:lost≤1000000000000):uR (g,lost,())=some (uM lost L,()):=by
 have hl:=znG ha
 obtain ⟨e,hx,he,hen,h0⟩:=zox hg ha
 have h0b:=zso hg
 have hc:=hg.c1;have hp:=hg.pos;have hn:=hg.n1;have hn0:=hg.n0
 rw [zbW];unfold Xa
 simp only [zer hg,zG,qn ha,cond_false]
 refine kO (zp (J:=fun x=>x.2.1=(0,(at0 g,(((clo g.1:Nat):Int),())))) (qt (clo g.1) (fun i s=>s=((0,(uS (g.1.take i),((i:Int),()))),((),((),())))) (by omega) rfl ?_ ?_) ?_)
 ·rintro i _ hi rfl
  have hy:g.1[i]?=some g.1[i]:=List.getElem?_eq_getElem (by omega)
  have hm:=List.getElem_mem (show i < g.1.length by omega)
  generalize g.1[i]=f at hy hm
  have hf:=hg.el f hm
  have hb:=KD (l:=g.1.take i) fun e he=>hg.el e (List.mem_of_mem_take he)
  have hbl:(g.1.take i).length≤128:=by simp;omega
  refine zh (qq (show (i:Int) < (g.1.length:Int) by omega)) (zn (zQ (n:=i) hy ?_))
  rw [vA hf]
  refine zh (zkZ _ i f hi hy) (zn (zQ (n:=i) hy (zd (qR ?_))))
  show ((0,((wrF .i64 (uS (g.1.take i)+f.2)),((wrF .i64 ((i:Int)+1)),()))),((),((),())))=_
  have:=hf.2.2.1;have:=hf.2.2.2
  rw [Vz hy,qO (by omega),qT (by omega) (by omega)]
 ·rintro _ rfl
  refine zh (qq (show ((clo g.1:Nat):Int) < (g.1.length:Int) by omega)) (zn (zQ (n:=clo g.1) hx ?_))
  rw [vA hen]
  exact zg he (zd (zD rfl))
 rintro ⟨j,⟨v,w,z,⟨⟩⟩,⟨⟩,⟨⟩,⟨⟩⟩ hv
 simp only [Prod.mk.injEq,and_true] at hv
 obtain ⟨rfl,rfl,rfl⟩:=hv
 refine zg (jg (show ((clo g.1:Nat):Int)≠(g.1.length:Int) by omega)) (zn (zQ (n:=clo g.1) hx ?_))
 have hm:clo g.1 % g.1.length=clo g.1:=Nat.mod_eq_of_lt hl
 have hts:=zg9 hg (k:=clo g.1) (e:=e) (by rw [hm];exact hx)
 have hA:=zsp hg (k:=clo g.1+1) (by omega)
 refine zp (J:=fun x=>x.2.1.2.1=uM lost L) (qt g.1.length (fun i s=>∃now L',s=((now,(uM lost L',(tAt g (clo g.1+1+i),((i:Int),())))),((),((),())))∧Inv (opT g) (tAt g (clo g.1+1)) (tAt g (clo g.1+1+i)) now L'∧(∀f,0 < i→g.1[(clo g.1+i) % g.1.length]?=some f→opn f.1=false→now.2=0)) (by omega) ?_ ?_ ?_) ?_
 ·refine ⟨(0,0),[],?_,⟨Int.le_refl _,.inl ⟨rfl,zt5 _ _,fun p hp=>(by cases hp)⟩⟩,fun f h=>by omega⟩
  show (((0,0),(0,((wrF .i64 (at0 g+e.2)),(0,())))),((),((),())))=_
  rw [Nat.add_zero,hts,h0,qT (by omega) (by have:=hen.2.2.2;omega)];rfl
 ·rintro i _ hi ⟨now,L',rfl,hinv,_⟩
  obtain ⟨f,hy,hf,hsu,hop⟩:=zCl hg (clo g.1+1+i)
  have hB:=zsp hg (k:=clo g.1+1+i) (by omega)
  have hnb:=zCm hinv hA.1 hB.2
  have hmm:(clo g.1+1+i) % g.1.length < g.1.length:=Nat.mod_lt _ (by omega)
  have f1:=hf.2.2.1;have f2:=hf.2.2.2
  refine zh (qq (show (i:Int) < (g.1.length:Int) by omega)) (zg (jg (show (g.1.length:Int)≠0 by omega)) ?_)
  refine zn (xT (a:=f) (by show atI g.1 (Int.tmod (wrF .i64 ((wrF .i64 (((clo g.1:Nat):Int)+1))+(i:Int))) (g.1.length:Int))=_;rw [zzv hg (by omega) (by omega)];exact ZU hy) ?_)
  rw [vA hf]
  have eat:wrF .i64 (tAt g (clo g.1+1+i)+f.2)=tAt g (clo g.1+1+(i+1)):=by
   rw [show clo g.1+1+(i+1)=clo g.1+1+i+1 from rfl,hsu,qT (by omega) (by omega)]
  have eup:wrF .i64 ((i:Int)+1)=((i+1:Nat):Int):=qO (by omega)
  have idx:∀f',0 < i+1→g.1[(clo g.1+(i+1)) % g.1.length]?=some f'→f'=f:=fun f' _ h=>by
   rw [show clo g.1+(i+1)=clo g.1+1+i by omega,hy] at h
   exact (Option.some.inj h).symm
  refine zr (fun ho=>?_) (fun ho=>?_)
  ·have ho:opn f.1=true:=ho
   rw [ho] at hop
   have hi2:=zx8 hinv (show 0 < f.2 by omega) hop
   refine zp (J:=fun x=>x.2.1.1=if now.2=0 then (tAt g (clo g.1+1+i),0) else now) (zr (fun h=>?_) (fun h=>?_)) ?_
   ·have h:now.2=0:=jo h
    refine zd ?_
    rw [if_pos h]
    show (tAt g (clo g.1+1+i),now.2)=_
    rw [h]
   ·have h:now.2≠0:=jG h
    exact zd (by rw [if_neg h])
   ·rintro ⟨j,⟨nw,⟨⟩⟩,⟨⟩,⟨⟩,⟨⟩⟩ hnw
    simp only at hnw
    subst hnw
    refine zd (qR ⟨_,L',?_,(by rw [←hsu] at hi2;exact hi2),fun f' h1 h2 h3=>?_⟩)
    ·show ((((if now.2=0 then (tAt g (clo g.1+1+i),0) else now).1,(wrF .i64 ((if now.2=0 then (tAt g (clo g.1+1+i),0) else now).2+f.2))),(uM lost L',((wrF .i64 (tAt g (clo g.1+1+i)+f.2)),((wrF .i64 ((i:Int)+1)),())))),((),((),())))=_
     rw [eat,eup]
     by_cases h:now.2=0
     ·rw [if_pos h,if_pos h]
      simp only
      rw [qT (by omega) (by omega),Int.zero_add]
     ·rw [if_neg h,if_neg h,qT (by omega) (by omega)]
    ·rw [idx f' h1 h2,ho] at h3;cases h3
  ·have ho:opn f.1=false:=ho
   rw [ho] at hop
   refine zr (fun h=>?_) (fun h=>?_)
   ·have h:0 < now.2:=yn h
    have hi2:=zx9 hinv (show 0 < f.2 by omega) h hop
    have hgb:=zfY (lost:=lost) l0 (l:=L'++[(now.1,now.1+now.2)]) (a:=tAt g (clo g.1+1)) (b:=tAt g (clo g.1+1+i)+f.2) hi2.1 (by
      rcases hi2.2 with ⟨_,hc,_⟩ | ⟨h',_⟩
      ·exact hc.bd
      ·simp at h') (by
      rcases hi2.2 with ⟨_,hc,_⟩ | ⟨h',_⟩
      ·exact hc.pw
      ·simp at h')
    have eg:uM lost (L'++[(now.1,now.1+now.2)])=uM lost L'+max 0 (now.2 - lost):=by
     unfold uM;simp only [List.map_append,List.sum_append,List.map_cons,List.map_nil,List.sum_cons,List.sum_nil]
     omega
    have hg1:=zfY (lost:=lost) l0 (l:=L') (a:=tAt g (clo g.1+1)) (b:=tAt g (clo g.1+1+i)) hinv.1 (by
      rcases hinv.2 with ⟨_,hc,_⟩ | ⟨_,h',_,hc,_⟩
      ·exact hc.bd
      ·exact fun p hp=>by have:=hc.bd p hp;omega) (by
      rcases hinv.2 with ⟨_,hc,_⟩ | ⟨_,_,_,hc,_⟩
      ·exact hc.pw
      ·exact hc.pw)
    refine zd (qR ⟨(0,0),_,?_,(by rw [←hsu] at hi2;exact hi2),fun f' h1 h2 h3=>rfl⟩)
    show (((0,0),((wrF .i64 (uM lost L'+WK 0 (wrF .i64 (now.2 - lost)))),((wrF .i64 (tAt g (clo g.1+1+i)+f.2)),((wrF .i64 ((i:Int)+1)),())))),((),((),())))=_
    rw [eat,eup,zjC,qT (z:=now.2 - lost) (by omega) (by omega),eg,qT (by omega) (by omega)]
   ·have h:now.2=0:=by have:now.2≤0:=wG h;omega
    have hi2:=zu4 hinv (show 0 < f.2 by omega) h hop
    refine zd (qR ⟨(0,0),L',?_,(by rw [←hsu] at hi2;exact hi2),fun f' h1 h2 h3=>rfl⟩)
    show (((0,0),(uM lost L',((wrF .i64 (tAt g (clo g.1+1+i)+f.2)),((wrF .i64 ((i:Int)+1)),())))),((),((),())))=_
    rw [eat,eup]
 ·rintro _ ⟨now,L',rfl,hinv,hlast⟩
  refine zg (zZ (show ¬(g.1.length:Int) < (g.1.length:Int) by omega)) (zd (zD ?_))
  have hz:=hlast e (by omega) (by rw [Nat.add_mod_right,hm];exact hx) he
  show uM lost L'=uM lost L
  rcases hinv.2 with ⟨_,hc,_⟩ | ⟨h',_⟩
  ·rw [zzt hg] at hc
   rw [zya hg ha hc hr]
  ·omega
 ·rintro ⟨j,⟨nw,v,w,z,⟨⟩⟩,⟨⟩,⟨⟩,⟨⟩⟩ hv
  refine zr (fun _=>?_) (fun _=>?_)<;>exact zd hv
theorem zjH {g:Gts} (hg:yp g) (ha:zck g.1) (lost:Int):uR (g,lost,())=some (g.2,()):=by
 rw [zbW];unfold Xa
 simp only [zer hg,zG,zM ha,cond_true]
def bX (g:Gts) (L:List (Int×Int)) (q:Nat):Int:=((L[q % L.length]?).getD (0,0)).1+((q / L.length:Nat):Int)*g.2
def bY (g:Gts) (L:List (Int×Int)) (q:Nat):Int:=((L[q % L.length]?).getD (0,0)).2+((q / L.length:Nat):Int)*g.2
theorem zG6 {L:List (Int×Int)} (h:0 < L.length) (q:Nat):∃p,L[q % L.length]?=some p∧p∈L∧∀g,bX g L q=p.1+((q / L.length:Nat):Int)*g.2∧bY g L q=p.2+((q / L.length:Nat):Int)*g.2:=by
 have hm:q % L.length < L.length:=Nat.mod_lt _ h
 have hx:L[q % L.length]?=some (L[q % L.length]):=List.getElem?_eq_getElem hm
 refine ⟨_,hx,List.getElem_mem hm,fun g=>?_⟩
 unfold bX bY
 rw [hx]
 exact ⟨rfl,rfl⟩
theorem zG7 (g:Gts) {L:List (Int×Int)} (h:0 < L.length) (q:Nat):bX g L (q+L.length)=bX g L q+g.2∧bY g L (q+L.length)=bY g L q+g.2:=by
 unfold bX bY
 rw [Nat.add_mod_right,Nat.add_div_right _ h,Int.natCast_succ,Int.add_mul]
 omega
theorem zk0 {g:Gts} {L:List (Int×Int)} (hr:Ko g L) (h:0 < L.length) (q:Nat):bX g L q < bY g L q∧at0 g+((q / L.length:Nat):Int)*g.2 < bX g L q∧bY g L q≤at0 g+((q / L.length:Nat):Int)*g.2+g.2:=by
 obtain ⟨p,hx,hp,he⟩:=zG6 h q
 obtain ⟨e1,e2⟩:=he g
 have:=hr.cv.bd p hp
 have:=hr.gt p hp
 omega
theorem zAU {g:Gts} {L:List (Int×Int)} (hr:Ko g L) (h:0 < L.length) (q:Nat):bY g L q < bX g L (q+1):=by
 rcases Nat.lt_or_ge (q % L.length+1) L.length with h1 | h1
 ·have e1:(q+1) % L.length=q % L.length+1:=by
   rw [Nat.add_mod,Nat.mod_eq_of_lt (show 1 < L.length by omega),Nat.mod_eq_of_lt h1]
  have e2:(q+1) / L.length=q / L.length:=by
   have a:=Nat.div_add_mod (q+1) L.length
   have a2:=Nat.div_add_mod q L.length
   rw [e1] at a
   have b:L.length*((q+1) / L.length)=L.length*(q / L.length):=by omega
   exact Nat.eq_of_mul_eq_mul_left (by omega) b
  have hx:L[q % L.length]?=some (L[q % L.length]'(by omega)):=List.getElem?_eq_getElem (by omega)
  have hy:L[q % L.length+1]?=some (L[q % L.length+1]'h1):=List.getElem?_eq_getElem h1
  have:=List.pairwise_iff_getElem.1 hr.cv.pw (q % L.length) (q % L.length+1) (by omega) h1 (by omega)
  unfold bX bY
  rw [e1,e2,hx,hy]
  simp only [Option.getD_some]
  omega
 ·have hm:=Nat.mod_lt q h
  have h2:q % L.length+1=L.length:=by omega
  have a2:=Nat.div_add_mod q L.length
  have e3:q+1=(q / L.length+1)*L.length:=by
   rw [Nat.add_mul,Nat.mul_comm];omega
  have e2:(q+1) / L.length=q / L.length+1:=by rw [e3];exact Nat.mul_div_left _ (by omega)
  have b1:=zk0 hr h q
  have b2:=zk0 hr h (q+1)
  rw [e2,Int.natCast_succ,Int.add_mul] at b2
  omega
theorem zHk {g:Gts} {L:List (Int×Int)} (hr:Ko g L) (h:0 < L.length) {q r:Nat} (hq:q < r):bY g L q < bX g L r:=by
 obtain ⟨d,rfl⟩:∃d,r=q+1+d:=⟨r - q - 1,by omega⟩
 induction d with
 |zero=>exact zAU hr h q
 |succ d ih=>
  have:=ih (by omega)
  have:=zk0 hr h (q+1+d)
  have:=zAU hr h (q+1+d)
  rw [show q+1+(d+1)=q+1+d+1 from rfl]
  omega
def mn (g:Gts) (L:List (Int×Int)) (lost:Int) (q:Nat):Int:=min (bY g L q - bX g L q) lost
def fr (g:Gts) (L:List (Int×Int)) (lost:Int) (i:Nat):Int:=bY g L i - mn g L lost i
def tt (g:Gts) (L:List (Int×Int)) (lost:Int) (j:Nat):Int:=bX g L j+mn g L lost j
def wg (g:Gts) (L:List (Int×Int)) (lost:Int) (q:Nat):Int:=max 0 (bY g L q - bX g L q - lost)
def xU (g:Gts) (L:List (Int×Int)) (lost:Int) (i:Nat):Nat→Int
 |0=>0
 |k+1=>xU g L lost i k+wg g L lost (i+1+k)
theorem zEi {g:Gts} (hg:yp g) {L:List (Int×Int)} (hr:Ko g L) (h:0 < L.length) {q:Nat} (hq:q < 2*L.length):0≤bX g L q∧bY g L q≤30000000:=by
 have x:=zk0 hr h q
 have h0b:=zso hg;have hc:=hg.c1;have hp:=hg.pos
 have h1:q / L.length=0∨q / L.length=1:=by
  have:q / L.length < 2:=Nat.div_lt_of_lt_mul (by omega)
  exact Nat.le_one_iff_eq_zero_or_eq_one.1 (Nat.le_of_lt_succ this)
 rcases h1 with h1 | h1<;>rw [h1] at x<;>simp at x<;>omega
def mxK (c:Nat→Bool) (V:Nat→Int):Nat→Int→Int
 |0,a=>a
 |k+1,a=>bif c k then max (mxK c V k a) (V k) else mxK c V k a
def mxN (c:Nat→Nat→Bool) (V:Nat→Nat→Int) (K:Nat):Nat→Int→Int
 |0,a=>a
 |n+1,a=>mxK (c n) (V n) K (mxN c V K n a)
theorem zCn (c:Nat→Bool) (V:Nat→Int):∀(k:Nat) (a:Int),a≤mxK c V k a∧∀q,q < k→c q=true→V q≤mxK c V k a
 |0,a=>⟨Int.le_refl _,fun q hq=>by omega⟩
 |k+1,a=>by
  obtain ⟨h1,h2⟩:=zCn c V k a
  unfold mxK
  cases hc:c k with
  |true=>
   rw [cond_true]
   refine ⟨by omega,fun q hq hcq=>?_⟩
   rcases Nat.lt_or_ge q k with h | h
   ·have:=h2 q h hcq;omega
   ·have:q=k:=by omega
    subst this;omega
  |false=>
   rw [cond_false]
   refine ⟨h1,fun q hq hcq=>?_⟩
   rcases Nat.lt_or_ge q k with h | h
   ·exact h2 q h hcq
   ·have:q=k:=by omega
    subst this;rw [hc] at hcq;cases hcq
theorem zCo (c:Nat→Bool) (V:Nat→Int):∀(k:Nat) (a:Int),mxK c V k a=a∨∃q,q < k∧c q=true∧mxK c V k a=V q
 |0,a=>.inl rfl
 |k+1,a=>by
  have ih:=zCo c V k a
  unfold mxK
  cases hc:c k with
  |true=>
   rw [cond_true]
   rcases Int.le_total (V k) (mxK c V k a) with h | h
   ·rw [show max (mxK c V k a) (V k)=mxK c V k a by omega]
    rcases ih with h1 | ⟨q,h1,h2,h3⟩
    ·exact .inl h1
    ·exact .inr ⟨q,by omega,h2,h3⟩
   ·exact .inr ⟨k,by omega,hc,by omega⟩
  |false=>
   rw [cond_false]
   rcases ih with h1 | ⟨q,h1,h2,h3⟩
   ·exact .inl h1
   ·exact .inr ⟨q,by omega,h2,h3⟩
theorem zCp (c:Nat→Nat→Bool) (V:Nat→Nat→Int) (K:Nat):∀(n:Nat) (a:Int),a≤mxN c V K n a∧∀i q,i < n→q < K→c i q=true→V i q≤mxN c V K n a
 |0,a=>⟨Int.le_refl _,fun i q hi=>by omega⟩
 |n+1,a=>by
  obtain ⟨h1,h2⟩:=zCp c V K n a
  obtain ⟨h3,h4⟩:=zCn (c n) (V n) K (mxN c V K n a)
  unfold mxN
  refine ⟨by omega,fun i q hi hq hc=>?_⟩
  rcases Nat.lt_or_ge i n with h | h
  ·have:=h2 i q h hq hc;omega
  ·have:i=n:=by omega
   subst this;exact h4 q hq hc
theorem zCq (c:Nat→Nat→Bool) (V:Nat→Nat→Int) (K:Nat):∀(n:Nat) (a:Int),mxN c V K n a=a∨∃i q,i < n∧q < K∧c i q=true∧mxN c V K n a=V i q
 |0,a=>.inl rfl
 |n+1,a=>by
  unfold mxN
  rcases zCo (c n) (V n) K (mxN c V K n a) with h | ⟨q,h1,h2,h3⟩
  ·rw [h]
   rcases zCq c V K n a with h | ⟨i,q,h1,h2,h3,h4⟩
   ·exact .inl h
   ·exact .inr ⟨i,q,by omega,h2,h3,h4⟩
  ·exact .inr ⟨n,q,by omega,h1,h2,h3⟩
section
variable {g:Gts} {L:List (Int×Int)} {lost:Int}
theorem zCr (i a:Nat):∀b,xU g L lost i (a+b)=xU g L lost i a+xU g L lost (i+a) b
 |0=>by rw [Nat.add_zero];show _=_+0;omega
 |b+1=>by
  show xU g L lost i (a+b)+wg g L lost (i+1+(a+b))=_+(xU g L lost (i+a) b+wg g L lost (i+a+1+b))
  rw [zCr i a b,show i+1+(a+b)=i+a+1+b by omega];omega
theorem zyb (hr:Ko g L) (h:0 < L.length) (hl:0≤lost) (i:Nat):∀k,0≤xU g L lost i k∧xU g L lost i k≤bX g L (i+1+k) - bX g L (i+1)
 |0=>by rw [Nat.add_zero];show (0:Int)≤0∧(0:Int)≤_;omega
 |k+1=>by
  have ih:=zyb hr h hl i k
  have x:=zk0 hr h (i+1+k)
  have s:=zAU hr h (i+1+k)
  rw [show i+1+(k+1)=i+1+k+1 from rfl]
  show 0≤xU g L lost i k+wg g L lost (i+1+k)∧xU g L lost i k+wg g L lost (i+1+k)≤_
  unfold wg
  omega
theorem zFJ (hr:Ko g L) (h:0 < L.length) {q r:Nat} (hq:q≤r):bX g L q≤bX g L r:=by
 rcases Nat.lt_or_ge q r with h1 | h1
 ·have:=zHk hr h h1;have:=zk0 hr h q;omega
 ·have:q=r:=by omega
  rw [this];exact Int.le_refl _
theorem zt6 (hr:Ko g L) (h:0 < L.length) (hl:0≤lost) (i:Nat) {k:Nat} (hk:k≤L.length):0≤xU g L lost i k∧xU g L lost i k≤g.2:=by
 have:=zyb hr h hl i k
 have:=zFJ hr h (show i+1+k≤i+1+L.length by omega)
 have:=(zG7 g h (i+1)).1
 omega
end
theorem Kc {a b:Int} (h1:0 < b) (h2:b≤1000000000000) (h3 : -1000000000000000000≤a) (h4:a≤1000000000000000000):uA (a,b,())=some (a / b,()):=by
 have a1 : -b < Int.tmod a b:=Int.lt_tmod_of_pos a h1
 have a2:Int.tmod a b < b:=Int.tmod_lt_of_pos a h1
 have m1:=Int.emod_nonneg a (show b≠0 by omega)
 have m2:=Int.emod_lt_of_pos a h1
 have em:Int.tmod (wrF .i64 (Int.tmod a b+b)) b=a % b:=by
  rw [qT (by omega) (by omega),Int.tmod_eq_emod_of_nonneg (by omega),Int.add_emod_right]
  have:=Int.tmod_add_mul_tdiv a b
  calc Int.tmod a b % b=(Int.tmod a b+b*Int.tdiv a b) % b:=by rw [Int.add_mul_emod_self_left]
   _=a % b:=by rw [this]
 have e:WZ (a,b,())=some (a % b,()):=by
  rw [zql];unfold zeG
  rw [jg (show b≠0 by omega),em];rfl
 rw [zjs];unfold UD
 rw [e,zG,jg (show b≠0 by omega),cond_false]
 have hq:=Int.emod_add_mul_ediv a b
 have hd:a - a % b=b*(a / b):=by omega
 rw [qT (z:=a - a % b) (by omega) (by omega),hd,Int.mul_tdiv_cancel_left _ (by omega)]
 have : -1000000000000000001≤a / b:=by
  have:(-1000000000000000001)*b≤a:=by
   have:(-1000000000000000001)*b≤(-1000000000000000001)*1:=Int.mul_le_mul_of_nonpos_left (by omega) (by omega)
   omega
  exact Int.le_ediv_of_mul_le h1 this
 have:a / b≤1000000000000000000:=by
  rcases Int.le_total 0 a with h | h
  ·exact Int.le_trans (Int.ediv_le_self b h) h4
  ·have:a / b≤0:=Int.ediv_nonpos_of_nonpos_of_neg h h1
   omega
 rw [qT (by omega) (by omega)]
def cl (d w:Int):Int:=(w+d - 1) / d
theorem zzw {d a b:Int} (hd:0 < d) (h:a≤b):cl d a≤cl d b:=Int.ediv_le_ediv hd (by omega)
theorem zGD {d l z:Int} (hd:0 < d):cl d (l*d - z)=l - z / d:=by
 unfold cl
 have h:=Int.emod_add_mul_ediv z d
 have h1:=Int.emod_nonneg z (show d≠0 by omega)
 have h2:=Int.emod_lt_of_pos z hd
 have e:l*d - z+d - 1=(d - 1 - z % d)+(l - z / d)*d:=by
  rw [Int.sub_mul,Int.mul_comm (z / d) d];omega
 rw [e,Int.add_mul_ediv_right _ _ (by omega),Int.ediv_eq_zero_of_lt (by omega) (by omega)];omega
end Go.Proofs.YtleloebnggepoaaGreat.sg
namespace Go.Proofs.YtleloebnggepoaaGreat.sg
open Go Go.Fz Go.Fz.Sy
def yl (C per y:Int):Int:=y*1048576 / (C*per)
theorem zjI {a b A B:Int} (h0:0≤a) (h1:a≤A) (h2:0≤b) (h3:b≤B):0≤a*b∧a*b≤A*B:=⟨Int.mul_nonneg h0 h2,Int.mul_le_mul h1 h3 h2 (by omega)⟩
structure RtC (C per y:Int):Prop where
 c0:1≤C
 c1:C≤9600000
 p0:1≤per
 p1:per≤1000
 y0:0≤y
 y1:y≤C
theorem RtC.cp {C per y:Int} (h:RtC C per y):1≤C*per∧C*per≤9600000000:=by
 have:=zjI (show 0≤C by have:=h.c0;omega) h.c1 (show 0≤per by have:=h.p0;omega) h.p1
 have h1:1*1≤C*per:=Int.mul_le_mul h.c0 h.p0 (by omega) (by have:=h.c0;omega)
 omega
theorem RtC.rate {C per y:Int} (h:RtC C per y):wrF .i64 (Int.tdiv (wrF .i64 (y*1048576)) (wrF .i64 (C*per)))=yl C per y∧0≤yl C per y∧yl C per y*(C*per)≤y*1048576:=by
 have:=h.cp;have:=h.c1;have:=h.y0;have:=h.y1
 have h1:0≤yl C per y:=Int.ediv_nonneg (by omega) (by omega)
 have h2:yl C per y≤y*1048576:=Int.ediv_le_self _ (by omega)
 refine ⟨?_,h1,Int.ediv_mul_le _ (by omega)⟩
 rw [qT (z:=y*1048576) (by omega) (by omega),qT (z:=C*per) (by omega) (by omega),Int.tdiv_eq_ediv_of_nonneg (by omega)]
 show wrF .i64 (yl C per y)=_
 rw [qT (by omega) (by omega)]
theorem RtC.rp {C per y:Int} (h:RtC C per y) (hr:1≤yl C per y):yl C per y≤1048576∧per≤yl C per y*per∧yl C per y*per≤1048576:=by
 obtain ⟨_,_,h2⟩:=h.rate
 have hc:=h.c0;have hp:=h.p0;have hy:=h.y1
 have h3:per≤yl C per y*per:=by
  have:=Int.mul_le_mul_of_nonneg_right hr (show 0≤per by omega)
  omega
 have h4:yl C per y*per≤1048576:=by
  have e:yl C per y*(C*per)=C*(yl C per y*per):=by rw [←Int.mul_assoc,Int.mul_comm (yl C per y) C,Int.mul_assoc]
  have:C*(yl C per y*per)≤C*1048576:=by omega
  exact Int.le_of_mul_le_mul_left this (by omega)
 have h5:yl C per y≤yl C per y*per:=by
  have:=Int.mul_le_mul_of_nonneg_left hp (show 0≤yl C per y by omega)
  omega
 exact ⟨by omega,h3,h4⟩
theorem zqN {per rp:Int} (p0:1≤per) (p1:per≤1000) (h1:per≤rp) (h2:rp≤1048576):cl rp (127*per*1048576)=0 - (-127*per*1048576) / rp∧0≤cl rp (127*per*1048576)∧cl rp (127*per*1048576)≤133169152:=by
 have e:=zGD (d:=rp) (l:=0) (z:=-127*per*1048576) (by omega)
 rw [show 0*rp - -127*per*1048576=127*per*1048576 by omega] at e
 refine ⟨e,Int.ediv_nonneg (by omega) (by omega),?_⟩
 have : -133169152≤(-127*per*1048576) / rp:=Int.le_ediv_of_mul_le (by omega) (by omega)
 omega
section
variable {g:Gts} {L:List (Int×Int)} {per most:Int}
def vV (g:Gts) (L:List (Int×Int)) (lost per rate:Int) (i k:Nat):Int:=tt g L lost (i+1+k) - fr g L lost i - ((xU g L lost i k - 127*per)*1048576) / (rate*per)
noncomputable def zyc (g:Gts) (L:List (Int×Int)) (lost per rate:Int):Int:=mxN (fun _ _=>true) (vV g L lost per rate) L.length L.length (cl (rate*per) (127*per*1048576))
structure OfC (g:Gts) (L:List (Int×Int)) (per most:Int):Prop where
 hg:yp g
 ha:¬zck g.1
 hr:Ko g L
 h0:0 < L.length
 p0:1≤per
 p1:per≤1000
 m0:84≤most
 m1:most≤1542
 rt:1≤yl g.2 per (uM (most*per) L)
theorem OfC.lost (h:OfC g L per most):84≤most*per∧most*per≤1542000:=by
 have:=zjI (show 0≤most by have:=h.m0;omega) h.m1 (show 0≤per by have:=h.p0;omega) h.p1
 have h1:84*1≤most*per:=Int.mul_le_mul h.m0 h.p0 (by omega) (by have:=h.m0;omega)
 omega
theorem OfC.rc (h:OfC g L per most):RtC g.2 per (uM (most*per) L):=by
 have hl:=h.lost
 have hb:=zfY (lost:=most*per) (by omega) (a:=at0 g) (b:=at0 g+g.2) (by have:=h.hg.pos;omega) h.hr.cv.bd h.hr.cv.pw
 exact ⟨h.hg.pos,h.hg.c1,h.p0,h.p1,hb.1,by omega⟩
theorem OfC.ft (h:OfC g L per most) {q:Nat} (hq:q < 2*L.length):(0≤fr g L (most*per) q∧fr g L (most*per) q≤30000000)∧(0≤tt g L (most*per) q∧tt g L (most*per) q≤30000000)∧1≤mn g L (most*per) q∧mn g L (most*per) q≤bY g L q - bX g L q:=by
 have:=zEi h.hg h.hr h.h0 hq
 have:=zk0 h.hr h.h0 q
 have hl:=h.lost
 unfold fr tt mn
 omega
theorem zG8 (hg:yp g) (hr:Ko g L):(L.length:Int)≤9600000:=by
 have hb:=zfY (lost:=0) (by omega) (a:=at0 g) (b:=at0 g+g.2) (by have:=hg.pos;omega) hr.cv.bd hr.cv.pw
 have:=hg.c1
 omega
theorem zGE (h:OfC g L per most) {i k:Nat} (hk:k≤L.length) : -133169152000≤(xU g L (most*per) i k - 127*per)*1048576∧(xU g L (most*per) i k - 127*per)*1048576≤10066329600000∧-133169152≤((xU g L (most*per) i k - 127*per)*1048576) / (yl g.2 per (uM (most*per) L)*per)∧((xU g L (most*per) i k - 127*per)*1048576) / (yl g.2 per (uM (most*per) L)*per)≤10066329600000:=by
 have hl:=h.lost
 obtain ⟨r1,r2,r3⟩:=h.rc.rp h.rt
 have hs:=zt6 h.hr h.h0 (lost:=most*per) (by omega) i hk
 have hc:=h.hg.c1;have:=h.p0;have:=h.p1
 have z1 : -133169152000≤(xU g L (most*per) i k - 127*per)*1048576:=by omega
 have z2:(xU g L (most*per) i k - 127*per)*1048576≤10066329600000:=by omega
 generalize hz:(xU g L (most*per) i k - 127*per)*1048576=z at z1 z2
 have z3 : -133169152*per≤z:=by omega
 generalize yl g.2 per (uM (most*per) L)*per=rp at r2 r3
 refine ⟨z1,z2,Int.le_ediv_of_mul_le (by omega) (by omega),?_⟩
 rcases Int.le_total 0 z with h | h
 ·exact Int.le_trans (Int.ediv_le_self _ h) z2
 ·have:z / rp≤0:=Int.ediv_nonpos_of_nonpos_of_neg h (by omega)
  omega
theorem zFK (h:OfC g L per most):0≤zyc g L (most*per) per (yl g.2 per (uM (most*per) L))∧zyc g L (most*per) per (yl g.2 per (uM (most*per) L))≤268435456:=by
 obtain ⟨r1,r2,r3⟩:=h.rc.rp h.rt
 obtain ⟨b1,b2,b3⟩:=zqN h.p0 h.p1 r2 r3
 have ub:=zCp (fun _ _=>true) (vV g L (most*per) per (yl g.2 per (uM (most*per) L))) L.length L.length (cl (yl g.2 per (uM (most*per) L)*per) (127*per*1048576))
 have at1:=zCq (fun _ _=>true) (vV g L (most*per) per (yl g.2 per (uM (most*per) L))) L.length L.length (cl (yl g.2 per (uM (most*per) L)*per) (127*per*1048576))
 unfold zyc
 refine ⟨by omega,?_⟩
 rcases at1 with e | ⟨i,k,hi,hk,_,e⟩
 ·rw [e];omega
 ·rw [e]
  obtain ⟨_,_,z1,_⟩:=zGE h (i:=i) (k:=k) (by omega)
  have:=(h.ft (q:=i) (by omega)).1;have:=(h.ft (q:=i+1+k) (by omega)).2.1
  unfold vV
  omega
end
end Go.Proofs.YtleloebnggepoaaGreat.sg
namespace Go.Proofs.YtleloebnggepoaaGreat.sg
open Go Go.Fz Go.Fz.Sy
theorem GJ (g:Gts) {per most:Int} (p0:1≤per) (p1:per≤1000) (m0:84≤most) (m1:most≤1542):QW (g,per,most,())=some (bif tv (yp g) then 0 else 370,()):=by
 rw [zne];unfold zbS
 rw [zcj,zG]
 by_cases hg:yp g
 ·rw [zM hg,zZ (show ¬per < 1 by omega),zZ (show ¬1000 < per by omega),zZ (show ¬most < 84 by omega),zZ (show ¬1542 < most by omega)];rfl
 ·rw [qn hg];rfl
theorem zGF {z:Nat} (h:z≤1000000000000):wrF .i64 (z:Int)=(z:Int):=by rw [qT]<;>omega
def asL (xs:List (Int×Int)):List (Int×Int):=xs.map fun p=>(p.1,p.1+p.2)
theorem zCs {g:Gts} {L xs:List (Int×Int)} (hx:asL xs=L) (h:0 < L.length) (q:Nat):∃p,xs[q % xs.length]?=some p∧bX g L q=p.1+((q / L.length:Nat):Int)*g.2∧bY g L q - bX g L q=p.2:=by
 have hl:xs.length=L.length:=by rw [←hx];unfold asL;simp
 have hm:q % xs.length < xs.length:=Nat.mod_lt _ (by omega)
 have hy:xs[q % xs.length]?=some (xs[q % xs.length]):=List.getElem?_eq_getElem hm
 refine ⟨_,hy,?_⟩
 have hL:L[q % L.length]?=some ((xs[q % xs.length]).1,(xs[q % xs.length]).1+(xs[q % xs.length]).2):=by
  rw [←hl,←hx];unfold asL
  rw [List.getElem?_map,hy];rfl
 unfold bX bY
 rw [hL]
 simp only [Option.getD_some]
 exact ⟨trivial,by omega⟩
section
variable {g:Gts} {L:List (Int×Int)} {per most:Int}
theorem zFL (h:OfC g L per most):xK (g,per,most,())=some ((yl g.2 per (uM (most*per) L),zyc g L (most*per) per (yl g.2 per (uM (most*per) L))),0,()):=by
 have hg:=h.hg;have ha:=h.ha;have hr:=h.hr;have hL0:=h.h0
 have p0:=h.p0;have p1:=h.p1;have m0:=h.m0;have m1:=h.m1
 have hlost:=h.lost
 obtain ⟨eR,r0,ry⟩:=h.rc.rate
 obtain ⟨r1,r2,r3⟩:=h.rc.rp h.rt
 obtain ⟨b1,b2,b3⟩:=zqN p0 p1 r2 r3
 have hrt:=h.rt
 have hcp:=h.rc.cp
 have hc:=hg.c1;have hp:=hg.pos;have hn:=hg.n1;have hn0:=hg.n0
 have hLC:=zG8 hg hr
 have eM:wrF .i64 (most*per)=most*per:=qT (by omega) (by omega)
 have eRP:wrF .i64 (yl g.2 per (uM (most*per) L)*per)=yl g.2 per (uM (most*per) L)*per:=qT (by omega) (by omega)
 have hl:=znG ha
 obtain ⟨e,hx,he,hen,h0⟩:=zox hg ha
 have h0b:=zso hg
 rw [zbY];unfold UE
 rw [GJ g p0 p1 m0 m1,zM hg,zG,cond_true]
 refine yN ?_
 refine zg rfl ?_
 rw [eM,zcN hg ha hr (by omega) (by omega),zG]
 simp only [eR]
 refine zg (jg (show wrF .i64 (g.2*per)≠0 by rw [qT]<;>omega)) (zg (zZ (by omega)) ?_)
 generalize hy:uM (most*per) L=y at *
 generalize hrate:yl g.2 per y=rate at *
 rw [show wrF .i64 ((wrF .i64 (-127*per))*1048576) = -127*per*1048576 from by rw [qT (z:=-127*per) (by omega) (by omega),qT (by omega) (by omega)],eRP,Kc (by omega) (by omega) (by omega) (by omega),zG]
 refine zp (J:=fun x=>x.2.1=(at0 g,(((clo g.1:Nat):Int),()))∧x.2.2.1.1=[]) (qt (clo g.1) (fun i s=>s=((uS (g.1.take i),((i:Int),())),(([],()),((),((),()))))) (by omega) rfl ?_ ?_) ?_
 ·rintro i _ hi rfl
  have hy':g.1[i]?=some g.1[i]:=List.getElem?_eq_getElem (by omega)
  have hm:=List.getElem_mem (show i < g.1.length by omega)
  generalize g.1[i]=f at hy' hm
  have hf:=hg.el f hm
  have hb:=KD (l:=g.1.take i) fun e he=>hg.el e (List.mem_of_mem_take he)
  have hbl:(g.1.take i).length≤128:=by simp;omega
  refine zh (qq (show (i:Int) < (g.1.length:Int) by omega)) (zn (zQ (n:=i) hy' ?_))
  rw [vA hf]
  refine zh (zkZ _ i f hi hy') (zn (zQ (n:=i) hy' (zd (qR ?_))))
  show (((wrF .i64 (uS (g.1.take i)+f.2)),((wrF .i64 ((i:Int)+1)),())),(([],()),((),((),()))))=_
  have:=hf.2.2.1;have:=hf.2.2.2
  rw [Vz hy',qO (by omega),qT (by omega) (by omega)]
 ·rintro _ rfl
  refine zh (qq (show ((clo g.1:Nat):Int) < (g.1.length:Int) by omega)) (zn (zQ (n:=clo g.1) hx ?_))
  rw [vA hen]
  exact zg he (zd (zD ⟨rfl,rfl⟩))
 rintro ⟨j,⟨w,z,⟨⟩⟩,⟨c,⟨⟩⟩,⟨⟩,⟨⟩,⟨⟩⟩ ⟨hv,hc'⟩
 simp only [Prod.mk.injEq,and_true] at hv hc'
 obtain ⟨rfl,rfl⟩:=hv
 subst hc'
 refine zg (jg (show ((clo g.1:Nat):Int)≠(g.1.length:Int) by omega)) (zn (zQ (n:=clo g.1) hx ?_))
 have hm:clo g.1 % g.1.length=clo g.1:=Nat.mod_eq_of_lt hl
 have hts:=zg9 hg (k:=clo g.1) (e:=e) (by rw [hm];exact hx)
 have hA:=zsp hg (k:=clo g.1+1) (by omega)
 refine zp (J:=fun x=>x.1=0∧asL x.2.2.1.1=L) (qt g.1.length (fun i s=>∃now xs,s=((now,(tAt g (clo g.1+1+i),((i:Int),()))),((xs,()),((),((),()))))∧xs.length≤i∧Inv (opT g) (tAt g (clo g.1+1)) (tAt g (clo g.1+1+i)) now (asL xs)∧(∀f,0 < i→g.1[(clo g.1+i) % g.1.length]?=some f→opn f.1=false→now.2=0)) (by omega) ?_ ?_ ?_) ?_
 ·refine ⟨(0,0),[],?_,by simp,⟨Int.le_refl _,.inl ⟨rfl,zt5 _ _,fun p hp=>(by cases hp)⟩⟩,fun f h=>by omega⟩
  show (((0,0),((wrF .i64 (at0 g+e.2)),(0,()))),(([],()),((),((),()))))=_
  rw [Nat.add_zero,hts,h0,qT (by omega) (by have:=hen.2.2.2;omega)];rfl
 ·rintro i _ hi ⟨now,xs,rfl,hxl,hinv,_⟩
  obtain ⟨f,hy',hf,hsu,hop⟩:=zCl hg (clo g.1+1+i)
  have hB:=zsp hg (k:=clo g.1+1+i) (by omega)
  have hnb:=zCm hinv hA.1 hB.2
  have f1:=hf.2.2.1;have f2:=hf.2.2.2
  refine zh (qq (show (i:Int) < (g.1.length:Int) by omega)) (zg (jg (show (g.1.length:Int)≠0 by omega)) ?_)
  refine zn (xT (a:=f) (by show atI g.1 (Int.tmod (wrF .i64 ((wrF .i64 (((clo g.1:Nat):Int)+1))+(i:Int))) (g.1.length:Int))=_;rw [zzv hg (by omega) (by omega)];exact ZU hy') ?_)
  rw [vA hf]
  have eat:wrF .i64 (tAt g (clo g.1+1+i)+f.2)=tAt g (clo g.1+1+(i+1)):=by
   rw [show clo g.1+1+(i+1)=clo g.1+1+i+1 from rfl,hsu,qT (by omega) (by omega)]
  have eup:wrF .i64 ((i:Int)+1)=((i+1:Nat):Int):=qO (by omega)
  have idx:∀f',0 < i+1→g.1[(clo g.1+(i+1)) % g.1.length]?=some f'→f'=f:=fun f' _ h=>by
   rw [show clo g.1+(i+1)=clo g.1+1+i by omega,hy'] at h
   exact (Option.some.inj h).symm
  refine zr (fun ho=>?_) (fun ho=>?_)
  ·have ho:opn f.1=true:=ho
   rw [ho] at hop
   have hi2:=zx8 hinv (show 0 < f.2 by omega) hop
   refine zp (J:=fun x=>x.2.1.1=if now.2=0 then (tAt g (clo g.1+1+i),0) else now) (zr (fun h=>?_) (fun h=>?_)) ?_
   ·have h:now.2=0:=jo h
    refine zd ?_
    rw [if_pos h]
    show (tAt g (clo g.1+1+i),now.2)=_
    rw [h]
   ·have h:now.2≠0:=jG h
    exact zd (by rw [if_neg h])
   ·rintro ⟨j,⟨nw,⟨⟩⟩,⟨⟩,⟨⟩,⟨⟩⟩ hnw
    simp only at hnw
    subst hnw
    refine zd (qR ⟨_,xs,?_,by omega,(by rw [←hsu] at hi2;exact hi2),fun f' h1 h2 h3=>?_⟩)
    ·show ((((if now.2=0 then (tAt g (clo g.1+1+i),0) else now).1,(wrF .i64 ((if now.2=0 then (tAt g (clo g.1+1+i),0) else now).2+f.2))),((wrF .i64 (tAt g (clo g.1+1+i)+f.2)),((wrF .i64 ((i:Int)+1)),()))),((xs,()),((),((),()))))=_
     rw [eat,eup]
     by_cases h:now.2=0
     ·rw [if_pos h,if_pos h]
      simp only
      rw [qT (by omega) (by omega),Int.zero_add]
     ·rw [if_neg h,if_neg h,qT (by omega) (by omega)]
    ·rw [idx f' h1 h2,ho] at h3;cases h3
  ·have ho:opn f.1=false:=ho
   rw [ho] at hop
   refine zr (fun h=>?_) (fun h=>?_)
   ·have h:0 < now.2:=yn h
    have hi2:=zx9 hinv (show 0 < f.2 by omega) h hop
    refine zh (Qo (by show (xs.length+1)*16≤_;omega) (by show xs.length+1≤_;omega)) (zd (qR ⟨(0,0),xs++[now],?_,by simp;omega,?_,fun f' h1 h2 h3=>rfl⟩))
    ·show (((0,0),((wrF .i64 (tAt g (clo g.1+1+i)+f.2)),((wrF .i64 ((i:Int)+1)),()))),((xs++[now],()),((),((),()))))=_
     rw [eat,eup]
    ·rw [←hsu] at hi2
     have:asL (xs++[now])=asL xs++[(now.1,now.1+now.2)]:=by unfold asL;simp
     rw [this];exact hi2
   ·have h:now.2=0:=by have:now.2≤0:=wG h;omega
    have hi2:=zu4 hinv (show 0 < f.2 by omega) h hop
    refine zd (qR ⟨(0,0),xs,?_,by omega,(by rw [←hsu] at hi2;exact hi2),fun f' h1 h2 h3=>rfl⟩)
    show (((0,0),((wrF .i64 (tAt g (clo g.1+1+i)+f.2)),((wrF .i64 ((i:Int)+1)),()))),((xs,()),((),((),()))))=_
    rw [eat,eup]
 ·rintro _ ⟨now,xs,rfl,hxl,hinv,hlast⟩
  refine zg (zZ (show ¬(g.1.length:Int) < (g.1.length:Int) by omega)) (zd (zD ⟨rfl,?_⟩))
  have hz:=hlast e (by omega) (by rw [Nat.add_mod_right,hm];exact hx) he
  show asL xs=L
  rcases hinv.2 with ⟨_,hc,_⟩ | ⟨h',_⟩
  ·rw [zzt hg] at hc
   exact (zya hg ha hc hr).symm
  ·omega
 rintro ⟨j,⟨nw,v,z,⟨⟩⟩,⟨xs,⟨⟩⟩,⟨⟩,⟨⟩,⟨⟩⟩ ⟨hj,hxs⟩
 simp only at hj hxs
 subst hj
 have hxl:xs.length=L.length:=by rw [←hxs];unfold asL;simp
 refine zh rfl ?_
 refine zp (J:=fun x=>x.2.1.1=zyc g L (most*per) per rate∧x.2.1.2.1=rate)
  (qt L.length (fun i s=>s=((mxN (fun _ _=>true) (vV g L (most*per) per rate) L.length i (cl (rate*per) (127*per*1048576)),(rate,(per,((i:Int),())))),((),()))) (by omega) ?_ ?_ ?_) ?_
 ·show ((WK 0 (wrF .i64 (0 - (-127*per*1048576) / (rate*per))),(rate,(per,(0,())))),((),()))=_
  rw [←b1,qT (by omega) (by omega),zjC]
  show _=((cl (rate*per) (127*per*1048576),_),_)
  rw [show max 0 (cl (rate*per) (127*per*1048576))=cl (rate*per) (127*per*1048576) by omega];rfl
 ·rintro i _ hi rfl
  obtain ⟨pi,hpi,epi1,epi2⟩:=zCs (g:=g) hxs hL0 i
  rw [Nat.mod_eq_of_lt (by omega)] at hpi
  rw [Nat.div_eq_of_lt hi] at epi1
  have fti:=h.ft (q:=i) (by omega)
  refine zh (qq (show (i:Int) < (xs.length:Int) by omega)) (zn (zQ (n:=i) hpi (zn (xT (a:=pi) (by show gl xs (Int.toNat (i:Int))=_;rw [Int.toNat_natCast,uT];exact hpi) ?_))))
  refine zp (J:=fun x=>x.2.1.1=mxN (fun _ _=>true) (vV g L (most*per) per rate) L.length (i+1) (cl (rate*per) (127*per*1048576))∧x.2.1.2.1=rate∧x.2.1.2.2.1=per)
   (qt L.length (fun k s=>s=((mxK (fun _=>true) (vV g L (most*per) per rate i) k (mxN (fun _ _=>true) (vV g L (most*per) per rate) L.length i (cl (rate*per) (127*per*1048576))),(rate,(per,(xU g L (most*per) i k,((k:Int),()))))),((),()))) (by omega) rfl ?_ ?_) ?_
  ·rintro k _ hk rfl
   obtain ⟨pj,hpj,epj1,epj2⟩:=zCs (g:=g) hxs hL0 (i+1+k)
   have ftj:=h.ft (q:=i+1+k) (by omega)
   have zb:=zGE h (i:=i) (k:=k) (by omega)
   rw [hy,hrate] at zb
   have sb:=zt6 hr hL0 (lost:=most*per) (by omega) i (show k≤L.length by omega)
   have sb':=zt6 hr hL0 (lost:=most*per) (by omega) i (show k+1≤L.length by omega)
   have hbi:=zEi hg hr hL0 (show i < 2*L.length by omega);have hbj:=zEi hg hr hL0 (show i+1+k < 2*L.length by omega)
   have hxi:=zk0 hr hL0 i;have hxj:=zk0 hr hL0 (i+1+k)
   have ej:Int.tmod (wrF .i64 ((wrF .i64 ((i:Int)+1))+(k:Int))) (xs.length:Int)=(((i+1+k) % xs.length:Nat):Int):=by
    rw [qO (by omega),qT (by omega) (by omega),Int.tmod_eq_emod_of_nonneg (by omega),←Int.natCast_add,←Int.natCast_emod]
   have ed:wrF .i64 (Int.tdiv (wrF .i64 ((wrF .i64 ((i:Int)+1))+(k:Int))) (xs.length:Int))=(((i+1+k) / L.length:Nat):Int):=by
    rw [qO (by omega),qT (z:=((i+1:Nat):Int)+(k:Int)) (by omega) (by omega),Int.tdiv_eq_ediv_of_nonneg (by omega),hxl,←Int.natCast_add,←Int.natCast_ediv]
    exact zGF (Nat.le_trans (Nat.div_le_self _ _) (by omega))
   have hd1:(i+1+k) / L.length=0∨(i+1+k) / L.length=1:=by
    have:(i+1+k) / L.length < 2:=Nat.div_lt_of_lt_mul (by omega)
    exact Nat.le_one_iff_eq_zero_or_eq_one.1 (Nat.le_of_lt_succ this)
   have edC:0≤(((i+1+k) / L.length:Nat):Int)*g.2∧(((i+1+k) / L.length:Nat):Int)*g.2≤9600000:=by
    rcases hd1 with h1 | h1<;>rw [h1]<;>simp<;>omega
   generalize hdc:(((i+1+k) / L.length:Nat):Int)=dc at ed edC epj1
   refine zh (qq (show (k:Int) < (xs.length:Int) by omega)) (zg (jg (show (xs.length:Int)≠0 by omega)) ?_)
   refine zn (xT (a:=pj) (by show atI xs (Int.tmod (wrF .i64 ((wrF .i64 ((i:Int)+1))+(k:Int))) (xs.length:Int))=_;rw [ej];exact ZU hpj) (zn (xT (a:=pj) (by show gl xs (Int.toNat (Int.tmod (wrF .i64 ((wrF .i64 ((i:Int)+1))+(k:Int))) (xs.length:Int)))=_;rw [ej,Int.toNat_natCast,uT];exact hpj) ?_)))
   refine zg (jg (show (xs.length:Int)≠0 by omega)) ?_
   have ez:wrF .i64 ((wrF .i64 (xU g L (most*per) i k - (wrF .i64 (127*per))))*1048576)=(xU g L (most*per) i k - 127*per)*1048576:=by
    rw [qT (z:=127*per) (by omega) (by omega),qT (z:=xU g L (most*per) i k - 127*per) (by omega) (by omega),qT (by omega) (by omega)]
   have efl:uA (wrF .i64 ((wrF .i64 (xU g L (most*per) i k - (wrF .i64 (127*per))))*1048576),wrF .i64 (rate*per),())=some (((xU g L (most*per) i k - 127*per)*1048576) / (rate*per),()):=by
    rw [ez,eRP,Kc (by omega) (by omega) (by omega) (by omega)]
   refine zn (xT efl ?_)
   refine zd (qR ?_)
   have em1:VI (most*per) pj.2=mn g L (most*per) (i+1+k):=by rw [ztU,←epj2];unfold mn;omega
   have em2:VI (most*per) pi.2=mn g L (most*per) i:=by rw [ztU,←epi2];unfold mn;omega
   have eto:wrF .i64 ((wrF .i64 (pj.1+(wrF .i64 (dc*g.2))))+VI (most*per) pj.2)=tt g L (most*per) (i+1+k):=by
    rw [em1,qT (z:=dc*g.2) (by omega) (by omega),qT (z:=pj.1+dc*g.2) (by omega) (by omega),←epj1]
    show wrF .i64 (tt g L (most*per) (i+1+k))=_
    rw [qT (by omega) (by omega)]
   have efr:wrF .i64 ((wrF .i64 (pi.1+pi.2)) - VI (most*per) pi.2)=fr g L (most*per) i:=by
    have e1:pi.1+pi.2=bY g L i:=by simp at epi1;omega
    rw [em2,e1,qT (z:=bY g L i) (by omega) (by omega)]
    show wrF .i64 (fr g L (most*per) i)=_
    rw [qT (by omega) (by omega)]
   have ev:wrF .i64 ((wrF .i64 (tt g L (most*per) (i+1+k) - fr g L (most*per) i)) - ((xU g L (most*per) i k - 127*per)*1048576) / (rate*per))=vV g L (most*per) per rate i k:=by
    rw [qT (z:=tt g L (most*per) (i+1+k) - fr g L (most*per) i) (by omega) (by omega)]
    show wrF .i64 (vV g L (most*per) per rate i k)=_
    unfold vV
    rw [qT (by omega) (by omega)]
   have ew:wrF .i64 (xU g L (most*per) i k+WK 0 (wrF .i64 (pj.2 - most*per)))=xU g L (most*per) i (k+1):=by
    have:xU g L (most*per) i (k+1)=xU g L (most*per) i k+max 0 (pj.2 - most*per):=by
     show _+wg g L (most*per) (i+1+k)=_
     unfold wg;rw [epj2]
    rw [qT (z:=pj.2 - most*per) (by omega) (by omega),zjC,←this,qT (by omega) (by omega)]
   show ((WK (mxK (fun _=>true) (vV g L (most*per) per rate i) k (mxN (fun _ _=>true) (vV g L (most*per) per rate) L.length i (cl (rate*per) (127*per*1048576)))) (wrF .i64 ((wrF .i64 ((wrF .i64 ((wrF .i64 (pj.1+(wrF .i64 ((wrF .i64 (Int.tdiv (wrF .i64 ((wrF .i64 ((i:Int)+1))+(k:Int))) (xs.length:Int)))*g.2))))+VI (most*per) pj.2)) - (wrF .i64 ((wrF .i64 (pi.1+pi.2)) - VI (most*per) pi.2)))) - ((xU g L (most*per) i k - 127*per)*1048576) / (rate*per))),(rate,(per,((wrF .i64 (xU g L (most*per) i k+WK 0 (wrF .i64 (pj.2 - most*per)))),((wrF .i64 ((k:Int)+1)),()))))),((),()))=_
   rw [ed,eto,efr,ev,ew,qO (by omega),zjC]
   rfl
  ·rintro _ rfl
   exact zg (zZ (show ¬((L.length:Nat):Int) < (xs.length:Int) by omega)) (zd (zD ⟨rfl,rfl,rfl⟩))
  ·rintro ⟨j,⟨a1,a2,a3,a4,a5,⟨⟩⟩,⟨⟩,⟨⟩⟩ ⟨h1,h2,h3⟩
   simp only at h1 h2 h3
   subst h1 h2 h3
   exact zd (qR (congrArg (fun z=>((_,(_,(_,(z,())))),((),()))) (qO (by omega))))
 ·rintro _ rfl
  exact zg (zZ (show ¬((L.length:Nat):Int) < (xs.length:Int) by omega)) (zd (zD ⟨rfl,rfl⟩))
 ·rintro ⟨j,⟨a1,a2,a3,a4,⟨⟩⟩,⟨⟩,⟨⟩⟩ ⟨h1,h2⟩
  simp only at h1 h2
  subst h1 h2
  exact zd rfl
end
end Go.Proofs.YtleloebnggepoaaGreat.sg
namespace Go.Proofs.YtleloebnggepoaaGreat.sg
open Go Go.Fz Go.Fz.Sy
section
variable {g:Gts} {L:List (Int×Int)} {per most:Int}
end
def zoy (v:Int×Int):Prop:=1≤v.1∧v.1≤1048576∧0≤v.2∧v.2≤268435456
theorem zHl {g:Gts} (hg:yp g) {per most:Int} (p0:1≤per) (p1:per≤1000) (m0:84≤most) (m1:most≤1542):∃v e,xK (g,per,most,())=some (v,e,())∧((e=0∧zoy v)∨(e=4∧v=(0,0))):=by
 have hc:=hg.c1;have hp:=hg.pos;have hn:=hg.n1
 have hlost:84≤most*per∧most*per≤1542000:=by
  have:=zjI (show 0≤most by omega) m1 (show 0≤per by omega) p1
  have h1:84*1≤most*per:=Int.mul_le_mul m0 p0 (by omega) (by omega)
  omega
 have eM:wrF .i64 (most*per)=most*per:=qT (by omega) (by omega)
 by_cases ha:zck g.1
 ·
  have hR:RtC g.2 per g.2:=⟨hp,hc,p0,p1,by omega,Int.le_refl _⟩
  obtain ⟨eR,r0,ry⟩:=hR.rate
  have hcp:=hR.cp
  have hr1:1≤yl g.2 per g.2:=by
   have:1*(g.2*per)≤g.2*1048576:=by
    have:=Int.mul_le_mul_of_nonneg_left (show per≤1048576 by omega) (show 0≤g.2 by omega)
    omega
   exact Int.le_ediv_of_mul_le (by omega) this
  obtain ⟨r1,r2,r3⟩:=hR.rp hr1
  obtain ⟨b1,b2,b3⟩:=zqN p0 p1 r2 r3
  have eRP:wrF .i64 (yl g.2 per g.2*per)=yl g.2 per g.2*per:=qT (by omega) (by omega)
  have hcl:=zFI ha
  refine ⟨(yl g.2 per g.2,cl (yl g.2 per g.2*per) (127*per*1048576)),0,?_,.inl ⟨rfl,hr1,r1,b2,by simp only;omega⟩⟩
  ·rw [zbY];unfold UE
   rw [GJ g p0 p1 m0 m1,zM hg,zG,cond_true]
   refine yN ?_
   refine zg rfl ?_
   rw [eM,zjH hg ha,zG]
   simp only [eR]
   refine zg (jg (show wrF .i64 (g.2*per)≠0 by rw [qT]<;>omega)) (zg (zZ (by omega)) ?_)
   generalize yl g.2 per g.2=rate at *
   rw [show wrF .i64 ((wrF .i64 (-127*per))*1048576) = -127*per*1048576 from by rw [qT (z:=-127*per) (by omega) (by omega),qT (by omega) (by omega)],eRP,Kc (by omega) (by omega) (by omega) (by omega),zG]
   refine zp (J:=fun x=>x.2.1.2.1=(g.1.length:Int)∧x.2.2.1.1=[]) (qt g.1.length (fun i s=>s=((uS (g.1.take i),((i:Int),())),(([],()),((),((),()))))) (by omega) rfl ?_ ?_) ?_
   ·rintro i _ hi rfl
    have hy':g.1[i]?=some g.1[i]:=List.getElem?_eq_getElem (by omega)
    have hm:=List.getElem_mem (show i < g.1.length by omega)
    generalize g.1[i]=f at hy' hm
    have hf:=hg.el f hm
    have hb:=KD (l:=g.1.take i) fun e he=>hg.el e (List.mem_of_mem_take he)
    have hbl:(g.1.take i).length≤128:=by simp;omega
    refine zh (qq (show (i:Int) < (g.1.length:Int) by omega)) (zn (zQ (n:=i) hy' ?_))
    rw [vA hf]
    refine zh (ha f hm) (zn (zQ (n:=i) hy' (zd (qR ?_))))
    show (((wrF .i64 (uS (g.1.take i)+f.2)),((wrF .i64 ((i:Int)+1)),())),(([],()),((),((),()))))=_
    have:=hf.2.2.1;have:=hf.2.2.2
    rw [Vz hy',qO (by omega),qT (by omega) (by omega)]
   ·rintro _ rfl
    exact zg (zZ (show ¬(g.1.length:Int) < (g.1.length:Int) by omega)) (zd (zD ⟨rfl,rfl⟩))
   rintro ⟨j,⟨w,z,⟨⟩⟩,⟨c,⟨⟩⟩,⟨⟩,⟨⟩,⟨⟩⟩ ⟨hv,hc'⟩
   simp only at hv hc'
   subst hv hc'
   refine zh (wc rfl) ?_
   refine zp (J:=fun x=>x.2.1.1=cl (rate*per) (127*per*1048576)∧x.2.1.2.1=rate) (qt 0 (fun _ s=>s=((WK 0 (wrF .i64 (0 - (-127*per*1048576) / (rate*per))),(rate,(per,(0,())))),((),()))) (by omega) rfl (fun i s hi=>by omega) ?_) ?_
   ·rintro _ rfl
    refine zg (zZ (show ¬(0:Int) < (([]:List (Int×Int)).length:Int) by simp)) (zd (zD ⟨?_,rfl⟩))
    show WK 0 (wrF .i64 (0 - (-127*per*1048576) / (rate*per)))=_
    rw [←b1,qT (by omega) (by omega),zjC];omega
   ·rintro ⟨j,⟨a1,a2,a3,a4,⟨⟩⟩,⟨⟩,⟨⟩⟩ ⟨h1,h2⟩
    simp only at h1 h2
    subst h1 h2
    exact zd rfl
 ·obtain ⟨L,hr⟩:=zEh hg ha
  have hb:=zfY (lost:=most*per) (by omega) (a:=at0 g) (b:=at0 g+g.2) (by omega) hr.cv.bd hr.cv.pw
  have hR:RtC g.2 per (uM (most*per) L):=⟨hp,hc,p0,p1,hb.1,by omega⟩
  obtain ⟨eR,r0,ry⟩:=hR.rate
  have hcp:=hR.cp
  by_cases hr1:1≤yl g.2 per (uM (most*per) L)
  ·have h0:0 < L.length:=by
    apply Classical.byContradiction
    intro hn
    have:L=[]:=List.length_eq_zero_iff.1 (by omega)
    rw [this] at hr1
    unfold yl uM at hr1
    simp at hr1
   have h:OfC g L per most:=⟨hg,ha,hr,h0,p0,p1,m0,m1,hr1⟩
   have hb:=zFK h
   have hrp:=h.rc.rp hr1
   exact ⟨_,_,zFL h,.inl ⟨rfl,hr1,hrp.1,hb.1,hb.2⟩⟩
  ·refine ⟨(0,0),4,?_,.inr ⟨rfl,rfl⟩⟩
   ·rw [zbY];unfold UE
    rw [GJ g p0 p1 m0 m1,zM hg,zG,cond_true]
    refine yN (zg rfl ?_)
    rw [eM,zcN hg ha hr (by omega) (by omega),zG]
    simp only [eR]
    exact zg (jg (show wrF .i64 (g.2*per)≠0 by rw [qT]<;>omega)) (zh (qq (by omega)) (zd rfl))
end Go.Proofs.YtleloebnggepoaaGreat.sg
end
