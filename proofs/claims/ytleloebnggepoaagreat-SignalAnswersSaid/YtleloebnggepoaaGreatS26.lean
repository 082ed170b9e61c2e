/- Parts of a proof, joined. -/
import Derived.Test.YtleloebnggepoaaGreatS25
set_option linter.unusedSectionVars false
set_option linter.unusedVariables false
set_option linter.unusedSimpArgs false
set_option maxHeartbeats 0
set_option maxRecDepth 100000
noncomputable section
namespace Go.Proofs.YtleloebnggepoaaGreat.sg
open Go Go.Fz Go.Fz.Sy
abbrev yQ:List VT:=[⟨true,qL⟩]
abbrev yR:List VT:=[]
def Gx:qb:=zT [cdF ze,cdF qL,cdF qK,cdF zA,cdF zV,cdF jW,cdF qy,cdF qq,cdF zu] [] [] [] [108,110,34]
def Yx (wL:za→(Int×Unit)→Option (za×(Int×qE×Bool×Unit))) (jC:za→(qE×Unit)→Option (za×(Unit))) (gk:zaY) (kh:za→(zv×Unit)→Option (za×((List Int)×Unit))) (vF:VE) (wY:JF) (jX:za→(qE×Unit)→Option (za×(Unit))) (s:za) (a0:zJ):Option (za×(Unit)):=
 opt (wL s (a0.2.1,())) fun x0=>
 bif !(zt x0.2.2.1.2.1 a0.2.2.1) then opt (bif zj a0.2.2.1 x0.2.2.1.2.1 then opt (jC x0.1 (x0.2.2.1,())) fun x1=>
    some (0,((x1.1,()),()))
   else some (0,((x0.1,()),()))) fun x2=>
  some (x2.2.1.1,())
 else opt (bif a0.2.2.2.2.1 then opt (gk (x0.1.1,(x0.1.2.1,(a0.2.2.2.2.2.1,())))) fun x3=>
    opt (bif !(zj x3.2.1 0) then some (0,((x0.1,(a0,((a0.2.1,(a0.2.2.1,(3,(x3.2.1,[])))),()))),()))
     else opt (kh (x0.1.1,(x3.1,x0.1.2.2)) (a0.2.2.2.2.2.1,())) fun x4=>
      some (0,((x4.1,(a0,((a0.2.1,(a0.2.2.1,(1,(0,x4.2.1)))),()))),()))) fun x5=>
    some (0,((x5.2.1.2.1,(x5.2.1.1,(x5.2.1.2.2.1,()))),()))
   else opt (vF (x0.1.2.1,(a0.2.1,()))) fun x6=>
    opt (bif !(zj x6.2.1 0) then some (0,((x0.1,((a0.2.1,(a0.2.2.1,(5,(0,[])))),())),()))
     else opt (atI x0.1.2.1 x6.1) fun x7=>
      opt (kh x0.1 (x7,())) fun x8=>
      some (0,((x8.1,((a0.2.1,(a0.2.2.1,(4,(0,x8.2.1)))),())),()))) fun x9=>
    some (0,((a0,(x9.2.1.1,(x9.2.1.2.1,()))),()))) fun x10=>
  opt (wY (x10.2.1.2.1.2.2.2.1,(x0.2.1,(x0.2.2.2.1,(x10.2.1.2.2.1,()))))) fun x11=>
  opt (jC (x10.2.1.2.1.1,(x10.2.1.2.1.2.1,(x10.2.1.2.1.2.2.1,(x11.1,x10.2.1.2.1.2.2.2.2)))) (x10.2.1.2.2.1,())) fun x12=>
  opt (jX x12.1 (x10.2.1.2.2.1,())) fun x13=>
  some (x13.1,())
theorem zh7 (wL:za→(Int×Unit)→Option (za×(Int×qE×Bool×Unit))) (jC:za→(qE×Unit)→Option (za×(Unit))) (gk:(jJ×(List zv)×zv×Unit)→Option ((List zv)×Int×Unit)) (kh:za→(zv×Unit)→Option (za×((List Int)×Unit))) (vF:((List zv)×Int×Unit)→Option (Int×Int×Unit)) (wY:((List qE)×Int×Bool×qE×Unit)→Option ((List qE)×Unit)) (jX:za→(qE×Unit)→Option (za×(Unit))) (s:za) (a0:zJ):sP Tryz.prog ⟨[],[(107,⟨ze,jx,jy,wL⟩),(108,⟨ze,jz,jA,jC⟩),(109,⟨ze,xF,xG,kh⟩),(34,⟨ze,jb,jc,jX⟩)]⟩ [(11,⟨ud,ue,gk⟩),(110,⟨ka,ke,vF⟩),(111,⟨wU,wW,wY⟩)] Gx (zM []) 30 80 ze yQ yR s (a0,())=Yx wL jC gk kh vF wY jX s a0:=by kernel_rfl
def vP:za→(zJ×Unit)→Option (za×(Unit)):=sP Tryz.prog ⟨[],[(107,⟨ze,jx,jy,jR⟩),(108,⟨ze,jz,jA,jB⟩),(109,⟨ze,xF,xG,yP⟩),(34,⟨ze,jb,jc,jD⟩)]⟩ [(11,⟨ud,ue,uV⟩),(110,⟨ka,ke,xO⟩),(111,⟨wU,wW,wj⟩)] Gx (zM []) 30 80 ze yQ yR
theorem zfu:yT.Ok Tryz.prog 80 ⟨ze,yQ,yR,vP⟩:=xp ⟨qw,(zO Kc (zO Kd (zO KV (zO XD je))))⟩ (zf zhw (zf zfV (zf Gw zi))) zm (by kernel_rfl)
theorem zfv (s:za) (a0:zJ):vP s (a0,())=Yx jR jB uV yP xO wj jD s a0:=zh7 jR jB uV yP xO wj jD s a0
abbrev WV:List VT:=[⟨false,(.list I)⟩]
abbrev WW:List VT:=[⟨false,I⟩]
def zws:qb:=zT [] [] [] [] []
def zhy (a0:(List Int)):Option (Int×Unit):=
 opt (qd (fun s0:((Int×(Int×Unit))×Unit)=>
  bif (zt s0.1.2.1 ((a0.length:Nat):Int)) then opt (atI a0 s0.1.2.1) fun x1=>
   bif !(zj x1 0) then some (.inl (1,((x1,(s0.1.2.1,())),())))
   else some (.inr ((s0.1.1,((wrF .i64 (s0.1.2.1+1)),())),()))
  else some (.inl (0,((s0.1.1,(s0.1.2.1,())),())))) qC ((0,(0,())),())) fun x2=>
 bif Nat.beq x2.1 0 then some (0,())
 else some (x2.2.1.1,())
abbrev zhz:Type:=((List Int)×Unit)→Option (Int×Unit)
def zob:zhz:=sF Tryz.prog [] zws (zM []) 30 144 WV WW
theorem zyH (a0):zob (a0,())=zhy a0:=by kernel_rfl
def Jm:zhz:=zob
theorem zsY:Con.Ok Tryz.prog 144 ⟨WV,WW,Jm⟩:=zz zi zm (by kernel_rfl)
theorem zsZ (a0):Jm (a0,())=zhy  a0:=zyH  a0
abbrev yw:List VT:=[⟨false,I⟩,⟨false,I⟩]
abbrev yx:List VT:=[⟨false,I⟩,⟨true,xa⟩,⟨false,.bool⟩]
def UM:qb:=zT [cdF ze,cdF xa] [] [] [] [37,144]
def WX (jL:We) (zc5:zhz) (s:za) (a0:Int) (a1:Int):Option (za×(Int×xU×Bool×Unit)):=
 opt (qd (fun s0:((Int×(Int×(Int×(Bool×(Int×Unit)))))×Unit)=>
  bif (zt s0.1.2.2.2.2.1 ((s.2.2.2.2.1.length:Nat):Int)) then opt (atI s.2.2.2.2.1 s0.1.2.2.2.2.1) fun x1=>
   opt (jL (x1.1,(s0.1.1,()))) fun x2=>
   opt (jL (x1.2.1,(s0.1.2.1,()))) fun x3=>
   opt (zc5 ((x2.1::(x3.1::[])),())) fun x4=>
   bif !(zt x4.1 0) then some (.inl (1,((s0.1.1,(s0.1.2.1,(s0.1.2.2.2.2.1,((zj x4.1 0),(s0.1.2.2.2.2.1,()))))),())))
   else some (.inr ((s0.1.1,(s0.1.2.1,(s0.1.2.2.1,(s0.1.2.2.2.1,((wrF .i64 (s0.1.2.2.2.2.1+1)),()))))),()))
  else some (.inl (0,((s0.1.1,(s0.1.2.1,(s0.1.2.2.1,(s0.1.2.2.2.1,(s0.1.2.2.2.2.1,()))))),())))) qC ((a0,(a1,(0,(false,(0,()))))),())) fun x5=>
 bif Nat.beq x5.1 0 then some (s,(((s.2.2.2.2.1.length:Nat):Int),((x5.2.1.1,(x5.2.1.2.1,(0,false))),(false,()))))
 else bif !x5.2.1.2.2.2.1 then some (s,(x5.2.1.2.2.1,((x5.2.1.1,(x5.2.1.2.1,(0,false))),(false,()))))
  else opt (atI s.2.2.2.2.1 x5.2.1.2.2.1) fun x6=>
   some (s,(x5.2.1.2.2.1,(x6,(true,()))))
theorem zhA (jL:(Int×Int×Unit)→Option (Int×Unit)) (zc5:((List Int)×Unit)→Option (Int×Unit)) (s:za) (a0:Int) (a1:Int):sP Tryz.prog ⟨[],[]⟩ [(37,⟨wO,wP,jL⟩),(144,⟨WV,WW,zc5⟩)] UM (zM []) 30 112 ze yw yx s (a0,a1,())=WX jL zc5 s a0 a1:=by kernel_rfl
def xl:za→(Int×Int×Unit)→Option (za×(Int×xU×Bool×Unit)):=sP Tryz.prog ⟨[],[]⟩ [(37,⟨wO,wP,js⟩),(144,⟨WV,WW,Jm⟩)] UM (zM []) 30 112 ze yw yx
theorem zeV:yT.Ok Tryz.prog 112 ⟨ze,yw,yx,xl⟩:=xp ⟨qw,je⟩ (zf Ky (zf zsY zi)) zm (by kernel_rfl)
theorem zeW (s:za) (a0:Int) (a1:Int):xl s (a0,a1,())=WX js Jm s a0 a1:=zhA js Jm s a0 a1
abbrev vA:List VT:=[⟨false,(.list xa)⟩,⟨false,I⟩,⟨false,.bool⟩,⟨true,xa⟩]
abbrev vB:List VT:=[⟨false,(.list xa)⟩]
def zjj:qb:=zT [cdF xa] [] [⟨2,27,some 8,xa,true⟩] [] []
def VG (a0:(List xU)) (a1:Int) (a2:Bool) (a3:xU):Option ((List xU)×Unit):=
 opt (uz a0 (some a1) none none) fun x0=>
 opt (bif a2 then opt (uz a0 (some (wrF .i64 (a1+1))) none none) fun x1=>
   some (0,((x1,()),()))
  else some (0,((x0,()),()))) fun x2=>
 opt (uz a0 none (some a1) (some a1)) fun x3=>
 bif (xE x3.length ((a3::[]).length) 32) then bif (xE ((x3++(a3::[])).length) x2.2.1.1.length 32) then some (((x3++(a3::[]))++x2.2.1.1),())
  else none
 else none
abbrev VH:Type:=((List xU)×Int×Bool×xU×Unit)→Option ((List xU)×Unit)
def zbR:VH:=sF Tryz.prog [] zjj (zM []) 30 113 vA vB
theorem zka (a0) (a1) (a2) (a3):zbR (a0,a1,a2,a3,())=VG a0 a1 a2 a3:=by kernel_rfl
def vC:VH:=zbR
theorem zhB:Con.Ok Tryz.prog 113 ⟨vA,vB,vC⟩:=zz zi zm (by kernel_rfl)
theorem zhC (a0) (a1) (a2) (a3):vC (a0,a1,a2,a3,())=VG  a0 a1 a2 a3:=zka  a0 a1 a2 a3
abbrev jH:List VT:=[⟨true,qL⟩]
abbrev jI:List VT:=[]
def WY:qb:=zT [cdF ze,cdF qL,cdF zA,cdF xa,cdF zu] [] [] [] [112,52]
def gZ (Zr:za→(Int×Int×Unit)→Option (za×(Int×xU×Bool×Unit))) (JP:VH) (zL:za→(zJ×Unit)→Option (za×(Unit))) (s:za) (a0:zJ):Option (za×(Unit)):=
 opt (Zr s (a0.2.2.2.1,(a0.2.1,()))) fun x0=>
 bif zt a0.2.2.1 x0.2.2.1.2.2.1 then some (x0.1,())
 else opt (JP (x0.1.2.2.2.2.1,(x0.2.1,(x0.2.2.2.1,((x0.2.2.1.1,(x0.2.2.1.2.1,(a0.2.2.1,(zj a0.1 2)))),()))))) fun x1=>
  opt (zL (x0.1.1,(x0.1.2.1,(x0.1.2.2.1,(x0.1.2.2.2.1,(x1.1,x0.1.2.2.2.2.2))))) ((4,(a0.2.1,(a0.2.2.1,(a0.2.2.2.1,(false,((0,(0,(0,(0,(0,(0,((0,0),(0,[])))))))),0)))))),())) fun x2=>
  some (x2.1,())
theorem zb4 (Zr:za→(Int×Int×Unit)→Option (za×(Int×xU×Bool×Unit))) (JP:((List xU)×Int×Bool×xU×Unit)→Option ((List xU)×Unit)) (zL:za→(zJ×Unit)→Option (za×(Unit))) (s:za) (a0:zJ):sP Tryz.prog ⟨[],[(112,⟨ze,yw,yx,Zr⟩),(52,⟨ze,qh,qi,zL⟩)]⟩ [(113,⟨vA,vB,JP⟩)] WY (zM []) 30 81 ze jH jI s (a0,())=gZ Zr JP zL s a0:=by kernel_rfl
def wA:za→(zJ×Unit)→Option (za×(Unit)):=sP Tryz.prog ⟨[],[(112,⟨ze,yw,yx,xl⟩),(52,⟨ze,qh,qi,ql⟩)]⟩ [(113,⟨vA,vB,vC⟩)] WY (zM []) 30 81 ze jH jI
theorem zar:yT.Ok Tryz.prog 81 ⟨ze,jH,jI,wA⟩:=xp ⟨qw,(zO zeV (zO ur je))⟩ (zf zhB zi) zm (by kernel_rfl)
theorem zas (s:za) (a0:zJ):wA s (a0,())=gZ xl vC ql s a0:=zb4 xl vC ql s a0
abbrev vT:List VT:=[⟨false,(.list I)⟩,⟨false,I⟩]
abbrev vU:List VT:=[⟨false,(.list I)⟩]
def zkb:qb:=zT [] [] [] [] []
def KG (a0:(List Int)) (a1:Int):Option ((List Int)×Unit):=
 opt (uz a0 none (some a1) (some a1)) fun x0=>
 opt (uz a0 (some (wrF .i64 (a1+1))) none none) fun x1=>
 bif xE x0.length x1.length 8 then some ((x0++x1),())
 else none
abbrev KH:Type:=((List Int)×Int×Unit)→Option ((List Int)×Unit)
def zcL:KH:=sF Tryz.prog [] zkb (zM []) 30 115 vT vU
theorem zlv (a0) (a1):zcL (a0,a1,())=KG a0 a1:=by kernel_rfl
def vW:KH:=zcL
theorem zh8:Con.Ok Tryz.prog 115 ⟨vT,vU,vW⟩:=zz zi zm (by kernel_rfl)
theorem zh9 (a0) (a1):vW (a0,a1,())=KG  a0 a1:=zlv  a0 a1
abbrev uu:List VT:=[⟨true,qK⟩,⟨false,(.list zA)⟩,⟨false,I⟩]
abbrev uv:List VT:=[⟨false,(.list zA)⟩,⟨false,I⟩]
def zri:qb:=zT [cdF qK,cdF zV,cdF qy,cdF qq,cdF jf] [] [⟨2,35,some 6,zA,true⟩,⟨5,35,some 6,zA,true⟩] [] [25,110]
def zcM (jE:Qh) (vF:VE) (a0:jJ) (a1:(List zv)) (a2:Int):Option ((List zv)×Int×Unit):=
 opt (jE (a0,(a1,()))) fun x0=>
 bif !(zj x0.1 0) then some ([],(x0.1,()))
 else opt (vF (a1,(a2,()))) fun x1=>
  bif !(zj x1.2.1 0) then some ([],(x1.2.1,()))
  else opt (uz a1 none (some x1.1) (some x1.1)) fun x2=>
   opt (uz a1 (some (wrF .i64 (x1.1+1))) none none) fun x3=>
   bif xE x2.length x3.length 96 then some ((x2++x3),(0,()))
   else none
abbrev zcN:Type:=(jJ×(List zv)×Int×Unit)→Option ((List zv)×Int×Unit)
def ziF:Qh→VE→zcN:=fun jE vF=>sF Tryz.prog [(25,⟨vY,vZ,jE⟩),(110,⟨ka,ke,vF⟩)] zri (zM []) 30 116 uu uv
theorem zs0 (jE) (vF) (a0) (a1) (a2):ziF jE vF (a0,a1,a2,())=zcM jE vF a0 a1 a2:=by kernel_rfl
def Zk:zcN:=ziF vr xO
theorem zoc:Con.Ok Tryz.prog 116 ⟨uu,uv,Zk⟩:=zz (zf zbr (zf zfV zi)) zm (by kernel_rfl)
theorem zod (a0) (a1) (a2):Zk (a0,a1,a2,())=zcM vr xO a0 a1 a2:=zs0 vr xO a0 a1 a2
abbrev yy:List VT:=[⟨true,qL⟩]
abbrev yz:List VT:=[]
def UN:qb:=zT [cdF ze,cdF qL,cdF qK,cdF zA,cdF zV,cdF jW,cdF qy,cdF qq,cdF zu] [] [] [] [114,108]
def WZ (wL:za→(Int×Unit)→Option (za×(Int×qE×Bool×Unit))) (jd:uM) (Zs:KH) (Xl:zcN) (wY:JF) (jC:za→(qE×Unit)→Option (za×(Unit))) (s:za) (a0:zJ):Option (za×(Unit)):=
 opt (wL s (a0.2.1,())) fun x0=>
 bif !x0.2.2.2.1 then some (x0.1,())
 else bif !(zj x0.2.2.1.2.1 a0.2.2.1) then some (x0.1,())
  else bif !(zj x0.2.2.1.2.2.1 1) then bif !(zj x0.2.2.1.2.2.1 4) then some (x0.1,())
    else opt (jd (x0.2.2.1.2.2.2.2,(a0.2.2.2.1,()))) fun x1=>
     opt (bif !(zt x1.1 0) then opt (Zs (x0.2.2.1.2.2.2.2,(x1.1,()))) fun x2=>
       some (0,(((x0.2.2.1.1,(x0.2.2.1.2.1,(x0.2.2.1.2.2.1,(x0.2.2.1.2.2.2.1,x2.1)))),()),()))
      else some (0,((x0.2.2.1,()),()))) fun x3=>
     opt (bif (zj ((x3.2.1.1.2.2.2.2.length:Nat):Int) 0) then opt (bif zj x3.2.1.1.2.2.1 1 then some (0,(((x3.2.1.1.1,(x3.2.1.1.2.1,(2,x3.2.1.1.2.2.2))),(x0.1,())),()))
        else opt (Xl (x0.1.1,(x0.1.2.1,(x3.2.1.1.1,())))) fun x4=>
         opt (bif zj x4.2.1 0 then some (0,(((x0.1.1,(x4.1,x0.1.2.2)),()),()))
          else some (0,((x0.1,()),()))) fun x5=>
         some (0,(((x3.2.1.1.1,(x3.2.1.1.2.1,(5,x3.2.1.1.2.2.2))),(x5.2.1.1,())),()))) fun x6=>
       some (0,((x6.2.1.1,(x6.2.1.2.1,())),()))
      else some (0,((x3.2.1.1,(x0.1,())),()))) fun x7=>
     opt (wY (x7.2.1.2.1.2.2.2.1,(x0.2.1,(true,(x7.2.1.1,()))))) fun x8=>
     opt (jC (x7.2.1.2.1.1,(x7.2.1.2.1.2.1,(x7.2.1.2.1.2.2.1,(x8.1,x7.2.1.2.1.2.2.2.2)))) (x7.2.1.1,())) fun x9=>
     some (x9.1,())
   else opt (jd (x0.2.2.1.2.2.2.2,(a0.2.2.2.1,()))) fun x10=>
    opt (bif !(zt x10.1 0) then opt (Zs (x0.2.2.1.2.2.2.2,(x10.1,()))) fun x11=>
      some (0,(((x0.2.2.1.1,(x0.2.2.1.2.1,(x0.2.2.1.2.2.1,(x0.2.2.1.2.2.2.1,x11.1)))),()),()))
     else some (0,((x0.2.2.1,()),()))) fun x12=>
    opt (bif (zj ((x12.2.1.1.2.2.2.2.length:Nat):Int) 0) then opt (bif zj x12.2.1.1.2.2.1 1 then some (0,(((x12.2.1.1.1,(x12.2.1.1.2.1,(2,x12.2.1.1.2.2.2))),(x0.1,())),()))
       else opt (Xl (x0.1.1,(x0.1.2.1,(x12.2.1.1.1,())))) fun x13=>
        opt (bif zj x13.2.1 0 then some (0,(((x0.1.1,(x13.1,x0.1.2.2)),()),()))
         else some (0,((x0.1,()),()))) fun x14=>
        some (0,(((x12.2.1.1.1,(x12.2.1.1.2.1,(5,x12.2.1.1.2.2.2))),(x14.2.1.1,())),()))) fun x15=>
      some (0,((x15.2.1.1,(x15.2.1.2.1,())),()))
     else some (0,((x12.2.1.1,(x0.1,())),()))) fun x16=>
    opt (wY (x16.2.1.2.1.2.2.2.1,(x0.2.1,(true,(x16.2.1.1,()))))) fun x17=>
    opt (jC (x16.2.1.2.1.1,(x16.2.1.2.1.2.1,(x16.2.1.2.1.2.2.1,(x17.1,x16.2.1.2.1.2.2.2.2)))) (x16.2.1.1,())) fun x18=>
    some (x18.1,())
theorem zhD (wL:za→(Int×Unit)→Option (za×(Int×qE×Bool×Unit))) (jd:((List Int)×Int×Unit)→Option (Int×Unit)) (Zs:((List Int)×Int×Unit)→Option ((List Int)×Unit)) (Xl:(jJ×(List zv)×Int×Unit)→Option ((List zv)×Int×Unit)) (wY:((List qE)×Int×Bool×qE×Unit)→Option ((List qE)×Unit)) (jC:za→(qE×Unit)→Option (za×(Unit))) (s:za) (a0:zJ):sP Tryz.prog ⟨[],[(107,⟨ze,jx,jy,wL⟩),(108,⟨ze,jz,jA,jC⟩)]⟩ [(114,⟨wH,wI,jd⟩),(115,⟨vT,vU,Zs⟩),(116,⟨uu,uv,Xl⟩),(111,⟨wU,wW,wY⟩)] UN (zM []) 30 82 ze yy yz s (a0,())=WZ wL jd Zs Xl wY jC s a0:=by kernel_rfl
def vD:za→(zJ×Unit)→Option (za×(Unit)):=sP Tryz.prog ⟨[],[(107,⟨ze,jx,jy,jR⟩),(108,⟨ze,jz,jA,jB⟩)]⟩ [(114,⟨wH,wI,qT⟩),(115,⟨vT,vU,vW⟩),(116,⟨uu,uv,Zk⟩),(111,⟨wU,wW,wj⟩)] UN (zM []) 30 82 ze yy yz
theorem zeX:yT.Ok Tryz.prog 82 ⟨ze,yy,yz,vD⟩:=xp ⟨qw,(zO Kc (zO Kd je))⟩ (zf Ke (zf zh8 (zf zoc (zf Gw zi)))) zm (by kernel_rfl)
theorem zeY (s:za) (a0:zJ):vD s (a0,())=WZ jR qT vW Zk wj jB s a0:=zhD jR qT vW Zk wj jB s a0
abbrev wQ:List VT:=[⟨true,qL⟩]
abbrev wR:List VT:=[]
def Ki:qb:=zT [cdF ze,cdF qL,cdF wq,cdF zA,cdF zu] [] [] [] []
def Wa (qm:za→(Int×Unit)→Option (za×(Int×qD×Bool×Unit))) (qZ:gC) (s:za) (a0:zJ):Option (za×(Unit)):=
 opt (qm s (a0.2.1,())) fun x0=>
 bif !x0.2.2.2.1 then some (x0.1,())
 else bif !(zj x0.2.2.1.2.1 a0.2.2.1) then some (x0.1,())
  else opt (bif zj x0.2.2.1.2.2.1 1 then bif zj a0.1 5 then some (0,(((x0.2.2.1.1,(x0.2.2.1.2.1,(2,x0.2.2.1.2.2.2))),()),()))
     else opt (bif zj x0.2.2.1.2.2.1 1 then bif zj a0.1 6 then some (0,(((x0.2.2.1.1,(x0.2.2.1.2.1,(3,(x0.2.2.1.2.2.2.1,a0.2.2.2.2.2.2)))),()),()))
        else opt (bif zj x0.2.2.1.2.2.1 4 then bif zj a0.1 7 then some (0,(((x0.2.2.1.1,(x0.2.2.1.2.1,(5,x0.2.2.1.2.2.2))),()),()))
           else some (1,((x0.2.2.1,()),()))
          else some (1,((x0.2.2.1,()),()))) fun x1=>
         bif Nat.beq x1.1 0 then some (0,((x1.2.1.1,()),()))
         else some (1,((x1.2.1.1,()),()))
       else opt (bif zj x0.2.2.1.2.2.1 4 then bif zj a0.1 7 then some (0,(((x0.2.2.1.1,(x0.2.2.1.2.1,(5,x0.2.2.1.2.2.2))),()),()))
          else some (1,((x0.2.2.1,()),()))
         else some (1,((x0.2.2.1,()),()))) fun x2=>
        bif Nat.beq x2.1 0 then some (0,((x2.2.1.1,()),()))
        else some (1,((x2.2.1.1,()),()))) fun x3=>
      bif Nat.beq x3.1 0 then some (0,((x3.2.1.1,()),()))
      else some (1,((x3.2.1.1,()),()))
    else opt (bif zj x0.2.2.1.2.2.1 1 then bif zj a0.1 6 then some (0,(((x0.2.2.1.1,(x0.2.2.1.2.1,(3,(x0.2.2.1.2.2.2.1,a0.2.2.2.2.2.2)))),()),()))
       else opt (bif zj x0.2.2.1.2.2.1 4 then bif zj a0.1 7 then some (0,(((x0.2.2.1.1,(x0.2.2.1.2.1,(5,x0.2.2.1.2.2.2))),()),()))
          else some (1,((x0.2.2.1,()),()))
         else some (1,((x0.2.2.1,()),()))) fun x4=>
        bif Nat.beq x4.1 0 then some (0,((x4.2.1.1,()),()))
        else some (1,((x4.2.1.1,()),()))
      else opt (bif zj x0.2.2.1.2.2.1 4 then bif zj a0.1 7 then some (0,(((x0.2.2.1.1,(x0.2.2.1.2.1,(5,x0.2.2.1.2.2.2))),()),()))
         else some (1,((x0.2.2.1,()),()))
        else some (1,((x0.2.2.1,()),()))) fun x5=>
       bif Nat.beq x5.1 0 then some (0,((x5.2.1.1,()),()))
       else some (1,((x5.2.1.1,()),()))) fun x6=>
     bif Nat.beq x6.1 0 then some (0,((x6.2.1.1,()),()))
     else some (1,((x6.2.1.1,()),()))) fun x7=>
   bif Nat.beq x7.1 0 then opt (qZ (x0.1.2.2.1,(x0.2.1,(true,(x7.2.1.1,()))))) fun x8=>
    some ((x0.1.1,(x0.1.2.1,(x8.1,x0.1.2.2.2))),())
   else some (x0.1,())
theorem zfw (qm:za→(Int×Unit)→Option (za×(Int×qD×Bool×Unit))) (qZ:((List qD)×Int×Bool×qD×Unit)→Option ((List qD)×Unit)) (s:za) (a0:zJ):sP Tryz.prog ⟨[],[(24,⟨ze,qA,qB,qm⟩)]⟩ [(75,⟨jj,jk,qZ⟩)] Ki (zM []) 30 83 ze wQ wR s (a0,())=Wa qm qZ s a0:=by kernel_rfl
def yN:za→(zJ×Unit)→Option (za×(Unit)):=sP Tryz.prog ⟨[],[(24,⟨ze,qA,qB,qJ⟩)]⟩ [(75,⟨jj,jk,qM⟩)] Ki (zM []) 30 83 ze wQ wR
theorem zde:yT.Ok Tryz.prog 83 ⟨ze,wQ,wR,yN⟩:=xp ⟨qw,(zO gU je)⟩ (zf WO zi) zm (by kernel_rfl)
theorem zdf (s:za) (a0:zJ):yN s (a0,())=Wa qJ qM s a0:=zfw qJ qM s a0
abbrev yA:List VT:=[⟨true,qL⟩]
abbrev yB:List VT:=[]
def UO:qb:=zT [cdF ze,cdF qL,cdF zA,cdF zu] [] [] [] [80,81,82,83]
def Ya (Qp:za→(zJ×Unit)→Option (za×(Unit))) (xD:za→(zJ×Unit)→Option (za×(Unit))) (Zt:za→(zJ×Unit)→Option (za×(Unit))) (xT:za→(zJ×Unit)→Option (za×(Unit))) (s:za) (a0:zJ):Option (za×(Unit)):=
 bif zj 1 a0.1 then opt (opt (Qp s (a0,())) fun x0=>
   some (0,((x0.1,(a0,())),()))) fun x1=>
  some (x1.2.1.1,())
 else bif zj 2 a0.1 then opt (opt (xD s (a0,())) fun x2=>
    some (0,((x2.1,(a0,())),()))) fun x3=>
   some (x3.2.1.1,())
  else bif zj 3 a0.1 then opt (opt (xD s (a0,())) fun x4=>
     some (0,((x4.1,(a0,())),()))) fun x5=>
    some (x5.2.1.1,())
   else bif zj 4 a0.1 then opt (opt (Zt s (a0,())) fun x6=>
      some (0,((x6.1,(a0,())),()))) fun x7=>
     some (x7.2.1.1,())
    else bif zj 5 a0.1 then opt (opt (xT s (a0,())) fun x8=>
       some (0,((x8.1,(a0,())),()))) fun x9=>
      some (x9.2.1.1,())
     else bif zj 6 a0.1 then opt (opt (xT s (a0,())) fun x10=>
        some (0,((x10.1,(a0,())),()))) fun x11=>
       some (x11.2.1.1,())
      else bif zj 7 a0.1 then opt (opt (xT s (a0,())) fun x12=>
         some (0,((x12.1,(a0,())),()))) fun x13=>
        some (x13.2.1.1,())
       else some (s,())
theorem zhE (Qp:za→(zJ×Unit)→Option (za×(Unit))) (xD:za→(zJ×Unit)→Option (za×(Unit))) (Zt:za→(zJ×Unit)→Option (za×(Unit))) (xT:za→(zJ×Unit)→Option (za×(Unit))) (s:za) (a0:zJ):sP Tryz.prog ⟨[],[(80,⟨ze,yQ,yR,Qp⟩),(81,⟨ze,jH,jI,xD⟩),(82,⟨ze,yy,yz,Zt⟩),(83,⟨ze,wQ,wR,xT⟩)]⟩ [] UO (zM []) 30 54 ze yA yB s (a0,())=Ya Qp xD Zt xT s a0:=by kernel_rfl
def vE:za→(zJ×Unit)→Option (za×(Unit)):=sP Tryz.prog ⟨[],[(80,⟨ze,yQ,yR,vP⟩),(81,⟨ze,jH,jI,wA⟩),(82,⟨ze,yy,yz,vD⟩),(83,⟨ze,wQ,wR,yN⟩)]⟩ [] UO (zM []) 30 54 ze yA yB
theorem zeZ:yT.Ok Tryz.prog 54 ⟨ze,yA,yB,vE⟩:=xp ⟨qw,(zO zfu (zO zar (zO zeX (zO zde je))))⟩ zi zm (by kernel_rfl)
theorem ze0 (s:za) (a0:zJ):vE s (a0,())=Ya vP wA vD yN s a0:=zhE vP wA vD yN s a0
abbrev qW:List VT:=[⟨false,I⟩,⟨false,I⟩]
abbrev qX:List VT:=[⟨false,I⟩]
def VI:qb:=zT [cdF ze,cdF qL,cdF zA,cdF zu] [] [] [] [52,54]
def Jn (zL:za→(zJ×Unit)→Option (za×(Unit))) (kA:Jg) (Zu:za→(zJ×Unit)→Option (za×(Unit))) (s:za) (a0:Int) (a1:Int):Option (za×(Int×Unit)):=
 opt (bif zt a1 0 then some (1,((2,()),()))
  else bif (!(zt a1 ((s.2.2.2.2.2.length:Nat):Int))) then some (1,((2,()),()))
   else some (0,((0,()),()))) fun x0=>
 bif Nat.beq x0.1 0 then opt (atI s.2.2.2.2.2 a1) fun x1=>
  bif zj a0 5 then opt (zL s (x1,())) fun x2=>
   some (x2.1,(0,()))
  else opt (kA (s.2.2.2.2.2,(a1,()))) fun x3=>
   opt (bif zj a0 3 then opt (Zu (s.1,(s.2.1,(s.2.2.1,(s.2.2.2.1,(s.2.2.2.2.1,x3.1))))) (x1,())) fun x4=>
     some (0,((x4.1,()),()))
    else some (0,(((s.1,(s.2.1,(s.2.2.1,(s.2.2.2.1,(s.2.2.2.2.1,x3.1))))),()),()))) fun x5=>
   some (x5.2.1.1,(0,()))
 else some (s,(x0.2.1.1,()))
theorem ze1 (zL:za→(zJ×Unit)→Option (za×(Unit))) (kA:((List zJ)×Int×Unit)→Option ((List zJ)×Unit)) (Zu:za→(zJ×Unit)→Option (za×(Unit))) (s:za) (a0:Int) (a1:Int):sP Tryz.prog ⟨[],[(52,⟨ze,qh,qi,zL⟩),(54,⟨ze,yA,yB,Zu⟩)]⟩ [(53,⟨yr,yu,kA⟩)] VI (zM []) 30 32 ze qW qX s (a0,a1,())=Jn zL kA Zu s a0 a1:=by kernel_rfl
def jh:za→(Int×Int×Unit)→Option (za×(Int×Unit)):=sP Tryz.prog ⟨[],[(52,⟨ze,qh,qi,ql⟩),(54,⟨ze,yA,yB,vE⟩)]⟩ [(53,⟨yr,yu,yv⟩)] VI (zM []) 30 32 ze qW qX
theorem Xj:yT.Ok Tryz.prog 32 ⟨ze,qW,qX,jh⟩:=xp ⟨qw,(zO ur (zO zeZ je))⟩ (zf zcv zi) zm (by kernel_rfl)
theorem zcO (s:za) (a0:Int) (a1:Int):jh s (a0,a1,())=Jn ql yv vE s a0 a1:=ze1 ql yv vE s a0 a1
abbrev jS:List VT:=[]
abbrev jT:List VT:=[]
def zaf:qb:=zT [cdF ze,cdF wq,cdF zA,cdF jW,cdF zu] [] [] [] [33,34]
def Xw (qI:za→(qD×Unit)→Option (za×(Unit))) (jX:za→(qE×Unit)→Option (za×(Unit))) (s:za):Option (za×(Unit)):=
 opt (qd (fun s0:(((((Int×((List Bool)×(List (Int×(Int×(Int×Int))))))×((Int×(Int×(Int×Int)))×((List ((List (Int×Int))×Int))×Int)))×((List (Int×(Int×(Int×(Int×(Int×(Int×((Int×Int)×(Int×(List (List Int)))))))))))×((List (Int×(Int×(Int×((Int×(Int×(Int×(Int×(Int×(Int×((Int×Int)×(Int×(List (List Int))))))))))×Int)))))×((List (Int×(Int×(Int×(Int×(List Int))))))×((List (Int×(Int×(Int×Bool))))×(List (Int×(Int×(Int×(Int×(Bool×((Int×(Int×(Int×(Int×(Int×(Int×((Int×Int)×(Int×(List (List Int))))))))))×Int))))))))))))×(Int×Unit))×Unit)=>
  bif (zt s0.1.2.1 ((s.2.2.1.length:Nat):Int)) then opt (atI s.2.2.1 s0.1.2.1) fun x1=>
   opt (qI s0.1.1 (x1,())) fun x2=>
   some (.inr ((x2.1,((wrF .i64 (s0.1.2.1+1)),())),()))
  else some (.inl (0,((s0.1.1,(s0.1.2.1,())),())))) qC ((s,(0,())),())) fun x3=>
 opt (qd (fun s4:(((((Int×((List Bool)×(List (Int×(Int×(Int×Int))))))×((Int×(Int×(Int×Int)))×((List ((List (Int×Int))×Int))×Int)))×((List (Int×(Int×(Int×(Int×(Int×(Int×((Int×Int)×(Int×(List (List Int)))))))))))×((List (Int×(Int×(Int×((Int×(Int×(Int×(Int×(Int×(Int×((Int×Int)×(Int×(List (List Int))))))))))×Int)))))×((List (Int×(Int×(Int×(Int×(List Int))))))×((List (Int×(Int×(Int×Bool))))×(List (Int×(Int×(Int×(Int×(Bool×((Int×(Int×(Int×(Int×(Int×(Int×((Int×Int)×(Int×(List (List Int))))))))))×Int))))))))))))×(Int×Unit))×Unit)=>
  bif (zt s4.1.2.1 ((x3.2.1.1.2.2.2.1.length:Nat):Int)) then opt (atI x3.2.1.1.2.2.2.1 s4.1.2.1) fun x5=>
   opt (jX s4.1.1 (x5,())) fun x6=>
   some (.inr ((x6.1,((wrF .i64 (s4.1.2.1+1)),())),()))
  else some (.inl (0,((s4.1.1,(s4.1.2.1,())),())))) qC ((x3.2.1.1,(0,())),())) fun x7=>
 some (x7.2.1.1,())
theorem zjk (qI:za→(qD×Unit)→Option (za×(Unit))) (jX:za→(qE×Unit)→Option (za×(Unit))) (s:za):sP Tryz.prog ⟨[],[(33,⟨ze,qG,qH,qI⟩),(34,⟨ze,jb,jc,jX⟩)]⟩ [] zaf (zM []) 30 23 ze jS jT s ()=Xw qI jX s:=by kernel_rfl
def wG:za→(Unit)→Option (za×(Unit)):=sP Tryz.prog ⟨[],[(33,⟨ze,qG,qH,qP⟩),(34,⟨ze,jb,jc,jD⟩)]⟩ [] zaf (zM []) 30 23 ze jS jT
theorem UP:yT.Ok Tryz.prog 23 ⟨ze,jS,jT,wG⟩:=xp ⟨qw,(zO Qy (zO XD je))⟩ zi zm (by kernel_rfl)
theorem zgv (s:za):wG s ()=Xw qP jD s:=zjk qP jD s
abbrev xA:List VT:=[⟨true,Wf⟩]
abbrev xB:List VT:=[⟨false,I⟩]
def zaJ:qb:=zT [cdF ze,cdF Wf,cdF zA,cdF zu] [] [] [] [43,44,32,23]
def JG (JQ:za→(zv×Unit)→Option (za×(Int×Unit))) (Zv:za→(Int×Unit)→Option (za×(Int×Unit))) (qY:za→(Int×Int×Unit)→Option (za×(Int×Unit))) (jU:za→(Unit)→Option (za×(Unit))) (s:za) (a0:yn):Option (za×(Int×Unit)):=
 bif zj a0.1 1 then opt (JQ s (a0.2.2.2,())) fun x0=>
  some (x0.1,(x0.2.1,()))
 else bif zj a0.1 2 then opt (Zv s (a0.2.1,())) fun x1=>
   some (x1.1,(x1.2.1,()))
  else bif zj a0.1 3 then bif zj a0.1 3 then opt (qY s (a0.1,(a0.2.2.1,()))) fun x2=>
     some (x2.1,(x2.2.1,()))
    else bif zj a0.1 6 then opt (jU s ()) fun x3=>
      some (x3.1,(0,()))
     else some (s,(2,()))
   else bif zj a0.1 4 then bif zj a0.1 4 then opt (qY s (a0.1,(a0.2.2.1,()))) fun x4=>
      some (x4.1,(x4.2.1,()))
     else bif zj a0.1 6 then opt (jU s ()) fun x5=>
       some (x5.1,(0,()))
      else some (s,(2,()))
    else bif zj a0.1 5 then opt (qY s (a0.1,(a0.2.2.1,()))) fun x6=>
      some (x6.1,(x6.2.1,()))
     else bif zj a0.1 6 then opt (jU s ()) fun x7=>
       some (x7.1,(0,()))
      else some (s,(2,()))
theorem zkc (JQ:za→(zv×Unit)→Option (za×(Int×Unit))) (Zv:za→(Int×Unit)→Option (za×(Int×Unit))) (qY:za→(Int×Int×Unit)→Option (za×(Int×Unit))) (jU:za→(Unit)→Option (za×(Unit))) (s:za) (a0:yn):sP Tryz.prog ⟨[],[(43,⟨ze,xu,xw,JQ⟩),(44,⟨ze,yp,yq,Zv⟩),(32,⟨ze,qW,qX,qY⟩),(23,⟨ze,jS,jT,jU⟩)]⟩ [] zaJ (fun _ _=>false) 30 27 ze xA xB s (a0,())=JG JQ Zv qY jU s a0:=by kernel_rfl
def uC:za→(yn×Unit)→Option (za×(Int×Unit)):=sP Tryz.prog ⟨[],[(43,⟨ze,xu,xw,uB⟩),(44,⟨ze,yp,yq,vz⟩),(32,⟨ze,qW,qX,jh⟩),(23,⟨ze,jS,jT,wG⟩)]⟩ [] zaJ (fun _ _=>false) 30 27 ze xA xB
theorem zhF:yT.Ok Tryz.prog 27 ⟨ze,xA,xB,uC⟩:=xp ⟨qw,(zO zha (zO zeJ (zO Xj (zO UP je))))⟩ zi zm (by kernel_rfl)
theorem Gy (s:za) (a0:yn):uC s (a0,())=JG uB vz jh wG s a0:=zkc uB vz jh wG s a0
abbrev kO:List VT:=[⟨true,qV⟩,⟨true,Wf⟩]
abbrev kP:List VT:=[⟨true,qV⟩,⟨false,I⟩]
def zoe:qb:=zT [cdF qV,cdF qL,cdF qK,cdF wq,cdF Wf,cdF zA,cdF zV,cdF jW,cdF xa,cdF qy,cdF qq,cdF jf] [] [] [] [27]
def zeq (JR:za→(yn×Unit)→Option (za×(Int×Unit))) (a0:zK) (a1:yn):Option (zK×Int×Unit):=
 opt (JR a0 (a1,())) fun x0=>
 bif !(zj x0.2.1 0) then some ((((0,([],[])),((0,(0,(0,0))),([],0))),([],([],([],([],[]))))),(x0.2.1,()))
 else some (x0.1,(0,()))
theorem zzE (JR:za→(yn×Unit)→Option (za×(Int×Unit))) (a0:zK) (a1:yn):sFl Tryz.prog ⟨[],[(27,⟨ze,xA,xB,JR⟩)]⟩ [] zoe (zM []) 30 12 kO kP (a0,a1,())=zeq JR a0 a1:=by kernel_rfl
def kQ:(zK×yn×Unit)→Option (zK×Int×Unit):=sFl Tryz.prog ⟨[],[(27,⟨ze,xA,xB,uC⟩)]⟩ [] zoe (zM []) 30 12 kO kP
theorem zkd:Con.Ok Tryz.prog 12 ⟨kO,kP,kQ⟩:=zg0 ⟨qw,(zO zhF je)⟩ zi zm (by kernel_rfl)
theorem zke (a0:zK) (a1:yn):kQ (a0,a1,())=zeq uC a0 a1:=zzE uC a0 a1
abbrev zhG:List VT:=[⟨true,qV⟩,⟨false,(.list Wf)⟩]
abbrev zhH:List VT:=[⟨true,qV⟩,⟨false,(.list I)⟩]
abbrev gP:List VT:=[⟨true,qV⟩,⟨false,I⟩]
abbrev gQ:List VT:=[⟨false,I⟩,⟨false,I⟩]
def ziG:qb:=zT [cdF qV,cdF qL,cdF qK,cdF wq,cdF zA,cdF zV,cdF jW,cdF xa,cdF qy,cdF qq,cdF jf] [] [] [] []
def zd1 (qm:za→(Int×Unit)→Option (za×(Int×qD×Bool×Unit))) (a0:zK) (a1:Int):Option (Int×Int×Unit):=
 opt (qm a0 (a1,())) fun x0=>
 bif !x0.2.2.2.1 then some (0,(4,()))
 else some (x0.2.2.1.2.2.1,(0,()))
theorem zuC (qm:za→(Int×Unit)→Option (za×(Int×qD×Bool×Unit))) (a0:zK) (a1:Int):sFl Tryz.prog ⟨[],[(24,⟨ze,qA,qB,qm⟩)]⟩ [] ziG (zM []) 30 10 gP gQ (a0,a1,())=zd1 qm a0 a1:=by kernel_rfl
def QN:(zK×Int×Unit)→Option (Int×Int×Unit):=sFl Tryz.prog ⟨[],[(24,⟨ze,qA,qB,qJ⟩)]⟩ [] ziG (zM []) 30 10 gP gQ
theorem zpH:Con.Ok Tryz.prog 10 ⟨gP,gQ,QN⟩:=zg0 ⟨qw,(zO gU je)⟩ zi zm (by kernel_rfl)
theorem zpI (a0:zK) (a1:Int):QN (a0,a1,())=zd1 qJ a0 a1:=zuC qJ a0 a1
abbrev zlw:List VT:=[⟨true,qV⟩,⟨false,I⟩]
abbrev zlx:List VT:=[⟨false,.bool⟩]
abbrev zfx:List VT:=[⟨true,qV⟩]
abbrev zfy:List VT:=[⟨false,.bool⟩]
abbrev wk:List VT:=[]
abbrev wm:List VT:=[]
def XE:qb:=zT [cdF ze] [] [] [] [32]
def QO (qY:za→(Int×Int×Unit)→Option (za×(Int×Unit))) (s:za):Option (za×(Unit)):=
 opt (qd (fun s0:(((((Int×((List Bool)×(List (Int×(Int×(Int×Int))))))×((Int×(Int×(Int×Int)))×((List ((List (Int×Int))×Int))×Int)))×((List (Int×(Int×(Int×(Int×(Int×(Int×((Int×Int)×(Int×(List (List Int)))))))))))×((List (Int×(Int×(Int×((Int×(Int×(Int×(Int×(Int×(Int×((Int×Int)×(Int×(List (List Int))))))))))×Int)))))×((List (Int×(Int×(Int×(Int×(List Int))))))×((List (Int×(Int×(Int×Bool))))×(List (Int×(Int×(Int×(Int×(Bool×((Int×(Int×(Int×(Int×(Int×(Int×((Int×Int)×(Int×(List (List Int))))))))))×Int))))))))))))×Unit)×Unit)=>
  opt (qY s0.1.1 (3,(0,()))) fun x1=>
  bif !(zj x1.2.1 0) then some (.inl (0,((x1.1,()),())))
  else some (.inr ((x1.1,()),()))) qC ((s,()),())) fun x2=>
 some (x2.2.1.1,())
theorem zd2 (qY:za→(Int×Int×Unit)→Option (za×(Int×Unit))) (s:za):sP Tryz.prog ⟨[],[(32,⟨ze,qW,qX,qY⟩)]⟩ [] XE (zM []) 30 22 ze wk wm s ()=QO qY s:=by kernel_rfl
def xh:za→(Unit)→Option (za×(Unit)):=sP Tryz.prog ⟨[],[(32,⟨ze,qW,qX,jh⟩)]⟩ [] XE (zM []) 30 22 ze wk wm
theorem zb5:yT.Ok Tryz.prog 22 ⟨ze,wk,wm,xh⟩:=xp ⟨qw,(zO Xj je)⟩ zi zm (by kernel_rfl)
theorem zb6 (s:za):xh s ()=QO jh s:=zd2 jh s
abbrev ku:List VT:=[⟨true,qV⟩]
abbrev kx:List VT:=[⟨true,qV⟩]
def zhI:qb:=zT [cdF qV,cdF qL,cdF qK,cdF wq,cdF zA,cdF zV,cdF jW,cdF xa,cdF qy,cdF qq,cdF jf] [] [] [] [22,23]
def UQ (vG:za→(Unit)→Option (za×(Unit))) (jU:za→(Unit)→Option (za×(Unit))) (a0:zK):Option (zK×Unit):=
 opt (vG a0 ()) fun x0=>
 opt (jU x0.1 ()) fun x1=>
 opt (vG x1.1 ()) fun x2=>
 some (x2.1,())
theorem zs1 (vG:za→(Unit)→Option (za×(Unit))) (jU:za→(Unit)→Option (za×(Unit))) (a0:zK):sFl Tryz.prog ⟨[],[(22,⟨ze,wk,wm,vG⟩),(23,⟨ze,jS,jT,jU⟩)]⟩ [] zhI (zM []) 30 8 ku kx (a0,())=UQ vG jU a0:=by kernel_rfl
def ky:(zK×Unit)→Option (zK×Unit):=sFl Tryz.prog ⟨[],[(22,⟨ze,wk,wm,xh⟩),(23,⟨ze,jS,jT,wG⟩)]⟩ [] zhI (zM []) 30 8 ku kx
theorem zof:Con.Ok Tryz.prog 8 ⟨ku,kx,ky⟩:=zg0 ⟨qw,(zO zb5 (zO UP je))⟩ zi zm (by kernel_rfl)
theorem ze2 (a0:zK):ky (a0,())=UQ xh wG a0:=zs1 xh wG a0
abbrev KW:List VT:=[]
abbrev KY:List VT:=[⟨false,.bool⟩]
abbrev Qs:List VT:=[⟨true,yk⟩]
abbrev Qt:List VT:=[⟨true,zA⟩]
def zly:qb:=zT [cdF zA,cdF yk,cdF zu] [] [] [] []
def Uw (a0:qt):Option (zv×Unit):=
 opt (bif a0.2.2.2.1 then some (0,((((wrF .i64 (1+(wrF .i64 (Int.tmod a0.2.1 6)))),(3,(0,(6,(100,(0,(((wrF .i64 (100+(wrF .i64 (Int.tmod a0.2.2.2.2.1 2000)))),(wrF .i64 (1+(wrF .i64 a0.2.2.2.2.2.1)))),((wrF .i64 (1+(wrF .i64 a0.2.2.2.2.2.2))),((5::(3::(1::[])))::[]))))))))),()),()))
  else some (0,((((wrF .i64 (1+(wrF .i64 (Int.tmod a0.2.1 6)))),(0,(3,(6,(100,(0,(((wrF .i64 (100+(wrF .i64 (Int.tmod a0.2.2.2.2.1 2000)))),(wrF .i64 (1+(wrF .i64 a0.2.2.2.2.2.1)))),((wrF .i64 (1+(wrF .i64 a0.2.2.2.2.2.2))),((0::(2::(4::[])))::[]))))))))),()),()))) fun x0=>
 some (x0.2.1.1,())
abbrev Qu:Type:=(qt×Unit)→Option (zv×Unit)
def zdp:Qu:=sF Tryz.prog [] zly (zM []) 30 9 Qs Qt
theorem zmB (a0):zdp (a0,())=Uw a0:=by kernel_rfl
def yJ:Qu:=zdp
theorem zaK:Con.Ok Tryz.prog 9 ⟨Qs,Qt,yJ⟩:=zz zi zm (by kernel_rfl)
theorem zjl (a0):yJ (a0,())=Uw  a0:=zmB  a0
abbrev KI:List VT:=[⟨true,yk⟩,⟨true,qV⟩]
abbrev KJ:List VT:=[⟨true,Wf⟩]
def zpJ:qb:=zT [cdF qV,cdF qL,cdF qK,cdF wq,cdF Wf,cdF zA,cdF yk,cdF zV,cdF jW,cdF xa,cdF qy,cdF qq,cdF jf] [] [] [] []
def zbs (yc:Qu) (a0:qt) (a1:zK):Option (yn×Unit):=
 opt (bif (zt 0 ((a1.2.2.2.2.2.length:Nat):Int)) then bif zt a0.2.2.1 250 then bif (zj ((a1.2.2.2.2.2.length:Nat):Int) 0) then none
    else some (0,((((wrF .i64 (Int.tmod a0.1 8)),((wrF .i64 (1+(wrF .i64 (Int.tmod a0.2.1 6)))),((Int.tmod (wrF .i64 a0.2.2.1) ((a1.2.2.2.2.2.length:Nat):Int)),(0,(0,(0,(0,(0,(0,((0,0),(0,[]))))))))))),()),()))
   else some (0,((((wrF .i64 (Int.tmod a0.1 8)),((wrF .i64 (1+(wrF .i64 (Int.tmod a0.2.1 6)))),((wrF .i64 a0.2.2.1),(0,(0,(0,(0,(0,(0,((0,0),(0,[]))))))))))),()),()))
  else some (0,((((wrF .i64 (Int.tmod a0.1 8)),((wrF .i64 (1+(wrF .i64 (Int.tmod a0.2.1 6)))),((wrF .i64 a0.2.2.1),(0,(0,(0,(0,(0,(0,((0,0),(0,[]))))))))))),()),()))) fun x0=>
 opt (bif zj x0.2.1.1.1 1 then opt (yc (a0,())) fun x1=>
   some (0,((a0,((x0.2.1.1.1,(x0.2.1.1.2.1,(x0.2.1.1.2.2.1,x1.1))),())),()))
  else some (0,((a0,(x0.2.1.1,())),()))) fun x2=>
 some (x2.2.1.2.1,())
abbrev zbt:Type:=(qt×zK×Unit)→Option (yn×Unit)
def zhJ:Qu→zbt:=fun yc=>sF Tryz.prog [(9,⟨Qs,Qt,yc⟩)] zpJ (zM []) 30 21 KI KJ
theorem zrj (yc) (a0) (a1):zhJ yc (a0,a1,())=zbs yc a0 a1:=by kernel_rfl
def QP:zbt:=zhJ yJ
theorem zmC:Con.Ok Tryz.prog 21 ⟨KI,KJ,QP⟩:=zz (zf zaK zi) zm (by kernel_rfl)
theorem zmD (a0) (a1):QP (a0,a1,())=zbs yJ a0 a1:=zrj yJ a0 a1
abbrev zfz:List VT:=[⟨true,qV⟩,⟨false,I⟩]
abbrev zfA:List VT:=[⟨true,zA⟩,⟨false,.bool⟩]
def zuD:qb:=zT [cdF qV,cdF qL,cdF qK,cdF wq,cdF zA,cdF zV,cdF jW,cdF xa,cdF qy,cdF qq,cdF jf] [] [] [] []
def zfB (a0:zK) (a1:Int):Option (zv×Bool×Unit):=
 opt (qd (fun s0:((Int×(Int×(Int×Unit)))×Unit)=>
  bif (zt s0.1.2.2.1 ((a0.2.1.length:Nat):Int)) then opt (atI a0.2.1 s0.1.2.2.1) fun x1=>
   bif zj x1.1 s0.1.1 then some (.inl (1,((s0.1.1,(s0.1.2.2.1,(s0.1.2.2.1,()))),())))
   else some (.inr ((s0.1.1,(s0.1.2.1,((wrF .i64 (s0.1.2.2.1+1)),()))),()))
  else some (.inl (0,((s0.1.1,(s0.1.2.1,(s0.1.2.2.1,()))),())))) qC ((a1,(0,(0,()))),())) fun x2=>
 bif Nat.beq x2.1 0 then some ((0,(0,(0,(0,(0,(0,((0,0),(0,[])))))))),(false,()))
 else bif zt x2.2.1.2.1 0 then some ((0,(0,(0,(0,(0,(0,((0,0),(0,[])))))))),(false,()))
  else opt (atI a0.2.1 x2.2.1.2.1) fun x3=>
   some (x3,(true,()))
abbrev zaZ:Type:=(zK×Int×Unit)→Option (zv×Bool×Unit)
def zl9:zaZ:=sF Tryz.prog [] zuD (zM []) 30 30 zfz zfA
theorem zwt (a0) (a1):zl9 (a0,a1,())=zfB a0 a1:=by kernel_rfl
def YQ:zaZ:=zl9
theorem zrk:Con.Ok Tryz.prog 30 ⟨zfz,zfA,YQ⟩:=zz zi zm (by kernel_rfl)
theorem zrl (a0) (a1):YQ (a0,a1,())=zfB  a0 a1:=zwt  a0 a1
abbrev zat:List VT:=[⟨true,qV⟩,⟨true,zA⟩]
abbrev zau:List VT:=[⟨false,.bool⟩]
def zog:qb:=zT [cdF qV,cdF qL,cdF qK,cdF wq,cdF zA,cdF zV,cdF jW,cdF xa,cdF qy,cdF qq,cdF jf] [] [] [] []
def zav (wC:JY) (a0:zK) (a1:zv):Option (Bool×Unit):=
 opt (qd (fun s0:(((((Int×((List Bool)×(List (Int×(Int×(Int×Int))))))×((Int×(Int×(Int×Int)))×((List ((List (Int×Int))×Int))×Int)))×((List (Int×(Int×(Int×(Int×(Int×(Int×((Int×Int)×(Int×(List (List Int)))))))))))×((List (Int×(Int×(Int×((Int×(Int×(Int×(Int×(Int×(Int×((Int×Int)×(Int×(List (List Int))))))))))×Int)))))×((List (Int×(Int×(Int×(Int×(List Int))))))×((List (Int×(Int×(Int×Bool))))×(List (Int×(Int×(Int×(Int×(Bool×((Int×(Int×(Int×(Int×(Int×(Int×((Int×Int)×(Int×(List (List Int))))))))))×Int))))))))))))×(Bool×(Int×Unit)))×Unit)=>
  bif (zt s0.1.2.2.1 ((a1.2.2.2.2.2.2.2.2.length:Nat):Int)) then opt (atI a1.2.2.2.2.2.2.2.2 s0.1.2.2.1) fun x1=>
   opt (wC (s0.1.1.1.1,(x1,()))) fun x2=>
   opt (bif !(zj x2.2.1 0) then some (1,((false,()),()))
    else bif (zj ((x2.1.length:Nat):Int) 0) then some (1,((false,()),()))
     else some (0,((s0.1.2.1,()),()))) fun x3=>
   bif Nat.beq x3.1 0 then opt (qd (fun s4:(((((Int×((List Bool)×(List (Int×(Int×(Int×Int))))))×((Int×(Int×(Int×Int)))×((List ((List (Int×Int))×Int))×Int)))×((List (Int×(Int×(Int×(Int×(Int×(Int×((Int×Int)×(Int×(List (List Int)))))))))))×((List (Int×(Int×(Int×((Int×(Int×(Int×(Int×(Int×(Int×((Int×Int)×(Int×(List (List Int))))))))))×Int)))))×((List (Int×(Int×(Int×(Int×(List Int))))))×((List (Int×(Int×(Int×Bool))))×(List (Int×(Int×(Int×(Int×(Bool×((Int×(Int×(Int×(Int×(Int×(Int×((Int×Int)×(Int×(List (List Int))))))))))×Int))))))))))))×(Bool×(Int×Unit)))×Unit)=>
     bif (zt s4.1.2.2.1 ((x2.1.length:Nat):Int)) then opt (atI x2.1 s4.1.2.2.1) fun x5=>
      opt (qd (fun s6:((Int×(Int×(Int×Unit)))×Unit)=>
       bif (zt s6.1.2.2.1 ((s4.1.1.2.2.2.2.1.length:Nat):Int)) then opt (atI s4.1.1.2.2.2.2.1 s6.1.2.2.1) fun x7=>
        bif zj x7.1 s6.1.1 then bif zj x7.2.1 a1.1 then bif x7.2.2.2 then some (.inl (1,((s6.1.1,(s6.1.2.2.1,(s6.1.2.2.1,()))),())))
          else some (.inr ((s6.1.1,(s6.1.2.1,((wrF .i64 (s6.1.2.2.1+1)),()))),()))
         else some (.inr ((s6.1.1,(s6.1.2.1,((wrF .i64 (s6.1.2.2.1+1)),()))),()))
        else some (.inr ((s6.1.1,(s6.1.2.1,((wrF .i64 (s6.1.2.2.1+1)),()))),()))
       else some (.inl (0,((s6.1.1,(s6.1.2.1,(s6.1.2.2.1,()))),())))) qC ((x5,(0,(0,()))),())) fun x8=>
      bif Nat.beq x8.1 0 then bif (!(!(zt (-1) 0))) then some (.inl (1,((s4.1.1,(false,(s4.1.2.2.1,()))),())))
       else some (.inr ((s4.1.1,(s4.1.2.1,((wrF .i64 (s4.1.2.2.1+1)),()))),()))
      else bif (!(!(zt x8.2.1.2.1 0))) then some (.inl (1,((s4.1.1,(false,(s4.1.2.2.1,()))),())))
       else some (.inr ((s4.1.1,(s4.1.2.1,((wrF .i64 (s4.1.2.2.1+1)),()))),()))
     else some (.inl (0,((s4.1.1,(s4.1.2.1,(s4.1.2.2.1,()))),())))) qC ((s0.1.1,(x3.2.1.1,(0,()))),())) fun x9=>
    bif Nat.beq x9.1 0 then some (.inr ((x9.2.1.1,(x9.2.1.2.1,((wrF .i64 (s0.1.2.2.1+1)),()))),()))
    else some (.inl (1,((x9.2.1.1,(x9.2.1.2.1,(s0.1.2.2.1,()))),())))
   else some (.inl (1,((s0.1.1,(x3.2.1.1,(s0.1.2.2.1,()))),())))
  else some (.inl (0,((s0.1.1,(s0.1.2.1,(s0.1.2.2.1,()))),())))) qC ((a0,(false,(0,()))),())) fun x10=>
 bif Nat.beq x10.1 0 then some (true,())
 else some (x10.2.1.2.1,())
abbrev XO:Type:=(zK×zv×Unit)→Option (Bool×Unit)
def zfW:JY→XO:=fun wC=>sF Tryz.prog [(49,⟨kW,kX,wC⟩)] zog (zM []) 30 31 zat zau
theorem zpK (wC) (a0) (a1):zfW wC (a0,a1,())=zav wC a0 a1:=by kernel_rfl
def ZM:XO:=zfW yM
theorem zlz:Con.Ok Tryz.prog 31 ⟨zat,zau,ZM⟩:=zz (zf zbm zi) zm (by kernel_rfl)
theorem zlA (a0) (a1):ZM (a0,a1,())=zav yM a0 a1:=zpK yM a0 a1
abbrev zbu:List VT:=[⟨false,(.list I)⟩,⟨false,(.list I)⟩]
abbrev zbv:List VT:=[⟨false,.bool⟩]
def zpL:qb:=zT [] [] [] [] []
def zbw (a0:(List Int)) (a1:(List Int)):Option (Bool×Unit):=
 bif (!(zj ((a0.length:Nat):Int) ((a1.length:Nat):Int))) then some (false,())
 else opt (qd (fun s0:((Bool×(Int×Unit))×Unit)=>
   bif (zt s0.1.2.1 ((a0.length:Nat):Int)) then opt (atI a0 s0.1.2.1) fun x1=>
    opt (atI a1 s0.1.2.1) fun x2=>
    bif !(zj x1 x2) then some (.inl (1,((false,(s0.1.2.1,())),())))
    else some (.inr ((s0.1.1,((wrF .i64 (s0.1.2.1+1)),())),()))
   else some (.inl (0,((s0.1.1,(s0.1.2.1,())),())))) qC ((false,(0,())),())) fun x3=>
  bif Nat.beq x3.1 0 then some (true,())
  else some (x3.2.1.1,())
abbrev KK:Type:=((List Int)×(List Int)×Unit)→Option (Bool×Unit)
def zhK:KK:=sF Tryz.prog [] zpL (zM []) 30 28 zbu zbv
theorem zrm (a0) (a1):zhK (a0,a1,())=zbw a0 a1:=by kernel_rfl
def QQ:KK:=zhK
theorem zmE:Con.Ok Tryz.prog 28 ⟨zbu,zbv,QQ⟩:=zz zi zm (by kernel_rfl)
theorem zmF (a0) (a1):QQ (a0,a1,())=zbw  a0 a1:=zrm  a0 a1
abbrev Jo:List VT:=[⟨true,zA⟩,⟨true,zA⟩]
abbrev Jp:List VT:=[⟨false,.bool⟩]
def zmG:qb:=zT [cdF zA,cdF zu] [] [] [] [28]
def Gz (QW:KK) (a0:zv) (a1:zv):Option (Bool×Unit):=
 opt (bif !(zj a0.1 a1.1) then some (1,((false,()),()))
  else bif !(zj a0.2.1 a1.2.1) then some (1,((false,()),()))
   else bif !(zj a0.2.2.1 a1.2.2.1) then some (1,((false,()),()))
    else bif !(zj a0.2.2.2.1 a1.2.2.2.1) then some (1,((false,()),()))
     else bif !(zj a0.2.2.2.2.1 a1.2.2.2.2.1) then some (1,((false,()),()))
      else bif !(zj a0.2.2.2.2.2.1 a1.2.2.2.2.2.1) then some (1,((false,()),()))
       else bif (!((zj a0.2.2.2.2.2.2.1.1 a1.2.2.2.2.2.2.1.1)&&((zj a0.2.2.2.2.2.2.1.2 a1.2.2.2.2.2.2.1.2)&&true))) then some (1,((false,()),()))
        else bif !(zj a0.2.2.2.2.2.2.2.1 a1.2.2.2.2.2.2.2.1) then some (1,((false,()),()))
         else bif (!(zj ((a0.2.2.2.2.2.2.2.2.length:Nat):Int) ((a1.2.2.2.2.2.2.2.2.length:Nat):Int))) then some (1,((false,()),()))
          else some (0,((false,()),()))) fun x0=>
 bif Nat.beq x0.1 0 then opt (qd (fun s1:((Bool×(Int×Unit))×Unit)=>
   bif (zt s1.1.2.1 ((a0.2.2.2.2.2.2.2.2.length:Nat):Int)) then opt (atI a0.2.2.2.2.2.2.2.2 s1.1.2.1) fun x2=>
    opt (atI a1.2.2.2.2.2.2.2.2 s1.1.2.1) fun x3=>
    opt (QW (x2,(x3,()))) fun x4=>
    bif !x4.1 then some (.inl (1,((false,(s1.1.2.1,())),())))
    else some (.inr ((s1.1.1,((wrF .i64 (s1.1.2.1+1)),())),()))
   else some (.inl (0,((s1.1.1,(s1.1.2.1,())),())))) qC ((x0.2.1.1,(0,())),())) fun x5=>
  bif Nat.beq x5.1 0 then some (true,())
  else some (x5.2.1.1,())
 else some (x0.2.1.1,())
abbrev Jq:Type:=(zv×zv×Unit)→Option (Bool×Unit)
def ze3:KK→Jq:=fun QW=>sF Tryz.prog [(28,⟨zbu,zbv,QW⟩)] zmG (zM []) 30 13 Jo Jp
theorem zoh (QW) (a0) (a1):ze3 QW (a0,a1,())=Gz QW a0 a1:=by kernel_rfl
def wS:Jq:=ze3 QQ
theorem zbS:Con.Ok Tryz.prog 13 ⟨Jo,Jp,wS⟩:=zz (zf zmE zi) zm (by kernel_rfl)
theorem zkf (a0) (a1):wS (a0,a1,())=Gz QQ a0 a1:=zoh QQ a0 a1
abbrev zcP:List VT:=[⟨true,qV⟩]
abbrev zcQ:List VT:=[⟨false,.bool⟩]
def zwu:qb:=zT [cdF qV,cdF qL,cdF qK,cdF wq,cdF zA,cdF zV,cdF jW,cdF xa,cdF qy,cdF qq,cdF jf] [] [] [] [25,31,13]
def zhL (jE:Qh) (Wd:zaZ) (ZU:XO) (yC:Jq) (a0:zK):Option (Bool×Unit):=
 opt (jE (a0.1,(a0.2.1,()))) fun x0=>
 bif !(zj x0.1 0) then some (false,())
 else opt (qd (fun s1:(((((Int×((List Bool)×(List (Int×(Int×(Int×Int))))))×((Int×(Int×(Int×Int)))×((List ((List (Int×Int))×Int))×Int)))×((List (Int×(Int×(Int×(Int×(Int×(Int×((Int×Int)×(Int×(List (List Int)))))))))))×((List (Int×(Int×(Int×((Int×(Int×(Int×(Int×(Int×(Int×((Int×Int)×(Int×(List (List Int))))))))))×Int)))))×((List (Int×(Int×(Int×(Int×(List Int))))))×((List (Int×(Int×(Int×Bool))))×(List (Int×(Int×(Int×(Int×(Bool×((Int×(Int×(Int×(Int×(Int×(Int×((Int×Int)×(Int×(List (List Int))))))))))×Int))))))))))))×(Bool×(Int×Unit)))×Unit)=>
   bif (zt s1.1.2.2.1 ((a0.2.2.1.length:Nat):Int)) then opt (atI a0.2.2.1 s1.1.2.2.1) fun x2=>
    opt (Wd (s1.1.1,(x2.1,()))) fun x3=>
    opt (bif zj x2.2.2.1 2 then bif !x3.2.1 then some (1,((false,()),()))
      else opt (ZU (s1.1.1,(x3.1,()))) fun x4=>
       bif !x4.1 then some (1,((false,()),()))
       else opt (yC (x3.1,(x2.2.2.2.1,()))) fun x5=>
        bif !x5.1 then some (1,((false,()),()))
        else some (0,((s1.1.2.1,()),()))
     else some (0,((s1.1.2.1,()),()))) fun x6=>
    bif Nat.beq x6.1 0 then some (.inr ((s1.1.1,(x6.2.1.1,((wrF .i64 (s1.1.2.2.1+1)),()))),()))
    else some (.inl (1,((s1.1.1,(x6.2.1.1,(s1.1.2.2.1,()))),())))
   else some (.inl (0,((s1.1.1,(s1.1.2.1,(s1.1.2.2.1,()))),())))) qC ((a0,(false,(0,()))),())) fun x7=>
  bif Nat.beq x7.1 0 then opt (qd (fun s8:(((((Int×((List Bool)×(List (Int×(Int×(Int×Int))))))×((Int×(Int×(Int×Int)))×((List ((List (Int×Int))×Int))×Int)))×((List (Int×(Int×(Int×(Int×(Int×(Int×((Int×Int)×(Int×(List (List Int)))))))))))×((List (Int×(Int×(Int×((Int×(Int×(Int×(Int×(Int×(Int×((Int×Int)×(Int×(List (List Int))))))))))×Int)))))×((List (Int×(Int×(Int×(Int×(List Int))))))×((List (Int×(Int×(Int×Bool))))×(List (Int×(Int×(Int×(Int×(Bool×((Int×(Int×(Int×(Int×(Int×(Int×((Int×Int)×(Int×(List (List Int))))))))))×Int))))))))))))×(Bool×(Int×Unit)))×Unit)=>
    bif (zt s8.1.2.2.1 ((x7.2.1.1.2.2.2.2.1.length:Nat):Int)) then opt (atI x7.2.1.1.2.2.2.2.1 s8.1.2.2.1) fun x9=>
     opt (Wd (s8.1.1,(x9.2.1,()))) fun x10=>
     opt (bif x9.2.2.2 then bif !x10.2.1 then some (1,((false,()),()))
       else some (0,((s8.1.2.1,()),()))
      else some (0,((s8.1.2.1,()),()))) fun x11=>
     bif Nat.beq x11.1 0 then some (.inr ((s8.1.1,(x11.2.1.1,((wrF .i64 (s8.1.2.2.1+1)),()))),()))
     else some (.inl (1,((s8.1.1,(x11.2.1.1,(s8.1.2.2.1,()))),())))
    else some (.inl (0,((s8.1.1,(s8.1.2.1,(s8.1.2.2.1,()))),())))) qC ((x7.2.1.1,(x7.2.1.2.1,(0,()))),())) fun x12=>
   bif Nat.beq x12.1 0 then some (true,())
   else some (x12.2.1.2.1,())
  else some (x7.2.1.2.1,())
abbrev zhM:Type:=(zK×Unit)→Option (Bool×Unit)
def zoi:Qh→zaZ→XO→Jq→zhM:=fun jE Wd ZU yC=>sF Tryz.prog [(25,⟨vY,vZ,jE⟩),(30,⟨zfz,zfA,Wd⟩),(31,⟨zat,zau,ZU⟩),(13,⟨Jo,Jp,yC⟩)] zwu (zM []) 30 19 zcP zcQ
theorem zyI (jE) (Wd) (ZU) (yC) (a0):zoi jE Wd ZU yC (a0,())=zhL jE Wd ZU yC a0:=by kernel_rfl
def VJ:zhM:=zoi vr YQ ZM wS
theorem zs2:Con.Ok Tryz.prog 19 ⟨zcP,zcQ,VJ⟩:=zz (zf zbr (zf zrk (zf zlz (zf zbS zi)))) zm (by kernel_rfl)
theorem zs3 (a0):VJ (a0,())=zhL vr YQ ZM wS a0:=zyI vr YQ ZM wS a0
abbrev KZ:List VT:=[⟨false,(.list yk)⟩,⟨false,I⟩]
abbrev Ua:List VT:=[⟨true,qV⟩,⟨false,.bool⟩]
def zkg:qb:=zT [cdF qV,cdF qL,cdF qK,cdF wq,cdF Wf,cdF zA,cdF yk,cdF zV,cdF jW,cdF xa,cdF qy,cdF qq,cdF jf] [] [] [] [19]
def zfC (zet:zi8) (zc6:zg8) (KR:zbt) (Ja:(zK×yn×Unit)→Option (zK×Int×Unit)) (zc7:zhM) (a0:(List qt)) (a1:Int):Option (zK×Bool×Unit):=
 opt (zet ()) fun x0=>
 opt (zc6 (x0.1,())) fun x1=>
 opt (uz a0 none (some (Ks ((a0.length:Nat):Int) a1)) none) fun x2=>
 opt (qd (fun s3:(((((Int×((List Bool)×(List (Int×(Int×(Int×Int))))))×((Int×(Int×(Int×Int)))×((List ((List (Int×Int))×Int))×Int)))×((List (Int×(Int×(Int×(Int×(Int×(Int×((Int×Int)×(Int×(List (List Int)))))))))))×((List (Int×(Int×(Int×((Int×(Int×(Int×(Int×(Int×(Int×((Int×Int)×(Int×(List (List Int))))))))))×Int)))))×((List (Int×(Int×(Int×(Int×(List Int))))))×((List (Int×(Int×(Int×Bool))))×(List (Int×(Int×(Int×(Int×(Bool×((Int×(Int×(Int×(Int×(Int×(Int×((Int×Int)×(Int×(List (List Int))))))))))×Int))))))))))))×(Bool×(Int×Unit)))×Unit)=>
  bif (zt s3.1.2.2.1 ((x2.length:Nat):Int)) then opt (atI x2 s3.1.2.2.1) fun x4=>
   opt (KR (x4,(s3.1.1,()))) fun x5=>
   opt (Ja (s3.1.1,(x5.1,()))) fun x6=>
   opt (bif zj x6.2.1 0 then bif s3.1.2.1 then opt (zc7 (x6.1,())) fun x7=>
      some (0,((x6.1,(x7.1,())),()))
     else some (0,((x6.1,(false,())),()))
    else some (0,((s3.1.1,(s3.1.2.1,())),()))) fun x8=>
   some (.inr ((x8.2.1.1,(x8.2.1.2.1,((wrF .i64 (s3.1.2.2.1+1)),()))),()))
  else some (.inl (0,((s3.1.1,(s3.1.2.1,(s3.1.2.2.1,()))),())))) qC ((x1.1,((zj x1.2.1 0),(0,()))),())) fun x9=>
 some (x9.2.1.1,(x9.2.1.2.1,()))
theorem zwv (zet:(Unit)→Option (jJ×Unit)) (zc6:(jJ×Unit)→Option (zK×Int×Unit)) (KR:(qt×zK×Unit)→Option (yn×Unit)) (Ja:(zK×yn×Unit)→Option (zK×Int×Unit)) (zc7:(zK×Unit)→Option (Bool×Unit)) (a0:(List qt)) (a1:Int):sF Tryz.prog [(15,⟨Xr,Xt,zet⟩),(14,⟨WM,WN,zc6⟩),(21,⟨KI,KJ,KR⟩),(12,⟨kO,kP,Ja⟩),(19,⟨zcP,zcQ,zc7⟩)] zkg (zM []) 30 7 KZ Ua (a0,a1,())=zfC zet zc6 KR Ja zc7 a0 a1:=by kernel_rfl
def Wb:((List qt)×Int×Unit)→Option (zK×Bool×Unit):=sF Tryz.prog [(15,⟨Xr,Xt,Ui⟩),(14,⟨WM,WN,Vf⟩),(21,⟨KI,KJ,QP⟩),(12,⟨kO,kP,kQ⟩),(19,⟨zcP,zcQ,VJ⟩)] zkg (zM []) 30 7 KZ Ua
theorem zrn:Con.Ok Tryz.prog 7 ⟨KZ,Ua,Wb⟩:=zz (zf zuf (zf zsu (zf zmC (zf zkd (zf zs2 zi))))) zm (by kernel_rfl)
theorem zro (a0:(List qt)) (a1:Int):Wb (a0,a1,())=zfC Ui Vf QP kQ VJ a0 a1:=zwv Ui Vf QP kQ VJ a0 a1
abbrev gR:List VT:=[⟨false,(.list yk)⟩,⟨true,yk⟩]
abbrev JH:List VT:=[⟨false,.bool⟩]
def zaL:qb:=zT [cdF qV,cdF qL,cdF qK,cdF wq,cdF Wf,cdF zA,cdF yk,cdF zV,cdF jW,cdF xa,cdF qy,cdF qq,cdF jf] [] [] [] [6,10,13]
def JI (za4:(Unit)→Option (Bool×Unit)) (za5:((List qt)×Int×Unit)→Option (zK×Bool×Unit)) (Xm:(zK×Unit)→Option (zK×Unit)) (yc:Qu) (VZ:(zK×Int×Unit)→Option (Int×Int×Unit)) (gk:zaY) (Ja:(zK×yn×Unit)→Option (zK×Int×Unit)) (yC:Jq) (a0:(List qt)) (a1:qt):Option (Bool×Unit):=
 opt (za4 ()) fun x0=>
 bif !x0.1 then some (false,())
 else opt (za5 (a0,(30,()))) fun x1=>
  opt (Xm (x1.1,())) fun x2=>
  opt (yc (a1,())) fun x3=>
  opt (VZ (x2.1,(x3.1.1,()))) fun x4=>
  opt (gk (x2.1.1,(x2.1.2.1,(x3.1,())))) fun x5=>
  opt (Ja (x2.1,((1,(0,(0,x3.1))),()))) fun x6=>
  opt (bif zj x4.2.1 0 then bif zj x4.1 2 then bif x1.2.1 then some (1,(((zj x6.2.1 322),()),()))
     else some (1,((false,()),()))
    else some (0,((false,()),()))
   else some (0,((false,()),()))) fun x7=>
  bif Nat.beq x7.1 0 then opt (bif !x1.2.1 then some (1,((false,()),()))
    else bif !(zj x6.2.1 0) then some (1,((false,()),()))
     else some (0,((x7.2.1.1,()),()))) fun x8=>
   bif Nat.beq x8.1 0 then opt (Xm (x6.1,())) fun x9=>
    opt (VZ (x9.1,(x3.1.1,()))) fun x10=>
    bif !(zj x5.2.1 0) then bif zj x10.2.1 0 then bif zj x10.1 3 then some ((zj ((x9.1.2.1.length:Nat):Int) ((x2.1.2.1.length:Nat):Int)),())
      else some (false,())
     else some (false,())
    else opt (bif !(zj x10.2.1 0) then some (1,((false,()),()))
      else bif !(zj x10.1 2) then some (1,((false,()),()))
       else bif (!(zj ((x9.1.2.1.length:Nat):Int) ((x5.1.length:Nat):Int))) then some (1,((false,()),()))
        else some (0,((x8.2.1.1,()),()))) fun x11=>
     bif Nat.beq x11.1 0 then opt (qd (fun s12:((Bool×(Int×Unit))×Unit)=>
       bif (zt s12.1.2.1 ((x5.1.length:Nat):Int)) then opt (atI x5.1 s12.1.2.1) fun x13=>
        opt (atI x9.1.2.1 s12.1.2.1) fun x14=>
        opt (yC (x13,(x14,()))) fun x15=>
        bif !x15.1 then some (.inl (1,((false,(s12.1.2.1,())),())))
        else some (.inr ((s12.1.1,((wrF .i64 (s12.1.2.1+1)),())),()))
       else some (.inl (0,((s12.1.1,(s12.1.2.1,())),())))) qC ((x11.2.1.1,(0,())),())) fun x16=>
      bif Nat.beq x16.1 0 then some (true,())
      else some (x16.2.1.1,())
     else some (x11.2.1.1,())
   else some (x8.2.1.1,())
  else some (x7.2.1.1,())
theorem zkh (za4:(Unit)→Option (Bool×Unit)) (za5:((List qt)×Int×Unit)→Option (zK×Bool×Unit)) (Xm:(zK×Unit)→Option (zK×Unit)) (yc:(qt×Unit)→Option (zv×Unit)) (VZ:(zK×Int×Unit)→Option (Int×Int×Unit)) (gk:(jJ×(List zv)×zv×Unit)→Option ((List zv)×Int×Unit)) (Ja:(zK×yn×Unit)→Option (zK×Int×Unit)) (yC:(zv×zv×Unit)→Option (Bool×Unit)) (a0:(List qt)) (a1:qt):sF Tryz.prog [(6,⟨KW,KY,za4⟩),(7,⟨KZ,Ua,za5⟩),(8,⟨ku,kx,Xm⟩),(9,⟨Qs,Qt,yc⟩),(10,⟨gP,gQ,VZ⟩),(11,⟨ud,ue,gk⟩),(12,⟨kO,kP,Ja⟩),(13,⟨Jo,Jp,yC⟩)] zaL (zM []) 30 4 gR JH (a0,a1,())=JI za4 za5 Xm yc VZ gk Ja yC a0 a1:=by kernel_rfl
end Go.Proofs.YtleloebnggepoaaGreat.sg
namespace Go.Fz.Sy
theorem JJ {α:Type} {l:List α} {z:Int} {Q:α→Prop} (h0:0≤z) (h1:z < l.length) (hq:∀x,l[z.toNat]?=some x→Q x):qp (atI l z) Q:=by
 obtain ⟨x,e,e2⟩:=zHA h0 h1
 exact ⟨x,e,hq x e2⟩
theorem JK {α:Type} {l:List α} {i:Nat} {Q:α→Prop} (h1:i < l.length) (hq:∀x,l[i]?=some x→Q x):qp (gl l i) Q:=by
 have hx:l[i]?=some l[i]:=List.getElem?_eq_getElem h1
 exact ⟨l[i],by rw [kp,hx],hq _ hx⟩
def Nxt {X S:Type} (J:X→Prop) (I:S→Prop) (r:X ⊕ S):Prop:=(∀x,r=.inl x→J x)∧∀s',r=.inr s'→I s'
theorem zE {X S:Type} {J:X→Prop} {I:S→Prop} {x:X} (h:J x):Nxt J I (.inl x:X ⊕ S):=⟨fun y e=>by cases e;exact h,fun s' e=>by cases e⟩
theorem qR {X S:Type} {J:X→Prop} {I:S→Prop} {s:S} (h:I s):Nxt J I (.inr s:X ⊕ S):=⟨fun y e=>by (cases e),fun s' e=>by cases e;exact h⟩
theorem qz {X S:Type} {B:S→Option (X ⊕ S)} {s:S} {J:X→Prop} (n:Nat) (I:Nat→S→Prop) (hn:n < 1180591620717411303424) (h0:I 0 s)
  (h:∀i s,i < n→I i s→qp (B s) (Nxt J (I (i+1)))) (he:∀s,I n s→qp (B s) (Nxt J fun _=>False)):qp (qd B qC s) J:=by
 have key:∀(k i N:Nat) (s:S),i+k=n→k < N→I i s→qp (qd B N s) J:=by
  intro k
  induction k with
  |zero=>
   intro i N s hi hN hI
   obtain ⟨N,rfl⟩:∃M,N=M+1:=⟨N - 1,by omega⟩
   have hi':i=n:=by omega
   obtain ⟨r,e,h1,h2⟩:=he s (hi'▸hI)
   rw [Ku,e]
   cases r with
   |inl x=>exact ⟨x,rfl,h1 x rfl⟩
   |inr s'=>exact (h2 s' rfl).elim
  |succ k ih=>
   intro i N s hi hN hI
   obtain ⟨N,rfl⟩:∃M,N=M+1:=⟨N - 1,by omega⟩
   obtain ⟨r,e,h1,h2⟩:=h i s (by omega) hI
   rw [Ku,e]
   cases r with
   |inl x=>exact ⟨x,rfl,h1 x rfl⟩
   |inr s'=>exact ih (i+1) N s' (by omega) (by omega) (h2 s' rfl)
 exact key n 0 qC s (by omega) (Nat.lt_of_lt_of_le hn zz7) h0
noncomputable def tv (p:Prop):Bool:=@decide p (Classical.propDecidable p)
theorem zyJ {p:Prop}:tv p=true↔p:=@decide_eq_true_iff p (Classical.propDecidable p)
theorem zN {p:Prop} (h:p):tv p=true:=zyJ.2 h
theorem qu {p:Prop} (h:¬p):tv p=false:=by
 cases e:tv p with
 |false=>rfl
 |true=>exact absurd (zyJ.1 e) h
theorem zHD {p:Prop} [inst:Decidable p]:tv p=decide p:=by
 by_cases h:p
 ·rw [zN h,decide_eq_true h]
 ·rw [qu h,decide_eq_false h]
theorem Wx {o:Option (Bool×Unit)} {p:Prop} (h:qp o fun r=>(r.1=true↔p)):o=some (tv p,()):=by
 obtain ⟨⟨b,⟨⟩⟩,e,h⟩:=h
 rw [e]
 by_cases hp:p
 ·rw [zN hp,show b=true from h.2 hp]
 ·rw [qu hp]
  cases b with
  |false=>rfl
  |true=>exact absurd (h.1 rfl) hp
theorem gr {α:Type} {o:Option (α×Unit)} {v:α} (h:qp o fun r=>r.1=v):o=some (v,()):=by
 obtain ⟨⟨b,⟨⟩⟩,e,rfl⟩:=h
 exact e
theorem ve {α:Type} {o:Option α} {a:α} {Q:α→Prop} (e:o=some a) (h:Q a):qp o Q:=⟨a,e,h⟩
theorem zyK {n:Nat} (h:n≤1000000000000000000):n < 1180591620717411303424:=by omega
theorem qQ {i:Nat} (h:i≤1000000000000000000):wrF .i64 ((i:Int)+1)=((i+1:Nat):Int):=by rw [qU]<;>omega
theorem qx {a b:Int} (h:a < b):zt a b=true:=by rw [kB];exact decide_eq_true h
theorem qa {a b:Int} (h:¬a < b):zt a b=false:=by rw [kB];exact decide_eq_false h
theorem wa {a b:Int} (h:a=b):zj a b=true:=by rw [wM,h];simp
theorem ji {a b:Int} (h:a≠b):zj a b=false:=by rw [wM];simp [h]
theorem yF {a b:Int} (h:zt a b=true):a < b:=by rw [kB] at h;exact of_decide_eq_true h
theorem wX {a b:Int} (h:zt a b=false):b≤a:=by rw [kB] at h;have:=of_decide_eq_false h;omega
theorem jg {a b:Int} (h:zj a b=true):a=b:=by rw [wM] at h;exact eq_of_beq h
theorem jO {a b:Int} (h:zj a b=false):a≠b:=by rw [wM] at h;intro e;subst e;simp at h
theorem zki (a b:Int):Yt a b=max a b:=by
 unfold Yt
 rw [kB]
 by_cases h:a < b
 ·rw [decide_eq_true h,cond_true];omega
 ·rw [decide_eq_false h,cond_false];omega
theorem zuE (a b:Int):Ks a b=min a b:=by
 unfold Ks
 rw [kB]
 by_cases h:b < a
 ·rw [decide_eq_true h,cond_true];omega
 ·rw [decide_eq_false h,cond_false];omega
theorem zh {α:Type} {b:Bool} {x y:Option α} {Q:α→Prop} (hb:b=true) (h:qp x Q):qp (bif b then x else y) Q:=by subst hb;exact h
theorem zg {α:Type} {b:Bool} {x y:Option α} {Q:α→Prop} (hb:b=false) (h:qp y Q):qp (bif b then x else y) Q:=by subst hb;exact h
theorem uR {X V:Type} {B:((V×(Int×Unit))×Unit)→Option (X ⊕ ((V×(Int×Unit))×Unit))} {v:V} {J:X→Prop} (n:Nat) (P:Nat→Prop) (hn:n≤1000000000000000000)
  (h:∀i,i < n→(∀k,k < i→P k)→qp (B ((v,((i:Int),())),())) (Nxt J fun s=>s=((v,(((i+1:Nat):Int),())),())∧P i))
  (he:(∀k,k < n→P k)→qp (B ((v,((n:Int),())),())) (Nxt J fun _=>False)):qp (qd B qC ((v,(0,())),())) J:=by
 refine qz n (fun i s=>s=((v,((i:Int),())),())∧∀k,k < i→P k) (zyK hn) ⟨rfl,fun k hk=>by omega⟩ ?_ ?_
 ·rintro i _ hi ⟨rfl,hp⟩
  obtain ⟨r,e,h1,h2⟩:=h i hi hp
  refine ⟨r,e,h1,fun s' hs=>?_⟩
  obtain ⟨h3,h4⟩:=h2 s' hs
  refine ⟨h3,fun k hk=>?_⟩
  rcases Nat.lt_or_ge k i with hk' | hk'
  ·exact hp k hk'
  ·have:k=i:=by omega
   exact this▸h4
 ·rintro _ ⟨rfl,hp⟩
  exact he hp
theorem Zl {X V:Type} {v:V} {i:Nat} {J:X→Prop} {p:Prop} (hi:i≤1000000000000000000) (hp:p):Nxt J (fun s=>s=((v,(((i+1:Nat):Int),())),())∧p) (.inr ((v,(wrF .i64 ((i:Int)+1),())),())):=qR ⟨by rw [qQ hi],hp⟩
theorem zer {p:Prop} (h:tv p=true):p:=zyJ.1 h
theorem zaM {p:Prop} (h:tv p=false):¬p:=fun hp=>by rw [zN hp] at h;cases h
theorem Um {p:Prop} (h:(!tv p)=true):¬p:=zaM (by simpa using h)
theorem zaN {p:Prop} (h:(!tv p)=false):p:=zer (by simpa using h)
theorem zkj {α:Type} (l:List α) (lo hi mx:Option Int) (h p:Nat) (h1:hiI l.length hi=some h) (h2:loI h lo=some p) (h3:mxI h mx=true):uz l lo hi mx=some ((l.take h).drop p):=by
 unfold uz
 simp only [h1,h2,h3,cond_true]
theorem zpd {n q:Nat} (h:q≤n):hiI n (some (q:Int))=some q:=by
 show (bif Nat.ble q n then some q else none)=_
 rw [Nat.ble_eq_true_of_le h];rfl
theorem zAb {n q:Nat} (h:q≤n):loI n (some (q:Int))=some q:=by
 show (bif Nat.ble q n then some q else none)=_
 rw [Nat.ble_eq_true_of_le h];rfl
theorem zuF (n:Nat):mxI n (some (n:Int))=true:=by
 show Nat.beq n n=true
 exact Nat.beq_refl n
theorem zyL {α:Type} (l:List α):uz l none (some ((l.length:Nat):Int)) (some ((l.length:Nat):Int))=some l:=by
 rw [zkj l _ _ _ l.length 0 (zpd (Nat.le_refl _)) rfl (zuF _)];simp
theorem ze4 {α:Type} (l:List α) (n:Nat) (h:n≤l.length):uz l (some (n:Int)) none none=some (l.drop n):=by
 rw [zkj l _ _ _ l.length n rfl (zAb h) rfl];simp
theorem zAc {α:Type} (l:List α) (n:Nat) (h:n≤l.length):uz l none (some (n:Int)) none=some (l.take n):=by
 rw [zkj l _ _ _ n 0 (zpd h) rfl rfl];simp
theorem zlB {α:Type} (l:List α) (n:Nat) (h:n≤l.length):uz l none (some (n:Int)) (some (n:Int))=some (l.take n):=by
 rw [zkj l _ _ _ n 0 (zpd h) rfl (zuF _)];simp
theorem zFf {α:Type} (l:List α) (m n:Nat) (h:n≤l.length) (h2:m≤n):uz l (some (m:Int)) (some (n:Int)) (some (n:Int))=some ((l.take n).drop m):=by
 rw [zkj l _ _ _ n m (zpd h) (zAb h2) (zuF _)]
theorem zuG {a b:Int} {k:Nat} (h0:0≤a) (h1:a≤b) (h2:(k:Int)*b≤281474976710656):zqE a b k=true:=by
 unfold zqE;rw [qa (by omega),qa (by omega),qa (by omega)];rfl
theorem QR {n m k:Nat} (h:(n+m)*k≤140737488355328) (h2:n+m≤9223372036854775807):xE n m k=true:=by
 unfold xE maxLen
 rw [Nat.ble_eq_true_of_le (by omega),Nat.ble_eq_true_of_le h];rfl
end Go.Fz.Sy
namespace Go.Proofs.YtleloebnggepoaaGreat.sg
open Go Go.Fz Go.Fz.Sy
abbrev VK:=Int×Int×Int×Int
abbrev jm:=Int×List Bool×List VK
def kz (t:jm) (n:Int):Prop:=0≤n∧n < t.1
def stn (t:jm) (n:Int):Bool:=(t.2.1[n.toNat]?).getD false
def zrp (t:jm) (l:VK):Prop:=kz t l.1∧kz t l.2.1∧l.1≠l.2.1∧¬(stn t l.1=true∧stn t l.2.1=true)∧1≤l.2.2.1∧l.2.2.1≤1000∧0≤l.2.2.2∧l.2.2.2≤10000
def zcR (o:VK) (a b:Int):Prop:=(o.1=a∧o.2.1=b)∨(o.1=b∧o.2.1=a)
structure szP (t:jm):Prop where
 n0:2≤t.1
 n1:t.1≤12
 st:(t.2.1.length:Int)=t.1
 ls:t.2.2.length≤24
def zlC (t:jm):Prop:=∀(i:Nat) l,t.2.2[i]?=some l→zrp t l∧∀(k:Nat) o,k < i→t.2.2[k]?=some o→¬zcR o l.1 l.2.1
def one (a:Int) (n:Nat):Int:=if a=(n:Int) then 1 else 0
def cnt (ls:List VK) (n:Nat):Int:=(ls.map fun l=>one l.1 n+one l.2.1 n).sum
def stp (r:List Bool) (l:VK):List Bool:=bif (r[l.1.toNat]?).getD false||(r[l.2.1.toNat]?).getD false then (r.set l.1.toNat true).set l.2.1.toNat true else r
def zjm (ls:List VK):Nat→List Bool→List Bool
 |0,r=>r
 |n+1,r=>zjm ls n (ls.foldl stp r)
def reachS (t:jm) (a:Nat):List Bool:=zjm t.2.2 t.1.toNat ((List.replicate t.1.toNat false).set a true)
structure ug (t:jm):Prop where
 sz:szP t
 ls:zlC t
 re:∀(n:Nat),(n:Int) < t.1→(reachS t 0)[n]?=some true
 ct:∀(n:Nat),(n:Int) < t.1→stn t n=true→1≤cnt t.2.2 n∧cnt t.2.2 n≤2
theorem zHE {t:jm} {n:Nat} {b:Bool} (h:t.2.1[n]?=some b):stn t n=b:=by unfold stn;simp [h]
theorem zuH {t:jm} {n:Int} {b:Bool} (h:t.2.1[n.toNat]?=some b):stn t n=b:=by unfold stn;simp [h]
theorem zma (t:jm) (n:Int):Ul (t,n,())=some (tv (kz t n),()):=by
 rw [zui];unfold zi9 kz
 refine Wx ?_
 refine zq (fun h=>?_) (fun h=>?_)<;>refine zd ?_<;>simp only [kB] at *<;>grind
theorem kz.lt {t:jm} {n:Int} (h:kz t n) (hs:szP t):n.toNat < t.2.1.length:=by
 have:=hs.st;have:=h.1;have:=h.2;omega
theorem zGG (r:List Bool) (l:VK):(stp r l).length=r.length:=by
 unfold stp
 cases (r[l.1.toNat]?).getD false||(r[l.2.1.toNat]?).getD false<;>simp
theorem zyM (ls:List VK):∀r:List Bool,(ls.foldl stp r).length=r.length:=by
 induction ls with
 |nil=>intro r;rfl
 |cons l ls ih=>intro r;rw [List.foldl_cons,ih,zGG]
theorem zrq (ls:List VK):∀(n:Nat) (r:List Bool),(zjm ls n r).length=r.length
 |0,r=>rfl
 |n+1,r=>by rw [zjm,zrq ls n,zyM]
theorem zvM (ls:List VK):∀(n:Nat) (r:List Bool),zjm ls (n+1) r=ls.foldl stp (zjm ls n r)
 |0,r=>rfl
 |n+1,r=>by rw [zjm,zvM ls n,zjm]
def Yb (t:jm) (i:Nat):List Int:=(List.range t.1.toNat).map (cnt (t.2.2.take i))
theorem zDc (a:Int) (n:Nat):0≤one a n∧one a n≤1:=by unfold one;split<;>omega
theorem zDd (ls:List VK) (n:Nat):0≤cnt ls n∧cnt ls n≤2*ls.length:=by
 unfold cnt
 induction ls with
 |nil=>simp
 |cons l ls ih=>
  have:=zDc l.1 n;have:=zDc l.2.1 n
  simp only [List.map_cons,List.sum_cons,List.length_cons]
  omega
theorem zFg {ls:List VK} {i:Nat} {l:VK} (h:ls[i]?=some l) (n:Nat):cnt (ls.take (i+1)) n=cnt (ls.take i) n+(one l.1 n+one l.2.1 n):=by
 unfold cnt
 rw [List.take_add_one,h];simp
theorem zbx (t:jm) (i:Nat):(Yb t i).length=t.1.toNat:=by simp [Yb]
theorem zd3 {t:jm} {i n:Nat} (h:n < t.1.toNat):(Yb t i)[n]?=some (cnt (t.2.2.take i) n):=by simp [Yb,h]
theorem zDe {t:jm} {i:Nat} {l:VK} (h:t.2.2[i]?=some l) (hl:t.2.2.length≤24) (ha:kz t l.1) (hb:kz t l.2.1) (hab:l.1≠l.2.1) {u v:Int}
  (hu:(Yb t i)[l.1.toNat]?=some u) (hv:((Yb t i).set l.1.toNat (wrF .i64 (u+1)))[l.2.1.toNat]?=some v) :
  ((Yb t i).set l.1.toNat (wrF .i64 (u+1))).set l.2.1.toNat (wrF .i64 (v+1))=Yb t (i+1):=by
 obtain ⟨a0,a1⟩:=ha;obtain ⟨b0,b1⟩:=hb
 have hne:l.1.toNat≠l.2.1.toNat:=by omega
 rw [zd3 (by omega)] at hu
 rw [List.getElem?_set_ne hne,zd3 (by omega)] at hv
 have hu:=Option.some.inj hu;have hv:=Option.some.inj hv
 have k1:=zDd (t.2.2.take i) l.1.toNat;have k2:=zDd (t.2.2.take i) l.2.1.toNat
 have k3:(t.2.2.take i).length≤24:=by simp;omega
 rw [qU (by omega) (by omega),qU (by omega) (by omega)]
 apply List.ext_getElem?
 intro n
 by_cases hn:n < t.1.toNat
 ·rw [zd3 hn,zFg h,List.getElem?_set,List.getElem?_set,zd3 hn]
  unfold one
  simp only [List.length_set,zbx]
  grind
 ·rw [List.getElem?_eq_none (by simp [zbx];omega),List.getElem?_eq_none (by simp [zbx];omega)]
theorem zHF (t:jm):List.replicate t.1.toNat (0:Int)=Yb t 0:=by
 apply List.ext_getElem?
 intro n
 by_cases hn:n < t.1.toNat
 ·rw [zd3 hn];simp [hn,cnt]
 ·rw [List.getElem?_eq_none (by simp;omega),List.getElem?_eq_none (by simp [zbx];omega)]
theorem zFh (t:jm) {n:Nat} (h:n < t.1.toNat):(Yb t t.2.2.length)[n]?=some (cnt t.2.2 n):=by rw [zd3 h,List.take_length]
theorem zrp.nodes {t:jm} {l:VK} (h:zrp t l):kz t l.1∧kz t l.2.1:=⟨h.1,h.2.1⟩
theorem zzF {t:jm} (h:¬szP t):¬ug t:=fun h'=>h h'.sz
theorem zzG {t:jm} (h:¬zlC t):¬ug t:=fun h'=>h h'.ls
def chk (t:jm) (i:Nat) (l:VK) (c:Nat):Prop:=match c with
 |0=>kz t l.1∧kz t l.2.1∧l.1≠l.2.1
 |1=>¬(stn t l.1=true∧stn t l.2.1=true)
 |2=>∀(k:Nat) o,k < i→t.2.2[k]?=some o→¬zcR o l.1 l.2.1
 |_=>1≤l.2.2.1∧l.2.2.1≤1000∧0≤l.2.2.2∧l.2.2.2≤10000
theorem zuI {t:jm} (hs:szP t):Vc (t,())=some (tv (zlC t),()):=by
 have n0:=hs.n0;have n1:=hs.n1;have h3:=hs.ls;have h4:=hs.st
 rw [zsq];unfold zg3
 refine Wx (zn (J:=fun x=>(x.1=0∧zlC t)∨(x.1=1∧x.2.1.1=false∧¬zlC t))
  (uR t.2.2.length (fun i=>∀l,t.2.2[i]?=some l→zrp t l∧∀(k:Nat) o,k < i→t.2.2[k]?=some o→¬zcR o l.1 l.2.1) (by omega) ?_ ?_) ?_)
 ·intro i hi hp
  have hx:t.2.2[i]?=some t.2.2[i]:=List.getElem?_eq_getElem hi
  generalize hgl:t.2.2[i]=l at hx
  refine zh (qx (show (i:Int) < (t.2.2.length:Int) by omega)) ?_
  refine zn (J:=fun x=>(x.1=0∧x.2.1.1=false∧∀c,c < 4→chk t i l c)∨(x.1=1∧x.2.1.1=false∧∃c,¬chk t i l c)) (uR 4 (chk t i l) (by omega) ?_ ?_) ?_
  ·intro c hc hpc
   refine zh (qx (show (c:Int) < 4 by omega)) ?_
   have:c=0∨c=1∨c=2∨c=3:=by omega
   rcases this with rfl | rfl | rfl | rfl
   ·refine zh (wa rfl) (zo (zP (n:=i) hx ?_))
    rw [zma]
    refine zq (fun h1=>?_) (fun h1=>?_)
    ·rw [zma]
     refine zq (fun h2=>?_) (fun h2=>?_)
     ·refine zq (fun h=>?_) (fun h=>?_)
      ·have:=jg (show zj l.1 l.2.1=true by simpa using h)
       exact zd (zE (.inr ⟨rfl,rfl,0,fun hq=>hq.2.2 this⟩))
      ·have:=jO (show zj l.1 l.2.1=false by simpa using h)
       exact zd (Zl (by omega) ⟨zer h1,zer h2,this⟩)
     ·exact zd (zE (.inr ⟨rfl,rfl,0,fun hq=>zaM h2 hq.2.1⟩))
    ·exact zd (zE (.inr ⟨rfl,rfl,0,fun hq=>zaM h1 hq.1⟩))
   ·obtain ⟨⟨a0,a1⟩,⟨b0,b1⟩,hab⟩:=hpc 0 (by omega)
    refine zg rfl (zh (wa rfl) (zo (zP (n:=i) hx ?_)))
    refine zo (JJ a0 (by show l.1 < _;omega) fun x hx1=>?_)
    have e1:=zuH hx1
    refine zq (fun h1=>?_) (fun h1=>?_)
    ·exact zd (Zl (by omega) (by show ¬_;grind))
    ·refine zo (JJ b0 (by show l.2.1 < _;omega) fun y hy1=>?_)
     have e2:=zuH hy1
     refine zq (fun h2=>?_) (fun h2=>?_)
     ·exact zd (zE (.inr ⟨rfl,rfl,1,fun hq=>hq (by grind)⟩))
     ·exact zd (Zl (by omega) (by show ¬_;grind))
   ·refine zg rfl (zg rfl (zh (wa rfl) (zo (zP (n:=i) hx ?_))))
    refine zo (ve (zAc t.2.2 i (by omega)) ?_)
    have lt:(t.2.2.take i).length=i:=by simp;omega
    refine zn (J:=fun x=>(x.1=0∧∀(k:Nat) o,k < i→t.2.2[k]?=some o→¬zcR o l.1 l.2.1)∨(x.1=1∧x.2.1.1=false∧∃(k:Nat) (o:VK),k < i∧t.2.2[k]?=some o∧zcR o l.1 l.2.1))
     (uR i (fun k=>∀o,t.2.2[k]?=some o→¬zcR o l.1 l.2.1) (by omega) ?_ ?_) ?_
    ·intro k hk hpk
     have hy:t.2.2[k]?=some t.2.2[k]:=List.getElem?_eq_getElem (by omega)
     have hy':(t.2.2.take i)[k]?=some t.2.2[k]:=by rw [List.getElem?_take];simp [hk,hy]
     generalize hgo:t.2.2[k]=o at hy hy'
     refine zh (qx (show (k:Int) < (((t.2.2.take i).length:Nat):Int) by omega)) (zo (zP (n:=k) hy' ?_))
     refine zn (J:=fun x=>(x.1=0∧x.2.1.1=false∧¬zcR o l.1 l.2.1)∨(x.1=1∧x.2.1.1=false∧zcR o l.1 l.2.1)) ?_ ?_
     ·unfold zcR
      repeat' first | refine zq (fun h=>?_) (fun h=>?_) | refine zd ?_
      all_goals simp only [wM] at *
      all_goals grind
     ·rintro ⟨j,⟨v,⟨⟩⟩,⟨⟩⟩ (⟨rfl,rfl,hq⟩ | ⟨rfl,rfl,hq⟩)
      ·exact zh rfl (zd (Zl (by omega) fun o' ho=>by rw [hy] at ho;cases ho;exact hq))
      ·exact zg rfl (zd (zE (.inr ⟨rfl,rfl,k,o,hk,hy,hq⟩)))
    ·intro hpk
     exact zg (qa (show ¬(i:Int) < (((t.2.2.take i).length:Nat):Int) by omega)) (zd (zE (.inl ⟨rfl,fun k' o hk'=>hpk k' hk' o⟩)))
    ·rintro ⟨j,⟨v,w,⟨⟩⟩,⟨⟩⟩ (⟨rfl,hq⟩ | ⟨rfl,rfl,k,o,hk,ho,hj⟩)
     ·exact zh rfl (zd (Zl (by omega) hq))
     ·exact zg rfl (zh rfl (zd (zE (.inr ⟨rfl,rfl,2,fun hq=>hq k o hk ho hj⟩))))
   ·refine zg rfl (zg rfl (zg rfl (zh (wa rfl) (zo (zP (n:=i) hx ?_)))))
    refine zq (fun h1=>?_) (fun h1=>?_)
    ·refine zq (fun h2=>?_) (fun h2=>?_)
     ·refine zq (fun h3=>?_) (fun h3=>?_)
      ·refine zq (fun h4=>?_) (fun h4=>?_)
       ·have:=yF (show zt 10000 l.2.2.2=true by simpa using h4)
        exact zd (zE (.inr ⟨rfl,rfl,3,fun hq=>by have:=hq.2.2.2;omega⟩))
       ·have:=wX (show zt l.2.2.1 1=false by simpa using h1)
        have:=wX (show zt 1000 l.2.2.1=false by simpa using h2)
        have:=wX (show zt l.2.2.2 0=false by simpa using h3)
        have:=wX (show zt 10000 l.2.2.2=false by simpa using h4)
        exact zd (Zl (by omega) ⟨by omega,by omega,by omega,by omega⟩)
      ·have:=yF (show zt l.2.2.2 0=true by simpa using h3)
       exact zd (zE (.inr ⟨rfl,rfl,3,fun hq=>by have:=hq.2.2.1;omega⟩))
     ·have:=yF (show zt 1000 l.2.2.1=true by simpa using h2)
      exact zd (zE (.inr ⟨rfl,rfl,3,fun hq=>by have:=hq.2.1;omega⟩))
    ·have:=yF (show zt l.2.2.1 1=true by simpa using h1)
     exact zd (zE (.inr ⟨rfl,rfl,3,fun hq=>by have:=hq.1;omega⟩))
  ·intro hpc
   exact zg (qa (show ¬((4:Nat):Int) < 4 by omega)) (zd (zE (.inl ⟨rfl,rfl,hpc⟩)))
  ·rintro ⟨j,⟨v,w,⟨⟩⟩,⟨⟩⟩ (⟨rfl,rfl,hq⟩ | ⟨rfl,rfl,c,hq⟩)
   ·obtain ⟨c0,c0',c0''⟩:=hq 0 (by omega)
    have c1:=hq 1 (by omega);have c2:=hq 2 (by omega)
    obtain ⟨d1,d2,d3,d4⟩:=hq 3 (by omega)
    exact zh rfl (zd (Zl (by omega) fun l' hl'=>by rw [hx] at hl';cases hl';exact ⟨⟨c0,c0',c0'',c1,d1,d2,d3,d4⟩,c2⟩))
   ·refine zg rfl (zd (zE (.inr ⟨rfl,rfl,fun ht=>hq ?_⟩)))
    obtain ⟨⟨c0,c0',c0'',c1,d1,d2,d3,d4⟩,c2⟩:=ht i l hx
    unfold chk
    split
    ·exact ⟨c0,c0',c0''⟩
    ·exact c1
    ·exact c2
    ·exact ⟨d1,d2,d3,d4⟩
 ·intro hp
  exact zg (qa (show ¬(t.2.2.length:Int) < (t.2.2.length:Int) by omega)) (zd (zE (.inl ⟨rfl,fun i l hl=>hp i (by grind) l hl⟩)))
 ·rintro ⟨j,⟨v,w,⟨⟩⟩,⟨⟩⟩ (⟨rfl,hq⟩ | ⟨rfl,rfl,hq⟩)
  ·exact zh rfl (zd ⟨fun _=>hq,fun _=>rfl⟩)
  ·exact zg rfl (zd ⟨fun h=>(by cases h),fun h=>absurd h hq⟩)
abbrev zIj:Bool×Bool×Bool×Bool×Bool×Bool×Bool×Bool×Bool×Bool×Bool×Bool×Bool×Bool×Bool×Bool×Bool×Bool×Bool×Bool×Bool×Bool×Bool×Bool:=(false,(false,(false,(false,(false,(false,(false,(false,(false,(false,(false,(false,(false,(false,(false,(false,(false,(false,(false,(false,(false,(false,(false,false)))))))))))))))))))))))
noncomputable def zFW (q:List Bool) (x4:VK):Option (Nat×(Unit×(List Bool×Unit))):=opt (atI q x4.1) fun x5=>
 opt (gl q (Int.toNat x4.1)) fun x6=>
 opt (atI q x4.2.1) fun x7=>
 opt (gl q (Int.toNat x4.2.1)) fun x8=>
 bif (!(x6 == x8)) then opt (atI q x4.1) fun x9=>
  opt (gl q (Int.toNat x4.1)) fun x10=>
  opt (atI (q.set (Int.toNat x4.1) true) x4.2.1) fun x11=>
  opt (gl (q.set (Int.toNat x4.1) true) (Int.toNat x4.2.1)) fun x12=>
  some (0,((),(((q.set (Int.toNat x4.1) true).set (Int.toNat x4.2.1) true),())))
 else some (0,((),(q,())))
theorem zGH {q:List Bool} {l:VK} {n:Nat} (hq:q.length=n) (a0:0≤l.1) (a1:l.1 < n) (b0:0≤l.2.1) (b1:l.2.1 < n):qp (zFW q l) fun x=>x.2.2.1=stp q l:=by
 unfold zFW
 refine zo (JJ a0 (by omega) fun _ _=>zo (JK (by omega) fun x hx=>zo (JJ b0 (by omega) fun _ _=>zo (JK (by omega) fun y hy=>?_))))
 refine zq (fun h=>?_) (fun h=>?_)
 ·refine zo (JJ a0 (by omega) fun _ _=>zo (JK (by omega) fun _ _=>?_))
  refine zo (JJ b0 (by simp;omega) fun _ _=>zo (JK (by simp;omega) fun _ _=>?_))
  refine zd ?_
  show _=stp q l
  unfold stp
  rw [hx,hy]
  cases x<;>cases y<;>simp at h ⊢
 ·refine zd ?_
  show q=stp q l
  unfold stp
  rw [hx,hy]
  cases x<;>cases y<;>simp at h ⊢
  apply List.ext_getElem?
  intro k
  simp only [List.getElem?_set]
  grind
theorem zuJ {t:jm} (hs:szP t) (hl:∀(i:Nat) l,t.2.2[i]?=some l→kz t l.1∧kz t l.2.1):WL (t,0,zIj,())=some (reachS t 0,()):=by
 have h0:=hs.n0;have h1:=hs.n1;have h3:=hs.ls;have h4:=hs.st
 have e1:t.1.toNat=t.2.1.length:=by omega
 rw [zss];unfold zg4
 refine gr ?_
 refine zh (zuG (by omega) (by omega) (by omega)) ?_
 refine zo (JJ (by omega) (by simp;omega) fun _ _=>zo (JK (by simp;omega) fun _ _=>?_))
 refine zn (J:=fun x=>x.2.2.1=reachS t 0) (qz t.1.toNat (fun i s=>s=(((i:Int),()),(zjm t.2.2 i ((List.replicate t.1.toNat false).set 0 true),()))) (by omega) rfl ?_ ?_) ?_
 ·rintro i _ hi rfl
  refine zh (qx (show (i:Int) < _ by omega)) ?_
  generalize hr:zjm t.2.2 i ((List.replicate t.1.toNat false).set 0 true)=r
  have hrl:r.length=t.1.toNat:=by rw [←hr,zrq];simp
  refine zn (J:=fun x=>x.2.2.1=t.2.2.foldl stp r) (qz t.2.2.length (fun i s=>s=(((i:Int),()),((t.2.2.take i).foldl stp r,()))) (by omega) rfl ?_ ?_) ?_
  ·rintro k _ hk rfl
   refine zh (qx (show (k:Int) < _ by omega)) ?_
   have hx:t.2.2[k]?=some t.2.2[k]:=List.getElem?_eq_getElem hk
   obtain ⟨⟨a0,a1⟩,⟨b0,b1⟩⟩:=hl k _ hx
   have hnx:(t.2.2.take (k+1)).foldl stp r=stp ((t.2.2.take k).foldl stp r) t.2.2[k]:=by
    rw [List.take_add_one,hx,List.foldl_append];rfl
   have hlen:((t.2.2.take k).foldl stp r).length=t.1.toNat:=by rw [zyM,hrl]
   generalize (t.2.2.take k).foldl stp r=q at hnx hlen
   generalize t.2.2[k]=l at hx hnx a0 a1 b0 b1
   refine zo (zP (n:=k) hx ?_)
   have key:=zGH hlen a0 (show l.1 < (t.1.toNat:Nat) by omega) b0 (show l.2.1 < (t.1.toNat:Nat) by omega)
   refine zn (J:=fun x=>x.2.2.1=stp q l) ?_ ?_
   ·rcases (by omega:k=0∨k=1∨k=2∨k=3∨k=4∨k=5∨k=6∨k=7∨k=8∨k=9∨k=10∨k=11∨k=12∨k=13∨k=14∨k=15∨k=16∨k=17∨k=18∨k=19∨k=20∨k=21∨k=22∨k=23) with rfl | rfl | rfl | rfl | rfl | rfl | rfl | rfl | rfl | rfl | rfl | rfl | rfl | rfl | rfl | rfl | rfl | rfl | rfl | rfl | rfl | rfl | rfl | rfl
    all_goals exact key
   ·rintro ⟨j,⟨⟩,q',⟨⟩⟩ hq
    refine zd (qR ?_)
    simp only at hq
    rw [hnx,←hq]
    exact congrArg (fun z=>(((z,()),(q',())):(Int×Unit)×(List Bool×Unit))) (qQ (by omega))
  ·rintro _ rfl
   refine zg (qa (show ¬(t.2.2.length:Int) < _ by omega)) (zd (zE ?_))
   simp
  ·rintro ⟨j,⟨z,⟨⟩⟩,q',⟨⟩⟩ hq
   refine zd (qR ?_)
   simp only at hq
   rw [zvM,hr,←hq]
   exact congrArg (fun z=>(((z,()),(q',())):(Int×Unit)×(List Bool×Unit))) (qQ (by omega))
 ·rintro _ rfl
  exact zg (qa (show ¬((t.1.toNat:Nat):Int) < _ by omega)) (zd (zE rfl))
 ·rintro ⟨j,⟨z,⟨⟩⟩,q',⟨⟩⟩ hq
  exact zd hq
theorem zd4 {l:List Bool} (hn:l.length≤1000000000000000000) (b:Bool):qp (xJ (l,b,())) fun r=>(0≤r.1∧b∈l)∨(r.1 = -1∧¬b∈l):=by
 rw [zc9];unfold JX
 refine zn (J:=fun x=>(x.1=0∧¬b∈l)∨(x.1=1∧0≤x.2.1.1∧b∈l)) (uR l.length (fun i=>l[i]?≠some b) hn ?_ ?_) ?_
 ·intro i hi hp
  have hx:l[i]?=some l[i]:=List.getElem?_eq_getElem hi
  refine zh (qx (show (i:Int) < (l.length:Int) by omega)) (zo (zP (n:=i) hx (zq (fun h=>?_) (fun h=>?_))))
  ·have:b=l[i]:=eq_of_beq h
   exact zd (zE (.inr ⟨rfl,by show (0:Int)≤(i:Int);omega,by rw [this];exact List.getElem_mem hi⟩))
  ·exact zd (Zl (by omega) (by rw [hx];intro e;cases e;simp at h))
 ·intro hp
  refine zg (qa (show ¬(l.length:Int) < (l.length:Int) by omega)) (zd (zE (.inl ⟨rfl,fun hm=>?_⟩)))
  obtain ⟨k,hk⟩:=List.getElem?_of_mem hm
  exact hp k (by grind) hk
 ·rintro ⟨j,⟨v,w,⟨⟩⟩,⟨⟩⟩ (⟨rfl,hp⟩ | ⟨rfl,h0,hp⟩)
  ·exact zh rfl (zd (.inr ⟨rfl,hp⟩))
  ·exact zg rfl (zd (.inl ⟨h0,hp⟩))
theorem zb7 {l:List Bool} (hn:l.length≤1000000000000000000) (b:Bool):yW (l,b,())=some (tv (b∈l),()):=by
 rw [zbi];unfold Qj
 refine Wx (zn (zd4 hn b) ?_)
 rintro ⟨v,⟨⟩⟩ (⟨h,hm⟩ | ⟨rfl,hm⟩)
 ·refine zd ⟨fun _=>hm,fun _=>?_⟩
  show (!zt v 0)=true
  rw [qa (by simp only at h;omega)];rfl
 ·exact zd ⟨fun h=>(by cases h),fun h=>absurd h hm⟩
theorem Wy (t:jm):jQ (t,())=some (bif tv (ug t) then 0 else 260,()):=by
 have good:∀{v:Int},ug t→v=0→v=bif tv (ug t) then 0 else 260:=fun h e=>by rw [zN h,e];rfl
 have bad:∀{v:Int},¬ug t→v=260→v=bif tv (ug t) then 0 else 260:=fun h e=>by rw [qu h,e];rfl
 rw [zst];unfold zg5
 refine gr (zn (J:=fun x=>(x.1=0∧x.2.1.1=0∧2≤t.1∧t.1≤12∧(t.2.1.length:Int)=t.1)∨(x.1=1∧x.2.1.1=260∧¬szP t)) ?_ ?_)
 ·refine zq (fun h=>zd (.inr ⟨rfl,rfl,fun hs=>?_⟩)) (fun h1=>zq (fun h=>zd (.inr ⟨rfl,rfl,fun hs=>?_⟩)) (fun h2=>zq (fun h=>zd (.inr ⟨rfl,rfl,fun hs=>?_⟩)) (fun h3=>zd (.inl ⟨rfl,rfl,?_⟩))))
  ·have:=yF h;have:=hs.n0;omega
  ·have:=yF h;have:=hs.n1;omega
  ·have:=hs.st;rw [wa this] at h;cases h
  ·have h1:=wX h1;have h2:=wX h2
   exact ⟨h1,h2,jg (by simpa using h3)⟩
 rintro ⟨j,⟨v,⟨⟩⟩,⟨⟩⟩ (⟨rfl,rfl,h1,h2,h3⟩ | ⟨rfl,rfl,hs⟩)
 rotate_left
 ·exact zg rfl (zd (bad (zzF hs) rfl))
 refine zh rfl (zn (J:=fun x=>(x.1=0∧x.2.1.1=0∧szP t∧zlC t)∨(x.1=1∧x.2.1.1=260∧¬ug t)) ?_ ?_)
 ·refine zq (fun h=>zd (.inr ⟨rfl,rfl,fun hs=>?_⟩)) (fun h4=>?_)
  ·have:=yF h;have:=hs.sz.ls;omega
  have h4:=wX h4
  have hs:szP t:=⟨h1,h2,h3,by omega⟩
  rw [zuI hs]
  refine zq (fun h=>?_) (fun h=>?_)
  ·exact zd (.inr ⟨rfl,rfl,zzG (Um h)⟩)
  ·exact zd (.inl ⟨rfl,rfl,hs,zaN h⟩)
 rintro ⟨j,⟨v,⟨⟩⟩,⟨⟩⟩ (⟨rfl,rfl,hs,hls⟩ | ⟨rfl,rfl,ht⟩)
 rotate_left
 ·exact zg rfl (zd (bad ht rfl))
 have h5:=hs.ls
 refine zh rfl (zh (zuG (by omega) (by omega) (by omega)) ?_)
 refine zn (J:=fun x=>x.2.2.1=Yb t t.2.2.length) (qz t.2.2.length (fun i s=>s=(((i:Int),()),(Yb t i,()))) (by omega) (by rw [zHF];rfl) ?_ ?_) ?_
 ·rintro i _ hi rfl
  have hx:t.2.2[i]?=some t.2.2[i]:=List.getElem?_eq_getElem hi
  refine zh (qx (show (i:Int) < (t.2.2.length:Int) by omega)) (zo (zP (n:=i) hx ?_))
  generalize t.2.2[i]=l at hx
  have hl:=(hls i l hx).1
  obtain ⟨⟨a0,a1⟩,⟨b0,b1⟩⟩:=hl.nodes
  have lc:=zbx t i
  refine zo (JJ a0 (by show _ < (((Yb t i).length:Nat):Int);omega) fun _ _=>zo (JK (by show _ < (Yb t i).length;omega) fun u hu=>zo (JJ a0 (by show _ < (((Yb t i).length:Nat):Int);omega) fun _ _=>zo (JK (by show _ < (Yb t i).length;omega) fun _ _=>?_))))
  refine zo (JJ b0 (by show _ < ((((Yb t i).set _ _).length:Nat):Int);simp;omega) fun _ _=>zo (JK (by show _ < ((Yb t i).set _ _).length;simp;omega) fun w hw=>zo (JJ b0 (by show _ < ((((Yb t i).set _ _).length:Nat):Int);simp;omega) fun _ _=>zo (JK (by show _ < ((Yb t i).set _ _).length;simp;omega) fun _ _=>?_))))
  refine zd (qR ?_)
  have e:=zDe hx hs.ls hl.1 hl.2.1 hl.2.2.1 hu hw
  show (((wrF .i64 ((i:Int)+1)),()),((((Yb t i).set l.1.toNat (wrF .i64 (u+1))).set l.2.1.toNat (wrF .i64 (w+1))),()))=_
  rw [e,qQ (by omega)]
 ·rintro _ rfl
  exact zg (qa (show ¬(t.2.2.length:Int) < (t.2.2.length:Int) by omega)) (zd (zE rfl))
 rintro ⟨j,⟨z,⟨⟩⟩,c,⟨⟩⟩ hc
 simp only at hc
 subst hc
 refine zn (J:=fun x=>(x.1=0∧∀(n:Nat),(n:Int) < t.1→stn t n=true→1≤cnt t.2.2 n∧cnt t.2.2 n≤2)∨(x.1=1∧x.2.1.1=260∧¬ug t)) (uR t.2.1.length (fun n=>stn t n=true→1≤cnt t.2.2 n∧cnt t.2.2 n≤2) (by omega) ?_ ?_) ?_
 ·intro n hn hp
  have hst:t.2.1[n]?=some t.2.1[n]:=List.getElem?_eq_getElem (by omega)
  have e1:=zHE hst
  have hn':n < t.1.toNat:=by omega
  have e2:=zFh t hn'
  refine zh (qx (show (n:Int) < (t.2.1.length:Int) by omega)) (zo (zP (n:=n) hst ?_))
  refine zn (J:=fun x=>(x.1=0∧x.2.1.1=0∧(stn t n=true→1≤cnt t.2.2 n∧cnt t.2.2 n≤2))∨(x.1=1∧x.2.1.1=260∧¬ug t)) (zq (fun h5=>?_) (fun h5=>?_)) ?_
  ·refine zo (zP (n:=n) e2 (zo (JK (by show n < _;rw [zbx];exact hn') fun u hu=>?_)))
   have hu:u=cnt t.2.2 n:=by have hu:(Yb t t.2.2.length)[n]?=some u:=hu;rw [e2] at hu;exact (Option.some.inj hu).symm
   subst hu
   refine zq (fun h6=>?_) (fun h6=>?_)
   ·have:=yF h6
    exact zd (.inr ⟨rfl,rfl,fun ht=>by have:=ht.ct n (by omega) (by grind);omega⟩)
   refine zo (zP (n:=n) e2 (zo (JK (by show n < _;rw [zbx];exact hn') fun u hu=>?_)))
   have hu:u=cnt t.2.2 n:=by have hu:(Yb t t.2.2.length)[n]?=some u:=hu;rw [e2] at hu;exact (Option.some.inj hu).symm
   subst hu
   refine zq (fun h7=>?_) (fun h7=>?_)
   ·have:=yF h7
    exact zd (.inr ⟨rfl,rfl,fun ht=>by have:=ht.ct n (by omega) (by grind);omega⟩)
   ·have:=wX h6;have:=wX h7
    exact zd (.inl ⟨rfl,rfl,fun _=>⟨by omega,by omega⟩⟩)
  ·exact zd (.inl ⟨rfl,rfl,fun hc=>by grind⟩)
  ·rintro ⟨j,⟨v,⟨⟩⟩,⟨⟩⟩ (⟨rfl,rfl,hq⟩ | ⟨rfl,rfl,hq⟩)
   ·exact zh rfl (zd (Zl (by omega) hq))
   ·exact zg rfl (zd (zE (.inr ⟨rfl,rfl,hq⟩)))
 ·intro hp
  exact zg (qa (show ¬(t.2.1.length:Int) < (t.2.1.length:Int) by omega)) (zd (zE (.inl ⟨rfl,fun n hn=>hp n (by omega)⟩)))
 rintro ⟨j,⟨v,w,⟨⟩⟩,⟨⟩⟩ (⟨rfl,hct⟩ | ⟨rfl,rfl,hq⟩)
 rotate_left
 ·exact zg rfl (zd (bad hq rfl))
 have hrl:(reachS t 0).length=t.1.toNat:=by unfold reachS;rw [zrq];simp
 refine zh rfl ?_
 rw [show WL (t,0,_,())=some (reachS t 0,()) from zuJ hs (fun i l hl=>(hls i l hl).1.nodes),zF]
 rw [zb7 (by show (reachS t 0).length≤_;omega),zF]
 refine zq (fun h=>?_) (fun h=>?_)
 ·refine zd (bad (fun ht=>?_) rfl)
  obtain ⟨k,hk⟩:=List.getElem?_of_mem (zer h)
  have:=ht.re k (by grind)
  rw [this] at hk;cases hk
 ·refine zd (good ⟨hs,hls,fun n hn=>?_,hct⟩ rfl)
  have hr:(reachS t 0)[n]?=some (reachS t 0)[n]:=List.getElem?_eq_getElem (by omega)
  rw [hr]
  cases e:(reachS t 0)[n] with
  |true=>rfl
  |false=>exact absurd (by rw [←e];exact List.getElem_mem _) (zaM h)
def QZ (t:jm) (p:Int):Prop:=0≤p∧p < 2*(t.2.2.length:Int)
def lnk (t:jm) (p:Int):VK:=(t.2.2[p.toNat / 2]?).getD (0,0,0,0)
def frm (t:jm) (p:Int):Int:=if p % 2=1 then (lnk t p).2.1 else (lnk t p).1
def too (t:jm) (p:Int):Int:=if p % 2=1 then (lnk t p).1 else (lnk t p).2.1
theorem zBJ {p:Int} (h:0≤p) (h2:p≤1000000000000000000):wrF .i64 (Int.tdiv p 2)=((p.toNat / 2:Nat):Int):=by
 rw [Int.tdiv_eq_ediv_of_nonneg h,qU (by omega) (by omega)];omega
theorem par {p:Int} (h:0≤p):Int.tmod p 2=p % 2:=Int.tmod_eq_emod_of_nonneg h
theorem zd5 {t:jm} {p:Int} (h:QZ t p):t.2.2[p.toNat / 2]?=some (lnk t p):=by
 have:=h.1;have:=h.2
 have hx:t.2.2[p.toNat / 2]?=some (t.2.2[p.toNat / 2]'(by omega)):=List.getElem?_eq_getElem (by omega)
 unfold lnk;rw [hx];rfl
theorem tw (t:jm) (h:t.2.2.length≤1000000000000000):wrF .i64 (2*(t.2.2.length:Int))=2*(t.2.2.length:Int):=qU (by omega) (by omega)
theorem zyN {t:jm} (hl:zlC t) {p:Int} (h:QZ t p):kz t (frm t p)∧kz t (too t p)∧frm t p≠too t p:=by
 have:=(hl _ _ (zd5 h)).1
 have h1:=this.1;have h2:=this.2.1;have h3:=this.2.2.1
 unfold frm too
 split
 ·exact ⟨h2,h1,fun e=>h3 e.symm⟩
 ·exact ⟨h1,h2,h3⟩
theorem zlD {t:jm} (h:t.2.2.length≤1000000000000000) {p:Int} (hp:QZ t p):zt p 0=false∧(!zt p (wrF .i64 (2*(t.2.2.length:Int))))=false:=by
 have:=hp.1;have:=hp.2
 rw [tw t h,qa (by omega),qx (by omega)];simp
theorem zyO {t:jm} (ht:ug t) {p:Int} (hp:QZ t p):Zi (t,p,())=some ((lnk t p).2.2.1,0,()):=by
 have hl:t.2.2.length≤1000000000000000:=by have:=ht.sz.ls;omega
 have:=hp.1;have:=hp.2
 obtain ⟨e1,e2⟩:=zlD hl hp
 rw [zwb];unfold zlm
 simp only [Wy,zF,zN ht,cond_true,wa,Bool.not_true,cond_false,e1,e2,zBJ hp.1 (show p≤1000000000000000000 by omega),Qx (zd5 hp),zpv,zdY]
 rfl
theorem zuK {t:jm} (ht:ug t) {p:Int} (hp:QZ t p):WU (t,p,())=some ((lnk t p).2.2.2,0,()):=by
 have hl:t.2.2.length≤1000000000000000:=by have:=ht.sz.ls;omega
 have:=hp.1;have:=hp.2
 obtain ⟨e1,e2⟩:=zlD hl hp
 rw [zsV];unfold zhv
 simp only [Wy,zF,zN ht,cond_true,wa,Bool.not_true,cond_false,e1,e2,zBJ hp.1 (show p≤1000000000000000000 by omega),Qx (zd5 hp),zmA,zbq]
 rfl
def zY (t:jm) (r:List Int):List Int:=match r with
 |[]=>[]
 |p::_=>frm t p::r.map (too t)
theorem zbT (t:jm) {r:List Int} (h:r≠[]):(zY t r).length=r.length+1:=by
 cases r with
 |nil=>exact absurd rfl h
 |cons p r=>simp [zY]
theorem zAd (t:jm) {r:List Int} {p:Int} (h:r[0]?=some p):(zY t r)[0]?=some (frm t p):=by
 cases r with
 |nil=>cases h
 |cons q r=>simp at h;subst h;rfl
theorem zcS (t:jm) {r:List Int} {i:Nat} {p:Int} (h:r[i]?=some p):(zY t r)[i+1]?=some (too t p):=by
 cases r with
 |nil=>cases h
 |cons q r=>simp only [zY,List.getElem?_cons_succ,List.getElem?_map,h,Option.map_some]
theorem KL {t:jm} (h:t.2.2.length≤1000000000000000) {r:List Int} (h0:r≠[]) (h8:r.length≤8) (hp:∀p∈r,QZ t p):xW (t,r,())=some (zY t r,()):=by
 rw [zjX];unfold Gp
 rw [show wrF .i64 ((r.length:Int)+1)=(r.length:Int)+1 from qU (by omega) (by omega)]
 refine gr (zh (zuG (by omega) (by omega) (by omega)) ?_)
 refine zn (J:=fun x=>x.2.2.1.1=zY t r) (qz r.length (fun i s=>s=(((i:Int),()),((((zY t r).take (if i=0 then 0 else i+1)),()),((),((),()))))) (by omega) rfl ?_ ?_) ?_
 ·rintro i _ hi rfl
  have hx:r[i]?=some r[i]:=List.getElem?_eq_getElem hi
  have hpi:=hp _ (List.getElem_mem hi)
  generalize r[i]=p at hx hpi
  have:=hpi.1;have:=hpi.2
  refine zh (qx (show (i:Int) < (r.length:Int) by omega)) (zo (zP (n:=i) hx ?_))
  obtain ⟨e1,e2⟩:=zlD h hpi
  refine zg e1 (zg e2 ?_)
  rw [zBJ hpi.1 (by omega),Qx (zd5 hpi),zF]
  refine zn (J:=fun x=>x.2.1.1.2.1=frm t p∧x.2.1.1.2.2=too t p) ?_ ?_
  ·rw [par hpi.1]
   unfold frm too
   refine zq (fun h=>?_) (fun h=>?_)
   ·have:=jg h
    exact zd (by simp [this])
   ·have:=jO h
    exact zd (by simp [this])
  rintro ⟨j,⟨⟨u,v,w⟩,⟨⟩⟩,⟨⟩,⟨⟩,⟨⟩⟩ ⟨rfl,rfl⟩
  have hl:=zbT t h0
  refine zn (J:=fun x=>x.2.2.1.1=(zY t r).take (i+1)) (zq (fun h=>?_) (fun h=>?_)) ?_
  ·have:=jg h
   have hi0:i=0:=by simp only at this;omega
   subst hi0
   refine zh (QR (by simp) (by simp)) (zd ?_)
   show List.take 0 (zY t r)++[frm t p]=_
   rw [List.take_add_one,zAd t hx];rfl
  ·have:=jO h
   have hi0:i≠0:=by intro e;apply this;simp only [e];rfl
   exact zd (by show (zY t r).take (if i=0 then 0 else i+1)=_;rw [if_neg hi0])
  ·rintro ⟨j,⟨⟩,⟨⟨c,⟨⟩⟩,⟨⟩,⟨⟩⟩⟩ hc
   simp only at hc
   subst hc
   refine zh (QR (by show (((zY t r).take (i+1)).length+1)*8≤_;simp;omega) (by show ((zY t r).take (i+1)).length+1≤_;simp;omega)) (zd (qR ?_))
   have e:(zY t r).take (i+1+1)=(zY t r).take (i+1)++[too t p]:=by
    rw [List.take_add_one,zcS t hx];rfl
   have e2:(if i+1=0 then 0 else i+1+1)=i+1+1:=if_neg (by omega)
   rw [e2,e,←qQ (by omega)]
 ·rintro _ rfl
  refine zg (qa (show ¬(r.length:Int) < (r.length:Int) by omega)) (zd (zE ?_))
  have:r.length≠0:=fun e=>h0 (List.length_eq_zero_iff.1 e)
  show (zY t r).take (if r.length=0 then 0 else r.length+1)=_
  rw [if_neg this,List.take_of_length_le (by rw [zbT t h0];omega)]
 ·rintro ⟨j,⟨z,⟨⟩⟩,⟨c,⟨⟩⟩,⟨⟩,⟨⟩,⟨⟩⟩ hc
  exact zd hc
def ziH (t:jm) (r:List Int) (i:Nat) (p:Int):Prop:=¬too t p∈(zY t r).take (i+1)∧(0 < i→∀n,(zY t r)[i]?=some n→stn t n=false∧frm t p=n)
structure xm (t:jm) (r:List Int):Prop where
 n0:1≤r.length
 n1:r.length≤8
 pt:∀p∈r,QZ t p
 st:∀(i:Nat) p,r[i]?=some p→ziH t r i p
theorem xm.ne {t:jm} {r:List Int} (h:xm t r):r≠[]:=by
 intro e;have:=h.n0;rw [e] at this;simp at this
theorem ug.ll {t:jm} (h:ug t):t.2.2.length≤1000000000000000:=by have:=h.sz.ls;omega
theorem kz.get {t:jm} (hs:szP t) {n:Int} (h:kz t n):t.2.1[n.toNat]?=some (stn t n):=by
 have hx:t.2.1[n.toNat]?=some (t.2.1[n.toNat]'(h.lt hs)):=List.getElem?_eq_getElem (h.lt hs)
 rw [hx,zuH hx]
def zcT (t:jm) (r:List Int) (i:Nat):List Bool:=(List.range 12).map fun n=>decide (((n:Nat):Int)∈(zY t r).take (if i=0 then 0 else i+1))
theorem zFi (t:jm) (r:List Int) (i:Nat):(zcT t r i).length=12:=by simp [zcT]
def atS (t:jm) (r:List Int) (i:Nat):Int:=if i=0 then 0 else ((zY t r)[i]?).getD 0
theorem zvN {f g:Nat→Bool} (h:∀n,n < 12→f n=g n):(List.range 12).map f=(List.range 12).map g:=List.map_congr_left fun n hn=>h n (List.mem_range.1 hn)
theorem zvO {f:Nat→Bool} {k:Nat} (hk:k < 12):((List.range 12).map f).set k true=(List.range 12).map fun n=>(f n||n == k):=by
 apply List.ext_getElem?
 intro n
 rw [List.getElem?_set]
 by_cases h:n < 12
 ·by_cases e:k=n
  ·subst e;simp [h]
  ·have:(n == k)=false:=by simp;omega
   simp [h,e,this]
 ·rw [List.getElem?_eq_none (by simp;omega),List.getElem?_eq_none (by simp;omega)]
  split<;>simp<;>omega
theorem zcU {t:jm} (ht:ug t) (r:List Int):xX (t,r,())=some (tv (xm t r),()):=by
 have hll:=ht.ll
 have n1:=ht.sz.n1
 rw [zjY];unfold Gq
 refine Wx (zn (J:=fun x=>(x.1=0∧x.2.1.1=false∧1≤r.length∧r.length≤8)∨(x.1=1∧x.2.1.1=false∧¬xm t r)) ?_ ?_)
 ·refine zq (fun h=>zd (.inr ⟨rfl,rfl,fun hs=>?_⟩)) (fun h1=>zq (fun h=>zd (.inr ⟨rfl,rfl,fun hs=>?_⟩)) (fun h2=>zd (.inl ⟨rfl,rfl,?_⟩)))
  ·have:=yF h;have:=hs.n0;omega
  ·have:=yF h;have:=hs.n1;omega
  ·have h1:=wX h1;have h2:=wX h2;omega
 rintro ⟨j,⟨v,⟨⟩⟩,⟨⟩⟩ (⟨rfl,rfl,h1,h8⟩ | ⟨rfl,rfl,hq⟩)
 rotate_left
 ·exact zg rfl (zd ⟨fun h=>(by cases h),fun h=>absurd h hq⟩)
 have hne:r≠[]:=by intro e;rw [e] at h1;simp at h1
 have hnl:=zbT t hne
 refine zh rfl (zn (J:=fun x=>(x.2.1.2.1=(r.length:Int)∧xm t r)∨(x.2.1.2.1 < (r.length:Int)∧¬xm t r))
  (qz r.length (fun i s=>s=((atS t r i,((i:Int),((i:Int),()))),(zcT t r i,((),((),()))))∧∀(k:Nat),k < i→∀p,r[k]?=some p→QZ t p∧ziH t r k p) (by omega) ⟨rfl,fun k hk=>by omega⟩ ?_ ?_) ?_)
 ·rintro i _ hi ⟨rfl,hp⟩
  have hx:r[i]?=some r[i]:=List.getElem?_eq_getElem hi
  have hmem:=List.getElem_mem hi
  generalize r[i]=p at hx hmem
  have bad:∀{x:Nat×((Int×(Int×(Int×Unit)))×(List Bool×(Unit×(Unit×Unit))))},x.2.1.2.1=(i:Int)→¬xm t r→(x.2.1.2.1=(r.length:Int)∧xm t r)∨(x.2.1.2.1 < (r.length:Int)∧¬xm t r):=fun e hq=>.inr ⟨by rw [e];omega,hq⟩
  refine zh (qx (show (i:Int) < (r.length:Int) by omega)) (zo (zP (n:=i) hx ?_))
  refine zq (fun h=>zd (zE (bad rfl fun hr=>?_))) (fun hp0=>zq (fun h=>zd (zE (bad rfl fun hr=>?_))) (fun hp1=>?_))
  ·have:=yF h;have:=(hr.pt p hmem).1;omega
  ·have:=hr.pt p hmem
   rw [(zlD hll this).2] at h;cases h
  have hpi:QZ t p:=by
   have:=wX hp0
   rw [tw t hll] at hp1
   have:=yF (show zt p (2*(t.2.2.length:Int))=true by simpa using hp1)
   exact ⟨by omega,by omega⟩
  have:=hpi.1;have:=hpi.2
  obtain ⟨⟨f0,f1⟩,⟨g0,g1⟩,hfg⟩:=zyN ht.ls hpi
  rw [zBJ hpi.1 (by omega),Qx (zd5 hpi),zF]
  refine zn (J:=fun x=>x.1=0∧x.2.1.1.2.1=frm t p∧x.2.1.1.2.2=too t p) ?_ ?_
  ·rw [par hpi.1]
   unfold frm too
   refine zq (fun h=>?_) (fun h=>?_)
   ·have:=jg h
    exact zd (by simp [this])
   ·have:=jO h
    exact zd (by simp [this])
  rintro ⟨j,⟨⟨u,v,w⟩,⟨⟩⟩,⟨⟩,⟨⟩,⟨⟩⟩ ⟨rfl,rfl,rfl⟩
  have hsl:=zFi t r i
  have htk:(zY t r).take (i+1+1)=(zY t r).take (i+1)++[too t p]:=by
   rw [List.take_add_one,zcS t hx];rfl
  refine zh rfl (zn (J:=fun x=>(x.1=0∧x.2.2.1=(List.range 12).map (fun n=>decide (((n:Nat):Int)∈(zY t r).take (i+1)))∧(0 < i→∀n,(zY t r)[i]?=some n→stn t n=false∧frm t p=n))∨(x.1=1∧¬xm t r)) (zq (fun h=>?_) (fun h=>?_)) ?_)
  ·have h0:=jg (show zj (i:Int) 0=true from h)
   have hi0:i=0:=by omega
   subst hi0
   refine zh (qx (show frm t p < 12 by omega)) (zo (JJ f0 (by show frm t p < (((zcT t r 0).length:Nat):Int);omega) fun _ _=>zo (JK (by show (frm t p).toNat < (zcT t r 0).length;omega) fun _ _=>?_)))
   refine zd (.inl ⟨rfl,?_,fun h=>by omega⟩)
   show (zcT t r 0).set (frm t p).toNat true=_
   unfold zcT
   rw [zvO (by omega)]
   refine zvN fun n hn=>?_
   rw [List.take_add_one,zAd t hx]
   simp only [if_true,List.take_zero,List.nil_append,Option.toList,List.mem_singleton,List.not_mem_nil,decide_false,Bool.false_or]
   rw [Bool.eq_iff_iff];simp only [beq_iff_eq,decide_eq_true_eq];omega
  ·have h0:=jO (show zj (i:Int) 0=false from h)
   have hi0:i≠0:=fun e=>h0 (by rw [e];rfl)
   have hxn:(zY t r)[i]?=some (zY t r)[i]:=List.getElem?_eq_getElem (by omega)
   have hat:atS t r i=(zY t r)[i]:=by unfold atS;rw [if_neg hi0,hxn];rfl
   have hn:kz t (zY t r)[i]:=by
    obtain ⟨m,rfl⟩:∃m,i=m+1:=⟨i - 1,by omega⟩
    have hy:r[m]?=some r[m]:=List.getElem?_eq_getElem (by omega)
    have e:=zcS t hy
    rw [hxn] at e
    rw [Option.some.inj e]
    exact (zyN ht.ls (hp m (by omega) _ hy).1).2.1
   generalize (zY t r)[i]=n at hxn hat hn
   refine zq (fun h2=>?_) (fun h2=>?_)
   ·refine zd (.inr ⟨rfl,fun hr=>?_⟩)
    have:=((hr.st i p hx).2 (by omega) n hxn).2
    have h2':(!zj (frm t p) (atS t r i))=true:=h2
    rw [hat,wa this] at h2';cases h2'
   ·have h2':(!zj (frm t p) (atS t r i))=false:=h2
    have e1:=jg (show zj (frm t p) (atS t r i)=true by simpa using h2')
    refine zo (ve (a:=stn t n) (by show atI t.2.1 (atS t r i)=_;rw [hat,show n=((n.toNat:Nat):Int) from (by have:=hn.1;omega),Qx (n:=n.toNat)];exact hn.get ht.sz) ?_)
    refine zq (fun h4=>?_) (fun h4=>?_)
    ·refine zd (.inr ⟨rfl,fun hr=>?_⟩)
     have:=((hr.st i p hx).2 (by omega) n hxn).1
     rw [this] at h4;cases h4
    ·refine zd (.inl ⟨rfl,?_,fun _ m hm=>by rw [hxn] at hm;cases hm;exact ⟨h4,by rw [e1,hat]⟩⟩)
     show zcT t r i=_
     unfold zcT
     rw [if_neg hi0]
  ·rintro ⟨j,⟨⟩,c,⟨⟩,⟨⟩⟩ (⟨rfl,hc,hst⟩ | ⟨rfl,hq⟩)
   rotate_left
   ·exact zg rfl (zd (zE (bad rfl hq)))
   simp only at hc
   have hcl:c.length=12:=by rw [hc];simp
   refine zh rfl (zh (qx (show too t p < 12 by omega)) (zo (JJ g0 (by show too t p < ((c.length:Nat):Int);omega) fun _ _=>zo (JK (by show (too t p).toNat < c.length;omega) fun x hx2=>?_))))
   have hx2':c[(too t p).toNat]?=some x:=hx2
   have hmt:(((too t p).toNat:Nat):Int)=too t p:=by omega
   have hxe:x=decide (too t p∈(zY t r).take (i+1)):=by
    rw [hc] at hx2'
    simp only [List.getElem?_map,List.getElem?_range (show (too t p).toNat < 12 by omega),Option.map_some,hmt] at hx2'
    exact (Option.some.inj hx2').symm
   refine zq (fun h6=>?_) (fun h6=>?_)
   ·subst h6
    refine zd (zE (bad rfl fun hr=>(hr.st i p hx).1 ?_))
    exact of_decide_eq_true hxe.symm
   ·subst h6
    have hnm:¬too t p∈(zY t r).take (i+1):=of_decide_eq_false hxe.symm
    refine zh (qx (show too t p < 12 by omega)) (zo (JJ g0 (by show too t p < ((c.length:Nat):Int);omega) fun _ _=>zo (JK (by show (too t p).toNat < c.length;omega) fun _ _=>?_)))
    refine zd (qR ⟨?_,fun k hk q hq=>?_⟩)
    ·have e1:atS t r (i+1)=too t p:=by unfold atS;rw [if_neg (by omega),zcS t hx];rfl
     have e2:c.set (too t p).toNat true=zcT t r (i+1):=by
      rw [hc,zvO (by omega)]
      unfold zcT
      rw [if_neg (by omega),htk]
      refine zvN fun n hn=>?_
      rw [Bool.eq_iff_iff]
      simp only [Bool.or_eq_true,decide_eq_true_eq,beq_iff_eq,List.mem_append,List.mem_singleton]
      constructor
      ·rintro (h | h)
       ·exact .inl h
       ·right;omega
      ·rintro (h | h)
       ·exact .inl h
       ·right;omega
     rw [e1,←e2,←qQ (by omega)]
    ·rcases Nat.lt_or_ge k i with hki | hki
     ·exact hp k hki q hq
     ·have:k=i:=by omega
      subst this
      rw [hx] at hq;cases hq
      exact ⟨hpi,hnm,hst⟩
 ·rintro _ ⟨rfl,hp⟩
  refine zg (qa (show ¬(r.length:Int) < (r.length:Int) by omega)) (zd (zE (.inl ⟨rfl,h1,h8,fun p hm=>?_,fun i p hi=>(hp i (by grind) p hi).2⟩)))
  obtain ⟨k,hk⟩:=List.getElem?_of_mem hm
  exact (hp k (by grind) p hk).1
 ·rintro ⟨j,⟨v,w,z,⟨⟩⟩,c,⟨⟩,⟨⟩,⟨⟩⟩ (⟨hg,hr⟩ | ⟨hg,hr⟩)
  ·simp only at hg
   refine zq (fun _=>?_) (fun _=>?_)<;>exact zd ⟨fun _=>hr,fun _=>wa hg⟩
  ·simp only at hg
   refine zq (fun _=>?_) (fun _=>?_)<;>exact zd ⟨fun h=>by have:=jg h;simp only at this;omega,fun h=>absurd h hr⟩
def zab (a b:List Int):Prop:=∃p∈a,∃q∈b,Int.tdiv p 2=Int.tdiv q 2
def za0 (a:List Int):List Int:=(a.take (a.length - 1)).drop 1
def KM (a b:List Int):Prop:=∃n∈za0 a,n∈b
def zs4 (t:jm) (a b:List Int):Prop:=¬zab a b∧¬KM (zY t a) (zY t b)∧¬KM (zY t b) (zY t a)
theorem zH6 {p:Int} (h : -9223372036854775808≤p) (h2:p≤9223372036854775807):wrF .i64 (Int.tdiv p 2)=Int.tdiv p 2:=by
 rcases Int.le_total 0 p with h0 | h0
 ·rw [Int.tdiv_eq_ediv_of_nonneg h0];exact qU (by omega) (by omega)
 ·have e:Int.tdiv p 2 = -((-p) / 2):=by
   rw [←Int.tdiv_eq_ediv_of_nonneg (by omega),Int.neg_tdiv,Int.neg_neg]
  rw [e];exact qU (by omega) (by omega)
theorem zAe {t:jm} (h:t.2.2.length≤1000000000000000) {p:Int} (hp:QZ t p):wrF .i64 (Int.tdiv p 2)=Int.tdiv p 2:=zH6 (by have:=hp.1;omega) (by have:=hp.2;omega)
theorem gS {α:Type} {l:List α} {x:α} (h:x∈l):∃i,i < l.length∧l[i]?=some x:=by
 obtain ⟨i,hi⟩:=List.getElem?_of_mem h
 exact ⟨i,by grind,hi⟩
theorem zrr {t:jm} (h:t.2.2.length≤1000000000000000) {a b:List Int} (ha:∀p∈a,QZ t p) (hb:∀p∈b,QZ t p) (la:a.length≤8) (lb:b.length≤8):Ws (a,b,())=some (tv (zab a b),()):=by
 rw [zpr];unfold zdU
 refine Wx (zn (J:=fun x=>(x.1=0∧¬zab a b)∨(x.1=1∧x.2.1.1=true∧zab a b)) (uR a.length (fun i=>∀p,a[i]?=some p→¬∃q∈b,Int.tdiv p 2=Int.tdiv q 2) (by omega) ?_ ?_) ?_)
 ·intro i hi hp
  have hx:a[i]?=some a[i]:=List.getElem?_eq_getElem hi
  have hm:=List.getElem_mem hi
  generalize a[i]=p at hx hm
  refine zh (qx (show (i:Int) < (a.length:Int) by omega)) (zo (zP (n:=i) hx ?_))
  refine zn (J:=fun x=>(x.1=0∧x.2.1.1=false∧¬∃q∈b,Int.tdiv p 2=Int.tdiv q 2)∨(x.1=1∧x.2.1.1=true∧∃q∈b,Int.tdiv p 2=Int.tdiv q 2)) (uR b.length (fun k=>∀q,b[k]?=some q→Int.tdiv p 2≠Int.tdiv q 2) (by omega) ?_ ?_) ?_
  ·intro k hk hq
   have hy:b[k]?=some b[k]:=List.getElem?_eq_getElem hk
   have hmk:=List.getElem_mem hk
   generalize b[k]=q at hy hmk
   refine zh (qx (show (k:Int) < (b.length:Int) by omega)) (zo (zP (n:=k) hy ?_))
   rw [zAe h (ha p hm),zAe h (hb q hmk)]
   refine zq (fun h=>?_) (fun h=>?_)
   ·exact zd (zE (.inr ⟨rfl,rfl,q,hmk,jg h⟩))
   ·exact zd (Zl (by omega) fun q' hq'=>by rw [hy] at hq';cases hq';exact jO h)
  ·intro hq
   refine zg (qa (show ¬(b.length:Int) < (b.length:Int) by omega)) (zd (zE (.inl ⟨rfl,rfl,fun ⟨q,hq1,hq2⟩=>?_⟩)))
   obtain ⟨k,hk,hk2⟩:=gS hq1
   exact hq k hk q hk2 hq2
  ·rintro ⟨j,⟨v,w,⟨⟩⟩,⟨⟩⟩ (⟨rfl,rfl,hq⟩ | ⟨rfl,rfl,hq⟩)
   ·exact zh rfl (zd (Zl (by omega) fun p' hp'=>by rw [hx] at hp';cases hp';exact hq))
   ·exact zg rfl (zd (zE (.inr ⟨rfl,rfl,p,hm,hq⟩)))
 ·intro hp
  refine zg (qa (show ¬(a.length:Int) < (a.length:Int) by omega)) (zd (zE (.inl ⟨rfl,fun ⟨p,hp1,hp2⟩=>?_⟩)))
  obtain ⟨k,hk,hk2⟩:=gS hp1
  exact hp k hk p hk2 hp2
 ·rintro ⟨j,⟨v,w,⟨⟩⟩,⟨⟩⟩ (⟨rfl,hq⟩ | ⟨rfl,rfl,hq⟩)
  ·exact zh rfl (zd ⟨fun h=>(by cases h),fun h=>absurd h hq⟩)
  ·exact zg rfl (zd ⟨fun _=>hq,fun _=>rfl⟩)
theorem zDf (a:List Int):(za0 a).length=a.length - 1 - 1:=by unfold za0;simp
theorem zfD {l:List Int} (hn:l.length≤1000000000000000000) (b:Int):qp (qT (l,b,())) fun r=>(0≤r.1∧b∈l)∨(r.1 = -1∧¬b∈l):=by
 rw [Kf];unfold Zh
 refine zn (J:=fun x=>(x.1=0∧¬b∈l)∨(x.1=1∧0≤x.2.1.1∧b∈l)) (uR l.length (fun i=>l[i]?≠some b) hn ?_ ?_) ?_
 ·intro i hi hp
  have hx:l[i]?=some l[i]:=List.getElem?_eq_getElem hi
  refine zh (qx (show (i:Int) < (l.length:Int) by omega)) (zo (zP (n:=i) hx (zq (fun h=>?_) (fun h=>?_))))
  ·have:b=l[i]:=jg h
   exact zd (zE (.inr ⟨rfl,by show (0:Int)≤(i:Int);omega,by rw [this];exact List.getElem_mem hi⟩))
  ·have:=jO (show zj b l[i]=false from h)
   exact zd (Zl (by omega) (by rw [hx];intro e;cases e;exact this rfl))
 ·intro hp
  refine zg (qa (show ¬(l.length:Int) < (l.length:Int) by omega)) (zd (zE (.inl ⟨rfl,fun hm=>?_⟩)))
  obtain ⟨k,hk,hk2⟩:=gS hm
  exact hp k hk hk2
 ·rintro ⟨j,⟨v,w,⟨⟩⟩,⟨⟩⟩ (⟨rfl,hp⟩ | ⟨rfl,h0,hp⟩)
  ·exact zh rfl (zd (.inr ⟨rfl,hp⟩))
  ·exact zg rfl (zd (.inl ⟨h0,hp⟩))
theorem zdg {l:List Int} (hn:l.length≤1000000000000000000) (b:Int):xz (l,b,())=some (tv (b∈l),()):=by
 rw [zcz];unfold Jh
 refine Wx (zn (zfD hn b) ?_)
 rintro ⟨v,⟨⟩⟩ (⟨h,hm⟩ | ⟨rfl,hm⟩)
 ·refine zd ⟨fun _=>hm,fun _=>?_⟩
  show (!zt v 0)=true
  rw [qa (by simp only at h;omega)];rfl
 ·exact zd ⟨fun h=>(by cases h),fun h=>absurd h hm⟩
theorem zcV {l:List Int} (hn:l.length≤1000000000000000000) (b:Int):qp (xg (l,b,())) fun r=>(0≤r.1∧b∈l)∨(r.1 = -1∧¬b∈l):=by
 rw [zb2];unfold QD
 refine zn (J:=fun x=>(x.1=0∧¬b∈l)∨(x.1=1∧0≤x.2.1.1∧b∈l)) (uR l.length (fun i=>l[i]?≠some b) hn ?_ ?_) ?_
 ·intro i hi hp
  have hx:l[i]?=some l[i]:=List.getElem?_eq_getElem hi
  refine zh (qx (show (i:Int) < (l.length:Int) by omega)) (zo (zP (n:=i) hx (zq (fun h=>?_) (fun h=>?_))))
  ·have:b=l[i]:=jg h
   exact zd (zE (.inr ⟨rfl,by show (0:Int)≤(i:Int);omega,by rw [this];exact List.getElem_mem hi⟩))
  ·have:=jO (show zj b l[i]=false from h)
   exact zd (Zl (by omega) (by rw [hx];intro e;cases e;exact this rfl))
 ·intro hp
  refine zg (qa (show ¬(l.length:Int) < (l.length:Int) by omega)) (zd (zE (.inl ⟨rfl,fun hm=>?_⟩)))
  obtain ⟨k,hk,hk2⟩:=gS hm
  exact hp k hk hk2
 ·rintro ⟨j,⟨v,w,⟨⟩⟩,⟨⟩⟩ (⟨rfl,hp⟩ | ⟨rfl,h0,hp⟩)
  ·exact zh rfl (zd (.inr ⟨rfl,hp⟩))
  ·exact zg rfl (zd (.inl ⟨h0,hp⟩))
theorem zaO {l:List Int} (hn:l.length≤1000000000000000000) (b:Int):jG (l,b,())=some (tv (b∈l),()):=by
 rw [zan];unfold gY
 refine Wx (zn (zcV hn b) ?_)
 rintro ⟨v,⟨⟩⟩ (⟨h,hm⟩ | ⟨rfl,hm⟩)
 ·refine zd ⟨fun _=>hm,fun _=>?_⟩
  show (!zt v 0)=true
  rw [qa (by simp only at h;omega)];rfl
 ·exact zd ⟨fun h=>(by cases h),fun h=>absurd h hm⟩
theorem zcW {t:jm} (ht:ug t) {a b:List Int} (ha:xm t a) (hb:xm t b):gI (t,a,b,())=some (tv (KM (zY t a) (zY t b)),()):=by
 have hll:=ht.ll
 have na:=zbT t ha.ne;have nb:=zbT t hb.ne
 have a0:=ha.n0;have a8:=ha.n1;have b0:=hb.n0;have b8:=hb.n1
 rw [zj2];unfold Gs
 simp only [KL hll ha.ne ha.n1 ha.pt,KL hll hb.ne hb.n1 hb.pt,zF]
 generalize zY t a=A at na
 generalize zY t b=B at nb
 have e1:wrF .i64 ((A.length:Int) - 1)=((A.length - 1:Nat):Int):=by rw [qU]<;>omega
 have e2:uz A (some 1) (some (((A.length - 1:Nat):Int))) (some (((A.length - 1:Nat):Int)))=some (za0 A):=zFf A 1 (A.length - 1) (by omega) (by omega)
 rw [e1,e2,zF]
 have il:=zDf A
 refine Wx (zn (J:=fun x=>(x.1=0∧¬KM A B)∨(x.1=1∧x.2.1.1=true∧KM A B)) (uR (za0 A).length (fun i=>∀n,(za0 A)[i]?=some n→¬n∈B) (by omega) ?_ ?_) ?_)
 ·intro i hi hp
  have hx:(za0 A)[i]?=some (za0 A)[i]:=List.getElem?_eq_getElem hi
  have hm:=List.getElem_mem hi
  generalize (za0 A)[i]=n at hx hm
  refine zh (qx (show (i:Int) < ((za0 A).length:Int) by omega)) (zo (zP (n:=i) hx ?_))
  rw [zdg (by omega)]
  refine zq (fun h=>?_) (fun h=>?_)
  ·exact zd (zE (.inr ⟨rfl,rfl,n,hm,zer h⟩))
  ·exact zd (Zl (by omega) fun m hm=>by rw [hx] at hm;cases hm;exact zaM h)
 ·intro hp
  refine zg (qa (show ¬((za0 A).length:Int) < ((za0 A).length:Int) by omega)) (zd (zE (.inl ⟨rfl,fun ⟨n,h1,h2⟩=>?_⟩)))
  obtain ⟨k,hk,hk2⟩:=gS h1
  exact hp k hk n hk2 h2
 ·rintro ⟨j,⟨v,w,⟨⟩⟩,⟨⟩⟩ (⟨rfl,hq⟩ | ⟨rfl,rfl,hq⟩)
  ·exact zh rfl (zd ⟨fun h=>(by cases h),fun h=>absurd h hq⟩)
  ·exact zg rfl (zd ⟨fun _=>hq,fun _=>rfl⟩)
theorem ziI {t:jm} (ht:ug t) (r:List Int):kV (t,r,())=some (bif tv (xm t r) then 0 else 310,()):=by
 rw [zqV];unfold zfh
 simp only [Wy,zF,zN ht,cond_true,zcU ht]
 rw [show (!zj 0 0)=false from rfl,cond_false]
 cases tv (xm t r)<;>rfl
theorem zs5 {t:jm} (ht:ug t) {a b:List Int} (ha:xm t a) (hb:xm t b):Qc (t,a,b,())=some (tv (zs4 t a b),0,()):=by
 rw [zqY];unfold zfj
 simp only [ziI ht,zF,zN ha,zN hb,cond_true,zcU ht,zrr ht.ll ha.pt hb.pt ha.n1 hb.n1,zcW ht ha hb,zcW ht hb ha]
 rw [show (!zj 0 0)=false from rfl,cond_false]
 simp only [Bool.not_true,cond_false]
 unfold zs4
 by_cases h1:zab a b
 ·simp [zN h1,qu (show ¬(¬zab a b∧¬KM (zY t a) (zY t b)∧¬KM (zY t b) (zY t a)) from fun h=>h.1 h1)]
 ·by_cases h2:KM (zY t a) (zY t b)
  ·simp [qu h1,zN h2,qu (show ¬(¬zab a b∧¬KM (zY t a) (zY t b)∧¬KM (zY t b) (zY t a)) from fun h=>h.2.1 h2)]
  ·by_cases h3:KM (zY t b) (zY t a)
   ·simp [qu h1,qu h2,zN h3,qu (show ¬(¬zab a b∧¬KM (zY t a) (zY t b)∧¬KM (zY t b) (zY t a)) from fun h=>h.2.2 h3)]
   ·simp [qu h1,qu h2,qu h3,zN (show ¬zab a b∧¬KM (zY t a) (zY t b)∧¬KM (zY t b) (zY t a) from ⟨h1,h2,h3⟩)]
def zhN (t:jm) (r:List Int):Int:=frm t ((r[0]?).getD 0)
def ziJ (t:jm) (r:List Int):Int:=too t ((r[r.length - 1]?).getD 0)
theorem ziK {t:jm} (ht:ug t) (r:List Int):yM (t,r,())=some (bif tv (xm t r) then (zY t r,0,()) else ([],310,())):=by
 rw [zqW];unfold zfi
 simp only [ziI ht,zF]
 by_cases h:xm t r
 ·simp only [zN h,cond_true,KL ht.ll h.ne h.n1 h.pt,zF];rfl
 ·simp only [qu h,cond_false];rfl
theorem zzH (t:jm) {r:List Int} (h:r≠[]):(zY t r)[0]?=some (zhN t r):=by
 cases r with
 |nil=>exact absurd rfl h
 |cons p r=>rfl
theorem zBK (t:jm) {r:List Int} (h:r≠[]):(zY t r)[r.length]?=some (ziJ t r):=by
 have hl:0 < r.length:=List.length_pos_iff.2 h
 have hx:r[r.length - 1]?=some (r[r.length - 1]'(by omega)):=List.getElem?_eq_getElem (by omega)
 have:=zcS t hx
 rw [show r.length - 1+1=r.length by omega] at this
 rw [this];unfold ziJ;rw [hx];rfl
theorem zuL {t:jm} (ht:ug t) (r:List Int):Vk (t,r,())=some (bif tv (xm t r) then (zhN t r,ziJ t r,0,()) else (0,0,310,())):=by
 rw [zsz];unfold zhh
 simp only [ziK ht,zF]
 by_cases h:xm t r
 ·have hn:=zbT t h.ne
  have:=h.n1
  simp only [zN h,cond_true]
  rw [show (!zj 0 0)=false from rfl,cond_false]
  rw [show wrF .i64 (((zY t r).length:Int) - 1)=((r.length:Nat):Int) from by rw [qU]<;>omega]
  rw [show (0:Int)=((0:Nat):Int) from rfl,Qx (zzH t h.ne),zF,Qx (zBK t h.ne),zF]
 ·simp only [qu h,cond_false];rfl
theorem zrs {t:jm} (ht:ug t) (r:List Int) (a b:Int):QC (t,r,a,b,())=some (tv (xm t r∧zhN t r=a∧ziJ t r=b),()):=by
 rw [zpp];unfold zdT
 simp only [zuL ht,zF]
 by_cases h:xm t r
 ·simp only [zN h,cond_true]
  rw [show zj 0 0=true from rfl,cond_true]
  refine Wx (zq (fun h1=>?_) (fun h1=>?_))
  ·exact zd ⟨fun h2=>⟨h,jg h1,jg h2⟩,fun h2=>wa h2.2.2⟩
  ·exact zd ⟨fun h2=>(by cases h2),fun h2=>absurd h2.2.1 (jO h1)⟩
 ·simp only [qu h,cond_false]
  rw [show zj 310 0=false from rfl,cond_false,qu fun h2=>h h2.1]
abbrev qj:=Int×Int×Int×Int×Int×Int×(Int×Int)×Int×List (List Int)
structure Un (t:jm) (s:qj):Prop where
 id:1≤s.1∧s.1≤4095
 ta:kz t s.2.1∧stn t s.2.1=true
 li:kz t s.2.2.1∧stn t s.2.2.1=true
 tl:s.2.1≠s.2.2.1
 sz:84≤s.2.2.2.2.1∧s.2.2.2.2.1≤1542
 dl:1≤s.2.2.2.2.2.2.2.1∧s.2.2.2.2.2.2.2.1≤1099511627776
 cl:(s.2.2.2.1=7∧(1≤s.2.2.2.2.2.1∧s.2.2.2.2.2.1≤240)∧s.2.2.2.2.2.2.1=(0,0))∨(s.2.2.2.1=6∧s.2.2.2.2.2.1=0∧(s.2.2.2.2.1≤s.2.2.2.2.2.2.1.1∧s.2.2.2.2.2.2.1.1≤1048576)∧(1≤s.2.2.2.2.2.2.1.2∧s.2.2.2.2.2.2.1.2≤2097152))
 rn:1≤s.2.2.2.2.2.2.2.2.length∧s.2.2.2.2.2.2.2.2.length≤2
 rt:∀r∈s.2.2.2.2.2.2.2.2,xm t r∧zhN t r=s.2.1∧ziJ t r=s.2.2.1
 ap:∀a b,s.2.2.2.2.2.2.2.2[0]?=some a→s.2.2.2.2.2.2.2.2[1]?=some b→zs4 t a b
theorem zs6 {a b c:Int} {R:Int→Int→Int→Option (Bool×Unit)} (hR:R a b c=(bif (!(zt (a) (b))) then some ((!(zt (c) (a))),()) else some (false,()))):R a b c=some (tv (b≤a∧a≤c),()):=by
 rw [hR]
 refine Wx (zq (fun h=>?_) (fun h=>?_))<;>refine zd ?_<;>simp only [kB] at *<;>grind
theorem GA (a b c:Int):yL (a,b,c,())=some (tv (b≤a∧a≤c),()):=by
 rw [zml];exact zs6 (R:=zbj) rfl
theorem zkk (a b c:Int):kL (a,b,c,())=some (tv (b≤a∧a≤c),()):=by
 rw [zjh];exact zs6 (R:=Uv) rfl
theorem zGI {n:Int} (h : -1000000≤n) (h2:n≤1000000):wrF .i64 (n - 1)=n - 1:=qU (by omega) (by omega)
theorem zoj {t:jm} (hs:szP t) (n:Int):QB (t,n,())=some (tv (kz t n∧stn t n=true),()):=by
 have h0:=hs.n0;have h1:=hs.n1
 rw [zmp];unfold zbl
 simp only [GA,zF,zGI (show -1000000≤t.1 by omega) (by omega)]
 refine Wx (zq (fun h=>?_) (fun h=>?_))
 ·obtain ⟨h2,h3⟩:=zer h
  have hn:kz t n:=⟨h2,by omega⟩
  refine zo (ve (a:=stn t n) (by show atI t.2.1 n=_;rw [show n=((n.toNat:Nat):Int) from (by omega),Qx (n:=n.toNat)];exact hn.get hs) ?_)
  exact zd ⟨fun h=>⟨hn,h⟩,fun h=>h.2⟩
 ·have:=zaM h
  exact zd ⟨fun h=>(by cases h),fun h=>absurd ⟨h.1.1,by have:=h.1.2;omega⟩ this⟩
def vQ (b:Int×Int):Prop:=(1≤b.1∧b.1≤1048576)∧(1≤b.2∧b.2≤2097152)
theorem Yc (b:Int×Int):yg (b,())=some (bif tv (vQ b) then 0 else 130,()):=by
 rw [zpn];unfold zdS vQ
 simp only [zkk,zF]
 by_cases h1:1≤b.1∧b.1≤1048576
 ·by_cases h2:1≤b.2∧b.2≤2097152
  ·simp only [zN h1,zN h2,zN (And.intro h1 h2)];rfl
  ·simp only [zN h1,qu h2,qu (fun h:(1≤b.1∧b.1≤1048576)∧(1≤b.2∧b.2≤2097152)=>h2 h.2)];rfl
 ·simp only [qu h1,qu (fun h:(1≤b.1∧b.1≤1048576)∧(1≤b.2∧b.2≤2097152)=>h1 h.1)];rfl
theorem zHG (b:Int×Int):((zj b.1 0)&&((zj b.2 0)&&true))=tv (b=(0,0)):=by
 obtain ⟨x,y⟩:=b
 rw [zHD,wM,wM]
 simp only [Bool.and_true]
 rw [Bool.eq_iff_iff]
 simp [Prod.ext_iff]
theorem zqe {t:jm} (ht:ug t) {s:qj} {Q:Prop} (hn:1≤s.2.2.2.2.2.2.2.2.length∧s.2.2.2.2.2.2.2.2.length≤2) {B:((Bool×(Int×Unit))×Unit)→Option ((Nat×((Bool×(Int×Unit))×Unit)) ⊕ ((Bool×(Int×Unit))×Unit))}
  {K:(Nat×((Bool×(Int×Unit))×Unit))→Option (Bool×Unit)}
  (hB
    : B=fun s7=>bif (zt (s7.1.2.1) ((((s.2.2.2.2.2.2.2.2).length:Nat):Int))) then opt (atI (s.2.2.2.2.2.2.2.2) (s7.1.2.1)) fun x8=>
    opt (QC ((t,(x8,(s.2.1,(s.2.2.1,())))))) fun x9=>
    bif (!x9.1) then some (.inl (1,((false,(s7.1.2.1,())),())))
    else some (.inr ((s7.1.1,((wrF .i64 ((s7.1.2.1+1))),())),()))
   else some (.inl (0,((s7.1.1,(s7.1.2.1,())),()))))
  (hK :
     ∀x,K x=bif (Nat.beq x.1 0) then bif (zt ((((s.2.2.2.2.2.2.2.2).length:Nat):Int)) (2)) then some (true,())
     else opt (atI (s.2.2.2.2.2.2.2.2) (0)) fun x11=>opt (atI (s.2.2.2.2.2.2.2.2) (1)) fun x12=>opt (Qc ((t,(x11,(x12,()))))) fun x13=>
      bif (zj (x13.2.1) (0)) then bif (!x13.1) then some (false,()) else some (true,()) else some (false,())
    else bif (!x.2.1.1) then some (false,())
     else bif (zt ((((s.2.2.2.2.2.2.2.2).length:Nat):Int)) (2)) then some (true,())
      else opt (atI (s.2.2.2.2.2.2.2.2) (0)) fun x14=>opt (atI (s.2.2.2.2.2.2.2.2) (1)) fun x15=>opt (Qc ((t,(x14,(x15,()))))) fun x16=>
       bif (zj (x16.2.1) (0)) then bif (!x16.1) then some (false,()) else some (true,()) else some (false,()))
  (hQ:Q↔(∀r∈s.2.2.2.2.2.2.2.2,xm t r∧zhN t r=s.2.1∧ziJ t r=s.2.2.1)∧∀a b,s.2.2.2.2.2.2.2.2[0]?=some a→s.2.2.2.2.2.2.2.2[1]?=some b→zs4 t a b) :
  qp (opt (qd B qC ((false,(0,())),())) K) fun r=>(r.1=true↔Q):=by
 subst hB
 obtain ⟨n0,n2⟩:=hn
 refine zn (J:=fun x=>(x.1=0∧∀r∈s.2.2.2.2.2.2.2.2,xm t r∧zhN t r=s.2.1∧ziJ t r=s.2.2.1)∨(x.1=1∧x.2.1.1=false∧¬Q)) (uR s.2.2.2.2.2.2.2.2.length (fun i=>∀r,s.2.2.2.2.2.2.2.2[i]?=some r→xm t r∧zhN t r=s.2.1∧ziJ t r=s.2.2.1) (by omega) ?_ ?_) ?_
 ·intro i hi hp
  have hx:s.2.2.2.2.2.2.2.2[i]?=some s.2.2.2.2.2.2.2.2[i]:=List.getElem?_eq_getElem hi
  have hm:=List.getElem_mem hi
  generalize s.2.2.2.2.2.2.2.2[i]=r at hx hm
  refine zh (qx (show (i:Int) < (s.2.2.2.2.2.2.2.2.length:Int) by omega)) (zo (zP (n:=i) hx ?_))
  rw [zrs ht]
  refine zq (fun h=>?_) (fun h=>?_)
  ·exact zd (zE (.inr ⟨rfl,rfl,fun hq=>Um h ((hQ.1 hq).1 r hm)⟩))
  ·exact zd (Zl (by omega) fun r' hr'=>by rw [hx] at hr';cases hr';exact zaN h)
 ·intro hp
  refine zg (qa (show ¬(s.2.2.2.2.2.2.2.2.length:Int) < (s.2.2.2.2.2.2.2.2.length:Int) by omega)) (zd (zE (.inl ⟨rfl,fun r hr=>?_⟩)))
  obtain ⟨k,hk,hk2⟩:=gS hr
  exact hp k hk r hk2
 ·rintro ⟨j,⟨v,w,⟨⟩⟩,⟨⟩⟩ (⟨rfl,hq⟩ | ⟨rfl,rfl,hq⟩)
  ·rw [hK]
   refine zh rfl (zq (fun h=>?_) (fun h=>?_))
   ·have h:=yF h
    have h:s.2.2.2.2.2.2.2.2.length < 2:=by omega
    exact zd ⟨fun _=>hQ.2 ⟨hq,fun a b _ hb=>by rw [List.getElem?_eq_none (by omega)] at hb;cases hb⟩,fun _=>rfl⟩
   ·have h:=wX h
    have h:2≤s.2.2.2.2.2.2.2.2.length:=by omega
    have hx0:s.2.2.2.2.2.2.2.2[0]?=some s.2.2.2.2.2.2.2.2[0]:=List.getElem?_eq_getElem (by omega)
    have hx1:s.2.2.2.2.2.2.2.2[1]?=some s.2.2.2.2.2.2.2.2[1]:=List.getElem?_eq_getElem (by omega)
    have r0:=(hq _ (List.getElem_mem (show 0 < s.2.2.2.2.2.2.2.2.length by omega))).1
    have r1:=(hq _ (List.getElem_mem (show 1 < s.2.2.2.2.2.2.2.2.length by omega))).1
    generalize s.2.2.2.2.2.2.2.2[0]=a at hx0 r0
    generalize s.2.2.2.2.2.2.2.2[1]=b at hx1 r1
    refine zo (zP (n:=0) hx0 (zo (zP (n:=1) hx1 ?_)))
    rw [zs5 ht r0 r1]
    refine zq (fun h=>?_) (fun h=>?_)
    ·exact zd ⟨fun h=>(by cases h),fun hq2=>absurd ((hQ.1 hq2).2 a b hx0 hx1) (Um h)⟩
    ·exact zd ⟨fun _=>hQ.2 ⟨hq,fun a' b' ha hb=>by rw [hx0] at ha;rw [hx1] at hb;cases ha;cases hb;exact zaN h⟩,fun _=>rfl⟩
  ·rw [hK]
   exact zg rfl (zh rfl (zd ⟨fun h=>(by cases h),fun h=>absurd h hq⟩))
theorem zhO {t:jm} (ht:ug t) (s:qj):uY (t,s,())=some (tv (Un t s),()):=by
 have no:¬Un t s→qp (some ((false,()):Bool×Unit)) fun r=>(r.1=true↔Un t s):=fun h=>zd ⟨fun h=>(by cases h),fun h2=>absurd h2 h⟩
 rw [zps];unfold zdW
 simp only [GA,zoj ht.sz,Yc,zF,zHG]
 refine Wx (zq (fun h=>no fun hs=>Um h hs.id) fun h1=>zq (fun h2=>zq (fun h3=>zq (fun h=>no fun hs=>?_) fun h4=>zq (fun h=>no fun hs=>Um h hs.sz) fun h5=>zq (fun h=>no fun hs=>Um h hs.dl) fun h6=>?_) fun h=>no fun hs=>zaM h hs.li) fun h=>no fun hs=>zaM h hs.ta)
 ·exact hs.tl (jg (show zj s.2.1 s.2.2.1=true by simpa using h))
 have h1:=zaN h1;have h2:=zer h2;have h3:=zer h3;have h5:=zaN h5;have h6:=zaN h6
 have h4:=jO (show zj s.2.1 s.2.2.1=false by simpa using h4)
 refine zq (fun c7=>?_) (fun c7=>zq (fun c6=>?_) (fun c6=>no fun hs=>?_))
 ·have c7:=jg c7
  refine zq (fun h7=>zq (fun h=>no fun hs=>?_) fun h8=>zq (fun h=>no fun hs=>?_) fun h9=>?_) (fun h=>no fun hs=>?_)
  ·rcases hs.cl with ⟨_,_,hb⟩ | ⟨h6',_⟩
   ·exact Um h hb
   ·omega
  ·have:=Um h
   have:=hs.rn
   omega
  ·have h9:=zaN h9
   refine zqe ht ⟨by omega,by omega⟩ rfl (fun _=>rfl) ⟨fun hs=>⟨hs.rt,hs.ap⟩,fun hr=>⟨h1,h2,h3,h4,h5,h6,.inl ⟨c7,zer h7,zaN h8⟩,⟨by omega,by omega⟩,hr.1,hr.2⟩⟩
  ·rcases hs.cl with ⟨_,hb,_⟩ | ⟨h6',_⟩
   ·exact zaM h hb
   ·omega
 ·have c6:=jg c6
  refine zq (fun h7=>zq (fun h8=>zq (fun h=>no fun hs=>?_) fun h9=>zq (fun h=>no fun hs=>?_) fun h10=>?_) (fun h=>no fun hs=>?_)) (fun h=>no fun hs=>?_)
  ·rcases hs.cl with ⟨h7',_⟩ | ⟨_,_,hb,_⟩
   ·omega
   ·have:=yF (show zt s.2.2.2.2.2.2.1.1 s.2.2.2.2.1=true by simpa using h)
    omega
  ·have:=Um h
   have:=hs.rn
   omega
  ·have h10:=zaN h10
   have h7:=jg h7
   have h8:vQ s.2.2.2.2.2.2.1:=by
    apply Classical.byContradiction
    intro hb
    rw [qu hb] at h8;cases h8
   have h9:=wX (show zt s.2.2.2.2.2.2.1.1 s.2.2.2.2.1=false by simpa using h9)
   refine zqe ht ⟨by omega,by omega⟩ rfl (fun _=>rfl) ⟨fun hs=>⟨hs.rt,hs.ap⟩,fun hr=>⟨h1,h2,h3,h4,h5,h6,.inr ⟨c6,h7,⟨h9,h8.1.2⟩,h8.2⟩,⟨by omega,by omega⟩,hr.1,hr.2⟩⟩
  ·rcases hs.cl with ⟨h7',_⟩ | ⟨_,_,hb,hr⟩
   ·omega
   ·have:=hs.sz
    have hbp:vQ s.2.2.2.2.2.2.1:=⟨⟨by omega,hb.2⟩,hr⟩
    rw [zN hbp] at h;cases h
  ·rcases hs.cl with ⟨h7',_⟩ | ⟨_,hp,_⟩
   ·omega
   ·exact jO h hp
 ·rcases hs.cl with ⟨h7,_⟩ | ⟨h6',_⟩
  ·exact jO c7 h7
  ·exact jO c6 h6'
def zuM (t:jm) (l:List qj):Prop:=∀s∈l,Un t s
def zrt (l:List qj):Prop:=∀(i k:Nat) a b,k < i→l[i]?=some a→l[k]?=some b→b.1≠a.1
noncomputable def zd6 (t:jm) (l:List qj):Int:=bif tv (l.length≤12) then bif tv (zuM t l) then bif tv (zrt l) then 0 else 322 else 321 else 3
theorem zAf {α:Type} (m:List (Int×α)) (a b:Int) (x z:α):mpD (mpP m a x) b z=if a=b then x else mpD m b z:=by
 induction m with
 |nil=>
  unfold mpP mpD
  rw [wM]
  by_cases h:a=b
  ·rw [if_pos h,h];simp
  ·rw [if_neg h,show (a == b)=false from by simpa using h];rfl
 |cons p m ih=>
  unfold mpP
  rw [wM]
  by_cases h:p.1=a
  ·rw [h];simp only [beq_self_eq_true,cond_true]
   unfold mpD
   rw [wM,wM]
   by_cases h2:a=b
   ·rw [if_pos h2,h2];simp
   ·rw [if_neg h2,h,show (a == b)=false from by simpa using h2];rfl
  ·rw [show (p.1 == a)=false from by simpa using h,cond_false]
   unfold mpD
   rw [ih,wM]
   by_cases h2:p.1=b
   ·rw [h2];simp only [beq_self_eq_true,cond_true]
    rw [if_neg (by rw [h2] at h;exact fun e=>h e.symm)]
   ·rw [show (p.1 == b)=false from by simpa using h2];rfl
theorem zGJ {α:Type} (m:List (Int×α)) (a b:Int) (x:α):mpH (mpP m a x) b=(decide (a=b)||mpH m b):=by
 induction m with
 |nil=>
  unfold mpP mpH
  rw [wM]
  by_cases h:a=b
  ·rw [h];simp
  ·rw [show (a == b)=false from by simpa using h];simp [h,mpH]
 |cons p m ih=>
  unfold mpP
  rw [wM]
  by_cases h:p.1=a
  ·rw [h];simp only [beq_self_eq_true,cond_true]
   unfold mpH
   rw [wM,wM]
   by_cases h2:a=b
   ·rw [h2];simp
   ·rw [h,show (a == b)=false from by simpa using h2];simp [h2]
  ·rw [show (p.1 == a)=false from by simpa using h,cond_false]
   unfold mpH
   rw [ih,wM]
   by_cases h2:p.1=b
   ·rw [h2];simp
   ·rw [show (p.1 == b)=false from by simpa using h2];simp
theorem zmH {t:jm} (ht:ug t) (l:List qj):Zy (t,l,())=some (zd6 t l,()):=by
 rw [zll];unfold zal zd6
 simp only [Wy,zF,zN ht,cond_true]
 rw [show (!zj 0 0)=false from rfl,cond_false]
 refine gr (zq (fun h=>?_) (fun h=>?_))
 ·have h:=yF h
  rw [qu (show ¬l.length≤12 by omega)];exact zd rfl
 have h12:l.length≤12:=by have:=wX h;omega
 rw [zN h12,cond_true]
 refine zn (J:=fun x=>(x.1=0∧x.2.1.1=0∧zuM t l)∨(x.1=1∧x.2.1.1=321∧¬zuM t l)) (uR l.length (fun i=>∀s,l[i]?=some s→Un t s) (by omega) ?_ ?_) ?_
 ·intro i hi hp
  have hx:l[i]?=some l[i]:=List.getElem?_eq_getElem hi
  have hm:=List.getElem_mem hi
  generalize l[i]=s at hx hm
  refine zh (qx (show (i:Int) < (l.length:Int) by omega)) (zo (zP (n:=i) hx ?_))
  rw [zhO ht]
  refine zq (fun h=>?_) (fun h=>?_)
  ·exact zd (zE (.inr ⟨rfl,rfl,fun hq=>Um h (hq s hm)⟩))
  ·exact zd (Zl (by omega) fun r' hr'=>by rw [hx] at hr';cases hr';exact zaN h)
 ·intro hp
  refine zg (qa (show ¬(l.length:Int) < (l.length:Int) by omega)) (zd (zE (.inl ⟨rfl,rfl,fun r hr=>?_⟩)))
  obtain ⟨k,hk,hk2⟩:=gS hr
  exact hp k hk r hk2
 rintro ⟨j,⟨v,w,⟨⟩⟩,⟨⟩⟩ (⟨rfl,rfl,hq⟩ | ⟨rfl,rfl,hq⟩)
 rotate_left
 ·rw [qu hq];exact zg rfl (zd rfl)
 rw [zN hq,cond_true]
 refine zh rfl (zn (J:=fun x=>(x.1=0∧zrt l)∨(x.1=1∧x.2.1.1=322∧¬zrt l))
  (qz l.length (fun i s=>(∃m,s=((0,((i:Int),())),(m,()))∧∀z,mpD m z false=true↔∃(k:Nat) (b:qj),k < i∧l[k]?=some b∧b.1=z)∧∀(k' k:Nat) a b,k' < i→k < k'→l[k']?=some a→l[k]?=some b→b.1≠a.1) (by omega) ⟨⟨[],rfl,fun z=>⟨fun h=>(by cases h),fun ⟨k,b,hk,_⟩=>by omega⟩⟩,fun k' k a b hk=>by omega⟩ ?_ ?_) ?_)
 ·rintro i _ hi ⟨⟨m,rfl,hm⟩,hp⟩
  have hx:l[i]?=some l[i]:=List.getElem?_eq_getElem hi
  generalize l[i]=s at hx
  refine zh (qx (show (i:Int) < (l.length:Int) by omega)) (zo (zP (n:=i) hx ?_))
  refine zq (fun h=>?_) (fun h=>?_)
  ·obtain ⟨k,b,hk,hb,e⟩:=(hm s.1).1 h
   exact zd (zE (.inr ⟨rfl,rfl,fun hd=>hd i k s b hk hx hb e⟩))
  ·have hno:¬∃(k:Nat) (b:qj),k < i∧l[k]?=some b∧b.1=s.1:=fun he=>by
    have:=(hm s.1).2 he
    have h':mpD m s.1 false=false:=h
    rw [this] at h';cases h'
   refine zd (qR ⟨⟨_,congrArg (fun z=>(((0:Int),(z,())),(_,()))) (qQ (by omega)),fun z=>?_⟩,fun k' k a b hk' hk ha hb=>?_⟩)
   ·show mpD (mpP m s.1 true) z false=true↔_
    rw [zAf]
    split
    ·rename_i e
     exact ⟨fun _=>⟨i,s,by omega,hx,e⟩,fun _=>rfl⟩
    ·rename_i e
     rw [hm z]
     constructor
     ·rintro ⟨k,b,h1,h2,h3⟩;exact ⟨k,b,by omega,h2,h3⟩
     ·rintro ⟨k,b,h1,h2,h3⟩
      rcases Nat.lt_or_ge k i with hk | hk
      ·exact ⟨k,b,hk,h2,h3⟩
      ·have:k=i:=by omega
       subst this
       rw [hx] at h2;cases h2
       exact absurd h3 e
   ·rcases Nat.lt_or_ge k' i with hki | hki
    ·exact hp k' k a b hki hk ha hb
    ·have:k'=i:=by omega
     subst this
     rw [hx] at ha;cases ha
     exact fun e=>hno ⟨k,b,hk,hb,e⟩
 ·rintro _ ⟨⟨m,rfl,hm⟩,hp⟩
  exact zg (qa (show ¬(l.length:Int) < (l.length:Int) by omega)) (zd (zE (.inl ⟨rfl,fun i k a b hk ha hb=>hp i k a b (by grind) hk ha hb⟩)))
 ·rintro ⟨j,⟨v,w,⟨⟩⟩,c,⟨⟩⟩ (⟨rfl,hd⟩ | ⟨rfl,rfl,hd⟩)
  ·rw [zN hd];exact zh rfl (zd rfl)
  ·rw [qu hd];exact zg rfl (zd rfl)
theorem zru {t:jm} (ht:ug t) (s:qj):Ww (t,s,())=some (bif tv (Un t s) then 0 else 321,()):=by
 rw [zpF];unfold zdZ
 simp only [Wy,zF,zN ht,cond_true,zhO ht]
 rw [show (!zj 0 0)=false from rfl,cond_false]
 cases tv (Un t s)<;>rfl
theorem zGK {l:List qj} (hn:l.length≤1000000000000000000) (id:Int):∃v e,xO (l,id,())=some (v,e,())∧((e=0∧∃(i:Nat) (s:qj),v=(i:Int)∧l[i]?=some s∧s.1=id∧∀(k:Nat) b,k < i→l[k]?=some b→b.1≠id)∨(e=4∧v=0∧∀s∈l,s.1≠id)):=by
 have key:qp (xO (l,id,())) fun r=>(r.2.1=0∧∃(i:Nat) (s:qj),r.1=(i:Int)∧l[i]?=some s∧s.1=id∧∀(k:Nat) b,k < i→l[k]?=some b→b.1≠id)∨(r.2.1=4∧r.1=0∧∀s∈l,s.1≠id):=by
  rw [zpG];unfold zd0
  refine zn (J:=fun x=>(x.1=0∧∀s∈l,s.1≠id)∨(x.1=1∧x.2.1.2.1=0∧∃(i:Nat) (s:qj),x.2.1.1=(i:Int)∧l[i]?=some s∧s.1=id∧∀(k:Nat) b,k < i→l[k]?=some b→b.1≠id))
   (qz l.length (fun i s=>s=((0,(0,((i:Int),()))),())∧∀(k:Nat) b,k < i→l[k]?=some b→b.1≠id) (zyK hn) ⟨rfl,fun k b hk=>by omega⟩ ?_ ?_) ?_
  ·rintro i _ hi ⟨rfl,hp⟩
   have hx:l[i]?=some l[i]:=List.getElem?_eq_getElem hi
   generalize l[i]=s at hx
   refine zh (qx (show (i:Int) < (l.length:Int) by omega)) (zo (zP (n:=i) hx ?_))
   refine zq (fun h=>?_) (fun h=>?_)
   ·exact zd (zE (.inr ⟨rfl,rfl,i,s,rfl,hx,jg h,hp⟩))
   ·refine zd (qR ⟨congrArg (fun z=>(((0:Int),((0:Int),(z,()))),())) (qQ (by omega)),fun k b hk hb=>?_⟩)
    rcases Nat.lt_or_ge k i with hki | hki
    ·exact hp k b hki hb
    ·have:k=i:=by omega
     subst this
     rw [hx] at hb;cases hb
     exact jO h
  ·rintro _ ⟨rfl,hp⟩
   refine zg (qa (show ¬(l.length:Int) < (l.length:Int) by omega)) (zd (zE (.inl ⟨rfl,fun s hs=>?_⟩)))
   obtain ⟨k,hk,hk2⟩:=gS hs
   exact hp k s hk hk2
  ·rintro ⟨j,⟨v,w,z,⟨⟩⟩,⟨⟩⟩ (⟨rfl,hq⟩ | ⟨rfl,rfl,hq⟩)
   ·exact zh rfl (zd (.inr ⟨rfl,rfl,hq⟩))
   ·exact zg rfl (zd (.inl ⟨rfl,hq⟩))
 obtain ⟨⟨v,e,⟨⟩⟩,h1,h2⟩:=key
 exact ⟨v,e,h1,h2⟩
def GB (u:Int×Int×Int×Int):Prop:=(1≤u.1∧u.1≤10000)∧(0≤u.2.1∧u.2.1≤1000)∧(0≤u.2.2.1∧u.2.2.1≤10000)∧(1542≤u.2.2.2∧u.2.2.2≤65536)
theorem zkl (u:Int×Int×Int×Int):kG (u,())=some (bif tv (GB u) then 0 else 320,()):=by
 rw [zjb];unfold Ut
 simp only [GA,zF]
 by_cases h1:1≤u.1∧u.1≤10000
 ·by_cases h2:0≤u.2.1∧u.2.1≤1000
  ·by_cases h3:0≤u.2.2.1∧u.2.2.1≤10000
   ·by_cases h4:1542≤u.2.2.2∧u.2.2.2≤65536
    ·rw [zN h1,zN h2,zN h3,zN h4,zN (show GB u from ⟨h1,h2,h3,h4⟩)];rfl
    ·rw [zN h1,zN h2,zN h3,qu h4,qu (fun h:GB u=>h4 h.2.2.2)];rfl
   ·rw [zN h1,zN h2,qu h3,qu (fun h:GB u=>h3 h.2.2.1)];rfl
  ·rw [zN h1,qu h2,qu (fun h:GB u=>h2 h.2.1)];rfl
 ·rw [qu h1,qu (fun h:GB u=>h1 h.1)];rfl
abbrev Gts:=List (Int×Int)×Int
def zcX (e:Int×Int):Prop:=0≤e.1∧e.1≤255∧1≤e.2∧e.2≤9600000
def ko (l:List (Int×Int)):Int:=(l.map (·.2)).sum
structure yG (g:Gts):Prop where
 n0:1≤g.1.length
 n1:g.1.length≤128
 el:∀e∈g.1,zcX e
 cy:ko g.1=g.2
 c1:g.2≤9600000
theorem Kj {l:List (Int×Int)} {n:Nat} {x:Int×Int} (h:l[n]?=some x):ko (l.take (n+1))=ko (l.take n)+x.2:=by
 unfold ko;rw [List.take_add_one,h];simp
theorem Uo {l:List (Int×Int)} (h:∀e∈l,zcX e):(l.length:Int)≤ko l∧ko l≤9600000*l.length:=by
 unfold ko
 induction l with
 |nil=>simp
 |cons a l ih=>
  obtain ⟨_,_,h1,h2⟩:=h a (by simp)
  have:=ih fun e he=>h e (by simp [he])
  simp only [List.map_cons,List.sum_cons,List.length_cons]
  omega
theorem zBL {g:Gts} (n1:g.1.length≤128) {α:Type} {z bad:α} {B:((α×(Int×(Int×Unit)))×Unit)→Option ((Nat×((α×(Int×(Int×Unit)))×Unit)) ⊕ ((α×(Int×(Int×Unit)))×Unit))}
  (hB
    : B=fun s1=>bif (zt (s1.1.2.2.1) ((((g.1).length:Nat):Int))) then opt (atI (g.1) (s1.1.2.2.1)) fun x2=>
    opt (bif (zt (x2.1) (0)) then some (1,((bad,()),()))
     else bif (zt (255) (x2.1)) then some (1,((bad,()),()))
      else bif (zt (x2.2) (1)) then some (1,((bad,()),()))
       else bif (zt (9600000) (x2.2)) then some (1,((bad,()),()))
        else some (0,((s1.1.1,()),()))) fun x3=>
    bif (Nat.beq x3.1 0) then some (.inr ((x3.2.1.1,((wrF .i64 ((s1.1.2.1+x2.2))),((wrF .i64 ((s1.1.2.2.1+1))),()))),()))
    else some (.inl (1,((x3.2.1.1,(s1.1.2.1,(s1.1.2.2.1,()))),())))
   else some (.inl (0,((s1.1.1,(s1.1.2.1,(s1.1.2.2.1,()))),())))) :
  qp (qd B qC ((z,(0,(0,()))),())) fun x=>(x.1=0∧x.2.1.1=z∧x.2.1.2.1=ko g.1∧∀e∈g.1,zcX e)∨(x.1=1∧x.2.1.1=bad∧¬∀e∈g.1,zcX e):=by
 subst hB
 refine qz g.1.length (fun i s=>s=((z,(ko (g.1.take i),((i:Int),()))),())∧∀e∈g.1.take i,zcX e) (by omega) ⟨rfl,fun e he=>by simp at he⟩ ?_ ?_
 ·rintro i _ hi ⟨rfl,hp⟩
  have hx:g.1[i]?=some g.1[i]:=List.getElem?_eq_getElem hi
  have hm:=List.getElem_mem hi
  generalize g.1[i]=e at hx hm
  refine zh (qx (show (i:Int) < (g.1.length:Int) by omega)) (zo (zP (n:=i) hx ?_))
  refine zn (J:=fun x=>(x.1=0∧x.2.1.1=z∧zcX e)∨(x.1=1∧x.2.1.1=bad∧¬zcX e)) ?_ ?_
  ·refine zq (fun h=>zd (.inr ⟨rfl,rfl,fun hs=>?_⟩)) fun h1=>zq (fun h=>zd (.inr ⟨rfl,rfl,fun hs=>?_⟩)) fun h2=>zq (fun h=>zd (.inr ⟨rfl,rfl,fun hs=>?_⟩)) fun h3=>zq (fun h=>zd (.inr ⟨rfl,rfl,fun hs=>?_⟩)) fun h4=>zd (.inl ⟨rfl,rfl,?_⟩)
   ·have:=yF h;have:=hs.1;omega
   ·have:=yF h;have:=hs.2.1;omega
   ·have:=yF h;have:=hs.2.2.1;omega
   ·have:=yF h;have:=hs.2.2.2;omega
   ·exact ⟨wX h1,wX h2,wX h3,wX h4⟩
  ·rintro ⟨j,⟨v,⟨⟩⟩,⟨⟩⟩ (⟨rfl,rfl,he⟩ | ⟨rfl,rfl,he⟩)
   ·have hb:=Uo hp
    have hl:(g.1.take i).length=i:=by simp;omega
    have e1:wrF .i64 (ko (g.1.take i)+e.2)=ko (g.1.take (i+1)):=by
     rw [Kj hx,qU]<;>(have:=he.2.2.1;have:=he.2.2.2;omega)
    refine zh rfl (zd (qR ⟨?_,fun e' he'=>?_⟩))
    ·rw [←e1,←qQ (by omega)]
    ·rw [List.take_add_one,hx] at he'
     simp only [Option.toList,List.mem_append,List.mem_singleton] at he'
     rcases he' with h | rfl
     ·exact hp e' h
     ·exact he
   ·exact zg rfl (zd (zE (.inr ⟨rfl,rfl,fun h=>he (h e hm)⟩)))
 ·rintro _ ⟨rfl,hp⟩
  refine zg (qa (show ¬(g.1.length:Int) < (g.1.length:Int) by omega)) (zd (zE (.inl ⟨rfl,rfl,?_,?_⟩)))
  ·show ko (g.1.take g.1.length)=_
   rw [List.take_length]
  ·rw [List.take_length] at hp;exact hp
theorem zcY (g:Gts):vq (g,())=some (bif tv (yG g) then 0 else 370,()):=by
 have bad:∀{v:Int},¬yG g→v=370→v=bif tv (yG g) then 0 else 370:=fun h e=>by rw [qu h,e];rfl
 rw [zqS];unfold zfg
 refine gr (zn (J:=fun x=>(x.1=0∧x.2.1.1=0∧1≤g.1.length∧g.1.length≤128)∨(x.1=1∧x.2.1.1=370∧¬yG g)) ?_ ?_)
 ·refine zq (fun h=>zd (.inr ⟨rfl,rfl,fun hs=>?_⟩)) fun h1=>zq (fun h=>zd (.inr ⟨rfl,rfl,fun hs=>?_⟩)) fun h2=>zd (.inl ⟨rfl,rfl,?_⟩)
  ·have:=yF h;have:=hs.n0;omega
  ·have:=yF h;have:=hs.n1;omega
  ·have:=wX h1;have:=wX h2;omega
 rintro ⟨j,⟨v,⟨⟩⟩,⟨⟩⟩ (⟨rfl,rfl,n0,n1⟩ | ⟨rfl,rfl,hq⟩)
 rotate_left
 ·exact zg rfl (zd (bad hq rfl))
 refine zh rfl (zn (zBL n1 rfl) ?_)
 rintro ⟨j,⟨v,w,z,⟨⟩⟩,⟨⟩⟩ (⟨rfl,rfl,rfl,he⟩ | ⟨rfl,rfl,he⟩)
 rotate_left
 ·exact zg rfl (zd (bad (fun h=>he h.el) rfl))
 refine zh rfl (zn (J:=fun x=>(x.1=0∧yG g)∨(x.1=1∧x.2.1.1=370∧¬yG g)) ?_ ?_)
 ·refine zq (fun h=>zd (.inr ⟨rfl,rfl,fun hs=>?_⟩)) fun h1=>zq (fun h=>zd (.inr ⟨rfl,rfl,fun hs=>?_⟩)) fun h2=>zd (.inl ⟨rfl,n0,n1,he,jg (by simpa using h1),?_⟩)
  ·rw [wa hs.cy] at h;cases h
  ·have:=yF h;have:=hs.c1;have:=hs.cy;simp only at *;omega
  ·have:=wX h2
   have:ko g.1=g.2:=jg (by simpa using h1)
   simp only at *;omega
 ·rintro ⟨j,⟨v,⟨⟩⟩,⟨⟩⟩ (⟨rfl,hq⟩ | ⟨rfl,rfl,hq⟩)
  ·rw [zN hq];exact zh rfl (zd rfl)
  ·exact zg rfl (zd (bad hq rfl))
abbrev Fab:=jm×(Int×Int×Int×Int)×List Gts×Int
def zs7 (n:Fab):Prop:=∀g∈n.2.2.1,yG g
def zkm (n:Fab):Prop:=(n.2.2.1.length:Int)=2*(n.1.2.2.length:Int)∧84≤n.2.2.2∧n.2.2.2≤1542
noncomputable def zby (n:Fab):Int:=bif tv (ug n.1) then bif tv (GB n.2.1) then bif tv (zs7 n) then bif tv (zkm n) then 0 else 410 else 370 else 320 else 260
structure zok (n:Fab):Prop where
 t:ug n.1
 u:GB n.2.1
 g:zs7 n
 f:zkm n
theorem zDg {n:Fab} (h:zby n=0):zok n:=by
 unfold zby at h
 by_cases h1:ug n.1
 ·by_cases h2:GB n.2.1
  ·by_cases h3:zs7 n
   ·by_cases h4:zkm n
    ·exact ⟨h1,h2,h3,h4⟩
    ·rw [zN h1,zN h2,zN h3,qu h4] at h;cases h
   ·rw [zN h1,zN h2,qu h3] at h;cases h
  ·rw [zN h1,qu h2] at h;cases h
 ·rw [qu h1] at h;cases h
theorem zHH {n:Fab} (h:zok n):zby n=0:=by unfold zby;rw [zN h.t,zN h.u,zN h.g,zN h.f];rfl
theorem zBM {n:Fab} (hl:n.1.2.2.length≤24):qp (bif (!(zj ((((n.2.2.1).length:Nat):Int)) ((wrF .i64 ((2*(((n.1.2.2).length:Nat):Int))))))) then some ((1:Nat),(((410:Int),()),()))
     else bif (zt (n.2.2.2) (84)) then some (1,((410,()),()))
      else bif (zt (1542) (n.2.2.2)) then some (1,((410,()),()))
       else some (0,((0,()),()))) fun x=>(x.1=0∧x.2.1.1=0∧zkm n)∨(x.1=1∧x.2.1.1=410∧¬zkm n):=by
 rw [tw n.1 (by omega)]
 refine zq (fun h=>zd (.inr ⟨rfl,rfl,fun hs=>?_⟩)) fun h1=>zq (fun h=>zd (.inr ⟨rfl,rfl,fun hs=>?_⟩)) fun h2=>zq (fun h=>zd (.inr ⟨rfl,rfl,fun hs=>?_⟩)) fun h3=>zd (.inl ⟨rfl,rfl,?_⟩)
 ·rw [wa hs.1] at h;cases h
 ·have:=yF h;have:=hs.2.1;omega
 ·have:=yF h;have:=hs.2.2;omega
 ·exact ⟨jg (by simpa using h1),wX h2,wX h3⟩
theorem zbU {n:Fab} (hn:n.2.2.1.length≤1000000000000000000):xr (n,())=some (zby n,()):=by
 rw [zjc];unfold Uu zby
 simp only [Wy,zF]
 by_cases ht:ug n.1
 rotate_left
 ·rw [qu ht];rfl
 rw [zN ht]
 simp only [cond_true,zkl,zF]
 rw [show (!zj 0 0)=false from rfl,cond_false]
 by_cases hu:GB n.2.1
 rotate_left
 ·rw [qu hu];rfl
 rw [zN hu]
 simp only [cond_true]
 rw [show (!zj 0 0)=false from rfl,cond_false]
 refine gr (zn (J:=fun x=>(x.1=0∧x.2.1.1=0∧zs7 n)∨(x.1=1∧x.2.1.1=370∧¬zs7 n)) (uR n.2.2.1.length (fun i=>∀g,n.2.2.1[i]?=some g→yG g) hn ?_ ?_) ?_)
 ·intro i hi hp
  have hx:n.2.2.1[i]?=some n.2.2.1[i]:=List.getElem?_eq_getElem hi
  have hm:=List.getElem_mem hi
  generalize n.2.2.1[i]=g at hx hm
  refine zh (qx (show (i:Int) < (n.2.2.1.length:Int) by omega)) (zo (zP (n:=i) hx ?_))
  rw [zcY,zF]
  by_cases hg:yG g
  ·rw [zN hg]
   exact zg rfl (zd (Zl (by omega) fun r' hr'=>by rw [hx] at hr';cases hr';exact hg))
  ·rw [qu hg]
   exact zh rfl (zd (zE (.inr ⟨rfl,rfl,fun hq=>hg (hq g hm)⟩)))
 ·intro hp
  refine zg (qa (show ¬(n.2.2.1.length:Int) < (n.2.2.1.length:Int) by omega)) (zd (zE (.inl ⟨rfl,rfl,fun r hr=>?_⟩)))
  obtain ⟨k,hk,hk2⟩:=gS hr
  exact hp k hk r hk2
 ·rintro ⟨j,⟨v,w,⟨⟩⟩,⟨⟩⟩ (⟨rfl,rfl,hq⟩ | ⟨rfl,rfl,hq⟩)
  ·rw [zN hq]
   refine zh rfl (zn (zBM ht.sz.ls) ?_)
   rintro ⟨j,⟨v,⟨⟩⟩,⟨⟩⟩ (⟨rfl,rfl,hf⟩ | ⟨rfl,rfl,hf⟩)
   ·rw [zN hf];exact zh rfl (zd rfl)
   ·rw [qu hf];exact zg rfl (zd rfl)
  ·rw [qu hq];exact zg rfl (zd rfl)
def opn (m:Int):Bool:=m / 64 % 2 == 1
theorem zIk {m:Int}:yK .i64 m 6=m / 64:=by
 show m.fdiv (2 ^ (min (6:Int).toNat 64))=m / 64
 rw [show (2:Int) ^ (min (6:Int).toNat 64)=64 from rfl]
 exact Int.fdiv_eq_ediv_of_nonneg m (by omega)
theorem vO {e:Int×Int} (h:zcX e):vS (e,())=some (opn e.1,()):=by
 rw [zdo];unfold KD opn
 rw [zIk]
 have h0:=h.1;have h1:=h.2.1
 have:e.1 / 64=0∨e.1 / 64=1∨e.1 / 64=2∨e.1 / 64=3:=by omega
 rcases this with h | h | h | h<;>rw [h]<;>rfl
def opA:List (Int×Int)→Int→Bool
 |[],_=>false
 |e::l,r=>if r < e.2 then opn e.1 else opA l (r - e.2)
def opT (g:Gts) (t:Int):Bool:=opA g.1 (t % g.2)
theorem zDh:∀(l:List (Int×Int)),(∀e∈l,zcX e)→∀(i:Nat) (e:Int×Int) (r:Int),l[i]?=some e→ko (l.take i)≤r→r < ko (l.take i)+e.2→opA l r=opn e.1
 |[],_,i,e,r,h,_,_=>by simp at h
 |a::l,hl,0,e,r,h,h1,h2=>by
  simp at h;subst h
  simp [ko] at h1 h2
  unfold opA;rw [if_pos h2]
 |a::l,hl,i+1,e,r,h,h1,h2=>by
  have h':l[i]?=some e:=by simpa using h
  have hh:=Uo (l:=l.take i) fun e he=>hl e (by simp [List.mem_of_mem_take he])
  have ea:ko ((a::l).take (i+1))=a.2+ko (l.take i):=by simp [ko]
  rw [ea] at h1 h2
  unfold opA
  rw [if_neg (by omega)]
  exact zDh l (fun e he=>hl e (by simp [he])) i e (r - a.2) h' (by omega) (by omega)
theorem zGL (g:Gts) (t:Int):opT g (t+g.2)=opT g t:=by unfold opT;rw [Int.add_emod_right]
theorem ze5 {l:List (Int×Int)} (h:∀e∈l,zcX e) {i k:Nat} (hk:i≤k):ko (l.take i)≤ko (l.take k):=by
 obtain ⟨d,rfl⟩:∃d,k=i+d:=⟨k - i,by omega⟩
 induction d with
 |zero=>exact Int.le_refl _
 |succ d ih=>
  have:=ih (by omega)
  rcases Nat.lt_or_ge (i+d) l.length with h2 | h2
  ·have hx:l[i+d]?=some l[i+d]:=List.getElem?_eq_getElem h2
   have:=Kj hx
   have:=(h _ (List.getElem_mem h2)).2.2.1
   rw [show i+(d+1)=i+d+1 from rfl];omega
  ·rw [List.take_of_length_le (by omega:l.length≤i+(d+1)),←List.take_of_length_le (l:=l) (by omega:l.length≤i+d)]
   rw [List.take_of_length_le (l:=l) (by omega:l.length≤i+d)] at this ⊢
   exact this
theorem zd7 (l:List (Int×Int)):ko (l.take l.length)=ko l:=by rw [List.take_length]
theorem yG.pos {g:Gts} (h:yG g):1≤g.2:=by
 have:=(Uo h.el).1;have:=h.cy;have:=h.n0;omega
def tAt (g:Gts) (k:Nat):Int:=((k / g.1.length:Nat):Int)*g.2+ko (g.1.take (k % g.1.length))
theorem zyP {g:Gts} {k:Nat} (h:k < g.1.length):tAt g k=ko (g.1.take k):=by
 unfold tAt;rw [Nat.div_eq_of_lt h,Nat.mod_eq_of_lt h];simp
theorem zAg {g:Gts} (hg:yG g) (k:Nat):tAt g (k+g.1.length)=tAt g k+g.2:=by
 have:=hg.n0
 unfold tAt
 rw [Nat.add_div_right _ (by omega),Nat.add_mod_right,Int.natCast_succ,Int.add_mul];omega
theorem zhP {g:Gts} (hg:yG g) {k:Nat} {e:Int×Int} (h:g.1[k % g.1.length]?=some e):tAt g (k+1)=tAt g k+e.2:=by
 have h0:=hg.n0
 have hm:k % g.1.length < g.1.length:=Nat.mod_lt _ (by omega)
 have hk:=Nat.div_add_mod k g.1.length
 have hs:=Kj h
 unfold tAt
 rcases Nat.lt_or_ge (k % g.1.length+1) g.1.length with h1 | h1
 ·have e1:(k+1) % g.1.length=k % g.1.length+1:=by
   rw [Nat.add_mod,Nat.mod_eq_of_lt (show 1 < g.1.length by omega),Nat.mod_eq_of_lt h1]
  have e2:(k+1) / g.1.length=k / g.1.length:=by
   have a:=Nat.div_add_mod (k+1) g.1.length
   rw [e1] at a
   have b:g.1.length*((k+1) / g.1.length)=g.1.length*(k / g.1.length):=by omega
   exact Nat.eq_of_mul_eq_mul_left (by omega) b
  rw [e1,e2,hs];omega
 ·have h2:k % g.1.length+1=g.1.length:=by omega
  have e3:k+1=(k / g.1.length+1)*g.1.length:=by
   rw [Nat.add_mul,Nat.mul_comm];omega
  have e1:(k+1) % g.1.length=0:=by rw [e3];exact Nat.mul_mod_left _ _
  have e2:(k+1) / g.1.length=k / g.1.length+1:=by rw [e3];exact Nat.mul_div_left _ (by omega)
  rw [h2,zd7,hg.cy] at hs
  rw [e1,e2,Int.natCast_succ,Int.add_mul]
  simp only [List.take_zero]
  have:ko []=0:=rfl
  omega
theorem zyQ {g:Gts} (hg:yG g) {k:Nat} {e:Int×Int} (h:g.1[k % g.1.length]?=some e) {t:Int} (h1:tAt g k≤t) (h2:t < tAt g k+e.2):opT g t=opn e.1:=by
 have h0:=hg.n0
 have hm:k % g.1.length < g.1.length:=Nat.mod_lt _ (by omega)
 have hs:=Kj h
 have hb:=Uo (l:=g.1.take (k % g.1.length)) fun e he=>hg.el e (List.mem_of_mem_take he)
 have hle:=ze5 hg.el (show k % g.1.length+1≤g.1.length by omega)
 rw [zd7,hg.cy] at hle
 unfold tAt at h1 h2
 have hr:t % g.2=t - ((k / g.1.length:Nat):Int)*g.2:=by
  have:t=(t - ((k / g.1.length:Nat):Int)*g.2)+((k / g.1.length:Nat):Int)*g.2:=by omega
  rw [this,Int.add_mul_emod_self_right,Int.emod_eq_of_lt (by omega) (by omega)];omega
 unfold opT
 exact zDh g.1 hg.el (k % g.1.length) e _ h (by omega) (by omega)
def zcZ (l:List (Int×Int)):Prop:=∀e∈l,opn e.1=true
theorem zH7 {e:Int×Int} (h:zcX e):zj (Ze .and .i64 (yK .i64 e.1 6) 1) 1=opn e.1:=by
 have:=vO h
 rw [zdo] at this
 unfold KD at this
 exact congrArg (·.1) (Option.some.inj this)
theorem zuN {g:Gts} (hg:yG g) {e:Int×Int} (h:g.1[0]?=some e):Vp (g,0,())=some (0,e.2,()):=by
 have hp:=hg.pos;have hc:=hg.c1
 have he:=hg.el e (List.mem_of_getElem? h)
 have h2:=he.2.2.1;have h3:=he.2.2.2
 rw [zsH];unfold zhj
 rw [ji (show g.2≠0 by omega),cond_false,cond_false,show atI g.1 0=some e from Qx (n:=0) h]
 simp only [zF]
 rw [show Int.tmod 0 g.2=0 from Int.zero_tmod _,show wrF .i64 (0+g.2)=g.2 from by rw [qU]<;>omega,show Int.tmod g.2 g.2=0 from Int.tmod_self]
 rw [qx (show (0:Int) < e.2 by omega),show wrF .i64 (e.2 - 0)=e.2 from by rw [qU]<;>omega]
 rfl
theorem zuO {g:Gts} (hg:yG g):qp (Vs (g,6,0,())) fun r=>(r.1=1099511627776∧zcZ g.1)∨(r.1 < 1099511627776∧¬zcZ g.1):=by
 have h0:=hg.n0;have h1:=hg.n1;have hp:=hg.pos;have hc:=hg.c1
 have hx0:g.1[0]?=some g.1[0]:=List.getElem?_eq_getElem (by omega)
 generalize g.1[0]=e0 at hx0
 rw [zsJ];unfold zhk
 rw [zuN hg hx0,zF]
 have ew:wrF .i64 ((g.1.length:Int)+1)=(g.1.length:Int)+1:=qU (by omega) (by omega)
 rw [ew]
 refine zn (J:=fun x=>(x.1=0∧x.2.1.2.1=g∧zcZ g.1)∨(x.1=1∧x.2.1.2.2.1 < g.2∧¬zcZ g.1))
  (qz (g.1.length+1) (fun i s=>∃e,g.1[i % g.1.length]?=some e∧s=((6,(g,(0,(tAt g i,(((i % g.1.length:Nat):Int),(e.2,((i:Int),()))))))),())∧∀(k:Nat),k < i→∀e',g.1[k % g.1.length]?=some e'→opn e'.1=true) (by omega)
   ⟨e0,by rw [Nat.zero_mod];exact hx0,by rw [zyP (by omega),Nat.zero_mod];rfl,fun k hk=>by omega⟩ ?_ ?_) ?_
 ·rintro i _ hi ⟨e,he,rfl,hp'⟩
  have hm:i % g.1.length < g.1.length:=Nat.mod_lt _ (by omega)
  have hen:=hg.el e (List.mem_of_getElem? he)
  have hts:=zhP hg he
  have htb:0≤tAt g i∧tAt g i≤2*9600000:=by
   unfold tAt
   have hb:=Uo (l:=g.1.take (i % g.1.length)) fun e he=>hg.el e (List.mem_of_mem_take he)
   have hle:=ze5 hg.el (show i % g.1.length≤g.1.length by omega)
   rw [zd7,hg.cy] at hle
   have hd:i / g.1.length≤1:=by
    have:i / g.1.length < 2:=Nat.div_lt_of_lt_mul (by omega)
    omega
   have:((i / g.1.length:Nat):Int)*g.2≤1*g.2:=Int.mul_le_mul_of_nonneg_right (by omega) (by omega)
   have:0≤((i / g.1.length:Nat):Int)*g.2:=Int.mul_nonneg (Int.natCast_nonneg _) (by omega)
   omega
  refine zh (qx (show (i:Int) < (g.1.length:Int)+1 by omega)) (zo (zP (n:=i % g.1.length) he ?_))
  refine zg rfl ?_
  have hb:=zH7 hen
  refine zq (fun h=>?_) (fun h=>?_)
  ·have h':(!zj (Ze .and .i64 (yK .i64 e.1 6) 1) 1)=true:=h
   rw [hb] at h'
   refine zd (zE (.inr ⟨rfl,?_,fun ha=>?_⟩))
   ·show tAt g i < g.2
    rcases Nat.lt_or_ge i g.1.length with hi2 | hi2
    ·rw [zyP hi2]
     have hle:=ze5 hg.el (show i+1≤g.1.length by omega)
     rw [zd7,hg.cy] at hle
     rw [Nat.mod_eq_of_lt hi2] at he
     rw [Kj he] at hle
     have:=hen.2.2.1;omega
    ·exfalso
     have hi3:i=g.1.length:=by omega
     rw [hi3,Nat.mod_self] at he
     have:=hp' 0 (by omega) e (by rw [Nat.zero_mod];exact he)
     rw [this] at h';cases h'
   ·rw [ha e (List.mem_of_getElem? he)] at h';cases h'
  ·have h':(!zj (Ze .and .i64 (yK .i64 e.1 6) 1) 1)=false:=h
   rw [hb] at h'
   have hop:opn e.1=true:=by simpa using h'
   refine zg (ji (show (g.1.length:Int)≠0 by omega)) ?_
   have e1:Int.tmod (wrF .i64 (((i % g.1.length:Nat):Int)+1)) (g.1.length:Int)=(((i+1) % g.1.length:Nat):Int):=by
    rw [qQ (by omega),Int.tmod_eq_emod_of_nonneg (by omega),←Int.natCast_emod,Nat.mod_add_mod]
   have hm2:(i+1) % g.1.length < g.1.length:=Nat.mod_lt _ (by omega)
   have hx2:g.1[(i+1) % g.1.length]?=some (g.1[(i+1) % g.1.length]'hm2):=List.getElem?_eq_getElem hm2
   refine zo (ve (a:=g.1[(i+1) % g.1.length]'hm2) (by show atI g.1 (Int.tmod (wrF .i64 (((i % g.1.length:Nat):Int)+1)) (g.1.length:Int))=_;rw [e1];exact Qx hx2) ?_)
   refine zd (qR ⟨_,hx2,?_,fun k hk e' he'=>?_⟩)
   ·show ((6,(g,(0,((wrF .i64 (tAt g i+e.2)),((Int.tmod (wrF .i64 (((i % g.1.length:Nat):Int)+1)) (g.1.length:Int)),(_,((wrF .i64 ((i:Int)+1)),()))))))),())=_
    rw [e1,qQ (by omega),hts,qU (by have:=hen.2.2.1;omega) (by have:=hen.2.2.2;omega)]
   ·rcases Nat.lt_or_ge k i with hki | hki
    ·exact hp' k hki e' he'
    ·have:k=i:=by omega
     subst this
     rw [he] at he';cases he'
     exact hop
 ·rintro _ ⟨e,he,rfl,hp'⟩
  refine zg (qa (show ¬((g.1.length+1:Nat):Int) < (g.1.length:Int)+1 by omega)) (zd (zE (.inl ⟨rfl,rfl,fun e' he'=>?_⟩)))
  obtain ⟨k,hk,hk2⟩:=gS he'
  exact hp' k (by omega) e' (by rw [Nat.mod_eq_of_lt hk];exact hk2)
 ·rintro ⟨j,⟨c,q,r,n,i,l,k,⟨⟩⟩,⟨⟩⟩ (⟨rfl,hq,ha⟩ | ⟨rfl,hq,ha⟩)
  ·simp only at hq
   subst hq
   exact zh rfl (zh (wa rfl) (zd (.inl ⟨rfl,ha⟩)))
  ·simp only at hq
   refine zg rfl (zg (ji (show r≠g.2 by omega)) (zd (.inr ⟨?_,ha⟩)))
   show r < _
   omega
theorem ze6 {g:Gts} (hg:yG g):QG (g,())=some (tv (zcZ g.1),()):=by
 rw [zmv];unfold zbo
 refine Wx ?_
 have e1:YF (g,6,0,0,())=some (0,()):=by
  rw [zq1];unfold zfk
  rw [zcY,zN hg];rfl
 obtain ⟨⟨v,⟨⟩⟩,e2,hv⟩:=zuO hg
 have e3:Vv (g,6,0,())=some (v,0,()):=by
  rw [zsL];unfold zhl
  rw [e1,e2];rfl
 rw [e3]
 refine zd ?_
 rcases hv with ⟨h1,h2⟩ | ⟨h1,h2⟩
 ·exact ⟨fun _=>h2,fun _=>wa h1⟩
 ·exact ⟨fun h=>by have:=jg h;simp only at h1 this;omega,fun h=>absurd h h2⟩
structure Cov (o:Int→Bool) (a b:Int) (l:List (Int×Int)):Prop where
 bd:∀p∈l,a≤p.1∧p.1 < p.2∧p.2≤b
 pw:l.Pairwise fun p q=>p.2 < q.1
 iff:∀t,a≤t→t < b→(o t=true↔∃p∈l,p.1≤t∧t < p.2)
theorem zyR {o:Int→Bool} {a b:Int} {p:Int×Int} {l:List (Int×Int)} (h:Cov o a b (p::l)):Cov o p.2 b l:=by
 have hp:=h.bd p (by simp)
 have hpw:=List.pairwise_cons.1 h.pw
 refine ⟨fun q hq=>?_,hpw.2,fun t h1 h2=>?_⟩
 ·have:=h.bd q (by simp [hq]);have:=hpw.1 q hq;omega
 ·rw [h.iff t (by omega) h2]
  constructor
  ·rintro ⟨q,hq,h3,h4⟩
   rcases List.mem_cons.1 hq with rfl | hq
   ·omega
   ·exact ⟨q,hq,h3,h4⟩
  ·rintro ⟨q,hq,h3,h4⟩
   exact ⟨q,by simp [hq],h3,h4⟩
theorem zyS {o:Int→Bool}:∀{l m:List (Int×Int)} {a b:Int},Cov o a b l→Cov o a b m→l=m
 |[],[],_,_,_,_=>rfl
 |[],q::m,a,b,h,h'=>by
  have hq:=h'.bd q (by simp)
  have:=(h'.iff q.1 hq.1 (by omega)).2 ⟨q,by simp,by omega,hq.2.1⟩
  obtain ⟨p,hp,_⟩:=(h.iff q.1 hq.1 (by omega)).1 this
  cases hp
 |p::l,[],a,b,h,h'=>by
  have hq:=h.bd p (by simp)
  have:=(h.iff p.1 hq.1 (by omega)).2 ⟨p,by simp,by omega,hq.2.1⟩
  obtain ⟨p,hp,_⟩:=(h'.iff p.1 hq.1 (by omega)).1 this
  cases hp
 |p::l,q::m,a,b,h,h'=>by
  have hp:=h.bd p (by simp)
  have hq:=h'.bd q (by simp)
  have hpw:=List.pairwise_cons.1 h.pw
  have hqw:=List.pairwise_cons.1 h'.pw
  have e1:p.1=q.1:=by
   apply Classical.byContradiction
   intro hne
   rcases Int.lt_or_lt_of_ne hne with hlt | hlt
   ·have:=(h.iff p.1 hp.1 (by omega)).2 ⟨p,by simp,by omega,hp.2.1⟩
    obtain ⟨r,hr,h1,h2⟩:=(h'.iff p.1 hp.1 (by omega)).1 this
    rcases List.mem_cons.1 hr with rfl | hr
    ·omega
    ·have:=hqw.1 r hr;omega
   ·have:=(h'.iff q.1 hq.1 (by omega)).2 ⟨q,by simp,by omega,hq.2.1⟩
    obtain ⟨r,hr,h1,h2⟩:=(h.iff q.1 hq.1 (by omega)).1 this
    rcases List.mem_cons.1 hr with rfl | hr
    ·omega
    ·have:=hpw.1 r hr;omega
  have e2:p.2=q.2:=by
   apply Classical.byContradiction
   intro hne
   rcases Int.lt_or_lt_of_ne hne with hlt | hlt
   ·have:=(h'.iff p.2 (by omega) (by omega)).2 ⟨q,by simp,by omega,by omega⟩
    obtain ⟨r,hr,h1,h2⟩:=(h.iff p.2 (by omega) (by omega)).1 this
    rcases List.mem_cons.1 hr with rfl | hr
    ·omega
    ·have:=hpw.1 r hr;omega
   ·have:=(h.iff q.2 (by omega) (by omega)).2 ⟨p,by simp,by omega,by omega⟩
    obtain ⟨r,hr,h1,h2⟩:=(h'.iff q.2 (by omega) (by omega)).1 this
    rcases List.mem_cons.1 hr with rfl | hr
    ·omega
    ·have:=hqw.1 r hr;omega
  have e:p=q:=Prod.ext e1 e2
  subst e
  rw [zyS (zyR h) (zyR h')]
theorem zuP (o:Int→Bool) (a:Int):Cov o a a []:=⟨fun p h=>(by cases h),List.Pairwise.nil,fun t h1 h2=>by omega⟩
theorem zpe {o:Int→Bool} {a b c:Int} {l:List (Int×Int)} (h:Cov o a b l) (hb:b≤c) (hab:a≤b) (hg:∀t,b≤t→t < c→o t=false):Cov o a c l:=by
 refine ⟨fun p hp=>by have:=h.bd p hp;omega,h.pw,fun t h1 h2=>?_⟩
 rcases Int.lt_or_le t b with h3 | h3
 ·exact h.iff t h1 h3
 ·rw [hg t h3 h2]
  constructor
  ·intro h;cases h
  ·rintro ⟨p,hp,h4,h5⟩
   have:=h.bd p hp;omega
theorem zAh {o:Int→Bool} {a b c:Int} {l:List (Int×Int)} (h:Cov o a b l) (hb:b < c) (hab:a≤b) (hl:∀p∈l,p.2 < b) (hg:∀t,b≤t→t < c→o t=true):Cov o a c (l++[(b,c)]):=by
 refine ⟨fun p hp=>?_,?_,fun t h1 h2=>?_⟩
 ·rcases List.mem_append.1 hp with hp | hp
  ·have:=h.bd p hp;omega
  ·simp at hp;subst hp;simp only;omega
 ·rw [List.pairwise_append]
  refine ⟨h.pw,List.pairwise_singleton _ _,fun p hp q hq=>?_⟩
  simp at hq;subst hq
  exact hl p hp
 ·rcases Int.lt_or_le t b with h3 | h3
  ·rw [h.iff t h1 h3]
   constructor
   ·rintro ⟨p,hp,h4⟩;exact ⟨p,by simp [hp],h4⟩
   ·rintro ⟨p,hp,h4,h5⟩
    rcases List.mem_append.1 hp with hp | hp
    ·exact ⟨p,hp,h4,h5⟩
    ·simp at hp;subst hp;simp only at h4;omega
  ·rw [hg t h3 h2]
   exact ⟨fun _=>⟨(b,c),by simp,h3,h2⟩,fun _=>rfl⟩
theorem zFj {o:Int→Bool} {a b c x:Int} {l:List (Int×Int)} (h:Cov o a b (l++[(x,b)])) (hb:b≤c) (hg:∀t,b≤t→t < c→o t=true):Cov o a c (l++[(x,c)]):=by
 have hx:=h.bd (x,b) (by simp)
 simp only at hx
 have hpw:=List.pairwise_append.1 h.pw
 refine ⟨fun p hp=>?_,?_,fun t h1 h2=>?_⟩
 ·rcases List.mem_append.1 hp with hp | hp
  ·have:=h.bd p (by simp [hp]);omega
  ·simp at hp;subst hp;simp only;omega
 ·rw [List.pairwise_append]
  refine ⟨hpw.1,List.pairwise_singleton _ _,fun p hp q hq=>?_⟩
  simp at hq;subst hq
  exact hpw.2.2 p hp (x,b) (by simp)
 ·rcases Int.lt_or_le t b with h3 | h3
  ·rw [h.iff t h1 h3]
   constructor
   ·rintro ⟨p,hp,h4,h5⟩
    rcases List.mem_append.1 hp with hp | hp
    ·exact ⟨p,by simp [hp],h4,h5⟩
    ·simp at hp;subst hp;exact ⟨(x,c),by simp,h4,by simp only at h5 ⊢;omega⟩
   ·rintro ⟨p,hp,h4,h5⟩
    rcases List.mem_append.1 hp with hp | hp
    ·exact ⟨p,by simp [hp],h4,h5⟩
    ·simp at hp;subst hp;exact ⟨(x,b),by simp,h4,h3⟩
  ·rw [hg t h3 h2]
   exact ⟨fun _=>⟨(x,c),by simp,by simp only;omega,h2⟩,fun _=>rfl⟩
theorem zDi (o:Int→Bool) (a:Int):∀n:Nat,∃l,Cov o a (a+n) l∧((∃m x,l=m++[(x,a+n)])∨∀p∈l,p.2 < a+n)
 |0=>⟨[],by rw [show a+((0:Nat):Int)=a by omega];exact zuP o a,.inr fun p h=>by cases h⟩
 |n+1=>by
  obtain ⟨l,h,h2⟩:=zDi o a n
  have e:a+((n+1:Nat):Int)=a+n+1:=by omega
  rw [e]
  have one:∀(v:Bool),o (a+n)=v→∀t,a+n≤t→t < a+n+1→o t=v:=fun v hv t t1 t2=>by
   have:t=a+n:=by omega
   rw [this];exact hv
  cases ho:o (a+n) with
  |true=>
   rcases h2 with ⟨m,x,rfl⟩ | h2
   ·exact ⟨_,zFj h (by omega) (one true ho),.inl ⟨m,x,rfl⟩⟩
   ·exact ⟨_,zAh h (by omega) (by omega) h2 (one true ho),.inl ⟨l,_,rfl⟩⟩
  |false=>exact ⟨l,zpe h (by omega) (by omega) (one false ho),.inr fun p hp=>by have:=h.bd p hp;omega⟩
def kf (lost:Int) (l:List (Int×Int)):Int:=(l.map fun p=>max 0 (p.2 - p.1 - lost)).sum
theorem zgB {lost:Int} (hl:0≤lost):∀{l:List (Int×Int)} {a b:Int},a≤b→(∀p∈l,a≤p.1∧p.1 < p.2∧p.2≤b)→l.Pairwise (fun p q=>p.2 < q.1)→0≤kf lost l∧kf lost l≤b - a∧(l.length:Int)≤b - a
 |[],a,b,hab,_,_=>by simp [kf];omega
 |p::l,a,b,hab,hb,hp=>by
  have h1:=hb p (by simp)
  have hpw:=List.pairwise_cons.1 hp
  have ih:=zgB (lost:=lost) hl (l:=l) (a:=p.2) (b:=b) (by omega) (fun q hq=>by have:=hb q (by simp [hq]);have:=hpw.1 q hq;omega) hpw.2
  unfold kf at ih ⊢
  simp only [List.map_cons,List.sum_cons,List.length_cons]
  omega
theorem zGM {o:Int→Bool} {a a' b:Int} {l:List (Int×Int)} (h:Cov o a b l) (hb:a'≤a) (hg:∀t,a'≤t→t < a→o t=false):Cov o a' b l:=by
 refine ⟨fun p hp=>by have:=h.bd p hp;omega,h.pw,fun t h1 h2=>?_⟩
 rcases Int.lt_or_le t a with h3 | h3
 ·rw [hg t h1 h3]
  constructor
  ·intro h;cases h
  ·rintro ⟨p,hp,h4,h5⟩
   have:=h.bd p hp;omega
 ·exact h.iff t h3 h2
def clo:List (Int×Int)→Nat
 |[]=>0
 |e::l=>if opn e.1=true then clo l+1 else 0
theorem zs8:∀l,clo l≤l.length
 |[]=>Nat.le_refl _
 |e::l=>by unfold clo;have:=zs8 l;split<;>simp<;>omega
theorem zlE:∀(l:List (Int×Int)) (i:Nat) (e:Int×Int),i < clo l→l[i]?=some e→opn e.1=true
 |[],i,e,h,_=>by simp [clo] at h
 |a::l,0,e,h,h2=>by
  simp at h2;subst h2
  unfold clo at h
  split at h
  ·assumption
  ·omega
 |a::l,i+1,e,h,h2=>by
  unfold clo at h
  split at h
  ·exact zlE l i e (by omega) (by simpa using h2)
  ·omega
theorem zrv:∀(l:List (Int×Int)) (e:Int×Int),l[clo l]?=some e→opn e.1=false
 |[],e,h=>by simp [clo] at h
 |a::l,e,h=>by
  unfold clo at h
  split at h
  ·exact zrv l e (by simpa using h)
  ·rename_i h2
   simp at h;subst h
   simpa using h2
theorem zol {l:List (Int×Int)} (h:¬zcZ l):clo l < l.length:=by
 have:=zs8 l
 apply Classical.byContradiction
 intro hn
 apply h
 intro e he
 obtain ⟨k,hk,hk2⟩:=gS he
 exact zlE l k e (by omega) hk2
theorem zGN {l:List (Int×Int)} (h:zcZ l):clo l=l.length:=by
 have:=zs8 l
 apply Classical.byContradiction
 intro hn
 have hx:l[clo l]?=some (l[clo l]'(by omega)):=List.getElem?_eq_getElem (by omega)
 have:=zrv l _ hx
 rw [h _ (List.getElem_mem _)] at this
 cases this
def Inv (o:Int→Bool) (A at_:Int) (now:Int×Int) (L:List (Int×Int)):Prop:=
 A≤at_∧((now.2=0∧Cov o A at_ L∧∀p∈L,p.2 < at_)∨(0 < now.2∧now.1+now.2=at_∧A≤now.1∧Cov o A now.1 L∧(∀p∈L,p.2 < now.1)∧∀t,now.1≤t→t < at_→o t=true))
theorem zyT {o:Int→Bool} {A at_ d:Int} {now:Int×Int} {L:List (Int×Int)} (h:Inv o A at_ now L) (hd:0 < d) (ho:∀t,at_≤t→t < at_+d→o t=true):Inv o A (at_+d) (if now.2=0 then (at_,d) else (now.1,now.2+d)) L:=by
 obtain ⟨hA,h⟩:=h
 refine ⟨by omega,.inr ?_⟩
 rcases h with ⟨h1,h2,h3⟩ | ⟨h1,h2,h3,h4,h5,h6⟩
 ·rw [if_pos h1]
  exact ⟨hd,rfl,hA,h2,h3,ho⟩
 ·rw [if_neg (by omega)]
  refine ⟨by simp only;omega,by simp only;omega,h3,h4,h5,fun t t1 t2=>?_⟩
  simp only at t1
  rcases Int.lt_or_le t at_ with h7 | h7
  ·exact h6 t t1 h7
  ·exact ho t h7 t2
theorem zvP {o:Int→Bool} {A at_ d:Int} {now:Int×Int} {L:List (Int×Int)} (h:Inv o A at_ now L) (hd:0 < d) (hn:now.2=0) (ho:∀t,at_≤t→t < at_+d→o t=false):Inv o A (at_+d) (0,0) L:=by
 obtain ⟨hA,h⟩:=h
 refine ⟨by omega,.inl ⟨rfl,?_⟩⟩
 rcases h with ⟨h1,h2,h3⟩ | ⟨h1,h2,h3,h4,h5,h6⟩
 ·exact ⟨zpe h2 (by omega) hA ho,fun p hp=>by have:=h3 p hp;omega⟩
 ·omega
theorem zyU {o:Int→Bool} {A at_ d:Int} {now:Int×Int} {L:List (Int×Int)} (h:Inv o A at_ now L) (hd:0 < d) (hn:0 < now.2) (ho:∀t,at_≤t→t < at_+d→o t=false):Inv o A (at_+d) (0,0) (L++[(now.1,now.1+now.2)]):=by
 obtain ⟨hA,h⟩:=h
 refine ⟨by omega,.inl ⟨rfl,?_⟩⟩
 rcases h with ⟨h1,h2,h3⟩ | ⟨h1,h2,h3,h4,h5,h6⟩
 ·omega
 ·have:=zAh (c:=now.1+now.2) h4 (by omega) h3 h5 fun t t1 t2=>h6 t t1 (by omega)
  refine ⟨zpe this (by omega) (by omega) fun t t1 t2=>ho t (by omega) t2,fun p hp=>?_⟩
  rcases List.mem_append.1 hp with hp | hp
  ·have:=h5 p hp;omega
  ·simp at hp;subst hp;simp only;omega
def at0 (g:Gts):Int:=ko (g.1.take (clo g.1))
structure Ub (g:Gts) (L:List (Int×Int)):Prop where
 cv:Cov (opT g) (at0 g) (at0 g+g.2) L
 gt:∀p∈L,at0 g < p.1
theorem zs9 {g:Gts} (hg:yG g):0≤at0 g∧at0 g≤9600000:=by
 unfold at0
 have hb:=Uo (l:=g.1.take (clo g.1)) fun e he=>hg.el e (List.mem_of_mem_take he)
 have hle:=ze5 hg.el (zs8 g.1)
 rw [zd7,hg.cy] at hle
 have:=hg.c1
 omega
theorem zpf {g:Gts} (hg:yG g) (ha:¬zcZ g.1):∃e,g.1[clo g.1]?=some e∧opn e.1=false∧zcX e∧tAt g (clo g.1)=at0 g:=by
 have hl:=zol ha
 have hx:g.1[clo g.1]?=some (g.1[clo g.1]):=List.getElem?_eq_getElem hl
 exact ⟨_,hx,zrv _ _ hx,hg.el _ (List.getElem_mem hl),zyP hl⟩
theorem zyV {g:Gts} (hg:yG g) (ha:¬zcZ g.1) {L L':List (Int×Int)} (h:Cov (opT g) (tAt g (clo g.1+1)) (tAt g (clo g.1+1)+g.2) L) (hr:Ub g L'):L'=L:=by
 obtain ⟨e,hx,he,hen,h0⟩:=zpf hg ha
 have hm:clo g.1 % g.1.length=clo g.1:=Nat.mod_eq_of_lt (zol ha)
 have hts:=zhP hg (k:=clo g.1) (e:=e) (by rw [hm];exact hx)
 have hd:=hen.2.2.1
 have hp:=hg.pos
 have hcl:∀t,at0 g≤t→t < at0 g+e.2→opT g t=false:=fun t t1 t2=>by
  rw [zyQ hg (k:=clo g.1) (e:=e) (by rw [hm];exact hx) (by omega) (by omega)];exact he
 have c1:Cov (opT g) (at0 g) (at0 g+g.2+e.2) L':=zpe hr.cv (by omega) (by omega) fun t t1 t2=>by
  have:=zGL g (t - g.2)
  rw [Int.sub_add_cancel] at this
  rw [this];exact hcl _ (by omega) (by omega)
 have c2:Cov (opT g) (at0 g) (at0 g+g.2+e.2) L:=by
  rw [hts,h0] at h
  have:=zGM h (show at0 g≤at0 g+e.2 by omega) hcl
  rwa [show at0 g+e.2+g.2=at0 g+g.2+e.2 by omega] at this
 exact zyS c1 c2
theorem zFk {g:Gts} (hg:yG g) (ha:¬zcZ g.1):∃L,Ub g L:=by
 have hl:=zol ha
 obtain ⟨e,hx,he,hen,h0⟩:=zpf hg ha
 have h0b:=zs9 hg
 have hc:=hg.c1;have hp:=hg.pos;have hn:=hg.n1
 obtain ⟨L,hcv,_⟩:=zDi (opT g) (at0 g) g.2.toNat
 rw [show at0 g+(g.2.toNat:Int)=at0 g+g.2 by omega] at hcv
 refine ⟨L,hcv,fun p hp'=>?_⟩
 have hb:=hcv.bd p hp'
 have hm:clo g.1 % g.1.length=clo g.1:=Nat.mod_eq_of_lt hl
 have hd:=hen.2.2.1
 rcases Int.lt_or_le (at0 g) p.1 with h | h
 ·exact h
 ·exfalso
  have e1:p.1=at0 g:=by omega
  have:=(hcv.iff p.1 hb.1 (by omega)).2 ⟨p,hp',by omega,hb.2.1⟩
  rw [zyQ hg (k:=clo g.1) (e:=e) (by rw [hm];exact hx) (by omega) (by omega),he] at this
  cases this
theorem zta {g:Gts} (hg:yG g) {k:Nat} (h:k≤4*g.1.length):0≤tAt g k∧tAt g k≤5*9600000:=by
 have h0:=hg.n0;have hp:=hg.pos;have hc:=hg.c1
 unfold tAt
 have hm:k % g.1.length < g.1.length:=Nat.mod_lt _ (by omega)
 have hb:=Uo (l:=g.1.take (k % g.1.length)) fun e he=>hg.el e (List.mem_of_mem_take he)
 have hle:=ze5 hg.el (show k % g.1.length≤g.1.length by omega)
 rw [zd7,hg.cy] at hle
 have hd:k / g.1.length≤4:=by
  have:k / g.1.length < 5:=Nat.div_lt_of_lt_mul (by omega)
  omega
 have h1:((k / g.1.length:Nat):Int)≤4:=by exact_mod_cast hd
 have:((k / g.1.length:Nat):Int)*g.2≤4*g.2:=Int.mul_le_mul_of_nonneg_right h1 (by omega)
 have:0≤((k / g.1.length:Nat):Int)*g.2:=Int.mul_nonneg (Int.natCast_nonneg _) (by omega)
 omega
theorem zAi {g:Gts} (hg:yG g) {c i:Nat} (hc:c < 1000000) (hi:i < 1000000):Int.tmod (wrF .i64 ((wrF .i64 ((c:Int)+1))+(i:Int))) (g.1.length:Int)=(((c+1+i) % g.1.length:Nat):Int):=by
 rw [qQ (by omega),qU (by omega) (by omega),Int.tmod_eq_emod_of_nonneg (by omega),←Int.natCast_add,←Int.natCast_emod]
theorem zDj {g:Gts} (hg:yG g) (k:Nat):∃e,g.1[k % g.1.length]?=some e∧zcX e∧tAt g (k+1)=tAt g k+e.2∧∀t,tAt g k≤t→t < tAt g k+e.2→opT g t=opn e.1:=by
 have h0:=hg.n0
 have hm:k % g.1.length < g.1.length:=Nat.mod_lt _ (by omega)
 have hx:g.1[k % g.1.length]?=some (g.1[k % g.1.length]):=List.getElem?_eq_getElem hm
 exact ⟨_,hx,hg.el _ (List.getElem_mem hm),zhP hg hx,fun t t1 t2=>zyQ hg hx t1 t2⟩
theorem zDk {o:Int→Bool} {A at_:Int} {now:Int×Int} {L:List (Int×Int)} (h:Inv o A at_ now L) (hA:0≤A) (hat:at_≤5*9600000):0≤now.2∧now.2≤at_:=by
 obtain ⟨hA',h⟩:=h
 rcases h with ⟨h1,h2,h3⟩ | ⟨h1,h2,h3,h4,h5,h6⟩<;>omega
theorem zdq {g:Gts} (hg:yG g) (ha:¬zcZ g.1) {L:List (Int×Int)} (hr:Ub g L) {lost:Int} (l0:0≤lost) (l1:lost≤1000000000000):kn (g,lost,())=some (kf lost L,()):=by
 have hl:=zol ha
 obtain ⟨e,hx,he,hen,h0⟩:=zpf hg ha
 have h0b:=zs9 hg
 have hc:=hg.c1;have hp:=hg.pos;have hn:=hg.n1;have hn0:=hg.n0
 rw [zcE];unfold XJ
 simp only [ze6 hg,zF,qu ha,cond_false]
 refine gr (zn (J:=fun x=>x.2.1=(0,(at0 g,(((clo g.1:Nat):Int),())))) (qz (clo g.1) (fun i s=>s=((0,(ko (g.1.take i),((i:Int),()))),((),((),())))) (by omega) rfl ?_ ?_) ?_)
 ·rintro i _ hi rfl
  have hy:g.1[i]?=some g.1[i]:=List.getElem?_eq_getElem (by omega)
  have hm:=List.getElem_mem (show i < g.1.length by omega)
  generalize g.1[i]=f at hy hm
  have hf:=hg.el f hm
  have hb:=Uo (l:=g.1.take i) fun e he=>hg.el e (List.mem_of_mem_take he)
  have hbl:(g.1.take i).length≤128:=by simp;omega
  refine zh (qx (show (i:Int) < (g.1.length:Int) by omega)) (zo (zP (n:=i) hy ?_))
  rw [vO hf]
  refine zh (zlE _ i f hi hy) (zo (zP (n:=i) hy (zd (qR ?_))))
  show ((0,((wrF .i64 (ko (g.1.take i)+f.2)),((wrF .i64 ((i:Int)+1)),()))),((),((),())))=_
  have:=hf.2.2.1;have:=hf.2.2.2
  rw [Kj hy,qQ (by omega),qU (by omega) (by omega)]
 ·rintro _ rfl
  refine zh (qx (show ((clo g.1:Nat):Int) < (g.1.length:Int) by omega)) (zo (zP (n:=clo g.1) hx ?_))
  rw [vO hen]
  exact zg he (zd (zE rfl))
 rintro ⟨j,⟨v,w,z,⟨⟩⟩,⟨⟩,⟨⟩,⟨⟩⟩ hv
 simp only [Prod.mk.injEq,and_true] at hv
 obtain ⟨rfl,rfl,rfl⟩:=hv
 refine zg (ji (show ((clo g.1:Nat):Int)≠(g.1.length:Int) by omega)) (zo (zP (n:=clo g.1) hx ?_))
 have hm:clo g.1 % g.1.length=clo g.1:=Nat.mod_eq_of_lt hl
 have hts:=zhP hg (k:=clo g.1) (e:=e) (by rw [hm];exact hx)
 have hA:=zta hg (k:=clo g.1+1) (by omega)
 refine zn (J:=fun x=>x.2.1.2.1=kf lost L) (qz g.1.length (fun i s=>∃now L',s=((now,(kf lost L',(tAt g (clo g.1+1+i),((i:Int),())))),((),((),())))∧Inv (opT g) (tAt g (clo g.1+1)) (tAt g (clo g.1+1+i)) now L'∧(∀f,0 < i→g.1[(clo g.1+i) % g.1.length]?=some f→opn f.1=false→now.2=0)) (by omega) ?_ ?_ ?_) ?_
 ·refine ⟨(0,0),[],?_,⟨Int.le_refl _,.inl ⟨rfl,zuP _ _,fun p hp=>(by cases hp)⟩⟩,fun f h=>by omega⟩
  show (((0,0),(0,((wrF .i64 (at0 g+e.2)),(0,())))),((),((),())))=_
  rw [Nat.add_zero,hts,h0,qU (by omega) (by have:=hen.2.2.2;omega)];rfl
 ·rintro i _ hi ⟨now,L',rfl,hinv,_⟩
  obtain ⟨f,hy,hf,hsu,hop⟩:=zDj hg (clo g.1+1+i)
  have hB:=zta hg (k:=clo g.1+1+i) (by omega)
  have hnb:=zDk hinv hA.1 hB.2
  have hmm:(clo g.1+1+i) % g.1.length < g.1.length:=Nat.mod_lt _ (by omega)
  have f1:=hf.2.2.1;have f2:=hf.2.2.2
  refine zh (qx (show (i:Int) < (g.1.length:Int) by omega)) (zg (ji (show (g.1.length:Int)≠0 by omega)) ?_)
  refine zo (ve (a:=f) (by show atI g.1 (Int.tmod (wrF .i64 ((wrF .i64 (((clo g.1:Nat):Int)+1))+(i:Int))) (g.1.length:Int))=_;rw [zAi hg (by omega) (by omega)];exact Qx hy) ?_)
  rw [vO hf]
  have eat:wrF .i64 (tAt g (clo g.1+1+i)+f.2)=tAt g (clo g.1+1+(i+1)):=by
   rw [show clo g.1+1+(i+1)=clo g.1+1+i+1 from rfl,hsu,qU (by omega) (by omega)]
  have eup:wrF .i64 ((i:Int)+1)=((i+1:Nat):Int):=qQ (by omega)
  have idx:∀f',0 < i+1→g.1[(clo g.1+(i+1)) % g.1.length]?=some f'→f'=f:=fun f' _ h=>by
   rw [show clo g.1+(i+1)=clo g.1+1+i by omega,hy] at h
   exact (Option.some.inj h).symm
  refine zq (fun ho=>?_) (fun ho=>?_)
  ·have ho:opn f.1=true:=ho
   rw [ho] at hop
   have hi2:=zyT hinv (show 0 < f.2 by omega) hop
   refine zn (J:=fun x=>x.2.1.1=if now.2=0 then (tAt g (clo g.1+1+i),0) else now) (zq (fun h=>?_) (fun h=>?_)) ?_
   ·have h:now.2=0:=jg h
    refine zd ?_
    rw [if_pos h]
    show (tAt g (clo g.1+1+i),now.2)=_
    rw [h]
   ·have h:now.2≠0:=jO h
    exact zd (by rw [if_neg h])
   ·rintro ⟨j,⟨nw,⟨⟩⟩,⟨⟩,⟨⟩,⟨⟩⟩ hnw
    simp only at hnw
    subst hnw
    refine zd (qR ⟨_,L',?_,(by rw [←hsu] at hi2;exact hi2),fun f' h1 h2 h3=>?_⟩)
    ·show ((((if now.2=0 then (tAt g (clo g.1+1+i),0) else now).1,(wrF .i64 ((if now.2=0 then (tAt g (clo g.1+1+i),0) else now).2+f.2))),(kf lost L',((wrF .i64 (tAt g (clo g.1+1+i)+f.2)),((wrF .i64 ((i:Int)+1)),())))),((),((),())))=_
     rw [eat,eup]
     by_cases h:now.2=0
     ·rw [if_pos h,if_pos h]
      simp only
      rw [qU (by omega) (by omega),Int.zero_add]
     ·rw [if_neg h,if_neg h,qU (by omega) (by omega)]
    ·rw [idx f' h1 h2,ho] at h3;cases h3
  ·have ho:opn f.1=false:=ho
   rw [ho] at hop
   refine zq (fun h=>?_) (fun h=>?_)
   ·have h:0 < now.2:=yF h
    have hi2:=zyU hinv (show 0 < f.2 by omega) h hop
    have hgb:=zgB (lost:=lost) l0 (l:=L'++[(now.1,now.1+now.2)]) (a:=tAt g (clo g.1+1)) (b:=tAt g (clo g.1+1+i)+f.2) hi2.1 (by
      rcases hi2.2 with ⟨_,hc,_⟩ | ⟨h',_⟩
      ·exact hc.bd
      ·simp at h') (by
      rcases hi2.2 with ⟨_,hc,_⟩ | ⟨h',_⟩
      ·exact hc.pw
      ·simp at h')
    have eg:kf lost (L'++[(now.1,now.1+now.2)])=kf lost L'+max 0 (now.2 - lost):=by
     unfold kf;simp only [List.map_append,List.sum_append,List.map_cons,List.map_nil,List.sum_cons,List.sum_nil]
     omega
    have hg1:=zgB (lost:=lost) l0 (l:=L') (a:=tAt g (clo g.1+1)) (b:=tAt g (clo g.1+1+i)) hinv.1 (by
      rcases hinv.2 with ⟨_,hc,_⟩ | ⟨_,h',_,hc,_⟩
      ·exact hc.bd
      ·exact fun p hp=>by have:=hc.bd p hp;omega) (by
      rcases hinv.2 with ⟨_,hc,_⟩ | ⟨_,_,_,hc,_⟩
      ·exact hc.pw
      ·exact hc.pw)
    refine zd (qR ⟨(0,0),_,?_,(by rw [←hsu] at hi2;exact hi2),fun f' h1 h2 h3=>rfl⟩)
    show (((0,0),((wrF .i64 (kf lost L'+Yt 0 (wrF .i64 (now.2 - lost)))),((wrF .i64 (tAt g (clo g.1+1+i)+f.2)),((wrF .i64 ((i:Int)+1)),())))),((),((),())))=_
    rw [eat,eup,zki,qU (z:=now.2 - lost) (by omega) (by omega),eg,qU (by omega) (by omega)]
   ·have h:now.2=0:=by have:now.2≤0:=wX h;omega
    have hi2:=zvP hinv (show 0 < f.2 by omega) h hop
    refine zd (qR ⟨(0,0),L',?_,(by rw [←hsu] at hi2;exact hi2),fun f' h1 h2 h3=>rfl⟩)
    show (((0,0),(kf lost L',((wrF .i64 (tAt g (clo g.1+1+i)+f.2)),((wrF .i64 ((i:Int)+1)),())))),((),((),())))=_
    rw [eat,eup]
 ·rintro _ ⟨now,L',rfl,hinv,hlast⟩
  refine zg (qa (show ¬(g.1.length:Int) < (g.1.length:Int) by omega)) (zd (zE ?_))
  have hz:=hlast e (by omega) (by rw [Nat.add_mod_right,hm];exact hx) he
  show kf lost L'=kf lost L
  rcases hinv.2 with ⟨_,hc,_⟩ | ⟨h',_⟩
  ·rw [zAg hg] at hc
   rw [zyV hg ha hc hr]
  ·omega
 ·rintro ⟨j,⟨nw,v,w,z,⟨⟩⟩,⟨⟩,⟨⟩,⟨⟩⟩ hv
  refine zq (fun _=>?_) (fun _=>?_)<;>exact zd hv
theorem zkn {g:Gts} (hg:yG g) (ha:zcZ g.1) (lost:Int):kn (g,lost,())=some (g.2,()):=by
 rw [zcE];unfold XJ
 simp only [ze6 hg,zF,zN ha,cond_true]
def bX (g:Gts) (L:List (Int×Int)) (q:Nat):Int:=((L[q % L.length]?).getD (0,0)).1+((q / L.length:Nat):Int)*g.2
def bY (g:Gts) (L:List (Int×Int)) (q:Nat):Int:=((L[q % L.length]?).getD (0,0)).2+((q / L.length:Nat):Int)*g.2
theorem zH8 {L:List (Int×Int)} (h:0 < L.length) (q:Nat):∃p,L[q % L.length]?=some p∧p∈L∧∀g,bX g L q=p.1+((q / L.length:Nat):Int)*g.2∧bY g L q=p.2+((q / L.length:Nat):Int)*g.2:=by
 have hm:q % L.length < L.length:=Nat.mod_lt _ h
 have hx:L[q % L.length]?=some (L[q % L.length]):=List.getElem?_eq_getElem hm
 refine ⟨_,hx,List.getElem_mem hm,fun g=>?_⟩
 unfold bX bY
 rw [hx]
 exact ⟨rfl,rfl⟩
theorem zH9 (g:Gts) {L:List (Int×Int)} (h:0 < L.length) (q:Nat):bX g L (q+L.length)=bX g L q+g.2∧bY g L (q+L.length)=bY g L q+g.2:=by
 unfold bX bY
 rw [Nat.add_mod_right,Nat.add_div_right _ h,Int.natCast_succ,Int.add_mul]
 omega
theorem zlF {g:Gts} {L:List (Int×Int)} (hr:Ub g L) (h:0 < L.length) (q:Nat):bX g L q < bY g L q∧at0 g+((q / L.length:Nat):Int)*g.2 < bX g L q∧bY g L q≤at0 g+((q / L.length:Nat):Int)*g.2+g.2:=by
 obtain ⟨p,hx,hp,he⟩:=zH8 h q
 obtain ⟨e1,e2⟩:=he g
 have:=hr.cv.bd p hp
 have:=hr.gt p hp
 omega
theorem zBN {g:Gts} {L:List (Int×Int)} (hr:Ub g L) (h:0 < L.length) (q:Nat):bY g L q < bX g L (q+1):=by
 rcases Nat.lt_or_ge (q % L.length+1) L.length with h1 | h1
 ·have e1:(q+1) % L.length=q % L.length+1:=by
   rw [Nat.add_mod,Nat.mod_eq_of_lt (show 1 < L.length by omega),Nat.mod_eq_of_lt h1]
  have e2:(q+1) / L.length=q / L.length:=by
   have a:=Nat.div_add_mod (q+1) L.length
   have a2:=Nat.div_add_mod q L.length
   rw [e1] at a
   have b:L.length*((q+1) / L.length)=L.length*(q / L.length):=by omega
   exact Nat.eq_of_mul_eq_mul_left (by omega) b
  have hx:L[q % L.length]?=some (L[q % L.length]'(by omega)):=List.getElem?_eq_getElem (by omega)
  have hy:L[q % L.length+1]?=some (L[q % L.length+1]'h1):=List.getElem?_eq_getElem h1
  have:=List.pairwise_iff_getElem.1 hr.cv.pw (q % L.length) (q % L.length+1) (by omega) h1 (by omega)
  unfold bX bY
  rw [e1,e2,hx,hy]
  simp only [Option.getD_some]
  omega
 ·have hm:=Nat.mod_lt q h
  have h2:q % L.length+1=L.length:=by omega
  have a2:=Nat.div_add_mod q L.length
  have e3:q+1=(q / L.length+1)*L.length:=by
   rw [Nat.add_mul,Nat.mul_comm];omega
  have e2:(q+1) / L.length=q / L.length+1:=by rw [e3];exact Nat.mul_div_left _ (by omega)
  have b1:=zlF hr h q
  have b2:=zlF hr h (q+1)
  rw [e2,Int.natCast_succ,Int.add_mul] at b2
  omega
theorem zIl {g:Gts} {L:List (Int×Int)} (hr:Ub g L) (h:0 < L.length) {q r:Nat} (hq:q < r):bY g L q < bX g L r:=by
 obtain ⟨d,rfl⟩:∃d,r=q+1+d:=⟨r - q - 1,by omega⟩
 induction d with
 |zero=>exact zBN hr h q
 |succ d ih=>
  have:=ih (by omega)
  have:=zlF hr h (q+1+d)
  have:=zBN hr h (q+1+d)
  rw [show q+1+(d+1)=q+1+d+1 from rfl]
  omega
def mn (g:Gts) (L:List (Int×Int)) (lost:Int) (q:Nat):Int:=min (bY g L q - bX g L q) lost
def fr (g:Gts) (L:List (Int×Int)) (lost:Int) (i:Nat):Int:=bY g L i - mn g L lost i
def tt (g:Gts) (L:List (Int×Int)) (lost:Int) (j:Nat):Int:=bX g L j+mn g L lost j
def wg (g:Gts) (L:List (Int×Int)) (lost:Int) (q:Nat):Int:=max 0 (bY g L q - bX g L q - lost)
def vp (g:Gts) (L:List (Int×Int)) (lost:Int) (i:Nat):Nat→Int
 |0=>0
 |k+1=>vp g L lost i k+wg g L lost (i+1+k)
theorem zFl {g:Gts} (hg:yG g) {L:List (Int×Int)} (hr:Ub g L) (h:0 < L.length) {q:Nat} (hq:q < 2*L.length):0≤bX g L q∧bY g L q≤30000000:=by
 have x:=zlF hr h q
 have h0b:=zs9 hg;have hc:=hg.c1;have hp:=hg.pos
 have h1:q / L.length=0∨q / L.length=1:=by
  have:q / L.length < 2:=Nat.div_lt_of_lt_mul (by omega)
  exact Nat.le_one_iff_eq_zero_or_eq_one.1 (Nat.le_of_lt_succ this)
 rcases h1 with h1 | h1<;>rw [h1] at x<;>simp at x<;>omega
def mxK (c:Nat→Bool) (V:Nat→Int):Nat→Int→Int
 |0,a=>a
 |k+1,a=>bif c k then max (mxK c V k a) (V k) else mxK c V k a
def mxN (c:Nat→Nat→Bool) (V:Nat→Nat→Int) (K:Nat):Nat→Int→Int
 |0,a=>a
 |n+1,a=>mxK (c n) (V n) K (mxN c V K n a)
theorem zDl (c:Nat→Bool) (V:Nat→Int):∀(k:Nat) (a:Int),a≤mxK c V k a∧∀q,q < k→c q=true→V q≤mxK c V k a
 |0,a=>⟨Int.le_refl _,fun q hq=>by omega⟩
 |k+1,a=>by
  obtain ⟨h1,h2⟩:=zDl c V k a
  unfold mxK
  cases hc:c k with
  |true=>
   rw [cond_true]
   refine ⟨by omega,fun q hq hcq=>?_⟩
   rcases Nat.lt_or_ge q k with h | h
   ·have:=h2 q h hcq;omega
   ·have:q=k:=by omega
    subst this;omega
  |false=>
   rw [cond_false]
   refine ⟨h1,fun q hq hcq=>?_⟩
   rcases Nat.lt_or_ge q k with h | h
   ·exact h2 q h hcq
   ·have:q=k:=by omega
    subst this;rw [hc] at hcq;cases hcq
theorem zDm (c:Nat→Bool) (V:Nat→Int):∀(k:Nat) (a:Int),mxK c V k a=a∨∃q,q < k∧c q=true∧mxK c V k a=V q
 |0,a=>.inl rfl
 |k+1,a=>by
  have ih:=zDm c V k a
  unfold mxK
  cases hc:c k with
  |true=>
   rw [cond_true]
   rcases Int.le_total (V k) (mxK c V k a) with h | h
   ·rw [show max (mxK c V k a) (V k)=mxK c V k a by omega]
    rcases ih with h1 | ⟨q,h1,h2,h3⟩
    ·exact .inl h1
    ·exact .inr ⟨q,by omega,h2,h3⟩
   ·exact .inr ⟨k,by omega,hc,by omega⟩
  |false=>
   rw [cond_false]
   rcases ih with h1 | ⟨q,h1,h2,h3⟩
   ·exact .inl h1
   ·exact .inr ⟨q,by omega,h2,h3⟩
theorem zDn (c:Nat→Nat→Bool) (V:Nat→Nat→Int) (K:Nat):∀(n:Nat) (a:Int),a≤mxN c V K n a∧∀i q,i < n→q < K→c i q=true→V i q≤mxN c V K n a
 |0,a=>⟨Int.le_refl _,fun i q hi=>by omega⟩
 |n+1,a=>by
  obtain ⟨h1,h2⟩:=zDn c V K n a
  obtain ⟨h3,h4⟩:=zDl (c n) (V n) K (mxN c V K n a)
  unfold mxN
  refine ⟨by omega,fun i q hi hq hc=>?_⟩
  rcases Nat.lt_or_ge i n with h | h
  ·have:=h2 i q h hq hc;omega
  ·have:i=n:=by omega
   subst this;exact h4 q hq hc
theorem zDo (c:Nat→Nat→Bool) (V:Nat→Nat→Int) (K:Nat):∀(n:Nat) (a:Int),mxN c V K n a=a∨∃i q,i < n∧q < K∧c i q=true∧mxN c V K n a=V i q
 |0,a=>.inl rfl
 |n+1,a=>by
  unfold mxN
  rcases zDm (c n) (V n) K (mxN c V K n a) with h | ⟨q,h1,h2,h3⟩
  ·rw [h]
   rcases zDo c V K n a with h | ⟨i,q,h1,h2,h3,h4⟩
   ·exact .inl h
   ·exact .inr ⟨i,q,by omega,h2,h3,h4⟩
  ·exact .inr ⟨n,q,by omega,h1,h2,h3⟩
section
variable {g:Gts} {L:List (Int×Int)} {lost:Int}
theorem zDp (i a:Nat):∀b,vp g L lost i (a+b)=vp g L lost i a+vp g L lost (i+a) b
 |0=>by rw [Nat.add_zero];show _=_+0;omega
 |b+1=>by
  show vp g L lost i (a+b)+wg g L lost (i+1+(a+b))=_+(vp g L lost (i+a) b+wg g L lost (i+a+1+b))
  rw [zDp i a b,show i+1+(a+b)=i+a+1+b by omega];omega
theorem zyW (hr:Ub g L) (h:0 < L.length) (hl:0≤lost) (i:Nat):∀k,0≤vp g L lost i k∧vp g L lost i k≤bX g L (i+1+k) - bX g L (i+1)
 |0=>by rw [Nat.add_zero];show (0:Int)≤0∧(0:Int)≤_;omega
 |k+1=>by
  have ih:=zyW hr h hl i k
  have x:=zlF hr h (i+1+k)
  have s:=zBN hr h (i+1+k)
  rw [show i+1+(k+1)=i+1+k+1 from rfl]
  show 0≤vp g L lost i k+wg g L lost (i+1+k)∧vp g L lost i k+wg g L lost (i+1+k)≤_
  unfold wg
  omega
theorem zGO (hr:Ub g L) (h:0 < L.length) {q r:Nat} (hq:q≤r):bX g L q≤bX g L r:=by
 rcases Nat.lt_or_ge q r with h1 | h1
 ·have:=zIl hr h h1;have:=zlF hr h q;omega
 ·have:q=r:=by omega
  rw [this];exact Int.le_refl _
theorem zuQ (hr:Ub g L) (h:0 < L.length) (hl:0≤lost) (i:Nat) {k:Nat} (hk:k≤L.length):0≤vp g L lost i k∧vp g L lost i k≤g.2:=by
 have:=zyW hr h hl i k
 have:=zGO hr h (show i+1+k≤i+1+L.length by omega)
 have:=(zH9 g h (i+1)).1
 omega
end
theorem KN {a b:Int} (h1:0 < b) (h2:b≤1000000000000) (h3 : -1000000000000000000≤a) (h4:a≤1000000000000000000):uP (a,b,())=some (a / b,()):=by
 have a1 : -b < Int.tmod a b:=Int.lt_tmod_of_pos a h1
 have a2:Int.tmod a b < b:=Int.tmod_lt_of_pos a h1
 have m1:=Int.emod_nonneg a (show b≠0 by omega)
 have m2:=Int.emod_lt_of_pos a h1
 have em:Int.tmod (wrF .i64 (Int.tmod a b+b)) b=a % b:=by
  rw [qU (by omega) (by omega),Int.tmod_eq_emod_of_nonneg (by omega),Int.add_emod_right]
  have:=Int.tmod_add_mul_tdiv a b
  calc Int.tmod a b % b=(Int.tmod a b+b*Int.tdiv a b) % b:=by rw [Int.add_mul_emod_self_left]
   _=a % b:=by rw [this]
 have e:YI (a,b,())=some (a % b,()):=by
  rw [zq5];unfold zfl
  rw [ji (show b≠0 by omega),em];rfl
 rw [zj6];unfold Gt
 rw [e,zF,ji (show b≠0 by omega),cond_false]
 have hq:=Int.emod_add_mul_ediv a b
 have hd:a - a % b=b*(a / b):=by omega
 rw [qU (z:=a - a % b) (by omega) (by omega),hd,Int.mul_tdiv_cancel_left _ (by omega)]
 have : -1000000000000000001≤a / b:=by
  have:(-1000000000000000001)*b≤a:=by
   have:(-1000000000000000001)*b≤(-1000000000000000001)*1:=Int.mul_le_mul_of_nonpos_left (by omega) (by omega)
   omega
  exact Int.le_ediv_of_mul_le h1 this
 have:a / b≤1000000000000000000:=by
  rcases Int.le_total 0 a with h | h
  ·exact Int.le_trans (Int.ediv_le_self b h) h4
  ·have:a / b≤0:=Int.ediv_nonpos_of_nonpos_of_neg h h1
   omega
 rw [qU (by omega) (by omega)]
def cl (d w:Int):Int:=(w+d - 1) / d
theorem zAj {d a b:Int} (hd:0 < d) (h:a≤b):cl d a≤cl d b:=Int.ediv_le_ediv hd (by omega)
theorem zHI {d l z:Int} (hd:0 < d):cl d (l*d - z)=l - z / d:=by
 unfold cl
 have h:=Int.emod_add_mul_ediv z d
 have h1:=Int.emod_nonneg z (show d≠0 by omega)
 have h2:=Int.emod_lt_of_pos z hd
 have e:l*d - z+d - 1=(d - 1 - z % d)+(l - z / d)*d:=by
  rw [Int.sub_mul,Int.mul_comm (z / d) d];omega
 rw [e,Int.add_mul_ediv_right _ _ (by omega),Int.ediv_eq_zero_of_lt (by omega) (by omega)];omega
end Go.Proofs.YtleloebnggepoaaGreat.sg
namespace Go.Proofs.YtleloebnggepoaaGreat.sg
open Go Go.Fz Go.Fz.Sy
def yD (C per y:Int):Int:=y*1048576 / (C*per)
theorem zko {a b A B:Int} (h0:0≤a) (h1:a≤A) (h2:0≤b) (h3:b≤B):0≤a*b∧a*b≤A*B:=⟨Int.mul_nonneg h0 h2,Int.mul_le_mul h1 h3 h2 (by omega)⟩
structure RtC (C per y:Int):Prop where
 c0:1≤C
 c1:C≤9600000
 p0:1≤per
 p1:per≤1000
 y0:0≤y
 y1:y≤C
theorem RtC.cp {C per y:Int} (h:RtC C per y):1≤C*per∧C*per≤9600000000:=by
 have:=zko (show 0≤C by have:=h.c0;omega) h.c1 (show 0≤per by have:=h.p0;omega) h.p1
 have h1:1*1≤C*per:=Int.mul_le_mul h.c0 h.p0 (by omega) (by have:=h.c0;omega)
 omega
theorem RtC.rate {C per y:Int} (h:RtC C per y):wrF .i64 (Int.tdiv (wrF .i64 (y*1048576)) (wrF .i64 (C*per)))=yD C per y∧0≤yD C per y∧yD C per y*(C*per)≤y*1048576:=by
 have:=h.cp;have:=h.c1;have:=h.y0;have:=h.y1
 have h1:0≤yD C per y:=Int.ediv_nonneg (by omega) (by omega)
 have h2:yD C per y≤y*1048576:=Int.ediv_le_self _ (by omega)
 refine ⟨?_,h1,Int.ediv_mul_le _ (by omega)⟩
 rw [qU (z:=y*1048576) (by omega) (by omega),qU (z:=C*per) (by omega) (by omega),Int.tdiv_eq_ediv_of_nonneg (by omega)]
 show wrF .i64 (yD C per y)=_
 rw [qU (by omega) (by omega)]
theorem RtC.rp {C per y:Int} (h:RtC C per y) (hr:1≤yD C per y):yD C per y≤1048576∧per≤yD C per y*per∧yD C per y*per≤1048576:=by
 obtain ⟨_,_,h2⟩:=h.rate
 have hc:=h.c0;have hp:=h.p0;have hy:=h.y1
 have h3:per≤yD C per y*per:=by
  have:=Int.mul_le_mul_of_nonneg_right hr (show 0≤per by omega)
  omega
 have h4:yD C per y*per≤1048576:=by
  have e:yD C per y*(C*per)=C*(yD C per y*per):=by rw [←Int.mul_assoc,Int.mul_comm (yD C per y) C,Int.mul_assoc]
  have:C*(yD C per y*per)≤C*1048576:=by omega
  exact Int.le_of_mul_le_mul_left this (by omega)
 have h5:yD C per y≤yD C per y*per:=by
  have:=Int.mul_le_mul_of_nonneg_left hp (show 0≤yD C per y by omega)
  omega
 exact ⟨by omega,h3,h4⟩
theorem zrw {per rp:Int} (p0:1≤per) (p1:per≤1000) (h1:per≤rp) (h2:rp≤1048576):cl rp (127*per*1048576)=0 - (-127*per*1048576) / rp∧0≤cl rp (127*per*1048576)∧cl rp (127*per*1048576)≤133169152:=by
 have e:=zHI (d:=rp) (l:=0) (z:=-127*per*1048576) (by omega)
 rw [show 0*rp - -127*per*1048576=127*per*1048576 by omega] at e
 refine ⟨e,Int.ediv_nonneg (by omega) (by omega),?_⟩
 have : -133169152≤(-127*per*1048576) / rp:=Int.le_ediv_of_mul_le (by omega) (by omega)
 omega
section
variable {g:Gts} {L:List (Int×Int)} {per most:Int}
def vV (g:Gts) (L:List (Int×Int)) (lost per rate:Int) (i k:Nat):Int:=tt g L lost (i+1+k) - fr g L lost i - ((vp g L lost i k - 127*per)*1048576) / (rate*per)
noncomputable def zyX (g:Gts) (L:List (Int×Int)) (lost per rate:Int):Int:=mxN (fun _ _=>true) (vV g L lost per rate) L.length L.length (cl (rate*per) (127*per*1048576))
structure OfC (g:Gts) (L:List (Int×Int)) (per most:Int):Prop where
 hg:yG g
 ha:¬zcZ g.1
 hr:Ub g L
 h0:0 < L.length
 p0:1≤per
 p1:per≤1000
 m0:84≤most
 m1:most≤1542
 rt:1≤yD g.2 per (kf (most*per) L)
theorem OfC.lost (h:OfC g L per most):84≤most*per∧most*per≤1542000:=by
 have:=zko (show 0≤most by have:=h.m0;omega) h.m1 (show 0≤per by have:=h.p0;omega) h.p1
 have h1:84*1≤most*per:=Int.mul_le_mul h.m0 h.p0 (by omega) (by have:=h.m0;omega)
 omega
theorem OfC.rc (h:OfC g L per most):RtC g.2 per (kf (most*per) L):=by
 have hl:=h.lost
 have hb:=zgB (lost:=most*per) (by omega) (a:=at0 g) (b:=at0 g+g.2) (by have:=h.hg.pos;omega) h.hr.cv.bd h.hr.cv.pw
 exact ⟨h.hg.pos,h.hg.c1,h.p0,h.p1,hb.1,by omega⟩
theorem OfC.ft (h:OfC g L per most) {q:Nat} (hq:q < 2*L.length):(0≤fr g L (most*per) q∧fr g L (most*per) q≤30000000)∧(0≤tt g L (most*per) q∧tt g L (most*per) q≤30000000)∧1≤mn g L (most*per) q∧mn g L (most*per) q≤bY g L q - bX g L q:=by
 have:=zFl h.hg h.hr h.h0 hq
 have:=zlF h.hr h.h0 q
 have hl:=h.lost
 unfold fr tt mn
 omega
theorem zIa (hg:yG g) (hr:Ub g L):(L.length:Int)≤9600000:=by
 have hb:=zgB (lost:=0) (by omega) (a:=at0 g) (b:=at0 g+g.2) (by have:=hg.pos;omega) hr.cv.bd hr.cv.pw
 have:=hg.c1
 omega
theorem zHJ (h:OfC g L per most) {i k:Nat} (hk:k≤L.length) : -133169152000≤(vp g L (most*per) i k - 127*per)*1048576∧(vp g L (most*per) i k - 127*per)*1048576≤10066329600000∧-133169152≤((vp g L (most*per) i k - 127*per)*1048576) / (yD g.2 per (kf (most*per) L)*per)∧((vp g L (most*per) i k - 127*per)*1048576) / (yD g.2 per (kf (most*per) L)*per)≤10066329600000:=by
 have hl:=h.lost
 obtain ⟨r1,r2,r3⟩:=h.rc.rp h.rt
 have hs:=zuQ h.hr h.h0 (lost:=most*per) (by omega) i hk
 have hc:=h.hg.c1;have:=h.p0;have:=h.p1
 have z1 : -133169152000≤(vp g L (most*per) i k - 127*per)*1048576:=by omega
 have z2:(vp g L (most*per) i k - 127*per)*1048576≤10066329600000:=by omega
 generalize hz:(vp g L (most*per) i k - 127*per)*1048576=z at z1 z2
 have z3 : -133169152*per≤z:=by omega
 generalize yD g.2 per (kf (most*per) L)*per=rp at r2 r3
 refine ⟨z1,z2,Int.le_ediv_of_mul_le (by omega) (by omega),?_⟩
 rcases Int.le_total 0 z with h | h
 ·exact Int.le_trans (Int.ediv_le_self _ h) z2
 ·have:z / rp≤0:=Int.ediv_nonpos_of_nonpos_of_neg h (by omega)
  omega
theorem zGP (h:OfC g L per most):0≤zyX g L (most*per) per (yD g.2 per (kf (most*per) L))∧zyX g L (most*per) per (yD g.2 per (kf (most*per) L))≤268435456:=by
 obtain ⟨r1,r2,r3⟩:=h.rc.rp h.rt
 obtain ⟨b1,b2,b3⟩:=zrw h.p0 h.p1 r2 r3
 have ub:=zDn (fun _ _=>true) (vV g L (most*per) per (yD g.2 per (kf (most*per) L))) L.length L.length (cl (yD g.2 per (kf (most*per) L)*per) (127*per*1048576))
 have at1:=zDo (fun _ _=>true) (vV g L (most*per) per (yD g.2 per (kf (most*per) L))) L.length L.length (cl (yD g.2 per (kf (most*per) L)*per) (127*per*1048576))
 unfold zyX
 refine ⟨by omega,?_⟩
 rcases at1 with e | ⟨i,k,hi,hk,_,e⟩
 ·rw [e];omega
 ·rw [e]
  obtain ⟨_,_,z1,_⟩:=zHJ h (i:=i) (k:=k) (by omega)
  have:=(h.ft (q:=i) (by omega)).1;have:=(h.ft (q:=i+1+k) (by omega)).2.1
  unfold vV
  omega
end
end Go.Proofs.YtleloebnggepoaaGreat.sg
namespace Go.Proofs.YtleloebnggepoaaGreat.sg
open Go Go.Fz Go.Fz.Sy
theorem zaw (g:Gts) {per most:Int} (p0:1≤per) (p1:per≤1000) (m0:84≤most) (m1:most≤1542):JA (g,per,most,())=some (bif tv (yG g) then 0 else 370,()):=by
 rw [znT];unfold zcA
 rw [zcY,zF]
 by_cases hg:yG g
 ·rw [zN hg,qa (show ¬per < 1 by omega),qa (show ¬1000 < per by omega),qa (show ¬most < 84 by omega),qa (show ¬1542 < most by omega)];rfl
 ·rw [qu hg];rfl
theorem zHK {z:Nat} (h:z≤1000000000000):wrF .i64 (z:Int)=(z:Int):=by rw [qU]<;>omega
def asL (xs:List (Int×Int)):List (Int×Int):=xs.map fun p=>(p.1,p.1+p.2)
theorem zDq {g:Gts} {L xs:List (Int×Int)} (hx:asL xs=L) (h:0 < L.length) (q:Nat):∃p,xs[q % xs.length]?=some p∧bX g L q=p.1+((q / L.length:Nat):Int)*g.2∧bY g L q - bX g L q=p.2:=by
 have hl:xs.length=L.length:=by rw [←hx];unfold asL;simp
 have hm:q % xs.length < xs.length:=Nat.mod_lt _ (by omega)
 have hy:xs[q % xs.length]?=some (xs[q % xs.length]):=List.getElem?_eq_getElem hm
 refine ⟨_,hy,?_⟩
 have hL:L[q % L.length]?=some ((xs[q % xs.length]).1,(xs[q % xs.length]).1+(xs[q % xs.length]).2):=by
  rw [←hl,←hx];unfold asL
  rw [List.getElem?_map,hy];rfl
 unfold bX bY
 rw [hL]
 simp only [Option.getD_some]
 exact ⟨trivial,by omega⟩
section
variable {g:Gts} {L:List (Int×Int)} {per most:Int}
theorem zGQ (h:OfC g L per most):xY (g,per,most,())=some ((yD g.2 per (kf (most*per) L),zyX g L (most*per) per (yD g.2 per (kf (most*per) L))),0,()):=by
 have hg:=h.hg;have ha:=h.ha;have hr:=h.hr;have hL0:=h.h0
 have p0:=h.p0;have p1:=h.p1;have m0:=h.m0;have m1:=h.m1
 have hlost:=h.lost
 obtain ⟨eR,r0,ry⟩:=h.rc.rate
 obtain ⟨r1,r2,r3⟩:=h.rc.rp h.rt
 obtain ⟨b1,b2,b3⟩:=zrw p0 p1 r2 r3
 have hrt:=h.rt
 have hcp:=h.rc.cp
 have hc:=hg.c1;have hp:=hg.pos;have hn:=hg.n1;have hn0:=hg.n0
 have hLC:=zIa hg hr
 have eM:wrF .i64 (most*per)=most*per:=qU (by omega) (by omega)
 have eRP:wrF .i64 (yD g.2 per (kf (most*per) L)*per)=yD g.2 per (kf (most*per) L)*per:=qU (by omega) (by omega)
 have hl:=zol ha
 obtain ⟨e,hx,he,hen,h0⟩:=zpf hg ha
 have h0b:=zs9 hg
 rw [zcG];unfold Gu
 rw [zaw g p0 p1 m0 m1,zN hg,zF,cond_true]
 refine xd ?_
 refine zg rfl ?_
 rw [eM,zdq hg ha hr (by omega) (by omega),zF]
 simp only [eR]
 refine zg (ji (show wrF .i64 (g.2*per)≠0 by rw [qU]<;>omega)) (zg (qa (by omega)) ?_)
 generalize hy:kf (most*per) L=y at *
 generalize hrate:yD g.2 per y=rate at *
 rw [show wrF .i64 ((wrF .i64 (-127*per))*1048576) = -127*per*1048576 from by rw [qU (z:=-127*per) (by omega) (by omega),qU (by omega) (by omega)],eRP,KN (by omega) (by omega) (by omega) (by omega),zF]
 refine zn (J:=fun x=>x.2.1=(at0 g,(((clo g.1:Nat):Int),()))∧x.2.2.1.1=[]) (qz (clo g.1) (fun i s=>s=((ko (g.1.take i),((i:Int),())),(([],()),((),((),()))))) (by omega) rfl ?_ ?_) ?_
 ·rintro i _ hi rfl
  have hy':g.1[i]?=some g.1[i]:=List.getElem?_eq_getElem (by omega)
  have hm:=List.getElem_mem (show i < g.1.length by omega)
  generalize g.1[i]=f at hy' hm
  have hf:=hg.el f hm
  have hb:=Uo (l:=g.1.take i) fun e he=>hg.el e (List.mem_of_mem_take he)
  have hbl:(g.1.take i).length≤128:=by simp;omega
  refine zh (qx (show (i:Int) < (g.1.length:Int) by omega)) (zo (zP (n:=i) hy' ?_))
  rw [vO hf]
  refine zh (zlE _ i f hi hy') (zo (zP (n:=i) hy' (zd (qR ?_))))
  show (((wrF .i64 (ko (g.1.take i)+f.2)),((wrF .i64 ((i:Int)+1)),())),(([],()),((),((),()))))=_
  have:=hf.2.2.1;have:=hf.2.2.2
  rw [Kj hy',qQ (by omega),qU (by omega) (by omega)]
 ·rintro _ rfl
  refine zh (qx (show ((clo g.1:Nat):Int) < (g.1.length:Int) by omega)) (zo (zP (n:=clo g.1) hx ?_))
  rw [vO hen]
  exact zg he (zd (zE ⟨rfl,rfl⟩))
 rintro ⟨j,⟨w,z,⟨⟩⟩,⟨c,⟨⟩⟩,⟨⟩,⟨⟩,⟨⟩⟩ ⟨hv,hc'⟩
 simp only [Prod.mk.injEq,and_true] at hv hc'
 obtain ⟨rfl,rfl⟩:=hv
 subst hc'
 refine zg (ji (show ((clo g.1:Nat):Int)≠(g.1.length:Int) by omega)) (zo (zP (n:=clo g.1) hx ?_))
 have hm:clo g.1 % g.1.length=clo g.1:=Nat.mod_eq_of_lt hl
 have hts:=zhP hg (k:=clo g.1) (e:=e) (by rw [hm];exact hx)
 have hA:=zta hg (k:=clo g.1+1) (by omega)
 refine zn (J:=fun x=>x.1=0∧asL x.2.2.1.1=L) (qz g.1.length (fun i s=>∃now xs,s=((now,(tAt g (clo g.1+1+i),((i:Int),()))),((xs,()),((),((),()))))∧xs.length≤i∧Inv (opT g) (tAt g (clo g.1+1)) (tAt g (clo g.1+1+i)) now (asL xs)∧(∀f,0 < i→g.1[(clo g.1+i) % g.1.length]?=some f→opn f.1=false→now.2=0)) (by omega) ?_ ?_ ?_) ?_
 ·refine ⟨(0,0),[],?_,by simp,⟨Int.le_refl _,.inl ⟨rfl,zuP _ _,fun p hp=>(by cases hp)⟩⟩,fun f h=>by omega⟩
  show (((0,0),((wrF .i64 (at0 g+e.2)),(0,()))),(([],()),((),((),()))))=_
  rw [Nat.add_zero,hts,h0,qU (by omega) (by have:=hen.2.2.2;omega)];rfl
 ·rintro i _ hi ⟨now,xs,rfl,hxl,hinv,_⟩
  obtain ⟨f,hy',hf,hsu,hop⟩:=zDj hg (clo g.1+1+i)
  have hB:=zta hg (k:=clo g.1+1+i) (by omega)
  have hnb:=zDk hinv hA.1 hB.2
  have f1:=hf.2.2.1;have f2:=hf.2.2.2
  refine zh (qx (show (i:Int) < (g.1.length:Int) by omega)) (zg (ji (show (g.1.length:Int)≠0 by omega)) ?_)
  refine zo (ve (a:=f) (by show atI g.1 (Int.tmod (wrF .i64 ((wrF .i64 (((clo g.1:Nat):Int)+1))+(i:Int))) (g.1.length:Int))=_;rw [zAi hg (by omega) (by omega)];exact Qx hy') ?_)
  rw [vO hf]
  have eat:wrF .i64 (tAt g (clo g.1+1+i)+f.2)=tAt g (clo g.1+1+(i+1)):=by
   rw [show clo g.1+1+(i+1)=clo g.1+1+i+1 from rfl,hsu,qU (by omega) (by omega)]
  have eup:wrF .i64 ((i:Int)+1)=((i+1:Nat):Int):=qQ (by omega)
  have idx:∀f',0 < i+1→g.1[(clo g.1+(i+1)) % g.1.length]?=some f'→f'=f:=fun f' _ h=>by
   rw [show clo g.1+(i+1)=clo g.1+1+i by omega,hy'] at h
   exact (Option.some.inj h).symm
  refine zq (fun ho=>?_) (fun ho=>?_)
  ·have ho:opn f.1=true:=ho
   rw [ho] at hop
   have hi2:=zyT hinv (show 0 < f.2 by omega) hop
   refine zn (J:=fun x=>x.2.1.1=if now.2=0 then (tAt g (clo g.1+1+i),0) else now) (zq (fun h=>?_) (fun h=>?_)) ?_
   ·have h:now.2=0:=jg h
    refine zd ?_
    rw [if_pos h]
    show (tAt g (clo g.1+1+i),now.2)=_
    rw [h]
   ·have h:now.2≠0:=jO h
    exact zd (by rw [if_neg h])
   ·rintro ⟨j,⟨nw,⟨⟩⟩,⟨⟩,⟨⟩,⟨⟩⟩ hnw
    simp only at hnw
    subst hnw
    refine zd (qR ⟨_,xs,?_,by omega,(by rw [←hsu] at hi2;exact hi2),fun f' h1 h2 h3=>?_⟩)
    ·show ((((if now.2=0 then (tAt g (clo g.1+1+i),0) else now).1,(wrF .i64 ((if now.2=0 then (tAt g (clo g.1+1+i),0) else now).2+f.2))),((wrF .i64 (tAt g (clo g.1+1+i)+f.2)),((wrF .i64 ((i:Int)+1)),()))),((xs,()),((),((),()))))=_
     rw [eat,eup]
     by_cases h:now.2=0
     ·rw [if_pos h,if_pos h]
      simp only
      rw [qU (by omega) (by omega),Int.zero_add]
     ·rw [if_neg h,if_neg h,qU (by omega) (by omega)]
    ·rw [idx f' h1 h2,ho] at h3;cases h3
  ·have ho:opn f.1=false:=ho
   rw [ho] at hop
   refine zq (fun h=>?_) (fun h=>?_)
   ·have h:0 < now.2:=yF h
    have hi2:=zyU hinv (show 0 < f.2 by omega) h hop
    refine zh (QR (by show (xs.length+1)*16≤_;omega) (by show xs.length+1≤_;omega)) (zd (qR ⟨(0,0),xs++[now],?_,by simp;omega,?_,fun f' h1 h2 h3=>rfl⟩))
    ·show (((0,0),((wrF .i64 (tAt g (clo g.1+1+i)+f.2)),((wrF .i64 ((i:Int)+1)),()))),((xs++[now],()),((),((),()))))=_
     rw [eat,eup]
    ·rw [←hsu] at hi2
     have:asL (xs++[now])=asL xs++[(now.1,now.1+now.2)]:=by unfold asL;simp
     rw [this];exact hi2
   ·have h:now.2=0:=by have:now.2≤0:=wX h;omega
    have hi2:=zvP hinv (show 0 < f.2 by omega) h hop
    refine zd (qR ⟨(0,0),xs,?_,by omega,(by rw [←hsu] at hi2;exact hi2),fun f' h1 h2 h3=>rfl⟩)
    show (((0,0),((wrF .i64 (tAt g (clo g.1+1+i)+f.2)),((wrF .i64 ((i:Int)+1)),()))),((xs,()),((),((),()))))=_
    rw [eat,eup]
 ·rintro _ ⟨now,xs,rfl,hxl,hinv,hlast⟩
  refine zg (qa (show ¬(g.1.length:Int) < (g.1.length:Int) by omega)) (zd (zE ⟨rfl,?_⟩))
  have hz:=hlast e (by omega) (by rw [Nat.add_mod_right,hm];exact hx) he
  show asL xs=L
  rcases hinv.2 with ⟨_,hc,_⟩ | ⟨h',_⟩
  ·rw [zAg hg] at hc
   exact (zyV hg ha hc hr).symm
  ·omega
 rintro ⟨j,⟨nw,v,z,⟨⟩⟩,⟨xs,⟨⟩⟩,⟨⟩,⟨⟩,⟨⟩⟩ ⟨hj,hxs⟩
 simp only at hj hxs
 subst hj
 have hxl:xs.length=L.length:=by rw [←hxs];unfold asL;simp
 refine zh rfl ?_
 refine zn (J:=fun x=>x.2.1.1=zyX g L (most*per) per rate∧x.2.1.2.1=rate)
  (qz L.length (fun i s=>s=((mxN (fun _ _=>true) (vV g L (most*per) per rate) L.length i (cl (rate*per) (127*per*1048576)),(rate,(per,((i:Int),())))),((),()))) (by omega) ?_ ?_ ?_) ?_
 ·show ((Yt 0 (wrF .i64 (0 - (-127*per*1048576) / (rate*per))),(rate,(per,(0,())))),((),()))=_
  rw [←b1,qU (by omega) (by omega),zki]
  show _=((cl (rate*per) (127*per*1048576),_),_)
  rw [show max 0 (cl (rate*per) (127*per*1048576))=cl (rate*per) (127*per*1048576) by omega];rfl
 ·rintro i _ hi rfl
  obtain ⟨pi,hpi,epi1,epi2⟩:=zDq (g:=g) hxs hL0 i
  rw [Nat.mod_eq_of_lt (by omega)] at hpi
  rw [Nat.div_eq_of_lt hi] at epi1
  have fti:=h.ft (q:=i) (by omega)
  refine zh (qx (show (i:Int) < (xs.length:Int) by omega)) (zo (zP (n:=i) hpi (zo (ve (a:=pi) (by show gl xs (Int.toNat (i:Int))=_;rw [Int.toNat_natCast,kp];exact hpi) ?_))))
  refine zn (J:=fun x=>x.2.1.1=mxN (fun _ _=>true) (vV g L (most*per) per rate) L.length (i+1) (cl (rate*per) (127*per*1048576))∧x.2.1.2.1=rate∧x.2.1.2.2.1=per)
   (qz L.length (fun k s=>s=((mxK (fun _=>true) (vV g L (most*per) per rate i) k (mxN (fun _ _=>true) (vV g L (most*per) per rate) L.length i (cl (rate*per) (127*per*1048576))),(rate,(per,(vp g L (most*per) i k,((k:Int),()))))),((),()))) (by omega) rfl ?_ ?_) ?_
  ·rintro k _ hk rfl
   obtain ⟨pj,hpj,epj1,epj2⟩:=zDq (g:=g) hxs hL0 (i+1+k)
   have ftj:=h.ft (q:=i+1+k) (by omega)
   have zb:=zHJ h (i:=i) (k:=k) (by omega)
   rw [hy,hrate] at zb
   have sb:=zuQ hr hL0 (lost:=most*per) (by omega) i (show k≤L.length by omega)
   have sb':=zuQ hr hL0 (lost:=most*per) (by omega) i (show k+1≤L.length by omega)
   have hbi:=zFl hg hr hL0 (show i < 2*L.length by omega);have hbj:=zFl hg hr hL0 (show i+1+k < 2*L.length by omega)
   have hxi:=zlF hr hL0 i;have hxj:=zlF hr hL0 (i+1+k)
   have ej:Int.tmod (wrF .i64 ((wrF .i64 ((i:Int)+1))+(k:Int))) (xs.length:Int)=(((i+1+k) % xs.length:Nat):Int):=by
    rw [qQ (by omega),qU (by omega) (by omega),Int.tmod_eq_emod_of_nonneg (by omega),←Int.natCast_add,←Int.natCast_emod]
   have ed:wrF .i64 (Int.tdiv (wrF .i64 ((wrF .i64 ((i:Int)+1))+(k:Int))) (xs.length:Int))=(((i+1+k) / L.length:Nat):Int):=by
    rw [qQ (by omega),qU (z:=((i+1:Nat):Int)+(k:Int)) (by omega) (by omega),Int.tdiv_eq_ediv_of_nonneg (by omega),hxl,←Int.natCast_add,←Int.natCast_ediv]
    exact zHK (Nat.le_trans (Nat.div_le_self _ _) (by omega))
   have hd1:(i+1+k) / L.length=0∨(i+1+k) / L.length=1:=by
    have:(i+1+k) / L.length < 2:=Nat.div_lt_of_lt_mul (by omega)
    exact Nat.le_one_iff_eq_zero_or_eq_one.1 (Nat.le_of_lt_succ this)
   have edC:0≤(((i+1+k) / L.length:Nat):Int)*g.2∧(((i+1+k) / L.length:Nat):Int)*g.2≤9600000:=by
    rcases hd1 with h1 | h1<;>rw [h1]<;>simp<;>omega
   generalize hdc:(((i+1+k) / L.length:Nat):Int)=dc at ed edC epj1
   refine zh (qx (show (k:Int) < (xs.length:Int) by omega)) (zg (ji (show (xs.length:Int)≠0 by omega)) ?_)
   refine zo (ve (a:=pj) (by show atI xs (Int.tmod (wrF .i64 ((wrF .i64 ((i:Int)+1))+(k:Int))) (xs.length:Int))=_;rw [ej];exact Qx hpj) (zo (ve (a:=pj) (by show gl xs (Int.toNat (Int.tmod (wrF .i64 ((wrF .i64 ((i:Int)+1))+(k:Int))) (xs.length:Int)))=_;rw [ej,Int.toNat_natCast,kp];exact hpj) ?_)))
   refine zg (ji (show (xs.length:Int)≠0 by omega)) ?_
   have ez:wrF .i64 ((wrF .i64 (vp g L (most*per) i k - (wrF .i64 (127*per))))*1048576)=(vp g L (most*per) i k - 127*per)*1048576:=by
    rw [qU (z:=127*per) (by omega) (by omega),qU (z:=vp g L (most*per) i k - 127*per) (by omega) (by omega),qU (by omega) (by omega)]
   have efl:uP (wrF .i64 ((wrF .i64 (vp g L (most*per) i k - (wrF .i64 (127*per))))*1048576),wrF .i64 (rate*per),())=some (((vp g L (most*per) i k - 127*per)*1048576) / (rate*per),()):=by
    rw [ez,eRP,KN (by omega) (by omega) (by omega) (by omega)]
   refine zo (ve efl ?_)
   refine zd (qR ?_)
   have em1:Ks (most*per) pj.2=mn g L (most*per) (i+1+k):=by rw [zuE,←epj2];unfold mn;omega
   have em2:Ks (most*per) pi.2=mn g L (most*per) i:=by rw [zuE,←epi2];unfold mn;omega
   have eto:wrF .i64 ((wrF .i64 (pj.1+(wrF .i64 (dc*g.2))))+Ks (most*per) pj.2)=tt g L (most*per) (i+1+k):=by
    rw [em1,qU (z:=dc*g.2) (by omega) (by omega),qU (z:=pj.1+dc*g.2) (by omega) (by omega),←epj1]
    show wrF .i64 (tt g L (most*per) (i+1+k))=_
    rw [qU (by omega) (by omega)]
   have efr:wrF .i64 ((wrF .i64 (pi.1+pi.2)) - Ks (most*per) pi.2)=fr g L (most*per) i:=by
    have e1:pi.1+pi.2=bY g L i:=by simp at epi1;omega
    rw [em2,e1,qU (z:=bY g L i) (by omega) (by omega)]
    show wrF .i64 (fr g L (most*per) i)=_
    rw [qU (by omega) (by omega)]
   have ev:wrF .i64 ((wrF .i64 (tt g L (most*per) (i+1+k) - fr g L (most*per) i)) - ((vp g L (most*per) i k - 127*per)*1048576) / (rate*per))=vV g L (most*per) per rate i k:=by
    rw [qU (z:=tt g L (most*per) (i+1+k) - fr g L (most*per) i) (by omega) (by omega)]
    show wrF .i64 (vV g L (most*per) per rate i k)=_
    unfold vV
    rw [qU (by omega) (by omega)]
   have ew:wrF .i64 (vp g L (most*per) i k+Yt 0 (wrF .i64 (pj.2 - most*per)))=vp g L (most*per) i (k+1):=by
    have:vp g L (most*per) i (k+1)=vp g L (most*per) i k+max 0 (pj.2 - most*per):=by
     show _+wg g L (most*per) (i+1+k)=_
     unfold wg;rw [epj2]
    rw [qU (z:=pj.2 - most*per) (by omega) (by omega),zki,←this,qU (by omega) (by omega)]
   show ((Yt (mxK (fun _=>true) (vV g L (most*per) per rate i) k (mxN (fun _ _=>true) (vV g L (most*per) per rate) L.length i (cl (rate*per) (127*per*1048576)))) (wrF .i64 ((wrF .i64 ((wrF .i64 ((wrF .i64 (pj.1+(wrF .i64 ((wrF .i64 (Int.tdiv (wrF .i64 ((wrF .i64 ((i:Int)+1))+(k:Int))) (xs.length:Int)))*g.2))))+Ks (most*per) pj.2)) - (wrF .i64 ((wrF .i64 (pi.1+pi.2)) - Ks (most*per) pi.2)))) - ((vp g L (most*per) i k - 127*per)*1048576) / (rate*per))),(rate,(per,((wrF .i64 (vp g L (most*per) i k+Yt 0 (wrF .i64 (pj.2 - most*per)))),((wrF .i64 ((k:Int)+1)),()))))),((),()))=_
   rw [ed,eto,efr,ev,ew,qQ (by omega),zki]
   rfl
  ·rintro _ rfl
   exact zg (qa (show ¬((L.length:Nat):Int) < (xs.length:Int) by omega)) (zd (zE ⟨rfl,rfl,rfl⟩))
  ·rintro ⟨j,⟨a1,a2,a3,a4,a5,⟨⟩⟩,⟨⟩,⟨⟩⟩ ⟨h1,h2,h3⟩
   simp only at h1 h2 h3
   subst h1 h2 h3
   exact zd (qR (congrArg (fun z=>((_,(_,(_,(z,())))),((),()))) (qQ (by omega))))
 ·rintro _ rfl
  exact zg (qa (show ¬((L.length:Nat):Int) < (xs.length:Int) by omega)) (zd (zE ⟨rfl,rfl⟩))
 ·rintro ⟨j,⟨a1,a2,a3,a4,⟨⟩⟩,⟨⟩,⟨⟩⟩ ⟨h1,h2⟩
  simp only at h1 h2
  subst h1 h2
  exact zd rfl
end
end Go.Proofs.YtleloebnggepoaaGreat.sg
namespace Go.Proofs.YtleloebnggepoaaGreat.sg
open Go Go.Fz Go.Fz.Sy
section
variable {g:Gts} {L:List (Int×Int)} {per most:Int}
end
def zpg (v:Int×Int):Prop:=1≤v.1∧v.1≤1048576∧0≤v.2∧v.2≤268435456
theorem zIm {g:Gts} (hg:yG g) {per most:Int} (p0:1≤per) (p1:per≤1000) (m0:84≤most) (m1:most≤1542):∃v e,xY (g,per,most,())=some (v,e,())∧((e=0∧zpg v)∨(e=4∧v=(0,0))):=by
 have hc:=hg.c1;have hp:=hg.pos;have hn:=hg.n1
 have hlost:84≤most*per∧most*per≤1542000:=by
  have:=zko (show 0≤most by omega) m1 (show 0≤per by omega) p1
  have h1:84*1≤most*per:=Int.mul_le_mul m0 p0 (by omega) (by omega)
  omega
 have eM:wrF .i64 (most*per)=most*per:=qU (by omega) (by omega)
 by_cases ha:zcZ g.1
 ·
  have hR:RtC g.2 per g.2:=⟨hp,hc,p0,p1,by omega,Int.le_refl _⟩
  obtain ⟨eR,r0,ry⟩:=hR.rate
  have hcp:=hR.cp
  have hr1:1≤yD g.2 per g.2:=by
   have:1*(g.2*per)≤g.2*1048576:=by
    have:=Int.mul_le_mul_of_nonneg_left (show per≤1048576 by omega) (show 0≤g.2 by omega)
    omega
   exact Int.le_ediv_of_mul_le (by omega) this
  obtain ⟨r1,r2,r3⟩:=hR.rp hr1
  obtain ⟨b1,b2,b3⟩:=zrw p0 p1 r2 r3
  have eRP:wrF .i64 (yD g.2 per g.2*per)=yD g.2 per g.2*per:=qU (by omega) (by omega)
  have hcl:=zGN ha
  refine ⟨(yD g.2 per g.2,cl (yD g.2 per g.2*per) (127*per*1048576)),0,?_,.inl ⟨rfl,hr1,r1,b2,by simp only;omega⟩⟩
  ·rw [zcG];unfold Gu
   rw [zaw g p0 p1 m0 m1,zN hg,zF,cond_true]
   refine xd ?_
   refine zg rfl ?_
   rw [eM,zkn hg ha,zF]
   simp only [eR]
   refine zg (ji (show wrF .i64 (g.2*per)≠0 by rw [qU]<;>omega)) (zg (qa (by omega)) ?_)
   generalize yD g.2 per g.2=rate at *
   rw [show wrF .i64 ((wrF .i64 (-127*per))*1048576) = -127*per*1048576 from by rw [qU (z:=-127*per) (by omega) (by omega),qU (by omega) (by omega)],eRP,KN (by omega) (by omega) (by omega) (by omega),zF]
   refine zn (J:=fun x=>x.2.1.2.1=(g.1.length:Int)∧x.2.2.1.1=[]) (qz g.1.length (fun i s=>s=((ko (g.1.take i),((i:Int),())),(([],()),((),((),()))))) (by omega) rfl ?_ ?_) ?_
   ·rintro i _ hi rfl
    have hy':g.1[i]?=some g.1[i]:=List.getElem?_eq_getElem (by omega)
    have hm:=List.getElem_mem (show i < g.1.length by omega)
    generalize g.1[i]=f at hy' hm
    have hf:=hg.el f hm
    have hb:=Uo (l:=g.1.take i) fun e he=>hg.el e (List.mem_of_mem_take he)
    have hbl:(g.1.take i).length≤128:=by simp;omega
    refine zh (qx (show (i:Int) < (g.1.length:Int) by omega)) (zo (zP (n:=i) hy' ?_))
    rw [vO hf]
    refine zh (ha f hm) (zo (zP (n:=i) hy' (zd (qR ?_))))
    show (((wrF .i64 (ko (g.1.take i)+f.2)),((wrF .i64 ((i:Int)+1)),())),(([],()),((),((),()))))=_
    have:=hf.2.2.1;have:=hf.2.2.2
    rw [Kj hy',qQ (by omega),qU (by omega) (by omega)]
   ·rintro _ rfl
    exact zg (qa (show ¬(g.1.length:Int) < (g.1.length:Int) by omega)) (zd (zE ⟨rfl,rfl⟩))
   rintro ⟨j,⟨w,z,⟨⟩⟩,⟨c,⟨⟩⟩,⟨⟩,⟨⟩,⟨⟩⟩ ⟨hv,hc'⟩
   simp only at hv hc'
   subst hv hc'
   refine zh (wa rfl) ?_
   refine zn (J:=fun x=>x.2.1.1=cl (rate*per) (127*per*1048576)∧x.2.1.2.1=rate) (qz 0 (fun _ s=>s=((Yt 0 (wrF .i64 (0 - (-127*per*1048576) / (rate*per))),(rate,(per,(0,())))),((),()))) (by omega) rfl (fun i s hi=>by omega) ?_) ?_
   ·rintro _ rfl
    refine zg (qa (show ¬(0:Int) < (([]:List (Int×Int)).length:Int) by simp)) (zd (zE ⟨?_,rfl⟩))
    show Yt 0 (wrF .i64 (0 - (-127*per*1048576) / (rate*per)))=_
    rw [←b1,qU (by omega) (by omega),zki];omega
   ·rintro ⟨j,⟨a1,a2,a3,a4,⟨⟩⟩,⟨⟩,⟨⟩⟩ ⟨h1,h2⟩
    simp only at h1 h2
    subst h1 h2
    exact zd rfl
 ·obtain ⟨L,hr⟩:=zFk hg ha
  have hb:=zgB (lost:=most*per) (by omega) (a:=at0 g) (b:=at0 g+g.2) (by omega) hr.cv.bd hr.cv.pw
  have hR:RtC g.2 per (kf (most*per) L):=⟨hp,hc,p0,p1,hb.1,by omega⟩
  obtain ⟨eR,r0,ry⟩:=hR.rate
  have hcp:=hR.cp
  by_cases hr1:1≤yD g.2 per (kf (most*per) L)
  ·have h0:0 < L.length:=by
    apply Classical.byContradiction
    intro hn
    have:L=[]:=List.length_eq_zero_iff.1 (by omega)
    rw [this] at hr1
    unfold yD kf at hr1
    simp at hr1
   have h:OfC g L per most:=⟨hg,ha,hr,h0,p0,p1,m0,m1,hr1⟩
   have hb:=zGP h
   have hrp:=h.rc.rp hr1
   exact ⟨_,_,zGQ h,.inl ⟨rfl,hr1,hrp.1,hb.1,hb.2⟩⟩
  ·refine ⟨(0,0),4,?_,.inr ⟨rfl,rfl⟩⟩
   ·rw [zcG];unfold Gu
    rw [zaw g p0 p1 m0 m1,zN hg,zF,cond_true]
    refine xd (zg rfl ?_)
    rw [eM,zdq hg ha hr (by omega) (by omega),zF]
    simp only [eR]
    exact zg (ji (show wrF .i64 (g.2*per)≠0 by rw [qU]<;>omega)) (zh (qx (by omega)) (zd rfl))
end Go.Proofs.YtleloebnggepoaaGreat.sg
end
