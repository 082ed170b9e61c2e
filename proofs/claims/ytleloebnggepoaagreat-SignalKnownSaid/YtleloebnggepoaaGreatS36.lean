/- Parts of a proof, joined. -/
import Derived.Test.YtleloebnggepoaaGreatS35
set_option linter.unusedSectionVars false
set_option linter.unusedVariables false
set_option linter.unusedSimpArgs false
set_option maxHeartbeats 0
set_option maxRecDepth 100000
noncomputable section
namespace Go.Proofs.YtleloebnggepoaaGreat.sg
open Go Go.Fz Go.Fz.Sy
abbrev yz:List VT:=[⟨true,qv⟩]
abbrev yA:List VT:=[]
def Gg:zZ:=zQ [cdF ze,cdF qv,cdF qz,cdF zz,cdF zR,cdF jv,cdF qp,cdF qk,cdF zu] [] [] [] [108,110,34]
def Yp (wm:za→(Int×Unit)→Option (za×(Int×qy×Bool×Unit))) (jj:za→(qy×Unit)→Option (za×(Unit))) (zaH:zeX) (uW:za→(zD×Unit)→Option (za×((List Int)×Unit))) (vr:VA) (wI:Jt) (jI:za→(qy×Unit)→Option (za×(Unit))) (s:za) (a0:zI):Option (za×(Unit)):=
 opt (wm s (a0.2.1,())) fun x0=>
 bif !(zr x0.2.2.1.2.1 a0.2.2.1) then opt (bif zj a0.2.2.1 x0.2.2.1.2.1 then opt (jj x0.1 (x0.2.2.1,())) fun x1=>
    some (0,((x1.1,()),()))
   else some (0,((x0.1,()),()))) fun x2=>
  some (x2.2.1.1,())
 else opt (bif a0.2.2.2.2.1 then opt (zaH (x0.1.1,(x0.1.2.1,(a0.2.2.2.2.2.1,())))) fun x3=>
    opt (bif !(zj x3.2.1 0) then some (0,((x0.1,(a0,((a0.2.1,(a0.2.2.1,(3,(x3.2.1,[])))),()))),()))
     else opt (uW (x0.1.1,(x3.1,x0.1.2.2)) (a0.2.2.2.2.2.1,())) fun x4=>
      some (0,((x4.1,(a0,((a0.2.1,(a0.2.2.1,(1,(0,x4.2.1)))),()))),()))) fun x5=>
    some (0,((x5.2.1.2.1,(x5.2.1.1,(x5.2.1.2.2.1,()))),()))
   else opt (vr (x0.1.2.1,(a0.2.1,()))) fun x6=>
    opt (bif !(zj x6.2.1 0) then some (0,((x0.1,((a0.2.1,(a0.2.2.1,(5,(0,[])))),())),()))
     else opt (atI x0.1.2.1 x6.1) fun x7=>
      opt (uW x0.1 (x7,())) fun x8=>
      some (0,((x8.1,((a0.2.1,(a0.2.2.1,(4,(0,x8.2.1)))),())),()))) fun x9=>
    some (0,((a0,(x9.2.1.1,(x9.2.1.2.1,()))),()))) fun x10=>
  opt (wI (x10.2.1.2.1.2.2.2.1,(x0.2.1,(x0.2.2.2.1,(x10.2.1.2.2.1,()))))) fun x11=>
  opt (jj (x10.2.1.2.1.1,(x10.2.1.2.1.2.1,(x10.2.1.2.1.2.2.1,(x11.1,x10.2.1.2.1.2.2.2.2)))) (x10.2.1.2.2.1,())) fun x12=>
  opt (jI x12.1 (x10.2.1.2.2.1,())) fun x13=>
  some (x13.1,())
theorem zhx (wm:za→(Int×Unit)→Option (za×(Int×qy×Bool×Unit))) (jj:za→(qy×Unit)→Option (za×(Unit))) (zaH:(jA×(List zD)×zD×Unit)→Option ((List zD)×Int×Unit)) (uW:za→(zD×Unit)→Option (za×((List Int)×Unit))) (vr:((List zD)×Int×Unit)→Option (Int×Int×Unit)) (wI:((List qy)×Int×Bool×qy×Unit)→Option ((List qy)×Unit)) (jI:za→(qy×Unit)→Option (za×(Unit))) (s:za) (a0:zI):sP Tryz.prog ⟨[],[(107,⟨ze,jd,je,wm⟩),(108,⟨ze,jf,jg,jj⟩),(109,⟨ze,xn,xp,uW⟩),(34,⟨ze,qT,qU,jI⟩)]⟩ [(11,⟨kN,kO,zaH⟩),(110,⟨uS,uT,vr⟩),(111,⟨wF,wG,wI⟩)] Gg (zN []) 30 80 ze yz yA s (a0,())=Yp wm jj zaH uW vr wI jI s a0:=by kernel_rfl
def vH:za→(zI×Unit)→Option (za×(Unit)):=sP Tryz.prog ⟨[],[(107,⟨ze,jd,je,jC⟩),(108,⟨ze,jf,jg,jh⟩),(109,⟨ze,xn,xp,yy⟩),(34,⟨ze,qT,qU,jk⟩)]⟩ [(11,⟨kN,kO,YI⟩),(110,⟨uS,uT,xB⟩),(111,⟨wF,wG,jS⟩)] Gg (zN []) 30 80 ze yz yA
theorem ze0:yC.Ok Tryz.prog 80 ⟨ze,yz,yA,vH⟩:=xc ⟨qu,(zP VY (zP VZ (zP KN (zP XB qW))))⟩ (zf zqI (zf zfo (zf Gf zh))) zm (by kernel_rfl)
theorem ze1 (s:za) (a0:zI):vH s (a0,())=Yp jC jh YI yy xB jS jk s a0:=zhx jC jh YI yy xB jS jk s a0
abbrev WL:List VT:=[⟨false,(.list I)⟩]
abbrev WM:List VT:=[⟨false,I⟩]
def zvT:zZ:=zQ [] [] [] [] []
def zgZ (a0:(List Int)):Option (Int×Unit):=
 opt (qb (fun s0:((Int×(Int×Unit))×Unit)=>
  bif (zr s0.1.2.1 ((a0.length:Nat):Int)) then opt (atI a0 s0.1.2.1) fun x1=>
   bif !(zj x1 0) then some (.inl (1,((x1,(s0.1.2.1,())),())))
   else some (.inr ((s0.1.1,((wrF .i64 (s0.1.2.1+1)),())),()))
  else some (.inl (0,((s0.1.1,(s0.1.2.1,())),())))) qw ((0,(0,())),())) fun x2=>
 bif Nat.beq x2.1 0 then some (0,())
 else some (x2.2.1.1,())
abbrev zg0:Type:=((List Int)×Unit)→Option (Int×Unit)
def znD:zg0:=sF Tryz.prog [] zvT (zN []) 30 144 WL WM
theorem zx8 (a0):znD (a0,())=zgZ a0:=by kernel_rfl
def Ja:zg0:=znD
theorem zsq:Con.Ok Tryz.prog 144 ⟨WL,WM,Ja⟩:=zv zh zm (by kernel_rfl)
theorem zsr (a0):Ja (a0,())=zgZ  a0:=zx8  a0
abbrev yd:List VT:=[⟨false,I⟩,⟨false,I⟩]
abbrev ye:List VT:=[⟨false,I⟩,⟨true,yl⟩,⟨false,.bool⟩]
def Uz:zZ:=zQ [cdF ze,cdF yl] [] [] [] [37,144]
def WN (jt:JT) (zcD:zg0) (s:za) (a0:Int) (a1:Int):Option (za×(Int×xI×Bool×Unit)):=
 opt (qb (fun s0:((Int×(Int×(Int×(Bool×(Int×Unit)))))×Unit)=>
  bif (zr s0.1.2.2.2.2.1 ((s.2.2.2.2.1.length:Nat):Int)) then opt (atI s.2.2.2.2.1 s0.1.2.2.2.2.1) fun x1=>
   opt (jt (x1.1,(s0.1.1,()))) fun x2=>
   opt (jt (x1.2.1,(s0.1.2.1,()))) fun x3=>
   opt (zcD ((x2.1::(x3.1::[])),())) fun x4=>
   bif !(zr x4.1 0) then some (.inl (1,((s0.1.1,(s0.1.2.1,(s0.1.2.2.2.2.1,((zj x4.1 0),(s0.1.2.2.2.2.1,()))))),())))
   else some (.inr ((s0.1.1,(s0.1.2.1,(s0.1.2.2.1,(s0.1.2.2.2.1,((wrF .i64 (s0.1.2.2.2.2.1+1)),()))))),()))
  else some (.inl (0,((s0.1.1,(s0.1.2.1,(s0.1.2.2.1,(s0.1.2.2.2.1,(s0.1.2.2.2.2.1,()))))),())))) qw ((a0,(a1,(0,(false,(0,()))))),())) fun x5=>
 bif Nat.beq x5.1 0 then some (s,(((s.2.2.2.2.1.length:Nat):Int),((x5.2.1.1,(x5.2.1.2.1,(0,false))),(false,()))))
 else bif !x5.2.1.2.2.2.1 then some (s,(x5.2.1.2.2.1,((x5.2.1.1,(x5.2.1.2.1,(0,false))),(false,()))))
  else opt (atI s.2.2.2.2.1 x5.2.1.2.2.1) fun x6=>
   some (s,(x5.2.1.2.2.1,(x6,(true,()))))
theorem zg1 (jt:(Int×Int×Unit)→Option (Int×Unit)) (zcD:((List Int)×Unit)→Option (Int×Unit)) (s:za) (a0:Int) (a1:Int):sP Tryz.prog ⟨[],[]⟩ [(37,⟨wu,wv,jt⟩),(144,⟨WL,WM,zcD⟩)] Uz (zN []) 30 112 ze yd ye s (a0,a1,())=WN jt zcD s a0 a1:=by kernel_rfl
def yY:za→(Int×Int×Unit)→Option (za×(Int×xI×Bool×Unit)):=sP Tryz.prog ⟨[],[]⟩ [(37,⟨wu,wv,jb⟩),(144,⟨WL,WM,Ja⟩)] Uz (zN []) 30 112 ze yd ye
theorem zep:yC.Ok Tryz.prog 112 ⟨ze,yd,ye,yY⟩:=xc ⟨qu,qW⟩ (zf Kt (zf zsq zh)) zm (by kernel_rfl)
theorem zeq (s:za) (a0:Int) (a1:Int):yY s (a0,a1,())=WN jb Ja s a0 a1:=zg1 jb Ja s a0 a1
abbrev vj:List VT:=[⟨false,(.list yl)⟩,⟨false,I⟩,⟨false,.bool⟩,⟨true,yl⟩]
abbrev vl:List VT:=[⟨false,(.list yl)⟩]
def ziN:zZ:=zQ [cdF yl] [] [⟨2,27,some 8,yl,true⟩] [] []
def VC (a0:(List xI)) (a1:Int) (a2:Bool) (a3:xI):Option ((List xI)×Unit):=
 opt (ux a0 (some a1) none none) fun x0=>
 opt (bif a2 then opt (ux a0 (some (wrF .i64 (a1+1))) none none) fun x1=>
   some (0,((x1,()),()))
  else some (0,((x0,()),()))) fun x2=>
 opt (ux a0 none (some a1) (some a1)) fun x3=>
 bif (yS x3.length ((a3::[]).length) 32) then bif (yS ((x3++(a3::[])).length) x2.2.1.1.length 32) then some (((x3++(a3::[]))++x2.2.1.1),())
  else none
 else none
abbrev VD:Type:=((List xI)×Int×Bool×xI×Unit)→Option ((List xI)×Unit)
def zbp:VD:=sF Tryz.prog [] ziN (zN []) 30 113 vj vl
theorem zjB (a0) (a1) (a2) (a3):zbp (a0,a1,a2,a3,())=VC a0 a1 a2 a3:=by kernel_rfl
def vo:VD:=zbp
theorem zg2:Con.Ok Tryz.prog 113 ⟨vj,vl,vo⟩:=zv zh zm (by kernel_rfl)
theorem zg3 (a0) (a1) (a2) (a3):vo (a0,a1,a2,a3,())=VC  a0 a1 a2 a3:=zjB  a0 a1 a2 a3
abbrev jo:List VT:=[⟨true,qv⟩]
abbrev jr:List VT:=[]
def WO:zZ:=zQ [cdF ze,cdF qv,cdF zz,cdF yl,cdF zu] [] [] [] [112,52]
def gK (Zh:za→(Int×Int×Unit)→Option (za×(Int×xI×Bool×Unit))) (JB:VD) (zM:za→(zI×Unit)→Option (za×(Unit))) (s:za) (a0:zI):Option (za×(Unit)):=
 opt (Zh s (a0.2.2.2.1,(a0.2.1,()))) fun x0=>
 bif zr a0.2.2.1 x0.2.2.1.2.2.1 then some (x0.1,())
 else opt (JB (x0.1.2.2.2.2.1,(x0.2.1,(x0.2.2.2.1,((x0.2.2.1.1,(x0.2.2.1.2.1,(a0.2.2.1,(zj a0.1 2)))),()))))) fun x1=>
  opt (zM (x0.1.1,(x0.1.2.1,(x0.1.2.2.1,(x0.1.2.2.2.1,(x1.1,x0.1.2.2.2.2.2))))) ((4,(a0.2.1,(a0.2.2.1,(a0.2.2.2.1,(false,((0,(0,(0,(0,(0,(0,((0,0),(0,[])))))))),0)))))),())) fun x2=>
  some (x2.1,())
theorem zbA (Zh:za→(Int×Int×Unit)→Option (za×(Int×xI×Bool×Unit))) (JB:((List xI)×Int×Bool×xI×Unit)→Option ((List xI)×Unit)) (zM:za→(zI×Unit)→Option (za×(Unit))) (s:za) (a0:zI):sP Tryz.prog ⟨[],[(112,⟨ze,yd,ye,Zh⟩),(52,⟨ze,qf,qg,zM⟩)]⟩ [(113,⟨vj,vl,JB⟩)] WO (zN []) 30 81 ze jo jr s (a0,())=gK Zh JB zM s a0:=by kernel_rfl
def jY:za→(zI×Unit)→Option (za×(Unit)):=sP Tryz.prog ⟨[],[(112,⟨ze,yd,ye,yY⟩),(52,⟨ze,qf,qg,ql⟩)]⟩ [(113,⟨vj,vl,vo⟩)] WO (zN []) 30 81 ze jo jr
theorem zac:yC.Ok Tryz.prog 81 ⟨ze,jo,jr,jY⟩:=xc ⟨qu,(zP zep (zP uf qW))⟩ (zf zg2 zh) zm (by kernel_rfl)
theorem zad (s:za) (a0:zI):jY s (a0,())=gK yY vo ql s a0:=zbA yY vo ql s a0
abbrev vL:List VT:=[⟨false,(.list I)⟩,⟨false,I⟩]
abbrev vM:List VT:=[⟨false,(.list I)⟩]
def zjC:zZ:=zQ [] [] [] [] []
def Kz (a0:(List Int)) (a1:Int):Option ((List Int)×Unit):=
 opt (ux a0 none (some a1) (some a1)) fun x0=>
 opt (ux a0 (some (wrF .i64 (a1+1))) none none) fun x1=>
 bif yS x0.length x1.length 8 then some ((x0++x1),())
 else none
abbrev KB:Type:=((List Int)×Int×Unit)→Option ((List Int)×Unit)
def zch:KB:=sF Tryz.prog [] zjC (zN []) 30 115 vL vM
theorem zkU (a0) (a1):zch (a0,a1,())=Kz a0 a1:=by kernel_rfl
def vN:KB:=zch
theorem zhy:Con.Ok Tryz.prog 115 ⟨vL,vM,vN⟩:=zv zh zm (by kernel_rfl)
theorem zhz (a0) (a1):vN (a0,a1,())=Kz  a0 a1:=zkU  a0 a1
abbrev ug:List VT:=[⟨true,qz⟩,⟨false,(.list zz)⟩,⟨false,I⟩]
abbrev uh:List VT:=[⟨false,(.list zz)⟩,⟨false,I⟩]
def zqK:zZ:=zQ [cdF qz,cdF zR,cdF qp,cdF qk,cdF qQ] [] [⟨2,35,some 6,zz,true⟩,⟨5,35,some 6,zz,true⟩] [] [25,110]
def zci (yV:YH) (vr:VA) (a0:jA) (a1:(List zD)) (a2:Int):Option ((List zD)×Int×Unit):=
 opt (yV (a0,(a1,()))) fun x0=>
 bif !(zj x0.1 0) then some ([],(x0.1,()))
 else opt (vr (a1,(a2,()))) fun x1=>
  bif !(zj x1.2.1 0) then some ([],(x1.2.1,()))
  else opt (ux a1 none (some x1.1) (some x1.1)) fun x2=>
   opt (ux a1 (some (wrF .i64 (x1.1+1))) none none) fun x3=>
   bif yS x2.length x3.length 96 then some ((x2++x3),(0,()))
   else none
abbrev zcj:Type:=(jA×(List zD)×Int×Unit)→Option ((List zD)×Int×Unit)
def zh8:YH→VA→zcj:=fun yV vr=>sF Tryz.prog [(25,⟨xY,xZ,yV⟩),(110,⟨uS,uT,vr⟩)] zqK (zN []) 30 116 ug uh
theorem zss (yV) (vr) (a0) (a1) (a2):zh8 yV vr (a0,a1,a2,())=zci yV vr a0 a1 a2:=by kernel_rfl
def gZ:zcj:=zh8 uM xB
theorem znE:Con.Ok Tryz.prog 116 ⟨ug,uh,gZ⟩:=zv (zf za2 (zf zfo zh)) zm (by kernel_rfl)
theorem znF (a0) (a1) (a2):gZ (a0,a1,a2,())=zci uM xB a0 a1 a2:=zss uM xB a0 a1 a2
abbrev yf:List VT:=[⟨true,qv⟩]
abbrev yg:List VT:=[]
def UA:zZ:=zQ [cdF ze,cdF qv,cdF qz,cdF zz,cdF zR,cdF jv,cdF qp,cdF qk,cdF zu] [] [] [] [114,108]
def WQ (wm:za→(Int×Unit)→Option (za×(Int×qy×Bool×Unit))) (qV:uB) (Zi:KB) (Xi:zcj) (wI:Jt) (jj:za→(qy×Unit)→Option (za×(Unit))) (s:za) (a0:zI):Option (za×(Unit)):=
 opt (wm s (a0.2.1,())) fun x0=>
 bif !x0.2.2.2.1 then some (x0.1,())
 else bif !(zj x0.2.2.1.2.1 a0.2.2.1) then some (x0.1,())
  else bif !(zj x0.2.2.1.2.2.1 1) then bif !(zj x0.2.2.1.2.2.1 4) then some (x0.1,())
    else opt (qV (x0.2.2.1.2.2.2.2,(a0.2.2.2.1,()))) fun x1=>
     opt (bif !(zr x1.1 0) then opt (Zi (x0.2.2.1.2.2.2.2,(x1.1,()))) fun x2=>
       some (0,(((x0.2.2.1.1,(x0.2.2.1.2.1,(x0.2.2.1.2.2.1,(x0.2.2.1.2.2.2.1,x2.1)))),()),()))
      else some (0,((x0.2.2.1,()),()))) fun x3=>
     opt (bif (zj ((x3.2.1.1.2.2.2.2.length:Nat):Int) 0) then opt (bif zj x3.2.1.1.2.2.1 1 then some (0,(((x3.2.1.1.1,(x3.2.1.1.2.1,(2,x3.2.1.1.2.2.2))),(x0.1,())),()))
        else opt (Xi (x0.1.1,(x0.1.2.1,(x3.2.1.1.1,())))) fun x4=>
         opt (bif zj x4.2.1 0 then some (0,(((x0.1.1,(x4.1,x0.1.2.2)),()),()))
          else some (0,((x0.1,()),()))) fun x5=>
         some (0,(((x3.2.1.1.1,(x3.2.1.1.2.1,(5,x3.2.1.1.2.2.2))),(x5.2.1.1,())),()))) fun x6=>
       some (0,((x6.2.1.1,(x6.2.1.2.1,())),()))
      else some (0,((x3.2.1.1,(x0.1,())),()))) fun x7=>
     opt (wI (x7.2.1.2.1.2.2.2.1,(x0.2.1,(true,(x7.2.1.1,()))))) fun x8=>
     opt (jj (x7.2.1.2.1.1,(x7.2.1.2.1.2.1,(x7.2.1.2.1.2.2.1,(x8.1,x7.2.1.2.1.2.2.2.2)))) (x7.2.1.1,())) fun x9=>
     some (x9.1,())
   else opt (qV (x0.2.2.1.2.2.2.2,(a0.2.2.2.1,()))) fun x10=>
    opt (bif !(zr x10.1 0) then opt (Zi (x0.2.2.1.2.2.2.2,(x10.1,()))) fun x11=>
      some (0,(((x0.2.2.1.1,(x0.2.2.1.2.1,(x0.2.2.1.2.2.1,(x0.2.2.1.2.2.2.1,x11.1)))),()),()))
     else some (0,((x0.2.2.1,()),()))) fun x12=>
    opt (bif (zj ((x12.2.1.1.2.2.2.2.length:Nat):Int) 0) then opt (bif zj x12.2.1.1.2.2.1 1 then some (0,(((x12.2.1.1.1,(x12.2.1.1.2.1,(2,x12.2.1.1.2.2.2))),(x0.1,())),()))
       else opt (Xi (x0.1.1,(x0.1.2.1,(x12.2.1.1.1,())))) fun x13=>
        opt (bif zj x13.2.1 0 then some (0,(((x0.1.1,(x13.1,x0.1.2.2)),()),()))
         else some (0,((x0.1,()),()))) fun x14=>
        some (0,(((x12.2.1.1.1,(x12.2.1.1.2.1,(5,x12.2.1.1.2.2.2))),(x14.2.1.1,())),()))) fun x15=>
      some (0,((x15.2.1.1,(x15.2.1.2.1,())),()))
     else some (0,((x12.2.1.1,(x0.1,())),()))) fun x16=>
    opt (wI (x16.2.1.2.1.2.2.2.1,(x0.2.1,(true,(x16.2.1.1,()))))) fun x17=>
    opt (jj (x16.2.1.2.1.1,(x16.2.1.2.1.2.1,(x16.2.1.2.1.2.2.1,(x17.1,x16.2.1.2.1.2.2.2.2)))) (x16.2.1.1,())) fun x18=>
    some (x18.1,())
theorem zg4 (wm:za→(Int×Unit)→Option (za×(Int×qy×Bool×Unit))) (qV:((List Int)×Int×Unit)→Option (Int×Unit)) (Zi:((List Int)×Int×Unit)→Option ((List Int)×Unit)) (Xi:(jA×(List zD)×Int×Unit)→Option ((List zD)×Int×Unit)) (wI:((List qy)×Int×Bool×qy×Unit)→Option ((List qy)×Unit)) (jj:za→(qy×Unit)→Option (za×(Unit))) (s:za) (a0:zI):sP Tryz.prog ⟨[],[(107,⟨ze,jd,je,wm⟩),(108,⟨ze,jf,jg,jj⟩)]⟩ [(114,⟨wi,wj,qV⟩),(115,⟨vL,vM,Zi⟩),(116,⟨ug,uh,Xi⟩),(111,⟨wF,wG,wI⟩)] UA (zN []) 30 82 ze yf yg s (a0,())=WQ wm qV Zi Xi wI jj s a0:=by kernel_rfl
def vp:za→(zI×Unit)→Option (za×(Unit)):=sP Tryz.prog ⟨[],[(107,⟨ze,jd,je,jC⟩),(108,⟨ze,jf,jg,jh⟩)]⟩ [(114,⟨wi,wj,qI⟩),(115,⟨vL,vM,vN⟩),(116,⟨ug,uh,gZ⟩),(111,⟨wF,wG,jS⟩)] UA (zN []) 30 82 ze yf yg
theorem zer:yC.Ok Tryz.prog 82 ⟨ze,yf,yg,vp⟩:=xc ⟨qu,(zP VY (zP VZ qW))⟩ (zf Ka (zf zhy (zf znE (zf Gf zh)))) zm (by kernel_rfl)
theorem zes (s:za) (a0:zI):vp s (a0,())=WQ jC qI vN gZ jS jh s a0:=zg4 jC qI vN gZ jS jh s a0
abbrev wB:List VT:=[⟨true,qv⟩]
abbrev wC:List VT:=[]
def Ke:zZ:=zQ [cdF ze,cdF qv,cdF jH,cdF zz,cdF zu] [] [] [] []
def JO (QO:za→(Int×Unit)→Option (za×(Int×wc×Bool×Unit))) (JC:Vd) (s:za) (a0:zI):Option (za×(Unit)):=
 opt (QO s (a0.2.1,())) fun x0=>
 bif !x0.2.2.2.1 then some (x0.1,())
 else bif !(zj x0.2.2.1.2.1 a0.2.2.1) then some (x0.1,())
  else opt (bif zj x0.2.2.1.2.2.1 1 then bif zj a0.1 5 then some (0,(((x0.2.2.1.1,(x0.2.2.1.2.1,(2,x0.2.2.1.2.2.2))),()),()))
     else opt (bif zj x0.2.2.1.2.2.1 1 then bif zj a0.1 6 then some (0,(((x0.2.2.1.1,(x0.2.2.1.2.1,(3,(x0.2.2.1.2.2.2.1,a0.2.2.2.2.2.2)))),()),()))
        else opt (bif zj x0.2.2.1.2.2.1 4 then bif zj a0.1 7 then some (0,(((x0.2.2.1.1,(x0.2.2.1.2.1,(5,x0.2.2.1.2.2.2))),()),()))
           else some (1,((x0.2.2.1,()),()))
          else some (1,((x0.2.2.1,()),()))) fun x1=>
         bif Nat.beq x1.1 0 then some (0,((x1.2.1.1,()),()))
         else some (1,((x1.2.1.1,()),()))
       else opt (bif zj x0.2.2.1.2.2.1 4 then bif zj a0.1 7 then some (0,(((x0.2.2.1.1,(x0.2.2.1.2.1,(5,x0.2.2.1.2.2.2))),()),()))
          else some (1,((x0.2.2.1,()),()))
         else some (1,((x0.2.2.1,()),()))) fun x2=>
        bif Nat.beq x2.1 0 then some (0,((x2.2.1.1,()),()))
        else some (1,((x2.2.1.1,()),()))) fun x3=>
      bif Nat.beq x3.1 0 then some (0,((x3.2.1.1,()),()))
      else some (1,((x3.2.1.1,()),()))
    else opt (bif zj x0.2.2.1.2.2.1 1 then bif zj a0.1 6 then some (0,(((x0.2.2.1.1,(x0.2.2.1.2.1,(3,(x0.2.2.1.2.2.2.1,a0.2.2.2.2.2.2)))),()),()))
       else opt (bif zj x0.2.2.1.2.2.1 4 then bif zj a0.1 7 then some (0,(((x0.2.2.1.1,(x0.2.2.1.2.1,(5,x0.2.2.1.2.2.2))),()),()))
          else some (1,((x0.2.2.1,()),()))
         else some (1,((x0.2.2.1,()),()))) fun x4=>
        bif Nat.beq x4.1 0 then some (0,((x4.2.1.1,()),()))
        else some (1,((x4.2.1.1,()),()))
      else opt (bif zj x0.2.2.1.2.2.1 4 then bif zj a0.1 7 then some (0,(((x0.2.2.1.1,(x0.2.2.1.2.1,(5,x0.2.2.1.2.2.2))),()),()))
         else some (1,((x0.2.2.1,()),()))
        else some (1,((x0.2.2.1,()),()))) fun x5=>
       bif Nat.beq x5.1 0 then some (0,((x5.2.1.1,()),()))
       else some (1,((x5.2.1.1,()),()))) fun x6=>
     bif Nat.beq x6.1 0 then some (0,((x6.2.1.1,()),()))
     else some (1,((x6.2.1.1,()),()))) fun x7=>
   bif Nat.beq x7.1 0 then opt (JC (x0.1.2.2.1,(x0.2.1,(true,(x7.2.1.1,()))))) fun x8=>
    some ((x0.1.1,(x0.1.2.1,(x8.1,x0.1.2.2.2))),())
   else some (x0.1,())
theorem ze2 (QO:za→(Int×Unit)→Option (za×(Int×wc×Bool×Unit))) (JC:((List wc)×Int×Bool×wc×Unit)→Option ((List wc)×Unit)) (s:za) (a0:zI):sP Tryz.prog ⟨[],[(24,⟨ze,qJ,qK,QO⟩)]⟩ [(75,⟨jQ,jR,JC⟩)] Ke (zN []) 30 83 ze wB wC s (a0,())=JO QO JC s a0:=by kernel_rfl
def yw:za→(zI×Unit)→Option (za×(Unit)):=sP Tryz.prog ⟨[],[(24,⟨ze,qJ,qK,we⟩)]⟩ [(75,⟨jQ,jR,ym⟩)] Ke (zN []) 30 83 ze wB wC
theorem zcL:yC.Ok Tryz.prog 83 ⟨ze,wB,wC,yw⟩:=xc ⟨qu,(zP gC qW)⟩ (zf WG zh) zm (by kernel_rfl)
theorem zcM (s:za) (a0:zI):yw s (a0,())=JO we ym s a0:=ze2 we ym s a0
abbrev yh:List VT:=[⟨true,qv⟩]
abbrev yi:List VT:=[]
def UB:zZ:=zQ [cdF ze,cdF qv,cdF zz,cdF zu] [] [] [] [80,81,82,83]
def WR (Qe:za→(zI×Unit)→Option (za×(Unit))) (xm:za→(zI×Unit)→Option (za×(Unit))) (Zj:za→(zI×Unit)→Option (za×(Unit))) (xG:za→(zI×Unit)→Option (za×(Unit))) (s:za) (a0:zI):Option (za×(Unit)):=
 bif zj 1 a0.1 then opt (opt (Qe s (a0,())) fun x0=>
   some (0,((x0.1,(a0,())),()))) fun x1=>
  some (x1.2.1.1,())
 else bif zj 2 a0.1 then opt (opt (xm s (a0,())) fun x2=>
    some (0,((x2.1,(a0,())),()))) fun x3=>
   some (x3.2.1.1,())
  else bif zj 3 a0.1 then opt (opt (xm s (a0,())) fun x4=>
     some (0,((x4.1,(a0,())),()))) fun x5=>
    some (x5.2.1.1,())
   else bif zj 4 a0.1 then opt (opt (Zj s (a0,())) fun x6=>
      some (0,((x6.1,(a0,())),()))) fun x7=>
     some (x7.2.1.1,())
    else bif zj 5 a0.1 then opt (opt (xG s (a0,())) fun x8=>
       some (0,((x8.1,(a0,())),()))) fun x9=>
      some (x9.2.1.1,())
     else bif zj 6 a0.1 then opt (opt (xG s (a0,())) fun x10=>
        some (0,((x10.1,(a0,())),()))) fun x11=>
       some (x11.2.1.1,())
      else bif zj 7 a0.1 then opt (opt (xG s (a0,())) fun x12=>
         some (0,((x12.1,(a0,())),()))) fun x13=>
        some (x13.2.1.1,())
       else some (s,())
theorem zg5 (Qe:za→(zI×Unit)→Option (za×(Unit))) (xm:za→(zI×Unit)→Option (za×(Unit))) (Zj:za→(zI×Unit)→Option (za×(Unit))) (xG:za→(zI×Unit)→Option (za×(Unit))) (s:za) (a0:zI):sP Tryz.prog ⟨[],[(80,⟨ze,yz,yA,Qe⟩),(81,⟨ze,jo,jr,xm⟩),(82,⟨ze,yf,yg,Zj⟩),(83,⟨ze,wB,wC,xG⟩)]⟩ [] UB (zN []) 30 54 ze yh yi s (a0,())=WR Qe xm Zj xG s a0:=by kernel_rfl
def vq:za→(zI×Unit)→Option (za×(Unit)):=sP Tryz.prog ⟨[],[(80,⟨ze,yz,yA,vH⟩),(81,⟨ze,jo,jr,jY⟩),(82,⟨ze,yf,yg,vp⟩),(83,⟨ze,wB,wC,yw⟩)]⟩ [] UB (zN []) 30 54 ze yh yi
theorem zet:yC.Ok Tryz.prog 54 ⟨ze,yh,yi,vq⟩:=xc ⟨qu,(zP ze0 (zP zac (zP zer (zP zcL qW))))⟩ zh zm (by kernel_rfl)
theorem zeu (s:za) (a0:zI):vq s (a0,())=WR vH jY vp yw s a0:=zg5 vH jY vp yw s a0
abbrev qN:List VT:=[⟨false,I⟩,⟨false,I⟩]
abbrev qO:List VT:=[⟨false,I⟩]
def VE:zZ:=zQ [cdF ze,cdF qv,cdF zz,cdF zu] [] [] [] [52,54]
def Jb (zM:za→(zI×Unit)→Option (za×(Unit))) (kj:QU) (Zk:za→(zI×Unit)→Option (za×(Unit))) (s:za) (a0:Int) (a1:Int):Option (za×(Int×Unit)):=
 opt (bif zr a1 0 then some (1,((2,()),()))
  else bif (!(zr a1 ((s.2.2.2.2.2.length:Nat):Int))) then some (1,((2,()),()))
   else some (0,((0,()),()))) fun x0=>
 bif Nat.beq x0.1 0 then opt (atI s.2.2.2.2.2 a1) fun x1=>
  bif zj a0 5 then opt (zM s (x1,())) fun x2=>
   some (x2.1,(0,()))
  else opt (kj (s.2.2.2.2.2,(a1,()))) fun x3=>
   opt (bif zj a0 3 then opt (Zk (s.1,(s.2.1,(s.2.2.1,(s.2.2.2.1,(s.2.2.2.2.1,x3.1))))) (x1,())) fun x4=>
     some (0,((x4.1,()),()))
    else some (0,(((s.1,(s.2.1,(s.2.2.1,(s.2.2.2.1,(s.2.2.2.2.1,x3.1))))),()),()))) fun x5=>
   some (x5.2.1.1,(0,()))
 else some (s,(x0.2.1.1,()))
theorem zev (zM:za→(zI×Unit)→Option (za×(Unit))) (kj:((List zI)×Int×Unit)→Option ((List zI)×Unit)) (Zk:za→(zI×Unit)→Option (za×(Unit))) (s:za) (a0:Int) (a1:Int):sP Tryz.prog ⟨[],[(52,⟨ze,qf,qg,zM⟩),(54,⟨ze,yh,yi,Zk⟩)]⟩ [(53,⟨ya,yb,kj⟩)] VE (zN []) 30 32 ze qN qO s (a0,a1,())=Jb zM kj Zk s a0 a1:=by kernel_rfl
def jw:za→(Int×Int×Unit)→Option (za×(Int×Unit)):=sP Tryz.prog ⟨[],[(52,⟨ze,qf,qg,ql⟩),(54,⟨ze,yh,yi,vq⟩)]⟩ [(53,⟨ya,yb,yc⟩)] VE (zN []) 30 32 ze qN qO
theorem Xe:yC.Ok Tryz.prog 32 ⟨ze,qN,qO,jw⟩:=xc ⟨qu,(zP uf (zP zet qW))⟩ (zf zb1 zh) zm (by kernel_rfl)
theorem zck (s:za) (a0:Int) (a1:Int):jw s (a0,a1,())=Jb ql yc vq s a0 a1:=zev ql yc vq s a0 a1
abbrev jD:List VT:=[]
abbrev jE:List VT:=[]
def GP:zZ:=zQ [cdF ze,cdF jH,cdF zz,cdF jv,cdF zu] [] [] [] [33,34]
def Xu (gH:za→(wc×Unit)→Option (za×(Unit))) (jI:za→(qy×Unit)→Option (za×(Unit))) (s:za):Option (za×(Unit)):=
 opt (qb (fun s0:(((((Int×((List Bool)×(List (Int×(Int×(Int×Int))))))×((Int×(Int×(Int×Int)))×((List ((List (Int×Int))×Int))×Int)))×((List (Int×(Int×(Int×(Int×(Int×(Int×((Int×Int)×(Int×(List (List Int)))))))))))×((List (Int×(Int×(Int×((Int×(Int×(Int×(Int×(Int×(Int×((Int×Int)×(Int×(List (List Int))))))))))×Int)))))×((List (Int×(Int×(Int×(Int×(List Int))))))×((List (Int×(Int×(Int×Bool))))×(List (Int×(Int×(Int×(Int×(Bool×((Int×(Int×(Int×(Int×(Int×(Int×((Int×Int)×(Int×(List (List Int))))))))))×Int))))))))))))×(Int×Unit))×Unit)=>
  bif (zr s0.1.2.1 ((s.2.2.1.length:Nat):Int)) then opt (atI s.2.2.1 s0.1.2.1) fun x1=>
   opt (gH s0.1.1 (x1,())) fun x2=>
   some (.inr ((x2.1,((wrF .i64 (s0.1.2.1+1)),())),()))
  else some (.inl (0,((s0.1.1,(s0.1.2.1,())),())))) qw ((s,(0,())),())) fun x3=>
 opt (qb (fun s4:(((((Int×((List Bool)×(List (Int×(Int×(Int×Int))))))×((Int×(Int×(Int×Int)))×((List ((List (Int×Int))×Int))×Int)))×((List (Int×(Int×(Int×(Int×(Int×(Int×((Int×Int)×(Int×(List (List Int)))))))))))×((List (Int×(Int×(Int×((Int×(Int×(Int×(Int×(Int×(Int×((Int×Int)×(Int×(List (List Int))))))))))×Int)))))×((List (Int×(Int×(Int×(Int×(List Int))))))×((List (Int×(Int×(Int×Bool))))×(List (Int×(Int×(Int×(Int×(Bool×((Int×(Int×(Int×(Int×(Int×(Int×((Int×Int)×(Int×(List (List Int))))))))))×Int))))))))))))×(Int×Unit))×Unit)=>
  bif (zr s4.1.2.1 ((x3.2.1.1.2.2.2.1.length:Nat):Int)) then opt (atI x3.2.1.1.2.2.2.1 s4.1.2.1) fun x5=>
   opt (jI s4.1.1 (x5,())) fun x6=>
   some (.inr ((x6.1,((wrF .i64 (s4.1.2.1+1)),())),()))
  else some (.inl (0,((s4.1.1,(s4.1.2.1,())),())))) qw ((x3.2.1.1,(0,())),())) fun x7=>
 some (x7.2.1.1,())
theorem ziO (gH:za→(wc×Unit)→Option (za×(Unit))) (jI:za→(qy×Unit)→Option (za×(Unit))) (s:za):sP Tryz.prog ⟨[],[(33,⟨ze,qL,qM,gH⟩),(34,⟨ze,qT,qU,jI⟩)]⟩ [] GP (zN []) 30 23 ze jD jE s ()=Xu gH jI s:=by kernel_rfl
def wW:za→(Unit)→Option (za×(Unit)):=sP Tryz.prog ⟨[],[(33,⟨ze,qL,qM,wO⟩),(34,⟨ze,qT,qU,jk⟩)]⟩ [] GP (zN []) 30 23 ze jD jE
theorem UC:yC.Ok Tryz.prog 23 ⟨ze,jD,jE,wW⟩:=xc ⟨qu,(zP Qm (zP XB qW))⟩ zh zm (by kernel_rfl)
theorem zf0 (s:za):wW s ()=Xu wO jk s:=ziO wO jk s
abbrev xj:List VT:=[⟨true,xd⟩]
abbrev xk:List VT:=[⟨false,I⟩]
def zaq:zZ:=zQ [cdF ze,cdF xd,cdF zz,cdF zu] [] [] [] [43,44,32,23]
def Ju (JD:za→(zD×Unit)→Option (za×(Int×Unit))) (Zl:za→(Int×Unit)→Option (za×(Int×Unit))) (qP:za→(Int×Int×Unit)→Option (za×(Int×Unit))) (jF:za→(Unit)→Option (za×(Unit))) (s:za) (a0:yL):Option (za×(Int×Unit)):=
 bif zj a0.1 1 then opt (JD s (a0.2.2.2,())) fun x0=>
  some (x0.1,(x0.2.1,()))
 else bif zj a0.1 2 then opt (Zl s (a0.2.1,())) fun x1=>
   some (x1.1,(x1.2.1,()))
  else bif zj a0.1 3 then bif zj a0.1 3 then opt (qP s (a0.1,(a0.2.2.1,()))) fun x2=>
     some (x2.1,(x2.2.1,()))
    else bif zj a0.1 6 then opt (jF s ()) fun x3=>
      some (x3.1,(0,()))
     else some (s,(2,()))
   else bif zj a0.1 4 then bif zj a0.1 4 then opt (qP s (a0.1,(a0.2.2.1,()))) fun x4=>
      some (x4.1,(x4.2.1,()))
     else bif zj a0.1 6 then opt (jF s ()) fun x5=>
       some (x5.1,(0,()))
      else some (s,(2,()))
    else bif zj a0.1 5 then opt (qP s (a0.1,(a0.2.2.1,()))) fun x6=>
      some (x6.1,(x6.2.1,()))
     else bif zj a0.1 6 then opt (jF s ()) fun x7=>
       some (x7.1,(0,()))
      else some (s,(2,()))
theorem zjD (JD:za→(zD×Unit)→Option (za×(Int×Unit))) (Zl:za→(Int×Unit)→Option (za×(Int×Unit))) (qP:za→(Int×Int×Unit)→Option (za×(Int×Unit))) (jF:za→(Unit)→Option (za×(Unit))) (s:za) (a0:yL):sP Tryz.prog ⟨[],[(43,⟨ze,vh,vi,JD⟩),(44,⟨ze,yW,yX,Zl⟩),(32,⟨ze,qN,qO,qP⟩),(23,⟨ze,jD,jE,jF⟩)]⟩ [] zaq (fun _ _=>false) 30 27 ze xj xk s (a0,())=Ju JD Zl qP jF s a0:=by kernel_rfl
def gv:za→(yL×Unit)→Option (za×(Int×Unit)):=sP Tryz.prog ⟨[],[(43,⟨ze,vh,vi,Jl⟩),(44,⟨ze,yW,yX,gV⟩),(32,⟨ze,qN,qO,jw⟩),(23,⟨ze,jD,jE,wW⟩)]⟩ [] zaq (fun _ _=>false) 30 27 ze xj xk
theorem zg6:yC.Ok Tryz.prog 27 ⟨ze,xj,xk,gv⟩:=xc ⟨qu,(zP zgE (zP zee (zP Xe (zP UC qW))))⟩ zh zm (by kernel_rfl)
theorem Gh (s:za) (a0:yL):gv s (a0,())=Ju Jl gV jw wW s a0:=zjD Jl gV jw wW s a0
abbrev vz:List VT:=[⟨true,qq⟩,⟨true,xd⟩]
abbrev uN:List VT:=[⟨true,qq⟩,⟨false,I⟩]
def znG:zZ:=zQ [cdF qq,cdF qv,cdF qz,cdF jH,cdF xd,cdF zz,cdF zR,cdF jv,cdF yl,cdF qp,cdF qk,cdF qQ] [] [] [] [27]
def zdU (JE:za→(yL×Unit)→Option (za×(Int×Unit))) (a0:zL) (a1:yL):Option (zL×Int×Unit):=
 opt (JE a0 (a1,())) fun x0=>
 bif !(zj x0.2.1 0) then some ((((0,([],[])),((0,(0,(0,0))),([],0))),([],([],([],([],[]))))),(x0.2.1,()))
 else some (x0.1,(0,()))
theorem zy7 (JE:za→(yL×Unit)→Option (za×(Int×Unit))) (a0:zL) (a1:yL):sFl Tryz.prog ⟨[],[(27,⟨ze,xj,xk,JE⟩)]⟩ [] znG (zN []) 30 12 vz uN (a0,a1,())=zdU JE a0 a1:=by kernel_rfl
def Xv:(zL×yL×Unit)→Option (zL×Int×Unit):=sFl Tryz.prog ⟨[],[(27,⟨ze,xj,xk,gv⟩)]⟩ [] znG (zN []) 30 12 vz uN
theorem zjE:Con.Ok Tryz.prog 12 ⟨vz,uN,Xv⟩:=zgw ⟨qu,(zP zg6 qW)⟩ zh zm (by kernel_rfl)
theorem zjF (a0:zL) (a1:yL):Xv (a0,a1,())=zdU gv a0 a1:=zy7 gv a0 a1
abbrev Za:List VT:=[⟨true,qq⟩,⟨false,(.list xd)⟩]
abbrev Zb:List VT:=[⟨true,qq⟩,⟨false,(.list I)⟩]
def zvU:zZ:=zQ [cdF qq,cdF qv,cdF qz,cdF jH,cdF xd,cdF zz,cdF zR,cdF jv,cdF yl,cdF qp,cdF qk,cdF qQ] [] [⟨3,36,some 5,I,false⟩,⟨6,36,some 5,I,false⟩] [] []
def znH:(zL×(List yL)×Unit)→Option (zL×(List Int)×Unit):=sF Tryz.prog [(12,⟨vz,uN,Xv⟩)] zvU (zN []) 30 18 Za Zb
theorem zst:Con.Ok Tryz.prog 18 ⟨Za,Zb,znH⟩:=zv (zf zjE zh) zm (by kernel_rfl)
abbrev Wn:List VT:=[⟨true,qq⟩,⟨false,I⟩]
abbrev Wo:List VT:=[⟨false,I⟩,⟨false,I⟩]
def zsu:zZ:=zQ [cdF qq,cdF qv,cdF qz,cdF jH,cdF zz,cdF zR,cdF jv,cdF yl,cdF qp,cdF qk,cdF qQ] [] [] [] []
def zjG:(zL×Int×Unit)→Option (Int×Int×Unit):=sFl Tryz.prog ⟨[],[(24,⟨ze,qJ,qK,we⟩)]⟩ [] zsu (zN []) 30 10 Wn Wo
theorem zpa:Con.Ok Tryz.prog 10 ⟨Wn,Wo,zjG⟩:=zgw ⟨qu,(zP gC qW)⟩ zh zm (by kernel_rfl)
abbrev JW:List VT:=[⟨true,qq⟩,⟨false,I⟩]
abbrev JX:List VT:=[⟨false,.bool⟩]
def zy8:zZ:=zQ [cdF qq,cdF qv,cdF qz,cdF jH,cdF zz,cdF zR,cdF jv,cdF yl,cdF qp,cdF qk,cdF qQ] [] [] [] [10]
def zsv:(zL×Int×Unit)→Option (Bool×Unit):=sF Tryz.prog [(10,⟨Wn,Wo,zjG⟩)] zy8 (zN []) 30 20 JW JX
theorem zvV:Con.Ok Tryz.prog 20 ⟨JW,JX,zsv⟩:=zv (zf zpa zh) zm (by kernel_rfl)
abbrev JP:List VT:=[⟨true,qq⟩]
abbrev JQ:List VT:=[⟨false,.bool⟩]
def zt5:zZ:=zQ [cdF qq,cdF qv,cdF qz,cdF jH,cdF zz,cdF zR,cdF jv,cdF yl,cdF qp,cdF qk,cdF qQ] [] [] [] []
def ze3 (a0:zL):Option (Bool×Unit):=
 bif (zr 0 ((a0.2.2.2.2.2.length:Nat):Int)) then some (false,())
 else opt (qb (fun s0:((Bool×(Int×Unit))×Unit)=>
   bif (zr s0.1.2.1 ((a0.2.2.1.length:Nat):Int)) then opt (atI a0.2.2.1 s0.1.2.1) fun x1=>
    opt (bif zj x1.2.2.1 1 then some (1,((false,()),()))
     else bif zj x1.2.2.1 4 then some (1,((false,()),()))
      else some (0,((s0.1.1,()),()))) fun x2=>
    bif Nat.beq x2.1 0 then some (.inr ((x2.2.1.1,((wrF .i64 (s0.1.2.1+1)),())),()))
    else some (.inl (1,((x2.2.1.1,(s0.1.2.1,())),())))
   else some (.inl (0,((s0.1.1,(s0.1.2.1,())),())))) qw ((false,(0,())),())) fun x3=>
  bif Nat.beq x3.1 0 then opt (qb (fun s4:((Bool×(Int×Unit))×Unit)=>
    bif (zr s4.1.2.1 ((a0.2.2.2.1.length:Nat):Int)) then opt (atI a0.2.2.2.1 s4.1.2.1) fun x5=>
     opt (bif zj x5.2.2.1 1 then some (1,((false,()),()))
      else bif zj x5.2.2.1 4 then some (1,((false,()),()))
       else some (0,((s4.1.1,()),()))) fun x6=>
     bif Nat.beq x6.1 0 then some (.inr ((x6.2.1.1,((wrF .i64 (s4.1.2.1+1)),())),()))
     else some (.inl (1,((x6.2.1.1,(s4.1.2.1,())),())))
    else some (.inl (0,((s4.1.1,(s4.1.2.1,())),())))) qw ((x3.2.1.1,(0,())),())) fun x7=>
   bif Nat.beq x7.1 0 then some (true,())
   else some (x7.2.1.1,())
  else some (x3.2.1.1,())
abbrev ze4:Type:=(zL×Unit)→Option (Bool×Unit)
def zly:ze4:=sF Tryz.prog [] zt5 (zN []) 30 16 JP JQ
theorem zvW (a0):zly (a0,())=ze3 a0:=by kernel_rfl
def vP:ze4:=zly
theorem zqL:Con.Ok Tryz.prog 16 ⟨JP,JQ,vP⟩:=zv zh zm (by kernel_rfl)
theorem zqM (a0):vP (a0,())=ze3  a0:=zvW  a0
abbrev jT:List VT:=[]
abbrev jU:List VT:=[]
def XC:zZ:=zQ [cdF ze] [] [] [] [32]
def QB (qP:za→(Int×Int×Unit)→Option (za×(Int×Unit))) (s:za):Option (za×(Unit)):=
 opt (qb (fun s0:(((((Int×((List Bool)×(List (Int×(Int×(Int×Int))))))×((Int×(Int×(Int×Int)))×((List ((List (Int×Int))×Int))×Int)))×((List (Int×(Int×(Int×(Int×(Int×(Int×((Int×Int)×(Int×(List (List Int)))))))))))×((List (Int×(Int×(Int×((Int×(Int×(Int×(Int×(Int×(Int×((Int×Int)×(Int×(List (List Int))))))))))×Int)))))×((List (Int×(Int×(Int×(Int×(List Int))))))×((List (Int×(Int×(Int×Bool))))×(List (Int×(Int×(Int×(Int×(Bool×((Int×(Int×(Int×(Int×(Int×(Int×((Int×Int)×(Int×(List (List Int))))))))))×Int))))))))))))×Unit)×Unit)=>
  opt (qP s0.1.1 (3,(0,()))) fun x1=>
  bif !(zj x1.2.1 0) then some (.inl (0,((x1.1,()),())))
  else some (.inr ((x1.1,()),()))) qw ((s,()),())) fun x2=>
 some (x2.2.1.1,())
theorem zdx (qP:za→(Int×Int×Unit)→Option (za×(Int×Unit))) (s:za):sP Tryz.prog ⟨[],[(32,⟨ze,qN,qO,qP⟩)]⟩ [] XC (zN []) 30 22 ze jT jU s ()=QB qP s:=by kernel_rfl
def yP:za→(Unit)→Option (za×(Unit)):=sP Tryz.prog ⟨[],[(32,⟨ze,qN,qO,jw⟩)]⟩ [] XC (zN []) 30 22 ze jT jU
theorem zbB:yC.Ok Tryz.prog 22 ⟨ze,jT,jU,yP⟩:=xc ⟨qu,(zP Xe qW)⟩ zh zm (by kernel_rfl)
theorem zbC (s:za):yP s ()=QB jw s:=zdx jw s
abbrev yT:List VT:=[⟨true,qq⟩]
abbrev vA:List VT:=[⟨true,qq⟩]
def zg7:zZ:=zQ [cdF qq,cdF qv,cdF qz,cdF jH,cdF zz,cdF zR,cdF jv,cdF yl,cdF qp,cdF qk,cdF qQ] [] [] [] [22,23]
def zcl (vu:za→(Unit)→Option (za×(Unit))) (jF:za→(Unit)→Option (za×(Unit))) (a0:zL):Option (zL×Unit):=
 opt (vu a0 ()) fun x0=>
 opt (jF x0.1 ()) fun x1=>
 opt (vu x1.1 ()) fun x2=>
 some (x2.1,())
theorem zsw (vu:za→(Unit)→Option (za×(Unit))) (jF:za→(Unit)→Option (za×(Unit))) (a0:zL):sFl Tryz.prog ⟨[],[(22,⟨ze,jT,jU,vu⟩),(23,⟨ze,jD,jE,jF⟩)]⟩ [] zg7 (zN []) 30 8 yT vA (a0,())=zcl vu jF a0:=by kernel_rfl
def Xf:(zL×Unit)→Option (zL×Unit):=sFl Tryz.prog ⟨[],[(22,⟨ze,jT,jU,yP⟩),(23,⟨ze,jD,jE,wW⟩)]⟩ [] zg7 (zN []) 30 8 yT vA
theorem znI:Con.Ok Tryz.prog 8 ⟨yT,vA,Xf⟩:=zgw ⟨qu,(zP zbB (zP UC qW))⟩ zh zm (by kernel_rfl)
theorem znJ (a0:zL):Xf (a0,())=zcl yP wW a0:=zsw yP wW a0
abbrev KP:List VT:=[]
abbrev KQ:List VT:=[⟨false,.bool⟩]
abbrev YJ:List VT:=[⟨true,qq⟩,⟨false,I⟩]
abbrev YK:List VT:=[⟨true,zz⟩,⟨false,.bool⟩]
def zt6:zZ:=zQ [cdF qq,cdF qv,cdF qz,cdF jH,cdF zz,cdF zR,cdF jv,cdF yl,cdF qp,cdF qk,cdF qQ] [] [] [] []
def zlz:(zL×Int×Unit)→Option (zD×Bool×Unit):=sF Tryz.prog [] zt6 (zN []) 30 30 YJ YK
theorem zqN:Con.Ok Tryz.prog 30 ⟨YJ,YK,zlz⟩:=zv zh zm (by kernel_rfl)
abbrev ZC:List VT:=[⟨true,qq⟩,⟨true,zz⟩]
abbrev ZD:List VT:=[⟨false,.bool⟩]
def znK:zZ:=zQ [cdF qq,cdF qv,cdF qz,cdF jH,cdF zz,cdF zR,cdF jv,cdF yl,cdF qp,cdF qk,cdF qQ] [] [] [] []
def zfp:(zL×zD×Unit)→Option (Bool×Unit):=sF Tryz.prog [(49,⟨uK,uL,xX⟩)] znK (zN []) 30 31 ZC ZD
theorem zkV:Con.Ok Tryz.prog 31 ⟨ZC,ZD,zfp⟩:=zv (zf zaX zh) zm (by kernel_rfl)
abbrev QC:List VT:=[⟨false,(.list I)⟩,⟨false,(.list I)⟩]
abbrev QD:List VT:=[⟨false,.bool⟩]
def zpb:zZ:=zQ [] [] [] [] []
def zg8:((List Int)×(List Int)×Unit)→Option (Bool×Unit):=sF Tryz.prog [] zpb (zN []) 30 28 QC QD
theorem zl2:Con.Ok Tryz.prog 28 ⟨QC,QD,zg8⟩:=zv zh zm (by kernel_rfl)
abbrev gx:List VT:=[⟨true,zz⟩,⟨true,zz⟩]
abbrev gy:List VT:=[⟨false,.bool⟩]
def zl3:zZ:=zQ [cdF zz,cdF zu] [] [] [] [28]
def zew:(zD×zD×Unit)→Option (Bool×Unit):=sF Tryz.prog [(28,⟨QC,QD,zg8⟩)] zl3 (zN []) 30 13 gx gy
theorem zjH:Con.Ok Tryz.prog 13 ⟨gx,gy,zew⟩:=zv (zf zl2 zh) zm (by kernel_rfl)
abbrev Jc:List VT:=[⟨true,qq⟩]
abbrev Jd:List VT:=[⟨false,.bool⟩]
def zvX:zZ:=zQ [cdF qq,cdF qv,cdF qz,cdF jH,cdF zz,cdF zR,cdF jv,cdF yl,cdF qp,cdF qk,cdF qQ] [] [] [] [25,31,13]
def znL:(zL×Unit)→Option (Bool×Unit):=sF Tryz.prog [(25,⟨xY,xZ,uM⟩),(30,⟨YJ,YK,zlz⟩),(31,⟨ZC,ZD,zfp⟩),(13,⟨gx,gy,zew⟩)] zvX (zN []) 30 19 Jc Jd
theorem zsx:Con.Ok Tryz.prog 19 ⟨Jc,Jd,znL⟩:=zv (zf za2 (zf zqN (zf zkV (zf zjH zh)))) zm (by kernel_rfl)
abbrev Qi:List VT:=[]
abbrev Yd:List VT:=[⟨false,.bool⟩]
def zcm:zZ:=zQ [cdF qq,cdF qv,cdF qz,cdF jH,cdF xd,cdF zz,cdF zR,cdF jv,cdF yl,cdF qp,cdF qk,cdF qQ] [] [⟨1,235,some 14,xd,true⟩,⟨5,235,some 14,xd,true⟩,⟨9,235,some 14,xd,true⟩,⟨16,235,some 14,xd,true⟩,⟨20,235,some 14,xd,true⟩,⟨28,235,some 14,xd,true⟩,⟨30,235,some 14,xd,true⟩] [] [6,16,19,20]
def Ye (vR:(Unit)→Option (Bool×Unit)) (zdX:ziB) (Gt:zgC) (YO:ze4) (Xj:zbZ) (Gu:(zL×(List yL)×Unit)→Option (zL×(List Int)×Unit)) (JF:(zL×Unit)→Option (zL×Unit)) (wX:(zL×yL×Unit)→Option (zL×Int×Unit)) (zcE:(zL×Unit)→Option (Bool×Unit)) (zf2:(zL×Int×Unit)→Option (Bool×Unit)):Option (Bool×Unit):=
 opt (vR ()) fun x0=>
 bif !x0.1 then some (false,())
 else opt (zdX ()) fun x1=>
  opt (Gt (x1.1,())) fun x2=>
  opt (Gt (((0,([],[])),((0,(0,(0,0))),([],0))),())) fun x3=>
  opt (bif !(zj x2.2.1 0) then some (1,((false,()),()))
   else bif zj x3.2.1 0 then some (1,((false,()),()))
    else opt (YO (x2.1,())) fun x4=>
     bif !x4.1 then some (1,((false,()),()))
     else some (0,((false,()),()))) fun x5=>
  bif Nat.beq x5.1 0 then opt (Xj ()) fun x6=>
   opt (Gu (x2.1,(((1,(0,(0,x6.1)))::((3,(0,(0,(0,(0,(0,(0,(0,(0,((0,0),(0,[])))))))))))::((5,(0,(0,(0,(0,(0,(0,(0,(0,((0,0),(0,[])))))))))))::[]))),()))) fun x7=>
   opt (bif (!(zj ((x7.2.1.length:Nat):Int) 3)) then some (1,((false,()),()))
    else opt (atI x7.2.1 2) fun x8=>
     bif !(zj x8 0) then some (1,((false,()),()))
     else bif (!(zj ((x7.1.2.2.2.2.2.length:Nat):Int) 5)) then some (1,((false,()),()))
      else some (0,((x5.2.1.1,()),()))) fun x9=>
   bif Nat.beq x9.1 0 then opt (atI x7.1.2.2.2.2.2 4) fun x10=>
    opt (JF (x7.1,())) fun x11=>
    opt (wX (x11.1,((2,(1,(0,(0,(0,(0,(0,(0,(0,((0,0),(0,[]))))))))))),()))) fun x12=>
    opt (JF (x12.1,())) fun x13=>
    opt (wX ((x13.1.1,(x13.1.2.1,(x13.1.2.2.1,(x13.1.2.2.2.1,(x13.1.2.2.2.2.1,(x10::[])))))),((3,(0,(0,(0,(0,(0,(0,(0,(0,((0,0),(0,[]))))))))))),()))) fun x14=>
    opt (bif !(zj x12.2.1 0) then some (1,((false,()),()))
     else bif !(zj x14.2.1 0) then some (1,((false,()),()))
      else bif (!(zj ((x14.1.2.2.2.2.2.length:Nat):Int) 0)) then some (1,((false,()),()))
       else opt (YO (x14.1,())) fun x15=>
        bif !x15.1 then some (1,((false,()),()))
        else opt (zcE (x14.1,())) fun x16=>
         bif !x16.1 then some (1,((false,()),()))
         else opt (zf2 (x14.1,(5,()))) fun x17=>
          bif !x17.1 then some (1,((false,()),()))
          else some (0,((x9.2.1.1,()),()))) fun x18=>
    bif Nat.beq x18.1 0 then opt (qb (fun s19:((Int×Unit)×((List (Int×(Int×(Int×(Int×(Int×(Int×(Int×(Int×(Int×((Int×Int)×(Int×(List (List Int))))))))))))))×Unit))=>
      bif zr s19.1.1 25 then opt (Xj ()) fun x20=>
       bif (yS s19.2.1.length (((1,(0,(0,((wrF .i64 (s19.1.1+1)),x20.1.2))))::[]).length) 120) then some (.inr (((wrF .i64 (s19.1.1+1)),()),((s19.2.1++((1,(0,(0,((wrF .i64 (s19.1.1+1)),x20.1.2))))::[])),())))
       else none
      else some (.inl (0,((s19.1.1,()),(s19.2.1,()))))) qw ((0,()),([],()))) fun x21=>
     bif yS x21.2.2.1.length 3 120 then opt (Gu (x2.1,((x21.2.2.1++((1,(0,(0,(4096,(0,(0,(0,(0,(0,((0,0),(0,[])))))))))))::((0,(0,(0,(0,(0,(0,(0,(0,(0,((0,0),(0,[])))))))))))::((7,(0,(0,(0,(0,(0,(0,(0,(0,((0,0),(0,[])))))))))))::[])))),()))) fun x22=>
      bif (zj ((x22.2.1.length:Nat):Int) 28) then opt (atI x22.2.1 23) fun x23=>
       bif zj x23 0 then opt (atI x22.2.1 24) fun x24=>
        bif zj x24 7 then opt (atI x22.2.1 25) fun x25=>
         bif zj x25 2 then opt (atI x22.2.1 26) fun x26=>
          bif zj x26 2 then opt (atI x22.2.1 27) fun x27=>
           bif zj x27 2 then opt (qb (fun s28:(((((Int×((List Bool)×(List (Int×(Int×(Int×Int))))))×((Int×(Int×(Int×Int)))×((List ((List (Int×Int))×Int))×Int)))×((List (Int×(Int×(Int×(Int×(Int×(Int×((Int×Int)×(Int×(List (List Int)))))))))))×((List (Int×(Int×(Int×((Int×(Int×(Int×(Int×(Int×(Int×((Int×Int)×(Int×(List (List Int))))))))))×Int)))))×((List (Int×(Int×(Int×(Int×(List Int))))))×((List (Int×(Int×(Int×Bool))))×(List (Int×(Int×(Int×(Int×(Bool×((Int×(Int×(Int×(Int×(Int×(Int×((Int×Int)×(Int×(List (List Int))))))))))×Int))))))))))))×(Bool×Unit))×Unit)=>
             bif (zr ((s28.1.1.2.2.2.2.2.length:Nat):Int) 1024) then opt (wX (s28.1.1,((5,(0,(0,(0,(0,(0,(0,(0,(0,((0,0),(0,[]))))))))))),()))) fun x29=>
              opt (bif !(zj x29.2.1 0) then some (1,((false,()),()))
               else bif (!(zj ((x29.1.2.2.2.2.2.length:Nat):Int) (wrF .i64 (((s28.1.1.2.2.2.2.2.length:Nat):Int)+1)))) then some (1,((false,()),()))
                else some (0,((s28.1.2.1,()),()))) fun x30=>
              bif Nat.beq x30.1 0 then some (.inr ((x29.1,(x30.2.1.1,())),()))
              else some (.inl (1,((s28.1.1,(x30.2.1.1,())),())))
             else some (.inl (0,((s28.1.1,(s28.1.2.1,())),())))) qw ((x22.1,(x18.2.1.1,())),())) fun x31=>
            bif Nat.beq x31.1 0 then opt (wX (x31.2.1.1,((6,(0,(0,(0,(0,(0,(0,(0,(0,((0,0),(0,[]))))))))))),()))) fun x32=>
             opt (vR ()) fun x33=>
             bif x33.1 then bif (zj ((x22.1.2.2.1.length:Nat):Int) 24) then bif zj x32.2.1 0 then bif (zj ((x32.1.2.2.2.2.2.length:Nat):Int) 1024) then opt (JF (x32.1,())) fun x34=>
                 opt (YO (x34.1,())) fun x35=>
                 some (x35.1,())
                else some (false,())
               else some (false,())
              else some (false,())
             else some (false,())
            else some (x31.2.1.2.1,())
           else opt (qb (fun s36:(((((Int×((List Bool)×(List (Int×(Int×(Int×Int))))))×((Int×(Int×(Int×Int)))×((List ((List (Int×Int))×Int))×Int)))×((List (Int×(Int×(Int×(Int×(Int×(Int×((Int×Int)×(Int×(List (List Int)))))))))))×((List (Int×(Int×(Int×((Int×(Int×(Int×(Int×(Int×(Int×((Int×Int)×(Int×(List (List Int))))))))))×Int)))))×((List (Int×(Int×(Int×(Int×(List Int))))))×((List (Int×(Int×(Int×Bool))))×(List (Int×(Int×(Int×(Int×(Bool×((Int×(Int×(Int×(Int×(Int×(Int×((Int×Int)×(Int×(List (List Int))))))))))×Int))))))))))))×(Bool×Unit))×Unit)=>
             bif (zr ((s36.1.1.2.2.2.2.2.length:Nat):Int) 1024) then opt (wX (s36.1.1,((5,(0,(0,(0,(0,(0,(0,(0,(0,((0,0),(0,[]))))))))))),()))) fun x37=>
              opt (bif !(zj x37.2.1 0) then some (1,((false,()),()))
               else bif (!(zj ((x37.1.2.2.2.2.2.length:Nat):Int) (wrF .i64 (((s36.1.1.2.2.2.2.2.length:Nat):Int)+1)))) then some (1,((false,()),()))
                else some (0,((s36.1.2.1,()),()))) fun x38=>
              bif Nat.beq x38.1 0 then some (.inr ((x37.1,(x38.2.1.1,())),()))
              else some (.inl (1,((s36.1.1,(x38.2.1.1,())),())))
             else some (.inl (0,((s36.1.1,(s36.1.2.1,())),())))) qw ((x22.1,(x18.2.1.1,())),())) fun x39=>
            bif Nat.beq x39.1 0 then opt (wX (x39.2.1.1,((6,(0,(0,(0,(0,(0,(0,(0,(0,((0,0),(0,[]))))))))))),()))) fun x40=>
             opt (vR ()) fun x41=>
             bif x41.1 then some (false,())
             else some (false,())
            else some (x39.2.1.2.1,())
          else opt (qb (fun s42:(((((Int×((List Bool)×(List (Int×(Int×(Int×Int))))))×((Int×(Int×(Int×Int)))×((List ((List (Int×Int))×Int))×Int)))×((List (Int×(Int×(Int×(Int×(Int×(Int×((Int×Int)×(Int×(List (List Int)))))))))))×((List (Int×(Int×(Int×((Int×(Int×(Int×(Int×(Int×(Int×((Int×Int)×(Int×(List (List Int))))))))))×Int)))))×((List (Int×(Int×(Int×(Int×(List Int))))))×((List (Int×(Int×(Int×Bool))))×(List (Int×(Int×(Int×(Int×(Bool×((Int×(Int×(Int×(Int×(Int×(Int×((Int×Int)×(Int×(List (List Int))))))))))×Int))))))))))))×(Bool×Unit))×Unit)=>
            bif (zr ((s42.1.1.2.2.2.2.2.length:Nat):Int) 1024) then opt (wX (s42.1.1,((5,(0,(0,(0,(0,(0,(0,(0,(0,((0,0),(0,[]))))))))))),()))) fun x43=>
             opt (bif !(zj x43.2.1 0) then some (1,((false,()),()))
              else bif (!(zj ((x43.1.2.2.2.2.2.length:Nat):Int) (wrF .i64 (((s42.1.1.2.2.2.2.2.length:Nat):Int)+1)))) then some (1,((false,()),()))
               else some (0,((s42.1.2.1,()),()))) fun x44=>
             bif Nat.beq x44.1 0 then some (.inr ((x43.1,(x44.2.1.1,())),()))
             else some (.inl (1,((s42.1.1,(x44.2.1.1,())),())))
            else some (.inl (0,((s42.1.1,(s42.1.2.1,())),())))) qw ((x22.1,(x18.2.1.1,())),())) fun x45=>
           bif Nat.beq x45.1 0 then opt (wX (x45.2.1.1,((6,(0,(0,(0,(0,(0,(0,(0,(0,((0,0),(0,[]))))))))))),()))) fun x46=>
            opt (vR ()) fun x47=>
            bif x47.1 then some (false,())
            else some (false,())
           else some (x45.2.1.2.1,())
         else opt (qb (fun s48:(((((Int×((List Bool)×(List (Int×(Int×(Int×Int))))))×((Int×(Int×(Int×Int)))×((List ((List (Int×Int))×Int))×Int)))×((List (Int×(Int×(Int×(Int×(Int×(Int×((Int×Int)×(Int×(List (List Int)))))))))))×((List (Int×(Int×(Int×((Int×(Int×(Int×(Int×(Int×(Int×((Int×Int)×(Int×(List (List Int))))))))))×Int)))))×((List (Int×(Int×(Int×(Int×(List Int))))))×((List (Int×(Int×(Int×Bool))))×(List (Int×(Int×(Int×(Int×(Bool×((Int×(Int×(Int×(Int×(Int×(Int×((Int×Int)×(Int×(List (List Int))))))))))×Int))))))))))))×(Bool×Unit))×Unit)=>
           bif (zr ((s48.1.1.2.2.2.2.2.length:Nat):Int) 1024) then opt (wX (s48.1.1,((5,(0,(0,(0,(0,(0,(0,(0,(0,((0,0),(0,[]))))))))))),()))) fun x49=>
            opt (bif !(zj x49.2.1 0) then some (1,((false,()),()))
             else bif (!(zj ((x49.1.2.2.2.2.2.length:Nat):Int) (wrF .i64 (((s48.1.1.2.2.2.2.2.length:Nat):Int)+1)))) then some (1,((false,()),()))
              else some (0,((s48.1.2.1,()),()))) fun x50=>
            bif Nat.beq x50.1 0 then some (.inr ((x49.1,(x50.2.1.1,())),()))
            else some (.inl (1,((s48.1.1,(x50.2.1.1,())),())))
           else some (.inl (0,((s48.1.1,(s48.1.2.1,())),())))) qw ((x22.1,(x18.2.1.1,())),())) fun x51=>
          bif Nat.beq x51.1 0 then opt (wX (x51.2.1.1,((6,(0,(0,(0,(0,(0,(0,(0,(0,((0,0),(0,[]))))))))))),()))) fun x52=>
           opt (vR ()) fun x53=>
           bif x53.1 then some (false,())
           else some (false,())
          else some (x51.2.1.2.1,())
        else opt (qb (fun s54:(((((Int×((List Bool)×(List (Int×(Int×(Int×Int))))))×((Int×(Int×(Int×Int)))×((List ((List (Int×Int))×Int))×Int)))×((List (Int×(Int×(Int×(Int×(Int×(Int×((Int×Int)×(Int×(List (List Int)))))))))))×((List (Int×(Int×(Int×((Int×(Int×(Int×(Int×(Int×(Int×((Int×Int)×(Int×(List (List Int))))))))))×Int)))))×((List (Int×(Int×(Int×(Int×(List Int))))))×((List (Int×(Int×(Int×Bool))))×(List (Int×(Int×(Int×(Int×(Bool×((Int×(Int×(Int×(Int×(Int×(Int×((Int×Int)×(Int×(List (List Int))))))))))×Int))))))))))))×(Bool×Unit))×Unit)=>
          bif (zr ((s54.1.1.2.2.2.2.2.length:Nat):Int) 1024) then opt (wX (s54.1.1,((5,(0,(0,(0,(0,(0,(0,(0,(0,((0,0),(0,[]))))))))))),()))) fun x55=>
           opt (bif !(zj x55.2.1 0) then some (1,((false,()),()))
            else bif (!(zj ((x55.1.2.2.2.2.2.length:Nat):Int) (wrF .i64 (((s54.1.1.2.2.2.2.2.length:Nat):Int)+1)))) then some (1,((false,()),()))
             else some (0,((s54.1.2.1,()),()))) fun x56=>
           bif Nat.beq x56.1 0 then some (.inr ((x55.1,(x56.2.1.1,())),()))
           else some (.inl (1,((s54.1.1,(x56.2.1.1,())),())))
          else some (.inl (0,((s54.1.1,(s54.1.2.1,())),())))) qw ((x22.1,(x18.2.1.1,())),())) fun x57=>
         bif Nat.beq x57.1 0 then opt (wX (x57.2.1.1,((6,(0,(0,(0,(0,(0,(0,(0,(0,((0,0),(0,[]))))))))))),()))) fun x58=>
          opt (vR ()) fun x59=>
          bif x59.1 then some (false,())
          else some (false,())
         else some (x57.2.1.2.1,())
       else opt (qb (fun s60:(((((Int×((List Bool)×(List (Int×(Int×(Int×Int))))))×((Int×(Int×(Int×Int)))×((List ((List (Int×Int))×Int))×Int)))×((List (Int×(Int×(Int×(Int×(Int×(Int×((Int×Int)×(Int×(List (List Int)))))))))))×((List (Int×(Int×(Int×((Int×(Int×(Int×(Int×(Int×(Int×((Int×Int)×(Int×(List (List Int))))))))))×Int)))))×((List (Int×(Int×(Int×(Int×(List Int))))))×((List (Int×(Int×(Int×Bool))))×(List (Int×(Int×(Int×(Int×(Bool×((Int×(Int×(Int×(Int×(Int×(Int×((Int×Int)×(Int×(List (List Int))))))))))×Int))))))))))))×(Bool×Unit))×Unit)=>
         bif (zr ((s60.1.1.2.2.2.2.2.length:Nat):Int) 1024) then opt (wX (s60.1.1,((5,(0,(0,(0,(0,(0,(0,(0,(0,((0,0),(0,[]))))))))))),()))) fun x61=>
          opt (bif !(zj x61.2.1 0) then some (1,((false,()),()))
           else bif (!(zj ((x61.1.2.2.2.2.2.length:Nat):Int) (wrF .i64 (((s60.1.1.2.2.2.2.2.length:Nat):Int)+1)))) then some (1,((false,()),()))
            else some (0,((s60.1.2.1,()),()))) fun x62=>
          bif Nat.beq x62.1 0 then some (.inr ((x61.1,(x62.2.1.1,())),()))
          else some (.inl (1,((s60.1.1,(x62.2.1.1,())),())))
         else some (.inl (0,((s60.1.1,(s60.1.2.1,())),())))) qw ((x22.1,(x18.2.1.1,())),())) fun x63=>
        bif Nat.beq x63.1 0 then opt (wX (x63.2.1.1,((6,(0,(0,(0,(0,(0,(0,(0,(0,((0,0),(0,[]))))))))))),()))) fun x64=>
         opt (vR ()) fun x65=>
         bif x65.1 then some (false,())
         else some (false,())
        else some (x63.2.1.2.1,())
      else opt (qb (fun s66:(((((Int×((List Bool)×(List (Int×(Int×(Int×Int))))))×((Int×(Int×(Int×Int)))×((List ((List (Int×Int))×Int))×Int)))×((List (Int×(Int×(Int×(Int×(Int×(Int×((Int×Int)×(Int×(List (List Int)))))))))))×((List (Int×(Int×(Int×((Int×(Int×(Int×(Int×(Int×(Int×((Int×Int)×(Int×(List (List Int))))))))))×Int)))))×((List (Int×(Int×(Int×(Int×(List Int))))))×((List (Int×(Int×(Int×Bool))))×(List (Int×(Int×(Int×(Int×(Bool×((Int×(Int×(Int×(Int×(Int×(Int×((Int×Int)×(Int×(List (List Int))))))))))×Int))))))))))))×(Bool×Unit))×Unit)=>
        bif (zr ((s66.1.1.2.2.2.2.2.length:Nat):Int) 1024) then opt (wX (s66.1.1,((5,(0,(0,(0,(0,(0,(0,(0,(0,((0,0),(0,[]))))))))))),()))) fun x67=>
         opt (bif !(zj x67.2.1 0) then some (1,((false,()),()))
          else bif (!(zj ((x67.1.2.2.2.2.2.length:Nat):Int) (wrF .i64 (((s66.1.1.2.2.2.2.2.length:Nat):Int)+1)))) then some (1,((false,()),()))
           else some (0,((s66.1.2.1,()),()))) fun x68=>
         bif Nat.beq x68.1 0 then some (.inr ((x67.1,(x68.2.1.1,())),()))
         else some (.inl (1,((s66.1.1,(x68.2.1.1,())),())))
        else some (.inl (0,((s66.1.1,(s66.1.2.1,())),())))) qw ((x22.1,(x18.2.1.1,())),())) fun x69=>
       bif Nat.beq x69.1 0 then opt (wX (x69.2.1.1,((6,(0,(0,(0,(0,(0,(0,(0,(0,((0,0),(0,[]))))))))))),()))) fun x70=>
        opt (vR ()) fun x71=>
        bif x71.1 then some (false,())
        else some (false,())
       else some (x69.2.1.2.1,())
     else none
    else some (x18.2.1.1,())
   else some (x9.2.1.1,())
  else some (x5.2.1.1,())
theorem zl4 (vR:(Unit)→Option (Bool×Unit)) (zdX:(Unit)→Option (jA×Unit)) (Gt:(jA×Unit)→Option (zL×Int×Unit)) (YO:(zL×Unit)→Option (Bool×Unit)) (Xj:(Unit)→Option (zD×Unit)) (Gu:(zL×(List yL)×Unit)→Option (zL×(List Int)×Unit)) (JF:(zL×Unit)→Option (zL×Unit)) (wX:(zL×yL×Unit)→Option (zL×Int×Unit)) (zcE:(zL×Unit)→Option (Bool×Unit)) (zf2:(zL×Int×Unit)→Option (Bool×Unit)):sF Tryz.prog [(6,⟨KP,KQ,vR⟩),(15,⟨Xo,Xp,zdX⟩),(14,⟨WD,WE,Gt⟩),(16,⟨JP,JQ,YO⟩),(17,⟨gS,gT,Xj⟩),(18,⟨Za,Zb,Gu⟩),(8,⟨yT,vA,JF⟩),(12,⟨vz,uN,wX⟩),(19,⟨Jc,Jd,zcE⟩),(20,⟨JW,JX,zf2⟩)] zcm (zN []) 30 5 Qi Yd ()=Ye vR zdX Gt YO Xj Gu JF wX zcE zf2:=by kernel_rfl
end Go.Proofs.YtleloebnggepoaaGreat.sg
namespace Go.Fz.Sy
theorem Jv {α:Type} {l:List α} {z:Int} {Q:α→Prop} (h0:0≤z) (h1:z < l.length) (hq:∀x,l[z.toNat]?=some x→Q x):qB (atI l z) Q:=by
 obtain ⟨x,e,e2⟩:=zHf h0 h1
 exact ⟨x,e,hq x e2⟩
theorem Jw {α:Type} {l:List α} {i:Nat} {Q:α→Prop} (h1:i < l.length) (hq:∀x,l[i]?=some x→Q x):qB (gl l i) Q:=by
 have hx:l[i]?=some l[i]:=List.getElem?_eq_getElem h1
 exact ⟨l[i],by rw [ke,hx],hq _ hx⟩
def Nxt {X S:Type} (J:X→Prop) (I:S→Prop) (r:X ⊕ S):Prop:=(∀x,r=.inl x→J x)∧∀s',r=.inr s'→I s'
theorem zE {X S:Type} {J:X→Prop} {I:S→Prop} {x:X} (h:J x):Nxt J I (.inl x:X ⊕ S):=⟨fun y e=>by cases e;exact h,fun s' e=>by cases e⟩
theorem ji {X S:Type} {J:X→Prop} {I:S→Prop} {s:S} (h:I s):Nxt J I (.inr s:X ⊕ S):=⟨fun y e=>by (cases e),fun s' e=>by cases e;exact h⟩
theorem qG {X S:Type} {B:S→Option (X ⊕ S)} {s:S} {J:X→Prop} (n:Nat) (I:Nat→S→Prop) (hn:n < 1180591620717411303424) (h0:I 0 s)
  (h:∀i s,i < n→I i s→qB (B s) (Nxt J (I (i+1)))) (he:∀s,I n s→qB (B s) (Nxt J fun _=>False)):qB (qb B qw s) J:=by
 have key:∀(k i N:Nat) (s:S),i+k=n→k < N→I i s→qB (qb B N s) J:=by
  intro k
  induction k with
  |zero=>
   intro i N s hi hN hI
   obtain ⟨N,rfl⟩:∃M,N=M+1:=⟨N - 1,by omega⟩
   have hi':i=n:=by omega
   obtain ⟨r,e,h1,h2⟩:=he s (hi'▸hI)
   rw [Kp,e]
   cases r with
   |inl x=>exact ⟨x,rfl,h1 x rfl⟩
   |inr s'=>exact (h2 s' rfl).elim
  |succ k ih=>
   intro i N s hi hN hI
   obtain ⟨N,rfl⟩:∃M,N=M+1:=⟨N - 1,by omega⟩
   obtain ⟨r,e,h1,h2⟩:=h i s (by omega) hI
   rw [Kp,e]
   cases r with
   |inl x=>exact ⟨x,rfl,h1 x rfl⟩
   |inr s'=>exact ih (i+1) N s' (by omega) (by omega) (h2 s' rfl)
 exact key n 0 qw s (by omega) (Nat.lt_of_lt_of_le hn zzE) h0
noncomputable def tv (p:Prop):Bool:=@decide p (Classical.propDecidable p)
theorem zx9 {p:Prop}:tv p=true↔p:=@decide_eq_true_iff p (Classical.propDecidable p)
theorem zO {p:Prop} (h:p):tv p=true:=zx9.2 h
theorem qo {p:Prop} (h:¬p):tv p=false:=by
 cases e:tv p with
 |false=>rfl
 |true=>exact absurd (zx9.1 e) h
theorem zHi {p:Prop} [inst:Decidable p]:tv p=decide p:=by
 by_cases h:p
 ·rw [zO h,decide_eq_true h]
 ·rw [qo h,decide_eq_false h]
theorem Wp {o:Option (Bool×Unit)} {p:Prop} (h:qB o fun r=>(r.1=true↔p)):o=some (tv p,()):=by
 obtain ⟨⟨b,⟨⟩⟩,e,h⟩:=h
 rw [e]
 by_cases hp:p
 ·rw [zO hp,show b=true from h.2 hp]
 ·rw [qo hp]
  cases b with
  |false=>rfl
  |true=>exact absurd (h.1 rfl) hp
theorem kV {α:Type} {o:Option (α×Unit)} {v:α} (h:qB o fun r=>r.1=v):o=some (v,()):=by
 obtain ⟨⟨b,⟨⟩⟩,e,rfl⟩:=h
 exact e
theorem qF {α:Type} {o:Option α} {a:α} {Q:α→Prop} (e:o=some a) (h:Q a):qB o Q:=⟨a,e,h⟩
theorem zya {n:Nat} (h:n≤1000000000000000000):n < 1180591620717411303424:=by omega
theorem qX {i:Nat} (h:i≤1000000000000000000):wrF .i64 ((i:Int)+1)=((i+1:Nat):Int):=by rw [qR]<;>omega
theorem qD {a b:Int} (h:a < b):zr a b=true:=by rw [km];exact decide_eq_true h
theorem qm {a b:Int} (h:¬a < b):zr a b=false:=by rw [km];exact decide_eq_false h
theorem yJ {a b:Int} (h:a=b):zj a b=true:=by rw [wo,h];simp
theorem jx {a b:Int} (h:a≠b):zj a b=false:=by rw [wo];simp [h]
theorem yn {a b:Int} (h:zr a b=true):a < b:=by rw [km] at h;exact of_decide_eq_true h
theorem wA {a b:Int} (h:zr a b=false):b≤a:=by rw [km] at h;have:=of_decide_eq_false h;omega
theorem jJ {a b:Int} (h:zj a b=true):a=b:=by rw [wo] at h;exact eq_of_beq h
theorem wH {a b:Int} (h:zj a b=false):a≠b:=by rw [wo] at h;intro e;subst e;simp at h
theorem zjI (a b:Int):Yl a b=max a b:=by
 unfold Yl
 rw [km]
 by_cases h:a < b
 ·rw [decide_eq_true h,cond_true];omega
 ·rw [decide_eq_false h,cond_false];omega
theorem zzI (a b:Int):UM a b=min a b:=by
 unfold UM
 rw [km]
 by_cases h:b < a
 ·rw [decide_eq_true h,cond_true];omega
 ·rw [decide_eq_false h,cond_false];omega
theorem zi {α:Type} {b:Bool} {x y:Option α} {Q:α→Prop} (hb:b=true) (h:qB x Q):qB (bif b then x else y) Q:=by subst hb;exact h
theorem zg {α:Type} {b:Bool} {x y:Option α} {Q:α→Prop} (hb:b=false) (h:qB y Q):qB (bif b then x else y) Q:=by subst hb;exact h
theorem uG {X V:Type} {B:((V×(Int×Unit))×Unit)→Option (X ⊕ ((V×(Int×Unit))×Unit))} {v:V} {J:X→Prop} (n:Nat) (P:Nat→Prop) (hn:n≤1000000000000000000)
  (h:∀i,i < n→(∀k,k < i→P k)→qB (B ((v,((i:Int),())),())) (Nxt J fun s=>s=((v,(((i+1:Nat):Int),())),())∧P i))
  (he:(∀k,k < n→P k)→qB (B ((v,((n:Int),())),())) (Nxt J fun _=>False)):qB (qb B qw ((v,(0,())),())) J:=by
 refine qG n (fun i s=>s=((v,((i:Int),())),())∧∀k,k < i→P k) (zya hn) ⟨rfl,fun k hk=>by omega⟩ ?_ ?_
 ·rintro i _ hi ⟨rfl,hp⟩
  obtain ⟨r,e,h1,h2⟩:=h i hi hp
  refine ⟨r,e,h1,fun s' hs=>?_⟩
  obtain ⟨h3,h4⟩:=h2 s' hs
  refine ⟨h3,fun k hk=>?_⟩
  rcases Nat.lt_or_ge k i with hk' | hk'
  ·exact hp k hk'
  ·have:k=i:=by omega
   exact this▸h4
 ·rintro _ ⟨rfl,hp⟩
  exact he hp
theorem Zc {X V:Type} {v:V} {i:Nat} {J:X→Prop} {p:Prop} (hi:i≤1000000000000000000) (hp:p):Nxt J (fun s=>s=((v,(((i+1:Nat):Int),())),())∧p) (.inr ((v,(wrF .i64 ((i:Int)+1),())),())):=ji ⟨by rw [qX hi],hp⟩
theorem zdV {p:Prop} (h:tv p=true):p:=zx9.1 h
theorem zar {p:Prop} (h:tv p=false):¬p:=fun hp=>by rw [zO hp] at h;cases h
theorem Uc {p:Prop} (h:(!tv p)=true):¬p:=zar (by simpa using h)
theorem zas {p:Prop} (h:(!tv p)=false):p:=zdV (by simpa using h)
theorem zjJ {α:Type} (l:List α) (lo hi mx:Option Int) (h p:Nat) (h1:hiI l.length hi=some h) (h2:loI h lo=some p) (h3:mxI h mx=true):ux l lo hi mx=some ((l.take h).drop p):=by
 unfold ux
 simp only [h1,h2,h3,cond_true]
theorem zoG {n q:Nat} (h:q≤n):hiI n (some (q:Int))=some q:=by
 show (bif Nat.ble q n then some q else none)=_
 rw [Nat.ble_eq_true_of_le h];rfl
theorem zzJ {n q:Nat} (h:q≤n):loI n (some (q:Int))=some q:=by
 show (bif Nat.ble q n then some q else none)=_
 rw [Nat.ble_eq_true_of_le h];rfl
theorem zt7 (n:Nat):mxI n (some (n:Int))=true:=by
 show Nat.beq n n=true
 exact Nat.beq_refl n
theorem zyb {α:Type} (l:List α):ux l none (some ((l.length:Nat):Int)) (some ((l.length:Nat):Int))=some l:=by
 rw [zjJ l _ _ _ l.length 0 (zoG (Nat.le_refl _)) rfl (zt7 _)];simp
theorem zex {α:Type} (l:List α) (n:Nat) (h:n≤l.length):ux l (some (n:Int)) none none=some (l.drop n):=by
 rw [zjJ l _ _ _ l.length n rfl (zzJ h) rfl];simp
theorem zF9 {α:Type} (l:List α) (n:Nat) (h:n≤l.length):ux l none (some (n:Int)) none=some (l.take n):=by
 rw [zjJ l _ _ _ n 0 (zoG h) rfl rfl];simp
theorem zkW {α:Type} (l:List α) (n:Nat) (h:n≤l.length):ux l none (some (n:Int)) (some (n:Int))=some (l.take n):=by
 rw [zjJ l _ _ _ n 0 (zoG h) rfl (zt7 _)];simp
theorem zEG {α:Type} (l:List α) (m n:Nat) (h:n≤l.length) (h2:m≤n):ux l (some (m:Int)) (some (n:Int)) (some (n:Int))=some ((l.take n).drop m):=by
 rw [zjJ l _ _ _ n m (zoG h) (zzJ h2) (zt7 _)]
theorem zt8 {a b:Int} {k:Nat} (h0:0≤a) (h1:a≤b) (h2:(k:Int)*b≤281474976710656):zp4 a b k=true:=by
 unfold zp4;rw [qm (by omega),qm (by omega),qm (by omega)];rfl
theorem kW {n m k:Nat} (h:(n+m)*k≤140737488355328) (h2:n+m≤9223372036854775807):yS n m k=true:=by
 unfold yS maxLen
 rw [Nat.ble_eq_true_of_le (by omega),Nat.ble_eq_true_of_le h];rfl
end Go.Fz.Sy
namespace Go.Proofs.YtleloebnggepoaaGreat.sg
open Go Go.Fz Go.Fz.Sy
abbrev VF:=Int×Int×Int×Int
abbrev qZ:=Int×List Bool×List VF
def kh (t:qZ) (n:Int):Prop:=0≤n∧n < t.1
def stn (t:qZ) (n:Int):Bool:=(t.2.1[n.toNat]?).getD false
def zqO (t:qZ) (l:VF):Prop:=kh t l.1∧kh t l.2.1∧l.1≠l.2.1∧¬(stn t l.1=true∧stn t l.2.1=true)∧1≤l.2.2.1∧l.2.2.1≤1000∧0≤l.2.2.2∧l.2.2.2≤10000
def zcn (o:VF) (a b:Int):Prop:=(o.1=a∧o.2.1=b)∨(o.1=b∧o.2.1=a)
structure szP (t:qZ):Prop where
 n0:2≤t.1
 n1:t.1≤12
 st:(t.2.1.length:Int)=t.1
 ls:t.2.2.length≤24
def zkX (t:qZ):Prop:=∀(i:Nat) l,t.2.2[i]?=some l→zqO t l∧∀(k:Nat) o,k < i→t.2.2[k]?=some o→¬zcn o l.1 l.2.1
def one (a:Int) (n:Nat):Int:=if a=(n:Int) then 1 else 0
def cnt (ls:List VF) (n:Nat):Int:=(ls.map fun l=>one l.1 n+one l.2.1 n).sum
def stp (r:List Bool) (l:VF):List Bool:=bif (r[l.1.toNat]?).getD false||(r[l.2.1.toNat]?).getD false then (r.set l.1.toNat true).set l.2.1.toNat true else r
def ziP (ls:List VF):Nat→List Bool→List Bool
 |0,r=>r
 |n+1,r=>ziP ls n (ls.foldl stp r)
def reachS (t:qZ) (a:Nat):List Bool:=ziP t.2.2 t.1.toNat ((List.replicate t.1.toNat false).set a true)
structure vT (t:qZ):Prop where
 sz:szP t
 ls:zkX t
 re:∀(n:Nat),(n:Int) < t.1→(reachS t 0)[n]?=some true
 ct:∀(n:Nat),(n:Int) < t.1→stn t n=true→1≤cnt t.2.2 n∧cnt t.2.2 n≤2
theorem zHj {t:qZ} {n:Nat} {b:Bool} (h:t.2.1[n]?=some b):stn t n=b:=by unfold stn;simp [h]
theorem zt9 {t:qZ} {n:Int} {b:Bool} (h:t.2.1[n.toNat]?=some b):stn t n=b:=by unfold stn;simp [h]
theorem zlA (t:qZ) (n:Int):Ub (t,n,())=some (tv (kh t n),()):=by
 rw [ztL];unfold ziC kh
 refine Wp ?_
 refine zt (fun h=>?_) (fun h=>?_)<;>refine zd ?_<;>simp only [km] at *<;>grind
theorem kh.lt {t:qZ} {n:Int} (h:kh t n) (hs:szP t):n.toNat < t.2.1.length:=by
 have:=hs.st;have:=h.1;have:=h.2;omega
theorem zGa (r:List Bool) (l:VF):(stp r l).length=r.length:=by
 unfold stp
 cases (r[l.1.toNat]?).getD false||(r[l.2.1.toNat]?).getD false<;>simp
theorem zyc (ls:List VF):∀r:List Bool,(ls.foldl stp r).length=r.length:=by
 induction ls with
 |nil=>intro r;rfl
 |cons l ls ih=>intro r;rw [List.foldl_cons,ih,zGa]
theorem zqP (ls:List VF):∀(n:Nat) (r:List Bool),(ziP ls n r).length=r.length
 |0,r=>rfl
 |n+1,r=>by rw [ziP,zqP ls n,zyc]
theorem zvf (ls:List VF):∀(n:Nat) (r:List Bool),ziP ls (n+1) r=ls.foldl stp (ziP ls n r)
 |0,r=>rfl
 |n+1,r=>by rw [ziP,zvf ls n,ziP]
def WS (t:qZ) (i:Nat):List Int:=(List.range t.1.toNat).map (cnt (t.2.2.take i))
theorem zCE (a:Int) (n:Nat):0≤one a n∧one a n≤1:=by unfold one;split<;>omega
theorem zCF (ls:List VF) (n:Nat):0≤cnt ls n∧cnt ls n≤2*ls.length:=by
 unfold cnt
 induction ls with
 |nil=>simp
 |cons l ls ih=>
  have:=zCE l.1 n;have:=zCE l.2.1 n
  simp only [List.map_cons,List.sum_cons,List.length_cons]
  omega
theorem zEH {ls:List VF} {i:Nat} {l:VF} (h:ls[i]?=some l) (n:Nat):cnt (ls.take (i+1)) n=cnt (ls.take i) n+(one l.1 n+one l.2.1 n):=by
 unfold cnt
 rw [List.take_add_one,h];simp
theorem za3 (t:qZ) (i:Nat):(WS t i).length=t.1.toNat:=by simp [WS]
theorem zdy {t:qZ} {i n:Nat} (h:n < t.1.toNat):(WS t i)[n]?=some (cnt (t.2.2.take i) n):=by simp [WS,h]
theorem zCG {t:qZ} {i:Nat} {l:VF} (h:t.2.2[i]?=some l) (hl:t.2.2.length≤24) (ha:kh t l.1) (hb:kh t l.2.1) (hab:l.1≠l.2.1) {u v:Int}
  (hu:(WS t i)[l.1.toNat]?=some u) (hv:((WS t i).set l.1.toNat (wrF .i64 (u+1)))[l.2.1.toNat]?=some v) :
  ((WS t i).set l.1.toNat (wrF .i64 (u+1))).set l.2.1.toNat (wrF .i64 (v+1))=WS t (i+1):=by
 obtain ⟨a0,a1⟩:=ha;obtain ⟨b0,b1⟩:=hb
 have hne:l.1.toNat≠l.2.1.toNat:=by omega
 rw [zdy (by omega)] at hu
 rw [List.getElem?_set_ne hne,zdy (by omega)] at hv
 have hu:=Option.some.inj hu;have hv:=Option.some.inj hv
 have k1:=zCF (t.2.2.take i) l.1.toNat;have k2:=zCF (t.2.2.take i) l.2.1.toNat
 have k3:(t.2.2.take i).length≤24:=by simp;omega
 rw [qR (by omega) (by omega),qR (by omega) (by omega)]
 apply List.ext_getElem?
 intro n
 by_cases hn:n < t.1.toNat
 ·rw [zdy hn,zEH h,List.getElem?_set,List.getElem?_set,zdy hn]
  unfold one
  simp only [List.length_set,za3]
  grind
 ·rw [List.getElem?_eq_none (by simp [za3];omega),List.getElem?_eq_none (by simp [za3];omega)]
theorem zHk (t:qZ):List.replicate t.1.toNat (0:Int)=WS t 0:=by
 apply List.ext_getElem?
 intro n
 by_cases hn:n < t.1.toNat
 ·rw [zdy hn];simp [hn,cnt]
 ·rw [List.getElem?_eq_none (by simp;omega),List.getElem?_eq_none (by simp [za3];omega)]
theorem zEI (t:qZ) {n:Nat} (h:n < t.1.toNat):(WS t t.2.2.length)[n]?=some (cnt t.2.2 n):=by rw [zdy h,List.take_length]
theorem zqO.nodes {t:qZ} {l:VF} (h:zqO t l):kh t l.1∧kh t l.2.1:=⟨h.1,h.2.1⟩
theorem zy9 {t:qZ} (h:¬szP t):¬vT t:=fun h'=>h h'.sz
theorem zza {t:qZ} (h:¬zkX t):¬vT t:=fun h'=>h h'.ls
def chk (t:qZ) (i:Nat) (l:VF) (c:Nat):Prop:=match c with
 |0=>kh t l.1∧kh t l.2.1∧l.1≠l.2.1
 |1=>¬(stn t l.1=true∧stn t l.2.1=true)
 |2=>∀(k:Nat) o,k < i→t.2.2[k]?=some o→¬zcn o l.1 l.2.1
 |_=>1≤l.2.2.1∧l.2.2.1≤1000∧0≤l.2.2.2∧l.2.2.2≤10000
theorem zua {t:qZ} (hs:szP t):XZ (t,())=some (tv (zkX t),()):=by
 have n0:=hs.n0;have n1:=hs.n1;have h3:=hs.ls;have h4:=hs.st
 rw [zrS];unfold zgy
 refine Wp (zq (J:=fun x=>(x.1=0∧zkX t)∨(x.1=1∧x.2.1.1=false∧¬zkX t))
  (uG t.2.2.length (fun i=>∀l,t.2.2[i]?=some l→zqO t l∧∀(k:Nat) o,k < i→t.2.2[k]?=some o→¬zcn o l.1 l.2.1) (by omega) ?_ ?_) ?_)
 ·intro i hi hp
  have hx:t.2.2[i]?=some t.2.2[i]:=List.getElem?_eq_getElem hi
  generalize hgl:t.2.2[i]=l at hx
  refine zi (qD (show (i:Int) < (t.2.2.length:Int) by omega)) ?_
  refine zq (J:=fun x=>(x.1=0∧x.2.1.1=false∧∀c,c < 4→chk t i l c)∨(x.1=1∧x.2.1.1=false∧∃c,¬chk t i l c)) (uG 4 (chk t i l) (by omega) ?_ ?_) ?_
  ·intro c hc hpc
   refine zi (qD (show (c:Int) < 4 by omega)) ?_
   have:c=0∨c=1∨c=2∨c=3:=by omega
   rcases this with rfl | rfl | rfl | rfl
   ·refine zi (yJ rfl) (zn (qh (n:=i) hx ?_))
    rw [zlA]
    refine zt (fun h1=>?_) (fun h1=>?_)
    ·rw [zlA]
     refine zt (fun h2=>?_) (fun h2=>?_)
     ·refine zt (fun h=>?_) (fun h=>?_)
      ·have:=jJ (show zj l.1 l.2.1=true by simpa using h)
       exact zd (zE (.inr ⟨rfl,rfl,0,fun hq=>hq.2.2 this⟩))
      ·have:=wH (show zj l.1 l.2.1=false by simpa using h)
       exact zd (Zc (by omega) ⟨zdV h1,zdV h2,this⟩)
     ·exact zd (zE (.inr ⟨rfl,rfl,0,fun hq=>zar h2 hq.2.1⟩))
    ·exact zd (zE (.inr ⟨rfl,rfl,0,fun hq=>zar h1 hq.1⟩))
   ·obtain ⟨⟨a0,a1⟩,⟨b0,b1⟩,hab⟩:=hpc 0 (by omega)
    refine zg rfl (zi (yJ rfl) (zn (qh (n:=i) hx ?_)))
    refine zn (Jv a0 (by show l.1 < _;omega) fun x hx1=>?_)
    have e1:=zt9 hx1
    refine zt (fun h1=>?_) (fun h1=>?_)
    ·exact zd (Zc (by omega) (by show ¬_;grind))
    ·refine zn (Jv b0 (by show l.2.1 < _;omega) fun y hy1=>?_)
     have e2:=zt9 hy1
     refine zt (fun h2=>?_) (fun h2=>?_)
     ·exact zd (zE (.inr ⟨rfl,rfl,1,fun hq=>hq (by grind)⟩))
     ·exact zd (Zc (by omega) (by show ¬_;grind))
   ·refine zg rfl (zg rfl (zi (yJ rfl) (zn (qh (n:=i) hx ?_))))
    refine zn (qF (zF9 t.2.2 i (by omega)) ?_)
    have lt:(t.2.2.take i).length=i:=by simp;omega
    refine zq (J:=fun x=>(x.1=0∧∀(k:Nat) o,k < i→t.2.2[k]?=some o→¬zcn o l.1 l.2.1)∨(x.1=1∧x.2.1.1=false∧∃(k:Nat) (o:VF),k < i∧t.2.2[k]?=some o∧zcn o l.1 l.2.1))
     (uG i (fun k=>∀o,t.2.2[k]?=some o→¬zcn o l.1 l.2.1) (by omega) ?_ ?_) ?_
    ·intro k hk hpk
     have hy:t.2.2[k]?=some t.2.2[k]:=List.getElem?_eq_getElem (by omega)
     have hy':(t.2.2.take i)[k]?=some t.2.2[k]:=by rw [List.getElem?_take];simp [hk,hy]
     generalize hgo:t.2.2[k]=o at hy hy'
     refine zi (qD (show (k:Int) < (((t.2.2.take i).length:Nat):Int) by omega)) (zn (qh (n:=k) hy' ?_))
     refine zq (J:=fun x=>(x.1=0∧x.2.1.1=false∧¬zcn o l.1 l.2.1)∨(x.1=1∧x.2.1.1=false∧zcn o l.1 l.2.1)) ?_ ?_
     ·unfold zcn
      repeat' first | refine zt (fun h=>?_) (fun h=>?_) | refine zd ?_
      all_goals simp only [wo] at *
      all_goals grind
     ·rintro ⟨j,⟨v,⟨⟩⟩,⟨⟩⟩ (⟨rfl,rfl,hq⟩ | ⟨rfl,rfl,hq⟩)
      ·exact zi rfl (zd (Zc (by omega) fun o' ho=>by rw [hy] at ho;cases ho;exact hq))
      ·exact zg rfl (zd (zE (.inr ⟨rfl,rfl,k,o,hk,hy,hq⟩)))
    ·intro hpk
     exact zg (qm (show ¬(i:Int) < (((t.2.2.take i).length:Nat):Int) by omega)) (zd (zE (.inl ⟨rfl,fun k' o hk'=>hpk k' hk' o⟩)))
    ·rintro ⟨j,⟨v,w,⟨⟩⟩,⟨⟩⟩ (⟨rfl,hq⟩ | ⟨rfl,rfl,k,o,hk,ho,hj⟩)
     ·exact zi rfl (zd (Zc (by omega) hq))
     ·exact zg rfl (zi rfl (zd (zE (.inr ⟨rfl,rfl,2,fun hq=>hq k o hk ho hj⟩))))
   ·refine zg rfl (zg rfl (zg rfl (zi (yJ rfl) (zn (qh (n:=i) hx ?_)))))
    refine zt (fun h1=>?_) (fun h1=>?_)
    ·refine zt (fun h2=>?_) (fun h2=>?_)
     ·refine zt (fun h3=>?_) (fun h3=>?_)
      ·refine zt (fun h4=>?_) (fun h4=>?_)
       ·have:=yn (show zr 10000 l.2.2.2=true by simpa using h4)
        exact zd (zE (.inr ⟨rfl,rfl,3,fun hq=>by have:=hq.2.2.2;omega⟩))
       ·have:=wA (show zr l.2.2.1 1=false by simpa using h1)
        have:=wA (show zr 1000 l.2.2.1=false by simpa using h2)
        have:=wA (show zr l.2.2.2 0=false by simpa using h3)
        have:=wA (show zr 10000 l.2.2.2=false by simpa using h4)
        exact zd (Zc (by omega) ⟨by omega,by omega,by omega,by omega⟩)
      ·have:=yn (show zr l.2.2.2 0=true by simpa using h3)
       exact zd (zE (.inr ⟨rfl,rfl,3,fun hq=>by have:=hq.2.2.1;omega⟩))
     ·have:=yn (show zr 1000 l.2.2.1=true by simpa using h2)
      exact zd (zE (.inr ⟨rfl,rfl,3,fun hq=>by have:=hq.2.1;omega⟩))
    ·have:=yn (show zr l.2.2.1 1=true by simpa using h1)
     exact zd (zE (.inr ⟨rfl,rfl,3,fun hq=>by have:=hq.1;omega⟩))
  ·intro hpc
   exact zg (qm (show ¬((4:Nat):Int) < 4 by omega)) (zd (zE (.inl ⟨rfl,rfl,hpc⟩)))
  ·rintro ⟨j,⟨v,w,⟨⟩⟩,⟨⟩⟩ (⟨rfl,rfl,hq⟩ | ⟨rfl,rfl,c,hq⟩)
   ·obtain ⟨c0,c0',c0''⟩:=hq 0 (by omega)
    have c1:=hq 1 (by omega);have c2:=hq 2 (by omega)
    obtain ⟨d1,d2,d3,d4⟩:=hq 3 (by omega)
    exact zi rfl (zd (Zc (by omega) fun l' hl'=>by rw [hx] at hl';cases hl';exact ⟨⟨c0,c0',c0'',c1,d1,d2,d3,d4⟩,c2⟩))
   ·refine zg rfl (zd (zE (.inr ⟨rfl,rfl,fun ht=>hq ?_⟩)))
    obtain ⟨⟨c0,c0',c0'',c1,d1,d2,d3,d4⟩,c2⟩:=ht i l hx
    unfold chk
    split
    ·exact ⟨c0,c0',c0''⟩
    ·exact c1
    ·exact c2
    ·exact ⟨d1,d2,d3,d4⟩
 ·intro hp
  exact zg (qm (show ¬(t.2.2.length:Int) < (t.2.2.length:Int) by omega)) (zd (zE (.inl ⟨rfl,fun i l hl=>hp i (by grind) l hl⟩)))
 ·rintro ⟨j,⟨v,w,⟨⟩⟩,⟨⟩⟩ (⟨rfl,hq⟩ | ⟨rfl,rfl,hq⟩)
  ·exact zi rfl (zd ⟨fun _=>hq,fun _=>rfl⟩)
  ·exact zg rfl (zd ⟨fun h=>(by cases h),fun h=>absurd h hq⟩)
abbrev zIe:Bool×Bool×Bool×Bool×Bool×Bool×Bool×Bool×Bool×Bool×Bool×Bool×Bool×Bool×Bool×Bool×Bool×Bool×Bool×Bool×Bool×Bool×Bool×Bool:=(false,(false,(false,(false,(false,(false,(false,(false,(false,(false,(false,(false,(false,(false,(false,(false,(false,(false,(false,(false,(false,(false,(false,false)))))))))))))))))))))))
noncomputable def zFp (q:List Bool) (x4:VF):Option (Nat×(Unit×(List Bool×Unit))):=opt (atI q x4.1) fun x5=>
 opt (gl q (Int.toNat x4.1)) fun x6=>
 opt (atI q x4.2.1) fun x7=>
 opt (gl q (Int.toNat x4.2.1)) fun x8=>
 bif (!(x6 == x8)) then opt (atI q x4.1) fun x9=>
  opt (gl q (Int.toNat x4.1)) fun x10=>
  opt (atI (q.set (Int.toNat x4.1) true) x4.2.1) fun x11=>
  opt (gl (q.set (Int.toNat x4.1) true) (Int.toNat x4.2.1)) fun x12=>
  some (0,((),(((q.set (Int.toNat x4.1) true).set (Int.toNat x4.2.1) true),())))
 else some (0,((),(q,())))
theorem zGb {q:List Bool} {l:VF} {n:Nat} (hq:q.length=n) (a0:0≤l.1) (a1:l.1 < n) (b0:0≤l.2.1) (b1:l.2.1 < n):qB (zFp q l) fun x=>x.2.2.1=stp q l:=by
 unfold zFp
 refine zn (Jv a0 (by omega) fun _ _=>zn (Jw (by omega) fun x hx=>zn (Jv b0 (by omega) fun _ _=>zn (Jw (by omega) fun y hy=>?_))))
 refine zt (fun h=>?_) (fun h=>?_)
 ·refine zn (Jv a0 (by omega) fun _ _=>zn (Jw (by omega) fun _ _=>?_))
  refine zn (Jv b0 (by simp;omega) fun _ _=>zn (Jw (by simp;omega) fun _ _=>?_))
  refine zd ?_
  show _=stp q l
  unfold stp
  rw [hx,hy]
  cases x<;>cases y<;>simp at h ⊢
 ·refine zd ?_
  show q=stp q l
  unfold stp
  rw [hx,hy]
  cases x<;>cases y<;>simp at h ⊢
  apply List.ext_getElem?
  intro k
  simp only [List.getElem?_set]
  grind
theorem zub {t:qZ} (hs:szP t) (hl:∀(i:Nat) l,t.2.2[i]?=some l→kh t l.1∧kh t l.2.1):WC (t,0,zIe,())=some (reachS t 0,()):=by
 have h0:=hs.n0;have h1:=hs.n1;have h3:=hs.ls;have h4:=hs.st
 have e1:t.1.toNat=t.2.1.length:=by omega
 rw [zrU];unfold zgz
 refine kV ?_
 refine zi (zt8 (by omega) (by omega) (by omega)) ?_
 refine zn (Jv (by omega) (by simp;omega) fun _ _=>zn (Jw (by simp;omega) fun _ _=>?_))
 refine zq (J:=fun x=>x.2.2.1=reachS t 0) (qG t.1.toNat (fun i s=>s=(((i:Int),()),(ziP t.2.2 i ((List.replicate t.1.toNat false).set 0 true),()))) (by omega) rfl ?_ ?_) ?_
 ·rintro i _ hi rfl
  refine zi (qD (show (i:Int) < _ by omega)) ?_
  generalize hr:ziP t.2.2 i ((List.replicate t.1.toNat false).set 0 true)=r
  have hrl:r.length=t.1.toNat:=by rw [←hr,zqP];simp
  refine zq (J:=fun x=>x.2.2.1=t.2.2.foldl stp r) (qG t.2.2.length (fun i s=>s=(((i:Int),()),((t.2.2.take i).foldl stp r,()))) (by omega) rfl ?_ ?_) ?_
  ·rintro k _ hk rfl
   refine zi (qD (show (k:Int) < _ by omega)) ?_
   have hx:t.2.2[k]?=some t.2.2[k]:=List.getElem?_eq_getElem hk
   obtain ⟨⟨a0,a1⟩,⟨b0,b1⟩⟩:=hl k _ hx
   have hnx:(t.2.2.take (k+1)).foldl stp r=stp ((t.2.2.take k).foldl stp r) t.2.2[k]:=by
    rw [List.take_add_one,hx,List.foldl_append];rfl
   have hlen:((t.2.2.take k).foldl stp r).length=t.1.toNat:=by rw [zyc,hrl]
   generalize (t.2.2.take k).foldl stp r=q at hnx hlen
   generalize t.2.2[k]=l at hx hnx a0 a1 b0 b1
   refine zn (qh (n:=k) hx ?_)
   have key:=zGb hlen a0 (show l.1 < (t.1.toNat:Nat) by omega) b0 (show l.2.1 < (t.1.toNat:Nat) by omega)
   refine zq (J:=fun x=>x.2.2.1=stp q l) ?_ ?_
   ·rcases (by omega:k=0∨k=1∨k=2∨k=3∨k=4∨k=5∨k=6∨k=7∨k=8∨k=9∨k=10∨k=11∨k=12∨k=13∨k=14∨k=15∨k=16∨k=17∨k=18∨k=19∨k=20∨k=21∨k=22∨k=23) with rfl | rfl | rfl | rfl | rfl | rfl | rfl | rfl | rfl | rfl | rfl | rfl | rfl | rfl | rfl | rfl | rfl | rfl | rfl | rfl | rfl | rfl | rfl | rfl
    all_goals exact key
   ·rintro ⟨j,⟨⟩,q',⟨⟩⟩ hq
    refine zd (ji ?_)
    simp only at hq
    rw [hnx,←hq]
    exact congrArg (fun z=>(((z,()),(q',())):(Int×Unit)×(List Bool×Unit))) (qX (by omega))
  ·rintro _ rfl
   refine zg (qm (show ¬(t.2.2.length:Int) < _ by omega)) (zd (zE ?_))
   simp
  ·rintro ⟨j,⟨z,⟨⟩⟩,q',⟨⟩⟩ hq
   refine zd (ji ?_)
   simp only at hq
   rw [zvf,hr,←hq]
   exact congrArg (fun z=>(((z,()),(q',())):(Int×Unit)×(List Bool×Unit))) (qX (by omega))
 ·rintro _ rfl
  exact zg (qm (show ¬((t.1.toNat:Nat):Int) < _ by omega)) (zd (zE rfl))
 ·rintro ⟨j,⟨z,⟨⟩⟩,q',⟨⟩⟩ hq
  exact zd hq
theorem zdz {l:List Bool} (hn:l.length≤1000000000000000000) (b:Bool):qB (xw (l,b,())) fun r=>(0≤r.1∧b∈l)∨(r.1 = -1∧¬b∈l):=by
 rw [zcG];unfold JM
 refine zq (J:=fun x=>(x.1=0∧¬b∈l)∨(x.1=1∧0≤x.2.1.1∧b∈l)) (uG l.length (fun i=>l[i]?≠some b) hn ?_ ?_) ?_
 ·intro i hi hp
  have hx:l[i]?=some l[i]:=List.getElem?_eq_getElem hi
  refine zi (qD (show (i:Int) < (l.length:Int) by omega)) (zn (qh (n:=i) hx (zt (fun h=>?_) (fun h=>?_))))
  ·have:b=l[i]:=eq_of_beq h
   exact zd (zE (.inr ⟨rfl,by show (0:Int)≤(i:Int);omega,by rw [this];exact List.getElem_mem hi⟩))
  ·exact zd (Zc (by omega) (by rw [hx];intro e;cases e;simp at h))
 ·intro hp
  refine zg (qm (show ¬(l.length:Int) < (l.length:Int) by omega)) (zd (zE (.inl ⟨rfl,fun hm=>?_⟩)))
  obtain ⟨k,hk⟩:=List.getElem?_of_mem hm
  exact hp k (by grind) hk
 ·rintro ⟨j,⟨v,w,⟨⟩⟩,⟨⟩⟩ (⟨rfl,hp⟩ | ⟨rfl,h0,hp⟩)
  ·exact zi rfl (zd (.inr ⟨rfl,hp⟩))
  ·exact zg rfl (zd (.inl ⟨h0,hp⟩))
theorem zbD {l:List Bool} (hn:l.length≤1000000000000000000) (b:Bool):yF (l,b,())=some (tv (b∈l),()):=by
 rw [zaT];unfold ZY
 refine Wp (zq (zdz hn b) ?_)
 rintro ⟨v,⟨⟩⟩ (⟨h,hm⟩ | ⟨rfl,hm⟩)
 ·refine zd ⟨fun _=>hm,fun _=>?_⟩
  show (!zr v 0)=true
  rw [qm (by simp only at h;omega)];rfl
 ·exact zd ⟨fun h=>(by cases h),fun h=>absurd h hm⟩
theorem Wq (t:qZ):jB (t,())=some (bif tv (vT t) then 0 else 260,()):=by
 have good:∀{v:Int},vT t→v=0→v=bif tv (vT t) then 0 else 260:=fun h e=>by rw [zO h,e];rfl
 have bad:∀{v:Int},¬vT t→v=260→v=bif tv (vT t) then 0 else 260:=fun h e=>by rw [qo h,e];rfl
 rw [zrV];unfold zgA
 refine kV (zq (J:=fun x=>(x.1=0∧x.2.1.1=0∧2≤t.1∧t.1≤12∧(t.2.1.length:Int)=t.1)∨(x.1=1∧x.2.1.1=260∧¬szP t)) ?_ ?_)
 ·refine zt (fun h=>zd (.inr ⟨rfl,rfl,fun hs=>?_⟩)) (fun h1=>zt (fun h=>zd (.inr ⟨rfl,rfl,fun hs=>?_⟩)) (fun h2=>zt (fun h=>zd (.inr ⟨rfl,rfl,fun hs=>?_⟩)) (fun h3=>zd (.inl ⟨rfl,rfl,?_⟩))))
  ·have:=yn h;have:=hs.n0;omega
  ·have:=yn h;have:=hs.n1;omega
  ·have:=hs.st;rw [yJ this] at h;cases h
  ·have h1:=wA h1;have h2:=wA h2
   exact ⟨h1,h2,jJ (by simpa using h3)⟩
 rintro ⟨j,⟨v,⟨⟩⟩,⟨⟩⟩ (⟨rfl,rfl,h1,h2,h3⟩ | ⟨rfl,rfl,hs⟩)
 rotate_left
 ·exact zg rfl (zd (bad (zy9 hs) rfl))
 refine zi rfl (zq (J:=fun x=>(x.1=0∧x.2.1.1=0∧szP t∧zkX t)∨(x.1=1∧x.2.1.1=260∧¬vT t)) ?_ ?_)
 ·refine zt (fun h=>zd (.inr ⟨rfl,rfl,fun hs=>?_⟩)) (fun h4=>?_)
  ·have:=yn h;have:=hs.sz.ls;omega
  have h4:=wA h4
  have hs:szP t:=⟨h1,h2,h3,by omega⟩
  rw [zua hs]
  refine zt (fun h=>?_) (fun h=>?_)
  ·exact zd (.inr ⟨rfl,rfl,zza (Uc h)⟩)
  ·exact zd (.inl ⟨rfl,rfl,hs,zas h⟩)
 rintro ⟨j,⟨v,⟨⟩⟩,⟨⟩⟩ (⟨rfl,rfl,hs,hls⟩ | ⟨rfl,rfl,ht⟩)
 rotate_left
 ·exact zg rfl (zd (bad ht rfl))
 have h5:=hs.ls
 refine zi rfl (zi (zt8 (by omega) (by omega) (by omega)) ?_)
 refine zq (J:=fun x=>x.2.2.1=WS t t.2.2.length) (qG t.2.2.length (fun i s=>s=(((i:Int),()),(WS t i,()))) (by omega) (by rw [zHk];rfl) ?_ ?_) ?_
 ·rintro i _ hi rfl
  have hx:t.2.2[i]?=some t.2.2[i]:=List.getElem?_eq_getElem hi
  refine zi (qD (show (i:Int) < (t.2.2.length:Int) by omega)) (zn (qh (n:=i) hx ?_))
  generalize t.2.2[i]=l at hx
  have hl:=(hls i l hx).1
  obtain ⟨⟨a0,a1⟩,⟨b0,b1⟩⟩:=hl.nodes
  have lc:=za3 t i
  refine zn (Jv a0 (by show _ < (((WS t i).length:Nat):Int);omega) fun _ _=>zn (Jw (by show _ < (WS t i).length;omega) fun u hu=>zn (Jv a0 (by show _ < (((WS t i).length:Nat):Int);omega) fun _ _=>zn (Jw (by show _ < (WS t i).length;omega) fun _ _=>?_))))
  refine zn (Jv b0 (by show _ < ((((WS t i).set _ _).length:Nat):Int);simp;omega) fun _ _=>zn (Jw (by show _ < ((WS t i).set _ _).length;simp;omega) fun w hw=>zn (Jv b0 (by show _ < ((((WS t i).set _ _).length:Nat):Int);simp;omega) fun _ _=>zn (Jw (by show _ < ((WS t i).set _ _).length;simp;omega) fun _ _=>?_))))
  refine zd (ji ?_)
  have e:=zCG hx hs.ls hl.1 hl.2.1 hl.2.2.1 hu hw
  show (((wrF .i64 ((i:Int)+1)),()),((((WS t i).set l.1.toNat (wrF .i64 (u+1))).set l.2.1.toNat (wrF .i64 (w+1))),()))=_
  rw [e,qX (by omega)]
 ·rintro _ rfl
  exact zg (qm (show ¬(t.2.2.length:Int) < (t.2.2.length:Int) by omega)) (zd (zE rfl))
 rintro ⟨j,⟨z,⟨⟩⟩,c,⟨⟩⟩ hc
 simp only at hc
 subst hc
 refine zq (J:=fun x=>(x.1=0∧∀(n:Nat),(n:Int) < t.1→stn t n=true→1≤cnt t.2.2 n∧cnt t.2.2 n≤2)∨(x.1=1∧x.2.1.1=260∧¬vT t)) (uG t.2.1.length (fun n=>stn t n=true→1≤cnt t.2.2 n∧cnt t.2.2 n≤2) (by omega) ?_ ?_) ?_
 ·intro n hn hp
  have hst:t.2.1[n]?=some t.2.1[n]:=List.getElem?_eq_getElem (by omega)
  have e1:=zHj hst
  have hn':n < t.1.toNat:=by omega
  have e2:=zEI t hn'
  refine zi (qD (show (n:Int) < (t.2.1.length:Int) by omega)) (zn (qh (n:=n) hst ?_))
  refine zq (J:=fun x=>(x.1=0∧x.2.1.1=0∧(stn t n=true→1≤cnt t.2.2 n∧cnt t.2.2 n≤2))∨(x.1=1∧x.2.1.1=260∧¬vT t)) (zt (fun h5=>?_) (fun h5=>?_)) ?_
  ·refine zn (qh (n:=n) e2 (zn (Jw (by show n < _;rw [za3];exact hn') fun u hu=>?_)))
   have hu:u=cnt t.2.2 n:=by have hu:(WS t t.2.2.length)[n]?=some u:=hu;rw [e2] at hu;exact (Option.some.inj hu).symm
   subst hu
   refine zt (fun h6=>?_) (fun h6=>?_)
   ·have:=yn h6
    exact zd (.inr ⟨rfl,rfl,fun ht=>by have:=ht.ct n (by omega) (by grind);omega⟩)
   refine zn (qh (n:=n) e2 (zn (Jw (by show n < _;rw [za3];exact hn') fun u hu=>?_)))
   have hu:u=cnt t.2.2 n:=by have hu:(WS t t.2.2.length)[n]?=some u:=hu;rw [e2] at hu;exact (Option.some.inj hu).symm
   subst hu
   refine zt (fun h7=>?_) (fun h7=>?_)
   ·have:=yn h7
    exact zd (.inr ⟨rfl,rfl,fun ht=>by have:=ht.ct n (by omega) (by grind);omega⟩)
   ·have:=wA h6;have:=wA h7
    exact zd (.inl ⟨rfl,rfl,fun _=>⟨by omega,by omega⟩⟩)
  ·exact zd (.inl ⟨rfl,rfl,fun hc=>by grind⟩)
  ·rintro ⟨j,⟨v,⟨⟩⟩,⟨⟩⟩ (⟨rfl,rfl,hq⟩ | ⟨rfl,rfl,hq⟩)
   ·exact zi rfl (zd (Zc (by omega) hq))
   ·exact zg rfl (zd (zE (.inr ⟨rfl,rfl,hq⟩)))
 ·intro hp
  exact zg (qm (show ¬(t.2.1.length:Int) < (t.2.1.length:Int) by omega)) (zd (zE (.inl ⟨rfl,fun n hn=>hp n (by omega)⟩)))
 rintro ⟨j,⟨v,w,⟨⟩⟩,⟨⟩⟩ (⟨rfl,hct⟩ | ⟨rfl,rfl,hq⟩)
 rotate_left
 ·exact zg rfl (zd (bad hq rfl))
 have hrl:(reachS t 0).length=t.1.toNat:=by unfold reachS;rw [zqP];simp
 refine zi rfl ?_
 rw [show WC (t,0,_,())=some (reachS t 0,()) from zub hs (fun i l hl=>(hls i l hl).1.nodes),zK]
 rw [zbD (by show (reachS t 0).length≤_;omega),zK]
 refine zt (fun h=>?_) (fun h=>?_)
 ·refine zd (bad (fun ht=>?_) rfl)
  obtain ⟨k,hk⟩:=List.getElem?_of_mem (zdV h)
  have:=ht.re k (by grind)
  rw [this] at hk;cases hk
 ·refine zd (good ⟨hs,hls,fun n hn=>?_,hct⟩ rfl)
  have hr:(reachS t 0)[n]?=some (reachS t 0)[n]:=List.getElem?_eq_getElem (by omega)
  rw [hr]
  cases e:(reachS t 0)[n] with
  |true=>rfl
  |false=>exact absurd (by rw [←e];exact List.getElem_mem _) (zar h)
def QM (t:qZ) (p:Int):Prop:=0≤p∧p < 2*(t.2.2.length:Int)
def lnk (t:qZ) (p:Int):VF:=(t.2.2[p.toNat / 2]?).getD (0,0,0,0)
def frm (t:qZ) (p:Int):Int:=if p % 2=1 then (lnk t p).2.1 else (lnk t p).1
def too (t:qZ) (p:Int):Int:=if p % 2=1 then (lnk t p).1 else (lnk t p).2.1
theorem zBe {p:Int} (h:0≤p) (h2:p≤1000000000000000000):wrF .i64 (Int.tdiv p 2)=((p.toNat / 2:Nat):Int):=by
 rw [Int.tdiv_eq_ediv_of_nonneg h,qR (by omega) (by omega)];omega
theorem par {p:Int} (h:0≤p):Int.tmod p 2=p % 2:=Int.tmod_eq_emod_of_nonneg h
theorem zdA {t:qZ} {p:Int} (h:QM t p):t.2.2[p.toNat / 2]?=some (lnk t p):=by
 have:=h.1;have:=h.2
 have hx:t.2.2[p.toNat / 2]?=some (t.2.2[p.toNat / 2]'(by omega)):=List.getElem?_eq_getElem (by omega)
 unfold lnk;rw [hx];rfl
theorem tw (t:qZ) (h:t.2.2.length≤1000000000000000):wrF .i64 (2*(t.2.2.length:Int))=2*(t.2.2.length:Int):=qR (by omega) (by omega)
theorem zyd {t:qZ} (hl:zkX t) {p:Int} (h:QM t p):kh t (frm t p)∧kh t (too t p)∧frm t p≠too t p:=by
 have:=(hl _ _ (zdA h)).1
 have h1:=this.1;have h2:=this.2.1;have h3:=this.2.2.1
 unfold frm too
 split
 ·exact ⟨h2,h1,fun e=>h3 e.symm⟩
 ·exact ⟨h1,h2,h3⟩
theorem zkY {t:qZ} (h:t.2.2.length≤1000000000000000) {p:Int} (hp:QM t p):zr p 0=false∧(!zr p (wrF .i64 (2*(t.2.2.length:Int))))=false:=by
 have:=hp.1;have:=hp.2
 rw [tw t h,qm (by omega),qD (by omega)];simp
theorem zye {t:qZ} (ht:vT t) {p:Int} (hp:QM t p):gX (t,p,())=some ((lnk t p).2.2.1,0,()):=by
 have hl:t.2.2.length≤1000000000000000:=by have:=ht.sz.ls;omega
 have:=hp.1;have:=hp.2
 obtain ⟨e1,e2⟩:=zkY hl hp
 rw [zvC];unfold zkL
 simp only [Wq,zK,zO ht,cond_true,yJ,Bool.not_true,cond_false,e1,e2,zBe hp.1 (show p≤1000000000000000000 by omega),Ql (zdA hp),zoY,zdu]
 rfl
theorem zuc {t:qZ} (ht:vT t) {p:Int} (hp:QM t p):WK (t,p,())=some ((lnk t p).2.2.2,0,()):=by
 have hl:t.2.2.length≤1000000000000000:=by have:=ht.sz.ls;omega
 have:=hp.1;have:=hp.2
 obtain ⟨e1,e2⟩:=zkY hl hp
 rw [zsn];unfold zgX
 simp only [Wq,zK,zO ht,cond_true,yJ,Bool.not_true,cond_false,e1,e2,zBe hp.1 (show p≤1000000000000000000 by omega),Ql (zdA hp),zl1,za1]
 rfl
def qi (t:qZ) (r:List Int):List Int:=match r with
 |[]=>[]
 |p::_=>frm t p::r.map (too t)
theorem zbq (t:qZ) {r:List Int} (h:r≠[]):(qi t r).length=r.length+1:=by
 cases r with
 |nil=>exact absurd rfl h
 |cons p r=>simp [qi]
theorem zzK (t:qZ) {r:List Int} {p:Int} (h:r[0]?=some p):(qi t r)[0]?=some (frm t p):=by
 cases r with
 |nil=>cases h
 |cons q r=>simp at h;subst h;rfl
theorem zco (t:qZ) {r:List Int} {i:Nat} {p:Int} (h:r[i]?=some p):(qi t r)[i+1]?=some (too t p):=by
 cases r with
 |nil=>cases h
 |cons q r=>simp only [qi,List.getElem?_cons_succ,List.getElem?_map,h,Option.map_some]
theorem KD {t:qZ} (h:t.2.2.length≤1000000000000000) {r:List Int} (h0:r≠[]) (h8:r.length≤8) (hp:∀p∈r,QM t p):xK (t,r,())=some (qi t r,()):=by
 rw [zjo];unfold UX
 rw [show wrF .i64 ((r.length:Int)+1)=(r.length:Int)+1 from qR (by omega) (by omega)]
 refine kV (zi (zt8 (by omega) (by omega) (by omega)) ?_)
 refine zq (J:=fun x=>x.2.2.1.1=qi t r) (qG r.length (fun i s=>s=(((i:Int),()),((((qi t r).take (if i=0 then 0 else i+1)),()),((),((),()))))) (by omega) rfl ?_ ?_) ?_
 ·rintro i _ hi rfl
  have hx:r[i]?=some r[i]:=List.getElem?_eq_getElem hi
  have hpi:=hp _ (List.getElem_mem hi)
  generalize r[i]=p at hx hpi
  have:=hpi.1;have:=hpi.2
  refine zi (qD (show (i:Int) < (r.length:Int) by omega)) (zn (qh (n:=i) hx ?_))
  obtain ⟨e1,e2⟩:=zkY h hpi
  refine zg e1 (zg e2 ?_)
  rw [zBe hpi.1 (by omega),Ql (zdA hpi),zK]
  refine zq (J:=fun x=>x.2.1.1.2.1=frm t p∧x.2.1.1.2.2=too t p) ?_ ?_
  ·rw [par hpi.1]
   unfold frm too
   refine zt (fun h=>?_) (fun h=>?_)
   ·have:=jJ h
    exact zd (by simp [this])
   ·have:=wH h
    exact zd (by simp [this])
  rintro ⟨j,⟨⟨u,v,w⟩,⟨⟩⟩,⟨⟩,⟨⟩,⟨⟩⟩ ⟨rfl,rfl⟩
  have hl:=zbq t h0
  refine zq (J:=fun x=>x.2.2.1.1=(qi t r).take (i+1)) (zt (fun h=>?_) (fun h=>?_)) ?_
  ·have:=jJ h
   have hi0:i=0:=by simp only at this;omega
   subst hi0
   refine zi (kW (by simp) (by simp)) (zd ?_)
   show List.take 0 (qi t r)++[frm t p]=_
   rw [List.take_add_one,zzK t hx];rfl
  ·have:=wH h
   have hi0:i≠0:=by intro e;apply this;simp only [e];rfl
   exact zd (by show (qi t r).take (if i=0 then 0 else i+1)=_;rw [if_neg hi0])
  ·rintro ⟨j,⟨⟩,⟨⟨c,⟨⟩⟩,⟨⟩,⟨⟩⟩⟩ hc
   simp only at hc
   subst hc
   refine zi (kW (by show (((qi t r).take (i+1)).length+1)*8≤_;simp;omega) (by show ((qi t r).take (i+1)).length+1≤_;simp;omega)) (zd (ji ?_))
   have e:(qi t r).take (i+1+1)=(qi t r).take (i+1)++[too t p]:=by
    rw [List.take_add_one,zco t hx];rfl
   have e2:(if i+1=0 then 0 else i+1+1)=i+1+1:=if_neg (by omega)
   rw [e2,e,←qX (by omega)]
 ·rintro _ rfl
  refine zg (qm (show ¬(r.length:Int) < (r.length:Int) by omega)) (zd (zE ?_))
  have:r.length≠0:=fun e=>h0 (List.length_eq_zero_iff.1 e)
  show (qi t r).take (if r.length=0 then 0 else r.length+1)=_
  rw [if_neg this,List.take_of_length_le (by rw [zbq t h0];omega)]
 ·rintro ⟨j,⟨z,⟨⟩⟩,⟨c,⟨⟩⟩,⟨⟩,⟨⟩,⟨⟩⟩ hc
  exact zd hc
def zh9 (t:qZ) (r:List Int) (i:Nat) (p:Int):Prop:=¬too t p∈(qi t r).take (i+1)∧(0 < i→∀n,(qi t r)[i]?=some n→stn t n=false∧frm t p=n)
structure yZ (t:qZ) (r:List Int):Prop where
 n0:1≤r.length
 n1:r.length≤8
 pt:∀p∈r,QM t p
 st:∀(i:Nat) p,r[i]?=some p→zh9 t r i p
theorem yZ.ne {t:qZ} {r:List Int} (h:yZ t r):r≠[]:=by
 intro e;have:=h.n0;rw [e] at this;simp at this
theorem vT.ll {t:qZ} (h:vT t):t.2.2.length≤1000000000000000:=by have:=h.sz.ls;omega
theorem kh.get {t:qZ} (hs:szP t) {n:Int} (h:kh t n):t.2.1[n.toNat]?=some (stn t n):=by
 have hx:t.2.1[n.toNat]?=some (t.2.1[n.toNat]'(h.lt hs)):=List.getElem?_eq_getElem (h.lt hs)
 rw [hx,zt9 hx]
def zcp (t:qZ) (r:List Int) (i:Nat):List Bool:=(List.range 12).map fun n=>decide (((n:Nat):Int)∈(qi t r).take (if i=0 then 0 else i+1))
theorem zEJ (t:qZ) (r:List Int) (i:Nat):(zcp t r i).length=12:=by simp [zcp]
def atS (t:qZ) (r:List Int) (i:Nat):Int:=if i=0 then 0 else ((qi t r)[i]?).getD 0
theorem zvg {f g:Nat→Bool} (h:∀n,n < 12→f n=g n):(List.range 12).map f=(List.range 12).map g:=List.map_congr_left fun n hn=>h n (List.mem_range.1 hn)
theorem zvh {f:Nat→Bool} {k:Nat} (hk:k < 12):((List.range 12).map f).set k true=(List.range 12).map fun n=>(f n||n == k):=by
 apply List.ext_getElem?
 intro n
 rw [List.getElem?_set]
 by_cases h:n < 12
 ·by_cases e:k=n
  ·subst e;simp [h]
  ·have:(n == k)=false:=by simp;omega
   simp [h,e,this]
 ·rw [List.getElem?_eq_none (by simp;omega),List.getElem?_eq_none (by simp;omega)]
  split<;>simp<;>omega
theorem zcq {t:qZ} (ht:vT t) (r:List Int):xL (t,r,())=some (tv (yZ t r),()):=by
 have hll:=ht.ll
 have n1:=ht.sz.n1
 rw [zjp];unfold UY
 refine Wp (zq (J:=fun x=>(x.1=0∧x.2.1.1=false∧1≤r.length∧r.length≤8)∨(x.1=1∧x.2.1.1=false∧¬yZ t r)) ?_ ?_)
 ·refine zt (fun h=>zd (.inr ⟨rfl,rfl,fun hs=>?_⟩)) (fun h1=>zt (fun h=>zd (.inr ⟨rfl,rfl,fun hs=>?_⟩)) (fun h2=>zd (.inl ⟨rfl,rfl,?_⟩)))
  ·have:=yn h;have:=hs.n0;omega
  ·have:=yn h;have:=hs.n1;omega
  ·have h1:=wA h1;have h2:=wA h2;omega
 rintro ⟨j,⟨v,⟨⟩⟩,⟨⟩⟩ (⟨rfl,rfl,h1,h8⟩ | ⟨rfl,rfl,hq⟩)
 rotate_left
 ·exact zg rfl (zd ⟨fun h=>(by cases h),fun h=>absurd h hq⟩)
 have hne:r≠[]:=by intro e;rw [e] at h1;simp at h1
 have hnl:=zbq t hne
 refine zi rfl (zq (J:=fun x=>(x.2.1.2.1=(r.length:Int)∧yZ t r)∨(x.2.1.2.1 < (r.length:Int)∧¬yZ t r))
  (qG r.length (fun i s=>s=((atS t r i,((i:Int),((i:Int),()))),(zcp t r i,((),((),()))))∧∀(k:Nat),k < i→∀p,r[k]?=some p→QM t p∧zh9 t r k p) (by omega) ⟨rfl,fun k hk=>by omega⟩ ?_ ?_) ?_)
 ·rintro i _ hi ⟨rfl,hp⟩
  have hx:r[i]?=some r[i]:=List.getElem?_eq_getElem hi
  have hmem:=List.getElem_mem hi
  generalize r[i]=p at hx hmem
  have bad:∀{x:Nat×((Int×(Int×(Int×Unit)))×(List Bool×(Unit×(Unit×Unit))))},x.2.1.2.1=(i:Int)→¬yZ t r→(x.2.1.2.1=(r.length:Int)∧yZ t r)∨(x.2.1.2.1 < (r.length:Int)∧¬yZ t r):=fun e hq=>.inr ⟨by rw [e];omega,hq⟩
  refine zi (qD (show (i:Int) < (r.length:Int) by omega)) (zn (qh (n:=i) hx ?_))
  refine zt (fun h=>zd (zE (bad rfl fun hr=>?_))) (fun hp0=>zt (fun h=>zd (zE (bad rfl fun hr=>?_))) (fun hp1=>?_))
  ·have:=yn h;have:=(hr.pt p hmem).1;omega
  ·have:=hr.pt p hmem
   rw [(zkY hll this).2] at h;cases h
  have hpi:QM t p:=by
   have:=wA hp0
   rw [tw t hll] at hp1
   have:=yn (show zr p (2*(t.2.2.length:Int))=true by simpa using hp1)
   exact ⟨by omega,by omega⟩
  have:=hpi.1;have:=hpi.2
  obtain ⟨⟨f0,f1⟩,⟨g0,g1⟩,hfg⟩:=zyd ht.ls hpi
  rw [zBe hpi.1 (by omega),Ql (zdA hpi),zK]
  refine zq (J:=fun x=>x.1=0∧x.2.1.1.2.1=frm t p∧x.2.1.1.2.2=too t p) ?_ ?_
  ·rw [par hpi.1]
   unfold frm too
   refine zt (fun h=>?_) (fun h=>?_)
   ·have:=jJ h
    exact zd (by simp [this])
   ·have:=wH h
    exact zd (by simp [this])
  rintro ⟨j,⟨⟨u,v,w⟩,⟨⟩⟩,⟨⟩,⟨⟩,⟨⟩⟩ ⟨rfl,rfl,rfl⟩
  have hsl:=zEJ t r i
  have htk:(qi t r).take (i+1+1)=(qi t r).take (i+1)++[too t p]:=by
   rw [List.take_add_one,zco t hx];rfl
  refine zi rfl (zq (J:=fun x=>(x.1=0∧x.2.2.1=(List.range 12).map (fun n=>decide (((n:Nat):Int)∈(qi t r).take (i+1)))∧(0 < i→∀n,(qi t r)[i]?=some n→stn t n=false∧frm t p=n))∨(x.1=1∧¬yZ t r)) (zt (fun h=>?_) (fun h=>?_)) ?_)
  ·have h0:=jJ (show zj (i:Int) 0=true from h)
   have hi0:i=0:=by omega
   subst hi0
   refine zi (qD (show frm t p < 12 by omega)) (zn (Jv f0 (by show frm t p < (((zcp t r 0).length:Nat):Int);omega) fun _ _=>zn (Jw (by show (frm t p).toNat < (zcp t r 0).length;omega) fun _ _=>?_)))
   refine zd (.inl ⟨rfl,?_,fun h=>by omega⟩)
   show (zcp t r 0).set (frm t p).toNat true=_
   unfold zcp
   rw [zvh (by omega)]
   refine zvg fun n hn=>?_
   rw [List.take_add_one,zzK t hx]
   simp only [if_true,List.take_zero,List.nil_append,Option.toList,List.mem_singleton,List.not_mem_nil,decide_false,Bool.false_or]
   rw [Bool.eq_iff_iff];simp only [beq_iff_eq,decide_eq_true_eq];omega
  ·have h0:=wH (show zj (i:Int) 0=false from h)
   have hi0:i≠0:=fun e=>h0 (by rw [e];rfl)
   have hxn:(qi t r)[i]?=some (qi t r)[i]:=List.getElem?_eq_getElem (by omega)
   have hat:atS t r i=(qi t r)[i]:=by unfold atS;rw [if_neg hi0,hxn];rfl
   have hn:kh t (qi t r)[i]:=by
    obtain ⟨m,rfl⟩:∃m,i=m+1:=⟨i - 1,by omega⟩
    have hy:r[m]?=some r[m]:=List.getElem?_eq_getElem (by omega)
    have e:=zco t hy
    rw [hxn] at e
    rw [Option.some.inj e]
    exact (zyd ht.ls (hp m (by omega) _ hy).1).2.1
   generalize (qi t r)[i]=n at hxn hat hn
   refine zt (fun h2=>?_) (fun h2=>?_)
   ·refine zd (.inr ⟨rfl,fun hr=>?_⟩)
    have:=((hr.st i p hx).2 (by omega) n hxn).2
    have h2':(!zj (frm t p) (atS t r i))=true:=h2
    rw [hat,yJ this] at h2';cases h2'
   ·have h2':(!zj (frm t p) (atS t r i))=false:=h2
    have e1:=jJ (show zj (frm t p) (atS t r i)=true by simpa using h2')
    refine zn (qF (a:=stn t n) (by show atI t.2.1 (atS t r i)=_;rw [hat,show n=((n.toNat:Nat):Int) from (by have:=hn.1;omega),Ql (n:=n.toNat)];exact hn.get ht.sz) ?_)
    refine zt (fun h4=>?_) (fun h4=>?_)
    ·refine zd (.inr ⟨rfl,fun hr=>?_⟩)
     have:=((hr.st i p hx).2 (by omega) n hxn).1
     rw [this] at h4;cases h4
    ·refine zd (.inl ⟨rfl,?_,fun _ m hm=>by rw [hxn] at hm;cases hm;exact ⟨h4,by rw [e1,hat]⟩⟩)
     show zcp t r i=_
     unfold zcp
     rw [if_neg hi0]
  ·rintro ⟨j,⟨⟩,c,⟨⟩,⟨⟩⟩ (⟨rfl,hc,hst⟩ | ⟨rfl,hq⟩)
   rotate_left
   ·exact zg rfl (zd (zE (bad rfl hq)))
   simp only at hc
   have hcl:c.length=12:=by rw [hc];simp
   refine zi rfl (zi (qD (show too t p < 12 by omega)) (zn (Jv g0 (by show too t p < ((c.length:Nat):Int);omega) fun _ _=>zn (Jw (by show (too t p).toNat < c.length;omega) fun x hx2=>?_))))
   have hx2':c[(too t p).toNat]?=some x:=hx2
   have hmt:(((too t p).toNat:Nat):Int)=too t p:=by omega
   have hxe:x=decide (too t p∈(qi t r).take (i+1)):=by
    rw [hc] at hx2'
    simp only [List.getElem?_map,List.getElem?_range (show (too t p).toNat < 12 by omega),Option.map_some,hmt] at hx2'
    exact (Option.some.inj hx2').symm
   refine zt (fun h6=>?_) (fun h6=>?_)
   ·subst h6
    refine zd (zE (bad rfl fun hr=>(hr.st i p hx).1 ?_))
    exact of_decide_eq_true hxe.symm
   ·subst h6
    have hnm:¬too t p∈(qi t r).take (i+1):=of_decide_eq_false hxe.symm
    refine zi (qD (show too t p < 12 by omega)) (zn (Jv g0 (by show too t p < ((c.length:Nat):Int);omega) fun _ _=>zn (Jw (by show (too t p).toNat < c.length;omega) fun _ _=>?_)))
    refine zd (ji ⟨?_,fun k hk q hq=>?_⟩)
    ·have e1:atS t r (i+1)=too t p:=by unfold atS;rw [if_neg (by omega),zco t hx];rfl
     have e2:c.set (too t p).toNat true=zcp t r (i+1):=by
      rw [hc,zvh (by omega)]
      unfold zcp
      rw [if_neg (by omega),htk]
      refine zvg fun n hn=>?_
      rw [Bool.eq_iff_iff]
      simp only [Bool.or_eq_true,decide_eq_true_eq,beq_iff_eq,List.mem_append,List.mem_singleton]
      constructor
      ·rintro (h | h)
       ·exact .inl h
       ·right;omega
      ·rintro (h | h)
       ·exact .inl h
       ·right;omega
     rw [e1,←e2,←qX (by omega)]
    ·rcases Nat.lt_or_ge k i with hki | hki
     ·exact hp k hki q hq
     ·have:k=i:=by omega
      subst this
      rw [hx] at hq;cases hq
      exact ⟨hpi,hnm,hst⟩
 ·rintro _ ⟨rfl,hp⟩
  refine zg (qm (show ¬(r.length:Int) < (r.length:Int) by omega)) (zd (zE (.inl ⟨rfl,h1,h8,fun p hm=>?_,fun i p hi=>(hp i (by grind) p hi).2⟩)))
  obtain ⟨k,hk⟩:=List.getElem?_of_mem hm
  exact (hp k (by grind) p hk).1
 ·rintro ⟨j,⟨v,w,z,⟨⟩⟩,c,⟨⟩,⟨⟩,⟨⟩⟩ (⟨hg,hr⟩ | ⟨hg,hr⟩)
  ·simp only at hg
   refine zt (fun _=>?_) (fun _=>?_)<;>exact zd ⟨fun _=>hr,fun _=>yJ hg⟩
  ·simp only at hg
   refine zt (fun _=>?_) (fun _=>?_)<;>exact zd ⟨fun h=>by have:=jJ h;simp only at this;omega,fun h=>absurd h hr⟩
def GL (a b:List Int):Prop:=∃p∈a,∃q∈b,Int.tdiv p 2=Int.tdiv q 2
def zaD (a:List Int):List Int:=(a.take (a.length - 1)).drop 1
def KE (a b:List Int):Prop:=∃n∈zaD a,n∈b
def zsy (t:qZ) (a b:List Int):Prop:=¬GL a b∧¬KE (qi t a) (qi t b)∧¬KE (qi t b) (qi t a)
theorem zHT {p:Int} (h : -9223372036854775808≤p) (h2:p≤9223372036854775807):wrF .i64 (Int.tdiv p 2)=Int.tdiv p 2:=by
 rcases Int.le_total 0 p with h0 | h0
 ·rw [Int.tdiv_eq_ediv_of_nonneg h0];exact qR (by omega) (by omega)
 ·have e:Int.tdiv p 2 = -((-p) / 2):=by
   rw [←Int.tdiv_eq_ediv_of_nonneg (by omega),Int.neg_tdiv,Int.neg_neg]
  rw [e];exact qR (by omega) (by omega)
theorem zzL {t:qZ} (h:t.2.2.length≤1000000000000000) {p:Int} (hp:QM t p):wrF .i64 (Int.tdiv p 2)=Int.tdiv p 2:=zHT (by have:=hp.1;omega) (by have:=hp.2;omega)
theorem QE {α:Type} {l:List α} {x:α} (h:x∈l):∃i,i < l.length∧l[i]?=some x:=by
 obtain ⟨i,hi⟩:=List.getElem?_of_mem h
 exact ⟨i,by grind,hi⟩
theorem zqQ {t:qZ} (h:t.2.2.length≤1000000000000000) {a b:List Int} (ha:∀p∈a,QM t p) (hb:∀p∈b,QM t p) (la:a.length≤8) (lb:b.length≤8):Wh (a,b,())=some (tv (GL a b),()):=by
 rw [zoU];unfold zdq
 refine Wp (zq (J:=fun x=>(x.1=0∧¬GL a b)∨(x.1=1∧x.2.1.1=true∧GL a b)) (uG a.length (fun i=>∀p,a[i]?=some p→¬∃q∈b,Int.tdiv p 2=Int.tdiv q 2) (by omega) ?_ ?_) ?_)
 ·intro i hi hp
  have hx:a[i]?=some a[i]:=List.getElem?_eq_getElem hi
  have hm:=List.getElem_mem hi
  generalize a[i]=p at hx hm
  refine zi (qD (show (i:Int) < (a.length:Int) by omega)) (zn (qh (n:=i) hx ?_))
  refine zq (J:=fun x=>(x.1=0∧x.2.1.1=false∧¬∃q∈b,Int.tdiv p 2=Int.tdiv q 2)∨(x.1=1∧x.2.1.1=true∧∃q∈b,Int.tdiv p 2=Int.tdiv q 2)) (uG b.length (fun k=>∀q,b[k]?=some q→Int.tdiv p 2≠Int.tdiv q 2) (by omega) ?_ ?_) ?_
  ·intro k hk hq
   have hy:b[k]?=some b[k]:=List.getElem?_eq_getElem hk
   have hmk:=List.getElem_mem hk
   generalize b[k]=q at hy hmk
   refine zi (qD (show (k:Int) < (b.length:Int) by omega)) (zn (qh (n:=k) hy ?_))
   rw [zzL h (ha p hm),zzL h (hb q hmk)]
   refine zt (fun h=>?_) (fun h=>?_)
   ·exact zd (zE (.inr ⟨rfl,rfl,q,hmk,jJ h⟩))
   ·exact zd (Zc (by omega) fun q' hq'=>by rw [hy] at hq';cases hq';exact wH h)
  ·intro hq
   refine zg (qm (show ¬(b.length:Int) < (b.length:Int) by omega)) (zd (zE (.inl ⟨rfl,rfl,fun ⟨q,hq1,hq2⟩=>?_⟩)))
   obtain ⟨k,hk,hk2⟩:=QE hq1
   exact hq k hk q hk2 hq2
  ·rintro ⟨j,⟨v,w,⟨⟩⟩,⟨⟩⟩ (⟨rfl,rfl,hq⟩ | ⟨rfl,rfl,hq⟩)
   ·exact zi rfl (zd (Zc (by omega) fun p' hp'=>by rw [hx] at hp';cases hp';exact hq))
   ·exact zg rfl (zd (zE (.inr ⟨rfl,rfl,p,hm,hq⟩)))
 ·intro hp
  refine zg (qm (show ¬(a.length:Int) < (a.length:Int) by omega)) (zd (zE (.inl ⟨rfl,fun ⟨p,hp1,hp2⟩=>?_⟩)))
  obtain ⟨k,hk,hk2⟩:=QE hp1
  exact hp k hk p hk2 hp2
 ·rintro ⟨j,⟨v,w,⟨⟩⟩,⟨⟩⟩ (⟨rfl,hq⟩ | ⟨rfl,rfl,hq⟩)
  ·exact zi rfl (zd ⟨fun h=>(by cases h),fun h=>absurd h hq⟩)
  ·exact zg rfl (zd ⟨fun _=>hq,fun _=>rfl⟩)
theorem zCH (a:List Int):(zaD a).length=a.length - 1 - 1:=by unfold zaD;simp
theorem ze5 {l:List Int} (hn:l.length≤1000000000000000000) (b:Int):qB (qI (l,b,())) fun r=>(0≤r.1∧b∈l)∨(r.1 = -1∧¬b∈l):=by
 rw [Kb];unfold gW
 refine zq (J:=fun x=>(x.1=0∧¬b∈l)∨(x.1=1∧0≤x.2.1.1∧b∈l)) (uG l.length (fun i=>l[i]?≠some b) hn ?_ ?_) ?_
 ·intro i hi hp
  have hx:l[i]?=some l[i]:=List.getElem?_eq_getElem hi
  refine zi (qD (show (i:Int) < (l.length:Int) by omega)) (zn (qh (n:=i) hx (zt (fun h=>?_) (fun h=>?_))))
  ·have:b=l[i]:=jJ h
   exact zd (zE (.inr ⟨rfl,by show (0:Int)≤(i:Int);omega,by rw [this];exact List.getElem_mem hi⟩))
  ·have:=wH (show zj b l[i]=false from h)
   exact zd (Zc (by omega) (by rw [hx];intro e;cases e;exact this rfl))
 ·intro hp
  refine zg (qm (show ¬(l.length:Int) < (l.length:Int) by omega)) (zd (zE (.inl ⟨rfl,fun hm=>?_⟩)))
  obtain ⟨k,hk,hk2⟩:=QE hm
  exact hp k hk hk2
 ·rintro ⟨j,⟨v,w,⟨⟩⟩,⟨⟩⟩ (⟨rfl,hp⟩ | ⟨rfl,h0,hp⟩)
  ·exact zi rfl (zd (.inr ⟨rfl,hp⟩))
  ·exact zg rfl (zd (.inl ⟨h0,hp⟩))
theorem zcN {l:List Int} (hn:l.length≤1000000000000000000) (b:Int):xi (l,b,())=some (tv (b∈l),()):=by
 rw [zb5];unfold QV
 refine Wp (zq (ze5 hn b) ?_)
 rintro ⟨v,⟨⟩⟩ (⟨h,hm⟩ | ⟨rfl,hm⟩)
 ·refine zd ⟨fun _=>hm,fun _=>?_⟩
  show (!zr v 0)=true
  rw [qm (by simp only at h;omega)];rfl
 ·exact zd ⟨fun h=>(by cases h),fun h=>absurd h hm⟩
theorem zcr {l:List Int} (hn:l.length≤1000000000000000000) (b:Int):qB (yO (l,b,())) fun r=>(0≤r.1∧b∈l)∨(r.1 = -1∧¬b∈l):=by
 rw [zby];unfold Qr
 refine zq (J:=fun x=>(x.1=0∧¬b∈l)∨(x.1=1∧0≤x.2.1.1∧b∈l)) (uG l.length (fun i=>l[i]?≠some b) hn ?_ ?_) ?_
 ·intro i hi hp
  have hx:l[i]?=some l[i]:=List.getElem?_eq_getElem hi
  refine zi (qD (show (i:Int) < (l.length:Int) by omega)) (zn (qh (n:=i) hx (zt (fun h=>?_) (fun h=>?_))))
  ·have:b=l[i]:=jJ h
   exact zd (zE (.inr ⟨rfl,by show (0:Int)≤(i:Int);omega,by rw [this];exact List.getElem_mem hi⟩))
  ·have:=wH (show zj b l[i]=false from h)
   exact zd (Zc (by omega) (by rw [hx];intro e;cases e;exact this rfl))
 ·intro hp
  refine zg (qm (show ¬(l.length:Int) < (l.length:Int) by omega)) (zd (zE (.inl ⟨rfl,fun hm=>?_⟩)))
  obtain ⟨k,hk,hk2⟩:=QE hm
  exact hp k hk hk2
 ·rintro ⟨j,⟨v,w,⟨⟩⟩,⟨⟩⟩ (⟨rfl,hp⟩ | ⟨rfl,h0,hp⟩)
  ·exact zi rfl (zd (.inr ⟨rfl,hp⟩))
  ·exact zg rfl (zd (.inl ⟨h0,hp⟩))
theorem zat {l:List Int} (hn:l.length≤1000000000000000000) (b:Int):jm (l,b,())=some (tv (b∈l),()):=by
 rw [GY];unfold gJ
 refine Wp (zq (zcr hn b) ?_)
 rintro ⟨v,⟨⟩⟩ (⟨h,hm⟩ | ⟨rfl,hm⟩)
 ·refine zd ⟨fun _=>hm,fun _=>?_⟩
  show (!zr v 0)=true
  rw [qm (by simp only at h;omega)];rfl
 ·exact zd ⟨fun h=>(by cases h),fun h=>absurd h hm⟩
theorem zcs {t:qZ} (ht:vT t) {a b:List Int} (ha:yZ t a) (hb:yZ t b):gi (t,a,b,())=some (tv (KE (qi t a) (qi t b)),()):=by
 have hll:=ht.ll
 have na:=zbq t ha.ne;have nb:=zbq t hb.ne
 have a0:=ha.n0;have a8:=ha.n1;have b0:=hb.n0;have b8:=hb.n1
 rw [zjt];unfold Ga
 simp only [KD hll ha.ne ha.n1 ha.pt,KD hll hb.ne hb.n1 hb.pt,zK]
 generalize qi t a=A at na
 generalize qi t b=B at nb
 have e1:wrF .i64 ((A.length:Int) - 1)=((A.length - 1:Nat):Int):=by rw [qR]<;>omega
 have e2:ux A (some 1) (some (((A.length - 1:Nat):Int))) (some (((A.length - 1:Nat):Int)))=some (zaD A):=zEG A 1 (A.length - 1) (by omega) (by omega)
 rw [e1,e2,zK]
 have il:=zCH A
 refine Wp (zq (J:=fun x=>(x.1=0∧¬KE A B)∨(x.1=1∧x.2.1.1=true∧KE A B)) (uG (zaD A).length (fun i=>∀n,(zaD A)[i]?=some n→¬n∈B) (by omega) ?_ ?_) ?_)
 ·intro i hi hp
  have hx:(zaD A)[i]?=some (zaD A)[i]:=List.getElem?_eq_getElem hi
  have hm:=List.getElem_mem hi
  generalize (zaD A)[i]=n at hx hm
  refine zi (qD (show (i:Int) < ((zaD A).length:Int) by omega)) (zn (qh (n:=i) hx ?_))
  rw [zcN (by omega)]
  refine zt (fun h=>?_) (fun h=>?_)
  ·exact zd (zE (.inr ⟨rfl,rfl,n,hm,zdV h⟩))
  ·exact zd (Zc (by omega) fun m hm=>by rw [hx] at hm;cases hm;exact zar h)
 ·intro hp
  refine zg (qm (show ¬((zaD A).length:Int) < ((zaD A).length:Int) by omega)) (zd (zE (.inl ⟨rfl,fun ⟨n,h1,h2⟩=>?_⟩)))
  obtain ⟨k,hk,hk2⟩:=QE h1
  exact hp k hk n hk2 h2
 ·rintro ⟨j,⟨v,w,⟨⟩⟩,⟨⟩⟩ (⟨rfl,hq⟩ | ⟨rfl,rfl,hq⟩)
  ·exact zi rfl (zd ⟨fun h=>(by cases h),fun h=>absurd h hq⟩)
  ·exact zg rfl (zd ⟨fun _=>hq,fun _=>rfl⟩)
theorem zia {t:qZ} (ht:vT t) (r:List Int):kJ (t,r,())=some (bif tv (yZ t r) then 0 else 310,()):=by
 rw [zqm];unfold zeM
 simp only [Wq,zK,zO ht,cond_true,zcq ht]
 rw [show (!zj 0 0)=false from rfl,cond_false]
 cases tv (yZ t r)<;>rfl
theorem zsz {t:qZ} (ht:vT t) {a b:List Int} (ha:yZ t a) (hb:yZ t b):ZS (t,a,b,())=some (tv (zsy t a b),0,()):=by
 rw [zqp];unfold zeO
 simp only [zia ht,zK,zO ha,zO hb,cond_true,zcq ht,zqQ ht.ll ha.pt hb.pt ha.n1 hb.n1,zcs ht ha hb,zcs ht hb ha]
 rw [show (!zj 0 0)=false from rfl,cond_false]
 simp only [Bool.not_true,cond_false]
 unfold zsy
 by_cases h1:GL a b
 ·simp [zO h1,qo (show ¬(¬GL a b∧¬KE (qi t a) (qi t b)∧¬KE (qi t b) (qi t a)) from fun h=>h.1 h1)]
 ·by_cases h2:KE (qi t a) (qi t b)
  ·simp [qo h1,zO h2,qo (show ¬(¬GL a b∧¬KE (qi t a) (qi t b)∧¬KE (qi t b) (qi t a)) from fun h=>h.2.1 h2)]
  ·by_cases h3:KE (qi t b) (qi t a)
   ·simp [qo h1,qo h2,zO h3,qo (show ¬(¬GL a b∧¬KE (qi t a) (qi t b)∧¬KE (qi t b) (qi t a)) from fun h=>h.2.2 h3)]
   ·simp [qo h1,qo h2,qo h3,zO (show ¬GL a b∧¬KE (qi t a) (qi t b)∧¬KE (qi t b) (qi t a) from ⟨h1,h2,h3⟩)]
def zg9 (t:qZ) (r:List Int):Int:=frm t ((r[0]?).getD 0)
def zib (t:qZ) (r:List Int):Int:=too t ((r[r.length - 1]?).getD 0)
theorem zic {t:qZ} (ht:vT t) (r:List Int):xX (t,r,())=some (bif tv (yZ t r) then (qi t r,0,()) else ([],310,())):=by
 rw [zqn];unfold zeN
 simp only [zia ht,zK]
 by_cases h:yZ t r
 ·simp only [zO h,cond_true,KD ht.ll h.ne h.n1 h.pt,zK];rfl
 ·simp only [qo h,cond_false];rfl
theorem zzb (t:qZ) {r:List Int} (h:r≠[]):(qi t r)[0]?=some (zg9 t r):=by
 cases r with
 |nil=>exact absurd rfl h
 |cons p r=>rfl
theorem zBf (t:qZ) {r:List Int} (h:r≠[]):(qi t r)[r.length]?=some (zib t r):=by
 have hl:0 < r.length:=List.length_pos_iff.2 h
 have hx:r[r.length - 1]?=some (r[r.length - 1]'(by omega)):=List.getElem?_eq_getElem (by omega)
 have:=zco t hx
 rw [show r.length - 1+1=r.length by omega] at this
 rw [this];unfold zib;rw [hx];rfl
theorem zud {t:qZ} (ht:vT t) (r:List Int):Vg (t,r,())=some (bif tv (yZ t r) then (zg9 t r,zib t r,0,()) else (0,0,310,())):=by
 rw [zr1];unfold zgJ
 simp only [zic ht,zK]
 by_cases h:yZ t r
 ·have hn:=zbq t h.ne
  have:=h.n1
  simp only [zO h,cond_true]
  rw [show (!zj 0 0)=false from rfl,cond_false]
  rw [show wrF .i64 (((qi t r).length:Int) - 1)=((r.length:Nat):Int) from by rw [qR]<;>omega]
  rw [show (0:Int)=((0:Nat):Int) from rfl,Ql (zzb t h.ne),zK,Ql (zBf t h.ne),zK]
 ·simp only [qo h,cond_false];rfl
theorem zqR {t:qZ} (ht:vT t) (r:List Int) (a b:Int):Qq (t,r,a,b,())=some (tv (yZ t r∧zg9 t r=a∧zib t r=b),()):=by
 rw [zoS];unfold zdp
 simp only [zud ht,zK]
 by_cases h:yZ t r
 ·simp only [zO h,cond_true]
  rw [show zj 0 0=true from rfl,cond_true]
  refine Wp (zt (fun h1=>?_) (fun h1=>?_))
  ·exact zd ⟨fun h2=>⟨h,jJ h1,jJ h2⟩,fun h2=>yJ h2.2.2⟩
  ·exact zd ⟨fun h2=>(by cases h2),fun h2=>absurd h2.2.1 (wH h1)⟩
 ·simp only [qo h,cond_false]
  rw [show zj 310 0=false from rfl,cond_false,qo fun h2=>h h2.1]
abbrev qx:=Int×Int×Int×Int×Int×Int×(Int×Int)×Int×List (List Int)
structure Ud (t:qZ) (s:qx):Prop where
 id:1≤s.1∧s.1≤4095
 ta:kh t s.2.1∧stn t s.2.1=true
 li:kh t s.2.2.1∧stn t s.2.2.1=true
 tl:s.2.1≠s.2.2.1
 sz:84≤s.2.2.2.2.1∧s.2.2.2.2.1≤1542
 dl:1≤s.2.2.2.2.2.2.2.1∧s.2.2.2.2.2.2.2.1≤1099511627776
 cl:(s.2.2.2.1=7∧(1≤s.2.2.2.2.2.1∧s.2.2.2.2.2.1≤240)∧s.2.2.2.2.2.2.1=(0,0))∨(s.2.2.2.1=6∧s.2.2.2.2.2.1=0∧(s.2.2.2.2.1≤s.2.2.2.2.2.2.1.1∧s.2.2.2.2.2.2.1.1≤1048576)∧(1≤s.2.2.2.2.2.2.1.2∧s.2.2.2.2.2.2.1.2≤2097152))
 rn:1≤s.2.2.2.2.2.2.2.2.length∧s.2.2.2.2.2.2.2.2.length≤2
 rt:∀r∈s.2.2.2.2.2.2.2.2,yZ t r∧zg9 t r=s.2.1∧zib t r=s.2.2.1
 ap:∀a b,s.2.2.2.2.2.2.2.2[0]?=some a→s.2.2.2.2.2.2.2.2[1]?=some b→zsy t a b
theorem zsA {a b c:Int} {R:Int→Int→Int→Option (Bool×Unit)} (hR:R a b c=(bif (!(zr (a) (b))) then some ((!(zr (c) (a))),()) else some (false,()))):R a b c=some (tv (b≤a∧a≤c),()):=by
 rw [hR]
 refine Wp (zt (fun h=>?_) (fun h=>?_))<;>refine zd ?_<;>simp only [km] at *<;>grind
theorem Gi (a b c:Int):yv (a,b,c,())=some (tv (b≤a∧a≤c),()):=by
 rw [zlM];exact zsA (R:=zaU) rfl
theorem zjK (a b c:Int):ky (a,b,c,())=some (tv (b≤a∧a≤c),()):=by
 rw [ziL];exact zsA (R:=Ul) rfl
theorem zGc {n:Int} (h : -1000000≤n) (h2:n≤1000000):wrF .i64 (n - 1)=n - 1:=qR (by omega) (by omega)
theorem znM {t:qZ} (hs:szP t) (n:Int):Qp (t,n,())=some (tv (kh t n∧stn t n=true),()):=by
 have h0:=hs.n0;have h1:=hs.n1
 rw [zlQ];unfold zaW
 simp only [Gi,zK,zGc (show -1000000≤t.1 by omega) (by omega)]
 refine Wp (zt (fun h=>?_) (fun h=>?_))
 ·obtain ⟨h2,h3⟩:=zdV h
  have hn:kh t n:=⟨h2,by omega⟩
  refine zn (qF (a:=stn t n) (by show atI t.2.1 n=_;rw [show n=((n.toNat:Nat):Int) from (by omega),Ql (n:=n.toNat)];exact hn.get hs) ?_)
  exact zd ⟨fun h=>⟨hn,h⟩,fun h=>h.2⟩
 ·have:=zar h
  exact zd ⟨fun h=>(by cases h),fun h=>absurd ⟨h.1.1,by have:=h.1.2;omega⟩ this⟩
def vI (b:Int×Int):Prop:=(1≤b.1∧b.1≤1048576)∧(1≤b.2∧b.2≤2097152)
theorem WT (b:Int×Int):wR (b,())=some (bif tv (vI b) then 0 else 130,()):=by
 rw [zoQ];unfold zdo vI
 simp only [zjK,zK]
 by_cases h1:1≤b.1∧b.1≤1048576
 ·by_cases h2:1≤b.2∧b.2≤2097152
  ·simp only [zO h1,zO h2,zO (And.intro h1 h2)];rfl
  ·simp only [zO h1,qo h2,qo (fun h:(1≤b.1∧b.1≤1048576)∧(1≤b.2∧b.2≤2097152)=>h2 h.2)];rfl
 ·simp only [qo h1,qo (fun h:(1≤b.1∧b.1≤1048576)∧(1≤b.2∧b.2≤2097152)=>h1 h.1)];rfl
theorem zHl (b:Int×Int):((zj b.1 0)&&((zj b.2 0)&&true))=tv (b=(0,0)):=by
 obtain ⟨x,y⟩:=b
 rw [zHi,wo,wo]
 simp only [Bool.and_true]
 rw [Bool.eq_iff_iff]
 simp [Prod.ext_iff]
theorem zpE {t:qZ} (ht:vT t) {s:qx} {Q:Prop} (hn:1≤s.2.2.2.2.2.2.2.2.length∧s.2.2.2.2.2.2.2.2.length≤2) {B:((Bool×(Int×Unit))×Unit)→Option ((Nat×((Bool×(Int×Unit))×Unit)) ⊕ ((Bool×(Int×Unit))×Unit))}
  {K:(Nat×((Bool×(Int×Unit))×Unit))→Option (Bool×Unit)}
  (hB
    : B=fun s7=>bif (zr (s7.1.2.1) ((((s.2.2.2.2.2.2.2.2).length:Nat):Int))) then opt (atI (s.2.2.2.2.2.2.2.2) (s7.1.2.1)) fun x8=>
    opt (Qq ((t,(x8,(s.2.1,(s.2.2.1,())))))) fun x9=>
    bif (!x9.1) then some (.inl (1,((false,(s7.1.2.1,())),())))
    else some (.inr ((s7.1.1,((wrF .i64 ((s7.1.2.1+1))),())),()))
   else some (.inl (0,((s7.1.1,(s7.1.2.1,())),()))))
  (hK :
     ∀x,K x=bif (Nat.beq x.1 0) then bif (zr ((((s.2.2.2.2.2.2.2.2).length:Nat):Int)) (2)) then some (true,())
     else opt (atI (s.2.2.2.2.2.2.2.2) (0)) fun x11=>opt (atI (s.2.2.2.2.2.2.2.2) (1)) fun x12=>opt (ZS ((t,(x11,(x12,()))))) fun x13=>
      bif (zj (x13.2.1) (0)) then bif (!x13.1) then some (false,()) else some (true,()) else some (false,())
    else bif (!x.2.1.1) then some (false,())
     else bif (zr ((((s.2.2.2.2.2.2.2.2).length:Nat):Int)) (2)) then some (true,())
      else opt (atI (s.2.2.2.2.2.2.2.2) (0)) fun x14=>opt (atI (s.2.2.2.2.2.2.2.2) (1)) fun x15=>opt (ZS ((t,(x14,(x15,()))))) fun x16=>
       bif (zj (x16.2.1) (0)) then bif (!x16.1) then some (false,()) else some (true,()) else some (false,()))
  (hQ:Q↔(∀r∈s.2.2.2.2.2.2.2.2,yZ t r∧zg9 t r=s.2.1∧zib t r=s.2.2.1)∧∀a b,s.2.2.2.2.2.2.2.2[0]?=some a→s.2.2.2.2.2.2.2.2[1]?=some b→zsy t a b) :
  qB (opt (qb B qw ((false,(0,())),())) K) fun r=>(r.1=true↔Q):=by
 subst hB
 obtain ⟨n0,n2⟩:=hn
 refine zq (J:=fun x=>(x.1=0∧∀r∈s.2.2.2.2.2.2.2.2,yZ t r∧zg9 t r=s.2.1∧zib t r=s.2.2.1)∨(x.1=1∧x.2.1.1=false∧¬Q)) (uG s.2.2.2.2.2.2.2.2.length (fun i=>∀r,s.2.2.2.2.2.2.2.2[i]?=some r→yZ t r∧zg9 t r=s.2.1∧zib t r=s.2.2.1) (by omega) ?_ ?_) ?_
 ·intro i hi hp
  have hx:s.2.2.2.2.2.2.2.2[i]?=some s.2.2.2.2.2.2.2.2[i]:=List.getElem?_eq_getElem hi
  have hm:=List.getElem_mem hi
  generalize s.2.2.2.2.2.2.2.2[i]=r at hx hm
  refine zi (qD (show (i:Int) < (s.2.2.2.2.2.2.2.2.length:Int) by omega)) (zn (qh (n:=i) hx ?_))
  rw [zqR ht]
  refine zt (fun h=>?_) (fun h=>?_)
  ·exact zd (zE (.inr ⟨rfl,rfl,fun hq=>Uc h ((hQ.1 hq).1 r hm)⟩))
  ·exact zd (Zc (by omega) fun r' hr'=>by rw [hx] at hr';cases hr';exact zas h)
 ·intro hp
  refine zg (qm (show ¬(s.2.2.2.2.2.2.2.2.length:Int) < (s.2.2.2.2.2.2.2.2.length:Int) by omega)) (zd (zE (.inl ⟨rfl,fun r hr=>?_⟩)))
  obtain ⟨k,hk,hk2⟩:=QE hr
  exact hp k hk r hk2
 ·rintro ⟨j,⟨v,w,⟨⟩⟩,⟨⟩⟩ (⟨rfl,hq⟩ | ⟨rfl,rfl,hq⟩)
  ·rw [hK]
   refine zi rfl (zt (fun h=>?_) (fun h=>?_))
   ·have h:=yn h
    have h:s.2.2.2.2.2.2.2.2.length < 2:=by omega
    exact zd ⟨fun _=>hQ.2 ⟨hq,fun a b _ hb=>by rw [List.getElem?_eq_none (by omega)] at hb;cases hb⟩,fun _=>rfl⟩
   ·have h:=wA h
    have h:2≤s.2.2.2.2.2.2.2.2.length:=by omega
    have hx0:s.2.2.2.2.2.2.2.2[0]?=some s.2.2.2.2.2.2.2.2[0]:=List.getElem?_eq_getElem (by omega)
    have hx1:s.2.2.2.2.2.2.2.2[1]?=some s.2.2.2.2.2.2.2.2[1]:=List.getElem?_eq_getElem (by omega)
    have r0:=(hq _ (List.getElem_mem (show 0 < s.2.2.2.2.2.2.2.2.length by omega))).1
    have r1:=(hq _ (List.getElem_mem (show 1 < s.2.2.2.2.2.2.2.2.length by omega))).1
    generalize s.2.2.2.2.2.2.2.2[0]=a at hx0 r0
    generalize s.2.2.2.2.2.2.2.2[1]=b at hx1 r1
    refine zn (qh (n:=0) hx0 (zn (qh (n:=1) hx1 ?_)))
    rw [zsz ht r0 r1]
    refine zt (fun h=>?_) (fun h=>?_)
    ·exact zd ⟨fun h=>(by cases h),fun hq2=>absurd ((hQ.1 hq2).2 a b hx0 hx1) (Uc h)⟩
    ·exact zd ⟨fun _=>hQ.2 ⟨hq,fun a' b' ha hb=>by rw [hx0] at ha;rw [hx1] at hb;cases ha;cases hb;exact zas h⟩,fun _=>rfl⟩
  ·rw [hK]
   exact zg rfl (zi rfl (zd ⟨fun h=>(by cases h),fun h=>absurd h hq⟩))
theorem zha {t:qZ} (ht:vT t) (s:qx):uQ (t,s,())=some (tv (Ud t s),()):=by
 have no:¬Ud t s→qB (some ((false,()):Bool×Unit)) fun r=>(r.1=true↔Ud t s):=fun h=>zd ⟨fun h=>(by cases h),fun h2=>absurd h2 h⟩
 rw [zoV];unfold zds
 simp only [Gi,znM ht.sz,WT,zK,zHl]
 refine Wp (zt (fun h=>no fun hs=>Uc h hs.id) fun h1=>zt (fun h2=>zt (fun h3=>zt (fun h=>no fun hs=>?_) fun h4=>zt (fun h=>no fun hs=>Uc h hs.sz) fun h5=>zt (fun h=>no fun hs=>Uc h hs.dl) fun h6=>?_) fun h=>no fun hs=>zar h hs.li) fun h=>no fun hs=>zar h hs.ta)
 ·exact hs.tl (jJ (show zj s.2.1 s.2.2.1=true by simpa using h))
 have h1:=zas h1;have h2:=zdV h2;have h3:=zdV h3;have h5:=zas h5;have h6:=zas h6
 have h4:=wH (show zj s.2.1 s.2.2.1=false by simpa using h4)
 refine zt (fun c7=>?_) (fun c7=>zt (fun c6=>?_) (fun c6=>no fun hs=>?_))
 ·have c7:=jJ c7
  refine zt (fun h7=>zt (fun h=>no fun hs=>?_) fun h8=>zt (fun h=>no fun hs=>?_) fun h9=>?_) (fun h=>no fun hs=>?_)
  ·rcases hs.cl with ⟨_,_,hb⟩ | ⟨h6',_⟩
   ·exact Uc h hb
   ·omega
  ·have:=Uc h
   have:=hs.rn
   omega
  ·have h9:=zas h9
   refine zpE ht ⟨by omega,by omega⟩ rfl (fun _=>rfl) ⟨fun hs=>⟨hs.rt,hs.ap⟩,fun hr=>⟨h1,h2,h3,h4,h5,h6,.inl ⟨c7,zdV h7,zas h8⟩,⟨by omega,by omega⟩,hr.1,hr.2⟩⟩
  ·rcases hs.cl with ⟨_,hb,_⟩ | ⟨h6',_⟩
   ·exact zar h hb
   ·omega
 ·have c6:=jJ c6
  refine zt (fun h7=>zt (fun h8=>zt (fun h=>no fun hs=>?_) fun h9=>zt (fun h=>no fun hs=>?_) fun h10=>?_) (fun h=>no fun hs=>?_)) (fun h=>no fun hs=>?_)
  ·rcases hs.cl with ⟨h7',_⟩ | ⟨_,_,hb,_⟩
   ·omega
   ·have:=yn (show zr s.2.2.2.2.2.2.1.1 s.2.2.2.2.1=true by simpa using h)
    omega
  ·have:=Uc h
   have:=hs.rn
   omega
  ·have h10:=zas h10
   have h7:=jJ h7
   have h8:vI s.2.2.2.2.2.2.1:=by
    apply Classical.byContradiction
    intro hb
    rw [qo hb] at h8;cases h8
   have h9:=wA (show zr s.2.2.2.2.2.2.1.1 s.2.2.2.2.1=false by simpa using h9)
   refine zpE ht ⟨by omega,by omega⟩ rfl (fun _=>rfl) ⟨fun hs=>⟨hs.rt,hs.ap⟩,fun hr=>⟨h1,h2,h3,h4,h5,h6,.inr ⟨c6,h7,⟨h9,h8.1.2⟩,h8.2⟩,⟨by omega,by omega⟩,hr.1,hr.2⟩⟩
  ·rcases hs.cl with ⟨h7',_⟩ | ⟨_,_,hb,hr⟩
   ·omega
   ·have:=hs.sz
    have hbp:vI s.2.2.2.2.2.2.1:=⟨⟨by omega,hb.2⟩,hr⟩
    rw [zO hbp] at h;cases h
  ·rcases hs.cl with ⟨h7',_⟩ | ⟨_,hp,_⟩
   ·omega
   ·exact wH h hp
 ·rcases hs.cl with ⟨h7,_⟩ | ⟨h6',_⟩
  ·exact wH c7 h7
  ·exact wH c6 h6'
def zue (t:qZ) (l:List qx):Prop:=∀s∈l,Ud t s
def zqS (l:List qx):Prop:=∀(i k:Nat) a b,k < i→l[i]?=some a→l[k]?=some b→b.1≠a.1
noncomputable def zdB (t:qZ) (l:List qx):Int:=bif tv (l.length≤12) then bif tv (zue t l) then bif tv (zqS l) then 0 else 322 else 321 else 3
theorem zzM {α:Type} (m:List (Int×α)) (a b:Int) (x z:α):mpD (mpP m a x) b z=if a=b then x else mpD m b z:=by
 induction m with
 |nil=>
  unfold mpP mpD
  rw [wo]
  by_cases h:a=b
  ·rw [if_pos h,h];simp
  ·rw [if_neg h,show (a == b)=false from by simpa using h];rfl
 |cons p m ih=>
  unfold mpP
  rw [wo]
  by_cases h:p.1=a
  ·rw [h];simp only [beq_self_eq_true,cond_true]
   unfold mpD
   rw [wo,wo]
   by_cases h2:a=b
   ·rw [if_pos h2,h2];simp
   ·rw [if_neg h2,h,show (a == b)=false from by simpa using h2];rfl
  ·rw [show (p.1 == a)=false from by simpa using h,cond_false]
   unfold mpD
   rw [ih,wo]
   by_cases h2:p.1=b
   ·rw [h2];simp only [beq_self_eq_true,cond_true]
    rw [if_neg (by rw [h2] at h;exact fun e=>h e.symm)]
   ·rw [show (p.1 == b)=false from by simpa using h2];rfl
theorem zGd {α:Type} (m:List (Int×α)) (a b:Int) (x:α):mpH (mpP m a x) b=(decide (a=b)||mpH m b):=by
 induction m with
 |nil=>
  unfold mpP mpH
  rw [wo]
  by_cases h:a=b
  ·rw [h];simp
  ·rw [show (a == b)=false from by simpa using h];simp [h,mpH]
 |cons p m ih=>
  unfold mpP
  rw [wo]
  by_cases h:p.1=a
  ·rw [h];simp only [beq_self_eq_true,cond_true]
   unfold mpH
   rw [wo,wo]
   by_cases h2:a=b
   ·rw [h2];simp
   ·rw [h,show (a == b)=false from by simpa using h2];simp [h2]
  ·rw [show (p.1 == a)=false from by simpa using h,cond_false]
   unfold mpH
   rw [ih,wo]
   by_cases h2:p.1=b
   ·rw [h2];simp
   ·rw [show (p.1 == b)=false from by simpa using h2];simp
theorem zl5 {t:qZ} (ht:vT t) (l:List qx):Zo (t,l,())=some (zdB t l,()):=by
 rw [zkK];unfold GW zdB
 simp only [Wq,zK,zO ht,cond_true]
 rw [show (!zj 0 0)=false from rfl,cond_false]
 refine kV (zt (fun h=>?_) (fun h=>?_))
 ·have h:=yn h
  rw [qo (show ¬l.length≤12 by omega)];exact zd rfl
 have h12:l.length≤12:=by have:=wA h;omega
 rw [zO h12,cond_true]
 refine zq (J:=fun x=>(x.1=0∧x.2.1.1=0∧zue t l)∨(x.1=1∧x.2.1.1=321∧¬zue t l)) (uG l.length (fun i=>∀s,l[i]?=some s→Ud t s) (by omega) ?_ ?_) ?_
 ·intro i hi hp
  have hx:l[i]?=some l[i]:=List.getElem?_eq_getElem hi
  have hm:=List.getElem_mem hi
  generalize l[i]=s at hx hm
  refine zi (qD (show (i:Int) < (l.length:Int) by omega)) (zn (qh (n:=i) hx ?_))
  rw [zha ht]
  refine zt (fun h=>?_) (fun h=>?_)
  ·exact zd (zE (.inr ⟨rfl,rfl,fun hq=>Uc h (hq s hm)⟩))
  ·exact zd (Zc (by omega) fun r' hr'=>by rw [hx] at hr';cases hr';exact zas h)
 ·intro hp
  refine zg (qm (show ¬(l.length:Int) < (l.length:Int) by omega)) (zd (zE (.inl ⟨rfl,rfl,fun r hr=>?_⟩)))
  obtain ⟨k,hk,hk2⟩:=QE hr
  exact hp k hk r hk2
 rintro ⟨j,⟨v,w,⟨⟩⟩,⟨⟩⟩ (⟨rfl,rfl,hq⟩ | ⟨rfl,rfl,hq⟩)
 rotate_left
 ·rw [qo hq];exact zg rfl (zd rfl)
 rw [zO hq,cond_true]
 refine zi rfl (zq (J:=fun x=>(x.1=0∧zqS l)∨(x.1=1∧x.2.1.1=322∧¬zqS l))
  (qG l.length (fun i s=>(∃m,s=((0,((i:Int),())),(m,()))∧∀z,mpD m z false=true↔∃(k:Nat) (b:qx),k < i∧l[k]?=some b∧b.1=z)∧∀(k' k:Nat) a b,k' < i→k < k'→l[k']?=some a→l[k]?=some b→b.1≠a.1) (by omega) ⟨⟨[],rfl,fun z=>⟨fun h=>(by cases h),fun ⟨k,b,hk,_⟩=>by omega⟩⟩,fun k' k a b hk=>by omega⟩ ?_ ?_) ?_)
 ·rintro i _ hi ⟨⟨m,rfl,hm⟩,hp⟩
  have hx:l[i]?=some l[i]:=List.getElem?_eq_getElem hi
  generalize l[i]=s at hx
  refine zi (qD (show (i:Int) < (l.length:Int) by omega)) (zn (qh (n:=i) hx ?_))
  refine zt (fun h=>?_) (fun h=>?_)
  ·obtain ⟨k,b,hk,hb,e⟩:=(hm s.1).1 h
   exact zd (zE (.inr ⟨rfl,rfl,fun hd=>hd i k s b hk hx hb e⟩))
  ·have hno:¬∃(k:Nat) (b:qx),k < i∧l[k]?=some b∧b.1=s.1:=fun he=>by
    have:=(hm s.1).2 he
    have h':mpD m s.1 false=false:=h
    rw [this] at h';cases h'
   refine zd (ji ⟨⟨_,congrArg (fun z=>(((0:Int),(z,())),(_,()))) (qX (by omega)),fun z=>?_⟩,fun k' k a b hk' hk ha hb=>?_⟩)
   ·show mpD (mpP m s.1 true) z false=true↔_
    rw [zzM]
    split
    ·rename_i e
     exact ⟨fun _=>⟨i,s,by omega,hx,e⟩,fun _=>rfl⟩
    ·rename_i e
     rw [hm z]
     constructor
     ·rintro ⟨k,b,h1,h2,h3⟩;exact ⟨k,b,by omega,h2,h3⟩
     ·rintro ⟨k,b,h1,h2,h3⟩
      rcases Nat.lt_or_ge k i with hk | hk
      ·exact ⟨k,b,hk,h2,h3⟩
      ·have:k=i:=by omega
       subst this
       rw [hx] at h2;cases h2
       exact absurd h3 e
   ·rcases Nat.lt_or_ge k' i with hki | hki
    ·exact hp k' k a b hki hk ha hb
    ·have:k'=i:=by omega
     subst this
     rw [hx] at ha;cases ha
     exact fun e=>hno ⟨k,b,hk,hb,e⟩
 ·rintro _ ⟨⟨m,rfl,hm⟩,hp⟩
  exact zg (qm (show ¬(l.length:Int) < (l.length:Int) by omega)) (zd (zE (.inl ⟨rfl,fun i k a b hk ha hb=>hp i k a b (by grind) hk ha hb⟩)))
 ·rintro ⟨j,⟨v,w,⟨⟩⟩,c,⟨⟩⟩ (⟨rfl,hd⟩ | ⟨rfl,rfl,hd⟩)
  ·rw [zO hd];exact zi rfl (zd rfl)
  ·rw [qo hd];exact zg rfl (zd rfl)
theorem zqT {t:qZ} (ht:vT t) (s:qx):Wm (t,s,())=some (bif tv (Ud t s) then 0 else 321,()):=by
 rw [zo8];unfold zdv
 simp only [Wq,zK,zO ht,cond_true,zha ht]
 rw [show (!zj 0 0)=false from rfl,cond_false]
 cases tv (Ud t s)<;>rfl
theorem zGe {l:List qx} (hn:l.length≤1000000000000000000) (id:Int):∃v e,xB (l,id,())=some (v,e,())∧((e=0∧∃(i:Nat) (s:qx),v=(i:Int)∧l[i]?=some s∧s.1=id∧∀(k:Nat) b,k < i→l[k]?=some b→b.1≠id)∨(e=4∧v=0∧∀s∈l,s.1≠id)):=by
 have key:qB (xB (l,id,())) fun r=>(r.2.1=0∧∃(i:Nat) (s:qx),r.1=(i:Int)∧l[i]?=some s∧s.1=id∧∀(k:Nat) b,k < i→l[k]?=some b→b.1≠id)∨(r.2.1=4∧r.1=0∧∀s∈l,s.1≠id):=by
  rw [zo9];unfold zdw
  refine zq (J:=fun x=>(x.1=0∧∀s∈l,s.1≠id)∨(x.1=1∧x.2.1.2.1=0∧∃(i:Nat) (s:qx),x.2.1.1=(i:Int)∧l[i]?=some s∧s.1=id∧∀(k:Nat) b,k < i→l[k]?=some b→b.1≠id))
   (qG l.length (fun i s=>s=((0,(0,((i:Int),()))),())∧∀(k:Nat) b,k < i→l[k]?=some b→b.1≠id) (zya hn) ⟨rfl,fun k b hk=>by omega⟩ ?_ ?_) ?_
  ·rintro i _ hi ⟨rfl,hp⟩
   have hx:l[i]?=some l[i]:=List.getElem?_eq_getElem hi
   generalize l[i]=s at hx
   refine zi (qD (show (i:Int) < (l.length:Int) by omega)) (zn (qh (n:=i) hx ?_))
   refine zt (fun h=>?_) (fun h=>?_)
   ·exact zd (zE (.inr ⟨rfl,rfl,i,s,rfl,hx,jJ h,hp⟩))
   ·refine zd (ji ⟨congrArg (fun z=>(((0:Int),((0:Int),(z,()))),())) (qX (by omega)),fun k b hk hb=>?_⟩)
    rcases Nat.lt_or_ge k i with hki | hki
    ·exact hp k b hki hb
    ·have:k=i:=by omega
     subst this
     rw [hx] at hb;cases hb
     exact wH h
  ·rintro _ ⟨rfl,hp⟩
   refine zg (qm (show ¬(l.length:Int) < (l.length:Int) by omega)) (zd (zE (.inl ⟨rfl,fun s hs=>?_⟩)))
   obtain ⟨k,hk,hk2⟩:=QE hs
   exact hp k s hk hk2
  ·rintro ⟨j,⟨v,w,z,⟨⟩⟩,⟨⟩⟩ (⟨rfl,hq⟩ | ⟨rfl,rfl,hq⟩)
   ·exact zi rfl (zd (.inr ⟨rfl,rfl,hq⟩))
   ·exact zg rfl (zd (.inl ⟨rfl,hq⟩))
 obtain ⟨⟨v,e,⟨⟩⟩,h1,h2⟩:=key
 exact ⟨v,e,h1,h2⟩
def Gj (u:Int×Int×Int×Int):Prop:=(1≤u.1∧u.1≤10000)∧(0≤u.2.1∧u.2.1≤1000)∧(0≤u.2.2.1∧u.2.2.1≤10000)∧(1542≤u.2.2.2∧u.2.2.2≤65536)
theorem zjL (u:Int×Int×Int×Int):kq (u,())=some (bif tv (Gj u) then 0 else 320,()):=by
 rw [ziE];unfold Uj
 simp only [Gi,zK]
 by_cases h1:1≤u.1∧u.1≤10000
 ·by_cases h2:0≤u.2.1∧u.2.1≤1000
  ·by_cases h3:0≤u.2.2.1∧u.2.2.1≤10000
   ·by_cases h4:1542≤u.2.2.2∧u.2.2.2≤65536
    ·rw [zO h1,zO h2,zO h3,zO h4,zO (show Gj u from ⟨h1,h2,h3,h4⟩)];rfl
    ·rw [zO h1,zO h2,zO h3,qo h4,qo (fun h:Gj u=>h4 h.2.2.2)];rfl
   ·rw [zO h1,zO h2,qo h3,qo (fun h:Gj u=>h3 h.2.2.1)];rfl
  ·rw [zO h1,qo h2,qo (fun h:Gj u=>h2 h.2.1)];rfl
 ·rw [qo h1,qo (fun h:Gj u=>h1 h.1)];rfl
abbrev Gts:=List (Int×Int)×Int
def zct (e:Int×Int):Prop:=0≤e.1∧e.1≤255∧1≤e.2∧e.2≤9600000
def ka (l:List (Int×Int)):Int:=(l.map (·.2)).sum
structure yp (g:Gts):Prop where
 n0:1≤g.1.length
 n1:g.1.length≤128
 el:∀e∈g.1,zct e
 cy:ka g.1=g.2
 c1:g.2≤9600000
theorem Kf {l:List (Int×Int)} {n:Nat} {x:Int×Int} (h:l[n]?=some x):ka (l.take (n+1))=ka (l.take n)+x.2:=by
 unfold ka;rw [List.take_add_one,h];simp
theorem Ue {l:List (Int×Int)} (h:∀e∈l,zct e):(l.length:Int)≤ka l∧ka l≤9600000*l.length:=by
 unfold ka
 induction l with
 |nil=>simp
 |cons a l ih=>
  obtain ⟨_,_,h1,h2⟩:=h a (by simp)
  have:=ih fun e he=>h e (by simp [he])
  simp only [List.map_cons,List.sum_cons,List.length_cons]
  omega
theorem zBg {g:Gts} (n1:g.1.length≤128) {α:Type} {z bad:α} {B:((α×(Int×(Int×Unit)))×Unit)→Option ((Nat×((α×(Int×(Int×Unit)))×Unit)) ⊕ ((α×(Int×(Int×Unit)))×Unit))}
  (hB
    : B=fun s1=>bif (zr (s1.1.2.2.1) ((((g.1).length:Nat):Int))) then opt (atI (g.1) (s1.1.2.2.1)) fun x2=>
    opt (bif (zr (x2.1) (0)) then some (1,((bad,()),()))
     else bif (zr (255) (x2.1)) then some (1,((bad,()),()))
      else bif (zr (x2.2) (1)) then some (1,((bad,()),()))
       else bif (zr (9600000) (x2.2)) then some (1,((bad,()),()))
        else some (0,((s1.1.1,()),()))) fun x3=>
    bif (Nat.beq x3.1 0) then some (.inr ((x3.2.1.1,((wrF .i64 ((s1.1.2.1+x2.2))),((wrF .i64 ((s1.1.2.2.1+1))),()))),()))
    else some (.inl (1,((x3.2.1.1,(s1.1.2.1,(s1.1.2.2.1,()))),())))
   else some (.inl (0,((s1.1.1,(s1.1.2.1,(s1.1.2.2.1,()))),())))) :
  qB (qb B qw ((z,(0,(0,()))),())) fun x=>(x.1=0∧x.2.1.1=z∧x.2.1.2.1=ka g.1∧∀e∈g.1,zct e)∨(x.1=1∧x.2.1.1=bad∧¬∀e∈g.1,zct e):=by
 subst hB
 refine qG g.1.length (fun i s=>s=((z,(ka (g.1.take i),((i:Int),()))),())∧∀e∈g.1.take i,zct e) (by omega) ⟨rfl,fun e he=>by simp at he⟩ ?_ ?_
 ·rintro i _ hi ⟨rfl,hp⟩
  have hx:g.1[i]?=some g.1[i]:=List.getElem?_eq_getElem hi
  have hm:=List.getElem_mem hi
  generalize g.1[i]=e at hx hm
  refine zi (qD (show (i:Int) < (g.1.length:Int) by omega)) (zn (qh (n:=i) hx ?_))
  refine zq (J:=fun x=>(x.1=0∧x.2.1.1=z∧zct e)∨(x.1=1∧x.2.1.1=bad∧¬zct e)) ?_ ?_
  ·refine zt (fun h=>zd (.inr ⟨rfl,rfl,fun hs=>?_⟩)) fun h1=>zt (fun h=>zd (.inr ⟨rfl,rfl,fun hs=>?_⟩)) fun h2=>zt (fun h=>zd (.inr ⟨rfl,rfl,fun hs=>?_⟩)) fun h3=>zt (fun h=>zd (.inr ⟨rfl,rfl,fun hs=>?_⟩)) fun h4=>zd (.inl ⟨rfl,rfl,?_⟩)
   ·have:=yn h;have:=hs.1;omega
   ·have:=yn h;have:=hs.2.1;omega
   ·have:=yn h;have:=hs.2.2.1;omega
   ·have:=yn h;have:=hs.2.2.2;omega
   ·exact ⟨wA h1,wA h2,wA h3,wA h4⟩
  ·rintro ⟨j,⟨v,⟨⟩⟩,⟨⟩⟩ (⟨rfl,rfl,he⟩ | ⟨rfl,rfl,he⟩)
   ·have hb:=Ue hp
    have hl:(g.1.take i).length=i:=by simp;omega
    have e1:wrF .i64 (ka (g.1.take i)+e.2)=ka (g.1.take (i+1)):=by
     rw [Kf hx,qR]<;>(have:=he.2.2.1;have:=he.2.2.2;omega)
    refine zi rfl (zd (ji ⟨?_,fun e' he'=>?_⟩))
    ·rw [←e1,←qX (by omega)]
    ·rw [List.take_add_one,hx] at he'
     simp only [Option.toList,List.mem_append,List.mem_singleton] at he'
     rcases he' with h | rfl
     ·exact hp e' h
     ·exact he
   ·exact zg rfl (zd (zE (.inr ⟨rfl,rfl,fun h=>he (h e hm)⟩)))
 ·rintro _ ⟨rfl,hp⟩
  refine zg (qm (show ¬(g.1.length:Int) < (g.1.length:Int) by omega)) (zd (zE (.inl ⟨rfl,rfl,?_,?_⟩)))
  ·show ka (g.1.take g.1.length)=_
   rw [List.take_length]
  ·rw [List.take_length] at hp;exact hp
theorem zcu (g:Gts):xW (g,())=some (bif tv (yp g) then 0 else 370,()):=by
 have bad:∀{v:Int},¬yp g→v=370→v=bif tv (yp g) then 0 else 370:=fun h e=>by rw [qo h,e];rfl
 rw [zqi];unfold zeL
 refine kV (zq (J:=fun x=>(x.1=0∧x.2.1.1=0∧1≤g.1.length∧g.1.length≤128)∨(x.1=1∧x.2.1.1=370∧¬yp g)) ?_ ?_)
 ·refine zt (fun h=>zd (.inr ⟨rfl,rfl,fun hs=>?_⟩)) fun h1=>zt (fun h=>zd (.inr ⟨rfl,rfl,fun hs=>?_⟩)) fun h2=>zd (.inl ⟨rfl,rfl,?_⟩)
  ·have:=yn h;have:=hs.n0;omega
  ·have:=yn h;have:=hs.n1;omega
  ·have:=wA h1;have:=wA h2;omega
 rintro ⟨j,⟨v,⟨⟩⟩,⟨⟩⟩ (⟨rfl,rfl,n0,n1⟩ | ⟨rfl,rfl,hq⟩)
 rotate_left
 ·exact zg rfl (zd (bad hq rfl))
 refine zi rfl (zq (zBg n1 rfl) ?_)
 rintro ⟨j,⟨v,w,z,⟨⟩⟩,⟨⟩⟩ (⟨rfl,rfl,rfl,he⟩ | ⟨rfl,rfl,he⟩)
 rotate_left
 ·exact zg rfl (zd (bad (fun h=>he h.el) rfl))
 refine zi rfl (zq (J:=fun x=>(x.1=0∧yp g)∨(x.1=1∧x.2.1.1=370∧¬yp g)) ?_ ?_)
 ·refine zt (fun h=>zd (.inr ⟨rfl,rfl,fun hs=>?_⟩)) fun h1=>zt (fun h=>zd (.inr ⟨rfl,rfl,fun hs=>?_⟩)) fun h2=>zd (.inl ⟨rfl,n0,n1,he,jJ (by simpa using h1),?_⟩)
  ·rw [yJ hs.cy] at h;cases h
  ·have:=yn h;have:=hs.c1;have:=hs.cy;simp only at *;omega
  ·have:=wA h2
   have:ka g.1=g.2:=jJ (by simpa using h1)
   simp only at *;omega
 ·rintro ⟨j,⟨v,⟨⟩⟩,⟨⟩⟩ (⟨rfl,hq⟩ | ⟨rfl,rfl,hq⟩)
  ·rw [zO hq];exact zi rfl (zd rfl)
  ·exact zg rfl (zd (bad hq rfl))
abbrev Fab:=qZ×(Int×Int×Int×Int)×List Gts×Int
def zsB (n:Fab):Prop:=∀g∈n.2.2.1,yp g
def zjM (n:Fab):Prop:=(n.2.2.1.length:Int)=2*(n.1.2.2.length:Int)∧84≤n.2.2.2∧n.2.2.2≤1542
noncomputable def Gk (n:Fab):Int:=bif tv (vT n.1) then bif tv (Gj n.2.1) then bif tv (zsB n) then bif tv (zjM n) then 0 else 410 else 370 else 320 else 260
structure znN (n:Fab):Prop where
 t:vT n.1
 u:Gj n.2.1
 g:zsB n
 f:zjM n
theorem zCI {n:Fab} (h:Gk n=0):znN n:=by
 unfold Gk at h
 by_cases h1:vT n.1
 ·by_cases h2:Gj n.2.1
  ·by_cases h3:zsB n
   ·by_cases h4:zjM n
    ·exact ⟨h1,h2,h3,h4⟩
    ·rw [zO h1,zO h2,zO h3,qo h4] at h;cases h
   ·rw [zO h1,zO h2,qo h3] at h;cases h
  ·rw [zO h1,qo h2] at h;cases h
 ·rw [qo h1] at h;cases h
theorem zHm {n:Fab} (h:znN n):Gk n=0:=by unfold Gk;rw [zO h.t,zO h.u,zO h.g,zO h.f];rfl
theorem zBh {n:Fab} (hl:n.1.2.2.length≤24):qB (bif (!(zj ((((n.2.2.1).length:Nat):Int)) ((wrF .i64 ((2*(((n.1.2.2).length:Nat):Int))))))) then some ((1:Nat),(((410:Int),()),()))
     else bif (zr (n.2.2.2) (84)) then some (1,((410,()),()))
      else bif (zr (1542) (n.2.2.2)) then some (1,((410,()),()))
       else some (0,((0,()),()))) fun x=>(x.1=0∧x.2.1.1=0∧zjM n)∨(x.1=1∧x.2.1.1=410∧¬zjM n):=by
 rw [tw n.1 (by omega)]
 refine zt (fun h=>zd (.inr ⟨rfl,rfl,fun hs=>?_⟩)) fun h1=>zt (fun h=>zd (.inr ⟨rfl,rfl,fun hs=>?_⟩)) fun h2=>zt (fun h=>zd (.inr ⟨rfl,rfl,fun hs=>?_⟩)) fun h3=>zd (.inl ⟨rfl,rfl,?_⟩)
 ·rw [yJ hs.1] at h;cases h
 ·have:=yn h;have:=hs.2.1;omega
 ·have:=yn h;have:=hs.2.2;omega
 ·exact ⟨jJ (by simpa using h1),wA h2,wA h3⟩
theorem VG {n:Fab} (hn:n.2.2.1.length≤1000000000000000000):xe (n,())=some (Gk n,()):=by
 rw [ziF];unfold Uk Gk
 simp only [Wq,zK]
 by_cases ht:vT n.1
 rotate_left
 ·rw [qo ht];rfl
 rw [zO ht]
 simp only [cond_true,zjL,zK]
 rw [show (!zj 0 0)=false from rfl,cond_false]
 by_cases hu:Gj n.2.1
 rotate_left
 ·rw [qo hu];rfl
 rw [zO hu]
 simp only [cond_true]
 rw [show (!zj 0 0)=false from rfl,cond_false]
 refine kV (zq (J:=fun x=>(x.1=0∧x.2.1.1=0∧zsB n)∨(x.1=1∧x.2.1.1=370∧¬zsB n)) (uG n.2.2.1.length (fun i=>∀g,n.2.2.1[i]?=some g→yp g) hn ?_ ?_) ?_)
 ·intro i hi hp
  have hx:n.2.2.1[i]?=some n.2.2.1[i]:=List.getElem?_eq_getElem hi
  have hm:=List.getElem_mem hi
  generalize n.2.2.1[i]=g at hx hm
  refine zi (qD (show (i:Int) < (n.2.2.1.length:Int) by omega)) (zn (qh (n:=i) hx ?_))
  rw [zcu,zK]
  by_cases hg:yp g
  ·rw [zO hg]
   exact zg rfl (zd (Zc (by omega) fun r' hr'=>by rw [hx] at hr';cases hr';exact hg))
  ·rw [qo hg]
   exact zi rfl (zd (zE (.inr ⟨rfl,rfl,fun hq=>hg (hq g hm)⟩)))
 ·intro hp
  refine zg (qm (show ¬(n.2.2.1.length:Int) < (n.2.2.1.length:Int) by omega)) (zd (zE (.inl ⟨rfl,rfl,fun r hr=>?_⟩)))
  obtain ⟨k,hk,hk2⟩:=QE hr
  exact hp k hk r hk2
 ·rintro ⟨j,⟨v,w,⟨⟩⟩,⟨⟩⟩ (⟨rfl,rfl,hq⟩ | ⟨rfl,rfl,hq⟩)
  ·rw [zO hq]
   refine zi rfl (zq (zBh ht.sz.ls) ?_)
   rintro ⟨j,⟨v,⟨⟩⟩,⟨⟩⟩ (⟨rfl,rfl,hf⟩ | ⟨rfl,rfl,hf⟩)
   ·rw [zO hf];exact zi rfl (zd rfl)
   ·rw [qo hf];exact zg rfl (zd rfl)
  ·rw [qo hq];exact zg rfl (zd rfl)
def opn (m:Int):Bool:=m / 64 % 2 == 1
theorem zIf {m:Int}:yu .i64 m 6=m / 64:=by
 show m.fdiv (2 ^ (min (6:Int).toNat 64))=m / 64
 rw [show (2:Int) ^ (min (6:Int).toNat 64)=64 from rfl]
 exact Int.fdiv_eq_ediv_of_nonneg m (by omega)
theorem vG {e:Int×Int} (h:zct e):vK (e,())=some (opn e.1,()):=by
 rw [zcV];unfold Kw opn
 rw [zIf]
 have h0:=h.1;have h1:=h.2.1
 have:e.1 / 64=0∨e.1 / 64=1∨e.1 / 64=2∨e.1 / 64=3:=by omega
 rcases this with h | h | h | h<;>rw [h]<;>rfl
def opA:List (Int×Int)→Int→Bool
 |[],_=>false
 |e::l,r=>if r < e.2 then opn e.1 else opA l (r - e.2)
def opT (g:Gts) (t:Int):Bool:=opA g.1 (t % g.2)
theorem zCJ:∀(l:List (Int×Int)),(∀e∈l,zct e)→∀(i:Nat) (e:Int×Int) (r:Int),l[i]?=some e→ka (l.take i)≤r→r < ka (l.take i)+e.2→opA l r=opn e.1
 |[],_,i,e,r,h,_,_=>by simp at h
 |a::l,hl,0,e,r,h,h1,h2=>by
  simp at h;subst h
  simp [ka] at h1 h2
  unfold opA;rw [if_pos h2]
 |a::l,hl,i+1,e,r,h,h1,h2=>by
  have h':l[i]?=some e:=by simpa using h
  have hh:=Ue (l:=l.take i) fun e he=>hl e (by simp [List.mem_of_mem_take he])
  have ea:ka ((a::l).take (i+1))=a.2+ka (l.take i):=by simp [ka]
  rw [ea] at h1 h2
  unfold opA
  rw [if_neg (by omega)]
  exact zCJ l (fun e he=>hl e (by simp [he])) i e (r - a.2) h' (by omega) (by omega)
theorem zGf (g:Gts) (t:Int):opT g (t+g.2)=opT g t:=by unfold opT;rw [Int.add_emod_right]
theorem zey {l:List (Int×Int)} (h:∀e∈l,zct e) {i k:Nat} (hk:i≤k):ka (l.take i)≤ka (l.take k):=by
 obtain ⟨d,rfl⟩:∃d,k=i+d:=⟨k - i,by omega⟩
 induction d with
 |zero=>exact Int.le_refl _
 |succ d ih=>
  have:=ih (by omega)
  rcases Nat.lt_or_ge (i+d) l.length with h2 | h2
  ·have hx:l[i+d]?=some l[i+d]:=List.getElem?_eq_getElem h2
   have:=Kf hx
   have:=(h _ (List.getElem_mem h2)).2.2.1
   rw [show i+(d+1)=i+d+1 from rfl];omega
  ·rw [List.take_of_length_le (by omega:l.length≤i+(d+1)),←List.take_of_length_le (l:=l) (by omega:l.length≤i+d)]
   rw [List.take_of_length_le (l:=l) (by omega:l.length≤i+d)] at this ⊢
   exact this
theorem zdC (l:List (Int×Int)):ka (l.take l.length)=ka l:=by rw [List.take_length]
theorem yp.pos {g:Gts} (h:yp g):1≤g.2:=by
 have:=(Ue h.el).1;have:=h.cy;have:=h.n0;omega
def tAt (g:Gts) (k:Nat):Int:=((k / g.1.length:Nat):Int)*g.2+ka (g.1.take (k % g.1.length))
theorem zyf {g:Gts} {k:Nat} (h:k < g.1.length):tAt g k=ka (g.1.take k):=by
 unfold tAt;rw [Nat.div_eq_of_lt h,Nat.mod_eq_of_lt h];simp
theorem zzN {g:Gts} (hg:yp g) (k:Nat):tAt g (k+g.1.length)=tAt g k+g.2:=by
 have:=hg.n0
 unfold tAt
 rw [Nat.add_div_right _ (by omega),Nat.add_mod_right,Int.natCast_succ,Int.add_mul];omega
theorem zhb {g:Gts} (hg:yp g) {k:Nat} {e:Int×Int} (h:g.1[k % g.1.length]?=some e):tAt g (k+1)=tAt g k+e.2:=by
 have h0:=hg.n0
 have hm:k % g.1.length < g.1.length:=Nat.mod_lt _ (by omega)
 have hk:=Nat.div_add_mod k g.1.length
 have hs:=Kf h
 unfold tAt
 rcases Nat.lt_or_ge (k % g.1.length+1) g.1.length with h1 | h1
 ·have e1:(k+1) % g.1.length=k % g.1.length+1:=by
   rw [Nat.add_mod,Nat.mod_eq_of_lt (show 1 < g.1.length by omega),Nat.mod_eq_of_lt h1]
  have e2:(k+1) / g.1.length=k / g.1.length:=by
   have a:=Nat.div_add_mod (k+1) g.1.length
   rw [e1] at a
   have b:g.1.length*((k+1) / g.1.length)=g.1.length*(k / g.1.length):=by omega
   exact Nat.eq_of_mul_eq_mul_left (by omega) b
  rw [e1,e2,hs];omega
 ·have h2:k % g.1.length+1=g.1.length:=by omega
  have e3:k+1=(k / g.1.length+1)*g.1.length:=by
   rw [Nat.add_mul,Nat.mul_comm];omega
  have e1:(k+1) % g.1.length=0:=by rw [e3];exact Nat.mul_mod_left _ _
  have e2:(k+1) / g.1.length=k / g.1.length+1:=by rw [e3];exact Nat.mul_div_left _ (by omega)
  rw [h2,zdC,hg.cy] at hs
  rw [e1,e2,Int.natCast_succ,Int.add_mul]
  simp only [List.take_zero]
  have:ka []=0:=rfl
  omega
theorem zyg {g:Gts} (hg:yp g) {k:Nat} {e:Int×Int} (h:g.1[k % g.1.length]?=some e) {t:Int} (h1:tAt g k≤t) (h2:t < tAt g k+e.2):opT g t=opn e.1:=by
 have h0:=hg.n0
 have hm:k % g.1.length < g.1.length:=Nat.mod_lt _ (by omega)
 have hs:=Kf h
 have hb:=Ue (l:=g.1.take (k % g.1.length)) fun e he=>hg.el e (List.mem_of_mem_take he)
 have hle:=zey hg.el (show k % g.1.length+1≤g.1.length by omega)
 rw [zdC,hg.cy] at hle
 unfold tAt at h1 h2
 have hr:t % g.2=t - ((k / g.1.length:Nat):Int)*g.2:=by
  have:t=(t - ((k / g.1.length:Nat):Int)*g.2)+((k / g.1.length:Nat):Int)*g.2:=by omega
  rw [this,Int.add_mul_emod_self_right,Int.emod_eq_of_lt (by omega) (by omega)];omega
 unfold opT
 exact zCJ g.1 hg.el (k % g.1.length) e _ h (by omega) (by omega)
def zcv (l:List (Int×Int)):Prop:=∀e∈l,opn e.1=true
theorem zHU {e:Int×Int} (h:zct e):zj (gP .and .i64 (yu .i64 e.1 6) 1) 1=opn e.1:=by
 have:=vG h
 rw [zcV] at this
 unfold Kw at this
 exact congrArg (·.1) (Option.some.inj this)
theorem zuf {g:Gts} (hg:yp g) {e:Int×Int} (h:g.1[0]?=some e):Vl (g,0,())=some (0,e.2,()):=by
 have hp:=hg.pos;have hc:=hg.c1
 have he:=hg.el e (List.mem_of_getElem? h)
 have h2:=he.2.2.1;have h3:=he.2.2.2
 rw [zr9];unfold zgL
 rw [jx (show g.2≠0 by omega),cond_false,cond_false,show atI g.1 0=some e from Ql (n:=0) h]
 simp only [zK]
 rw [show Int.tmod 0 g.2=0 from Int.zero_tmod _,show wrF .i64 (0+g.2)=g.2 from by rw [qR]<;>omega,show Int.tmod g.2 g.2=0 from Int.tmod_self]
 rw [qD (show (0:Int) < e.2 by omega),show wrF .i64 (e.2 - 0)=e.2 from by rw [qR]<;>omega]
 rfl
theorem zug {g:Gts} (hg:yp g):qB (Vo (g,6,0,())) fun r=>(r.1=1099511627776∧zcv g.1)∨(r.1 < 1099511627776∧¬zcv g.1):=by
 have h0:=hg.n0;have h1:=hg.n1;have hp:=hg.pos;have hc:=hg.c1
 have hx0:g.1[0]?=some g.1[0]:=List.getElem?_eq_getElem (by omega)
 generalize g.1[0]=e0 at hx0
 rw [zsb];unfold zgM
 rw [zuf hg hx0,zK]
 have ew:wrF .i64 ((g.1.length:Int)+1)=(g.1.length:Int)+1:=qR (by omega) (by omega)
 rw [ew]
 refine zq (J:=fun x=>(x.1=0∧x.2.1.2.1=g∧zcv g.1)∨(x.1=1∧x.2.1.2.2.1 < g.2∧¬zcv g.1))
  (qG (g.1.length+1) (fun i s=>∃e,g.1[i % g.1.length]?=some e∧s=((6,(g,(0,(tAt g i,(((i % g.1.length:Nat):Int),(e.2,((i:Int),()))))))),())∧∀(k:Nat),k < i→∀e',g.1[k % g.1.length]?=some e'→opn e'.1=true) (by omega)
   ⟨e0,by rw [Nat.zero_mod];exact hx0,by rw [zyf (by omega),Nat.zero_mod];rfl,fun k hk=>by omega⟩ ?_ ?_) ?_
 ·rintro i _ hi ⟨e,he,rfl,hp'⟩
  have hm:i % g.1.length < g.1.length:=Nat.mod_lt _ (by omega)
  have hen:=hg.el e (List.mem_of_getElem? he)
  have hts:=zhb hg he
  have htb:0≤tAt g i∧tAt g i≤2*9600000:=by
   unfold tAt
   have hb:=Ue (l:=g.1.take (i % g.1.length)) fun e he=>hg.el e (List.mem_of_mem_take he)
   have hle:=zey hg.el (show i % g.1.length≤g.1.length by omega)
   rw [zdC,hg.cy] at hle
   have hd:i / g.1.length≤1:=by
    have:i / g.1.length < 2:=Nat.div_lt_of_lt_mul (by omega)
    omega
   have:((i / g.1.length:Nat):Int)*g.2≤1*g.2:=Int.mul_le_mul_of_nonneg_right (by omega) (by omega)
   have:0≤((i / g.1.length:Nat):Int)*g.2:=Int.mul_nonneg (Int.natCast_nonneg _) (by omega)
   omega
  refine zi (qD (show (i:Int) < (g.1.length:Int)+1 by omega)) (zn (qh (n:=i % g.1.length) he ?_))
  refine zg rfl ?_
  have hb:=zHU hen
  refine zt (fun h=>?_) (fun h=>?_)
  ·have h':(!zj (gP .and .i64 (yu .i64 e.1 6) 1) 1)=true:=h
   rw [hb] at h'
   refine zd (zE (.inr ⟨rfl,?_,fun ha=>?_⟩))
   ·show tAt g i < g.2
    rcases Nat.lt_or_ge i g.1.length with hi2 | hi2
    ·rw [zyf hi2]
     have hle:=zey hg.el (show i+1≤g.1.length by omega)
     rw [zdC,hg.cy] at hle
     rw [Nat.mod_eq_of_lt hi2] at he
     rw [Kf he] at hle
     have:=hen.2.2.1;omega
    ·exfalso
     have hi3:i=g.1.length:=by omega
     rw [hi3,Nat.mod_self] at he
     have:=hp' 0 (by omega) e (by rw [Nat.zero_mod];exact he)
     rw [this] at h';cases h'
   ·rw [ha e (List.mem_of_getElem? he)] at h';cases h'
  ·have h':(!zj (gP .and .i64 (yu .i64 e.1 6) 1) 1)=false:=h
   rw [hb] at h'
   have hop:opn e.1=true:=by simpa using h'
   refine zg (jx (show (g.1.length:Int)≠0 by omega)) ?_
   have e1:Int.tmod (wrF .i64 (((i % g.1.length:Nat):Int)+1)) (g.1.length:Int)=(((i+1) % g.1.length:Nat):Int):=by
    rw [qX (by omega),Int.tmod_eq_emod_of_nonneg (by omega),←Int.natCast_emod,Nat.mod_add_mod]
   have hm2:(i+1) % g.1.length < g.1.length:=Nat.mod_lt _ (by omega)
   have hx2:g.1[(i+1) % g.1.length]?=some (g.1[(i+1) % g.1.length]'hm2):=List.getElem?_eq_getElem hm2
   refine zn (qF (a:=g.1[(i+1) % g.1.length]'hm2) (by show atI g.1 (Int.tmod (wrF .i64 (((i % g.1.length:Nat):Int)+1)) (g.1.length:Int))=_;rw [e1];exact Ql hx2) ?_)
   refine zd (ji ⟨_,hx2,?_,fun k hk e' he'=>?_⟩)
   ·show ((6,(g,(0,((wrF .i64 (tAt g i+e.2)),((Int.tmod (wrF .i64 (((i % g.1.length:Nat):Int)+1)) (g.1.length:Int)),(_,((wrF .i64 ((i:Int)+1)),()))))))),())=_
    rw [e1,qX (by omega),hts,qR (by have:=hen.2.2.1;omega) (by have:=hen.2.2.2;omega)]
   ·rcases Nat.lt_or_ge k i with hki | hki
    ·exact hp' k hki e' he'
    ·have:k=i:=by omega
     subst this
     rw [he] at he';cases he'
     exact hop
 ·rintro _ ⟨e,he,rfl,hp'⟩
  refine zg (qm (show ¬((g.1.length+1:Nat):Int) < (g.1.length:Int)+1 by omega)) (zd (zE (.inl ⟨rfl,rfl,fun e' he'=>?_⟩)))
  obtain ⟨k,hk,hk2⟩:=QE he'
  exact hp' k (by omega) e' (by rw [Nat.mod_eq_of_lt hk];exact hk2)
 ·rintro ⟨j,⟨c,q,r,n,i,l,k,⟨⟩⟩,⟨⟩⟩ (⟨rfl,hq,ha⟩ | ⟨rfl,hq,ha⟩)
  ·simp only at hq
   subst hq
   exact zi rfl (zi (yJ rfl) (zd (.inl ⟨rfl,ha⟩)))
  ·simp only at hq
   refine zg rfl (zg (jx (show r≠g.2 by omega)) (zd (.inr ⟨?_,ha⟩)))
   show r < _
   omega
theorem zez {g:Gts} (hg:yp g):Qu (g,())=some (tv (zcv g.1),()):=by
 rw [zlW];unfold zaZ
 refine Wp ?_
 have e1:Yw (g,6,0,0,())=some (0,()):=by
  rw [zqs];unfold zeP
  rw [zcu,zO hg];rfl
 obtain ⟨⟨v,⟨⟩⟩,e2,hv⟩:=zug hg
 have e3:Vr (g,6,0,())=some (v,0,()):=by
  rw [zsd];unfold zgN
  rw [e1,e2];rfl
 rw [e3]
 refine zd ?_
 rcases hv with ⟨h1,h2⟩ | ⟨h1,h2⟩
 ·exact ⟨fun _=>h2,fun _=>yJ h1⟩
 ·exact ⟨fun h=>by have:=jJ h;simp only at h1 this;omega,fun h=>absurd h h2⟩
structure Cov (o:Int→Bool) (a b:Int) (l:List (Int×Int)):Prop where
 bd:∀p∈l,a≤p.1∧p.1 < p.2∧p.2≤b
 pw:l.Pairwise fun p q=>p.2 < q.1
 iff:∀t,a≤t→t < b→(o t=true↔∃p∈l,p.1≤t∧t < p.2)
theorem zyh {o:Int→Bool} {a b:Int} {p:Int×Int} {l:List (Int×Int)} (h:Cov o a b (p::l)):Cov o p.2 b l:=by
 have hp:=h.bd p (by simp)
 have hpw:=List.pairwise_cons.1 h.pw
 refine ⟨fun q hq=>?_,hpw.2,fun t h1 h2=>?_⟩
 ·have:=h.bd q (by simp [hq]);have:=hpw.1 q hq;omega
 ·rw [h.iff t (by omega) h2]
  constructor
  ·rintro ⟨q,hq,h3,h4⟩
   rcases List.mem_cons.1 hq with rfl | hq
   ·omega
   ·exact ⟨q,hq,h3,h4⟩
  ·rintro ⟨q,hq,h3,h4⟩
   exact ⟨q,by simp [hq],h3,h4⟩
theorem zyi {o:Int→Bool}:∀{l m:List (Int×Int)} {a b:Int},Cov o a b l→Cov o a b m→l=m
 |[],[],_,_,_,_=>rfl
 |[],q::m,a,b,h,h'=>by
  have hq:=h'.bd q (by simp)
  have:=(h'.iff q.1 hq.1 (by omega)).2 ⟨q,by simp,by omega,hq.2.1⟩
  obtain ⟨p,hp,_⟩:=(h.iff q.1 hq.1 (by omega)).1 this
  cases hp
 |p::l,[],a,b,h,h'=>by
  have hq:=h.bd p (by simp)
  have:=(h.iff p.1 hq.1 (by omega)).2 ⟨p,by simp,by omega,hq.2.1⟩
  obtain ⟨p,hp,_⟩:=(h'.iff p.1 hq.1 (by omega)).1 this
  cases hp
 |p::l,q::m,a,b,h,h'=>by
  have hp:=h.bd p (by simp)
  have hq:=h'.bd q (by simp)
  have hpw:=List.pairwise_cons.1 h.pw
  have hqw:=List.pairwise_cons.1 h'.pw
  have e1:p.1=q.1:=by
   apply Classical.byContradiction
   intro hne
   rcases Int.lt_or_lt_of_ne hne with hlt | hlt
   ·have:=(h.iff p.1 hp.1 (by omega)).2 ⟨p,by simp,by omega,hp.2.1⟩
    obtain ⟨r,hr,h1,h2⟩:=(h'.iff p.1 hp.1 (by omega)).1 this
    rcases List.mem_cons.1 hr with rfl | hr
    ·omega
    ·have:=hqw.1 r hr;omega
   ·have:=(h'.iff q.1 hq.1 (by omega)).2 ⟨q,by simp,by omega,hq.2.1⟩
    obtain ⟨r,hr,h1,h2⟩:=(h.iff q.1 hq.1 (by omega)).1 this
    rcases List.mem_cons.1 hr with rfl | hr
    ·omega
    ·have:=hpw.1 r hr;omega
  have e2:p.2=q.2:=by
   apply Classical.byContradiction
   intro hne
   rcases Int.lt_or_lt_of_ne hne with hlt | hlt
   ·have:=(h'.iff p.2 (by omega) (by omega)).2 ⟨q,by simp,by omega,by omega⟩
    obtain ⟨r,hr,h1,h2⟩:=(h.iff p.2 (by omega) (by omega)).1 this
    rcases List.mem_cons.1 hr with rfl | hr
    ·omega
    ·have:=hpw.1 r hr;omega
   ·have:=(h.iff q.2 (by omega) (by omega)).2 ⟨p,by simp,by omega,by omega⟩
    obtain ⟨r,hr,h1,h2⟩:=(h'.iff q.2 (by omega) (by omega)).1 this
    rcases List.mem_cons.1 hr with rfl | hr
    ·omega
    ·have:=hqw.1 r hr;omega
  have e:p=q:=Prod.ext e1 e2
  subst e
  rw [zyi (zyh h) (zyh h')]
theorem zuh (o:Int→Bool) (a:Int):Cov o a a []:=⟨fun p h=>(by cases h),List.Pairwise.nil,fun t h1 h2=>by omega⟩
theorem zoH {o:Int→Bool} {a b c:Int} {l:List (Int×Int)} (h:Cov o a b l) (hb:b≤c) (hab:a≤b) (hg:∀t,b≤t→t < c→o t=false):Cov o a c l:=by
 refine ⟨fun p hp=>by have:=h.bd p hp;omega,h.pw,fun t h1 h2=>?_⟩
 rcases Int.lt_or_le t b with h3 | h3
 ·exact h.iff t h1 h3
 ·rw [hg t h3 h2]
  constructor
  ·intro h;cases h
  ·rintro ⟨p,hp,h4,h5⟩
   have:=h.bd p hp;omega
theorem zzO {o:Int→Bool} {a b c:Int} {l:List (Int×Int)} (h:Cov o a b l) (hb:b < c) (hab:a≤b) (hl:∀p∈l,p.2 < b) (hg:∀t,b≤t→t < c→o t=true):Cov o a c (l++[(b,c)]):=by
 refine ⟨fun p hp=>?_,?_,fun t h1 h2=>?_⟩
 ·rcases List.mem_append.1 hp with hp | hp
  ·have:=h.bd p hp;omega
  ·simp at hp;subst hp;simp only;omega
 ·rw [List.pairwise_append]
  refine ⟨h.pw,List.pairwise_singleton _ _,fun p hp q hq=>?_⟩
  simp at hq;subst hq
  exact hl p hp
 ·rcases Int.lt_or_le t b with h3 | h3
  ·rw [h.iff t h1 h3]
   constructor
   ·rintro ⟨p,hp,h4⟩;exact ⟨p,by simp [hp],h4⟩
   ·rintro ⟨p,hp,h4,h5⟩
    rcases List.mem_append.1 hp with hp | hp
    ·exact ⟨p,hp,h4,h5⟩
    ·simp at hp;subst hp;simp only at h4;omega
  ·rw [hg t h3 h2]
   exact ⟨fun _=>⟨(b,c),by simp,h3,h2⟩,fun _=>rfl⟩
theorem zEK {o:Int→Bool} {a b c x:Int} {l:List (Int×Int)} (h:Cov o a b (l++[(x,b)])) (hb:b≤c) (hg:∀t,b≤t→t < c→o t=true):Cov o a c (l++[(x,c)]):=by
 have hx:=h.bd (x,b) (by simp)
 simp only at hx
 have hpw:=List.pairwise_append.1 h.pw
 refine ⟨fun p hp=>?_,?_,fun t h1 h2=>?_⟩
 ·rcases List.mem_append.1 hp with hp | hp
  ·have:=h.bd p (by simp [hp]);omega
  ·simp at hp;subst hp;simp only;omega
 ·rw [List.pairwise_append]
  refine ⟨hpw.1,List.pairwise_singleton _ _,fun p hp q hq=>?_⟩
  simp at hq;subst hq
  exact hpw.2.2 p hp (x,b) (by simp)
 ·rcases Int.lt_or_le t b with h3 | h3
  ·rw [h.iff t h1 h3]
   constructor
   ·rintro ⟨p,hp,h4,h5⟩
    rcases List.mem_append.1 hp with hp | hp
    ·exact ⟨p,by simp [hp],h4,h5⟩
    ·simp at hp;subst hp;exact ⟨(x,c),by simp,h4,by simp only at h5 ⊢;omega⟩
   ·rintro ⟨p,hp,h4,h5⟩
    rcases List.mem_append.1 hp with hp | hp
    ·exact ⟨p,by simp [hp],h4,h5⟩
    ·simp at hp;subst hp;exact ⟨(x,b),by simp,h4,h3⟩
  ·rw [hg t h3 h2]
   exact ⟨fun _=>⟨(x,c),by simp,by simp only;omega,h2⟩,fun _=>rfl⟩
theorem zCK (o:Int→Bool) (a:Int):∀n:Nat,∃l,Cov o a (a+n) l∧((∃m x,l=m++[(x,a+n)])∨∀p∈l,p.2 < a+n)
 |0=>⟨[],by rw [show a+((0:Nat):Int)=a by omega];exact zuh o a,.inr fun p h=>by cases h⟩
 |n+1=>by
  obtain ⟨l,h,h2⟩:=zCK o a n
  have e:a+((n+1:Nat):Int)=a+n+1:=by omega
  rw [e]
  have one:∀(v:Bool),o (a+n)=v→∀t,a+n≤t→t < a+n+1→o t=v:=fun v hv t t1 t2=>by
   have:t=a+n:=by omega
   rw [this];exact hv
  cases ho:o (a+n) with
  |true=>
   rcases h2 with ⟨m,x,rfl⟩ | h2
   ·exact ⟨_,zEK h (by omega) (one true ho),.inl ⟨m,x,rfl⟩⟩
   ·exact ⟨_,zzO h (by omega) (by omega) h2 (one true ho),.inl ⟨l,_,rfl⟩⟩
  |false=>exact ⟨l,zoH h (by omega) (by omega) (one false ho),.inr fun p hp=>by have:=h.bd p hp;omega⟩
def uU (lost:Int) (l:List (Int×Int)):Int:=(l.map fun p=>max 0 (p.2 - p.1 - lost)).sum
theorem zf6 {lost:Int} (hl:0≤lost):∀{l:List (Int×Int)} {a b:Int},a≤b→(∀p∈l,a≤p.1∧p.1 < p.2∧p.2≤b)→l.Pairwise (fun p q=>p.2 < q.1)→0≤uU lost l∧uU lost l≤b - a∧(l.length:Int)≤b - a
 |[],a,b,hab,_,_=>by simp [uU];omega
 |p::l,a,b,hab,hb,hp=>by
  have h1:=hb p (by simp)
  have hpw:=List.pairwise_cons.1 hp
  have ih:=zf6 (lost:=lost) hl (l:=l) (a:=p.2) (b:=b) (by omega) (fun q hq=>by have:=hb q (by simp [hq]);have:=hpw.1 q hq;omega) hpw.2
  unfold uU at ih ⊢
  simp only [List.map_cons,List.sum_cons,List.length_cons]
  omega
theorem zGg {o:Int→Bool} {a a' b:Int} {l:List (Int×Int)} (h:Cov o a b l) (hb:a'≤a) (hg:∀t,a'≤t→t < a→o t=false):Cov o a' b l:=by
 refine ⟨fun p hp=>by have:=h.bd p hp;omega,h.pw,fun t h1 h2=>?_⟩
 rcases Int.lt_or_le t a with h3 | h3
 ·rw [hg t h1 h3]
  constructor
  ·intro h;cases h
  ·rintro ⟨p,hp,h4,h5⟩
   have:=h.bd p hp;omega
 ·exact h.iff t h3 h2
def clo:List (Int×Int)→Nat
 |[]=>0
 |e::l=>if opn e.1=true then clo l+1 else 0
theorem zsC:∀l,clo l≤l.length
 |[]=>Nat.le_refl _
 |e::l=>by unfold clo;have:=zsC l;split<;>simp<;>omega
theorem zkZ:∀(l:List (Int×Int)) (i:Nat) (e:Int×Int),i < clo l→l[i]?=some e→opn e.1=true
 |[],i,e,h,_=>by simp [clo] at h
 |a::l,0,e,h,h2=>by
  simp at h2;subst h2
  unfold clo at h
  split at h
  ·assumption
  ·omega
 |a::l,i+1,e,h,h2=>by
  unfold clo at h
  split at h
  ·exact zkZ l i e (by omega) (by simpa using h2)
  ·omega
theorem zqU:∀(l:List (Int×Int)) (e:Int×Int),l[clo l]?=some e→opn e.1=false
 |[],e,h=>by simp [clo] at h
 |a::l,e,h=>by
  unfold clo at h
  split at h
  ·exact zqU l e (by simpa using h)
  ·rename_i h2
   simp at h;subst h
   simpa using h2
theorem znO {l:List (Int×Int)} (h:¬zcv l):clo l < l.length:=by
 have:=zsC l
 apply Classical.byContradiction
 intro hn
 apply h
 intro e he
 obtain ⟨k,hk,hk2⟩:=QE he
 exact zkZ l k e (by omega) hk2
theorem zGh {l:List (Int×Int)} (h:zcv l):clo l=l.length:=by
 have:=zsC l
 apply Classical.byContradiction
 intro hn
 have hx:l[clo l]?=some (l[clo l]'(by omega)):=List.getElem?_eq_getElem (by omega)
 have:=zqU l _ hx
 rw [h _ (List.getElem_mem _)] at this
 cases this
def Inv (o:Int→Bool) (A at_:Int) (now:Int×Int) (L:List (Int×Int)):Prop:=
 A≤at_∧((now.2=0∧Cov o A at_ L∧∀p∈L,p.2 < at_)∨(0 < now.2∧now.1+now.2=at_∧A≤now.1∧Cov o A now.1 L∧(∀p∈L,p.2 < now.1)∧∀t,now.1≤t→t < at_→o t=true))
theorem zyj {o:Int→Bool} {A at_ d:Int} {now:Int×Int} {L:List (Int×Int)} (h:Inv o A at_ now L) (hd:0 < d) (ho:∀t,at_≤t→t < at_+d→o t=true):Inv o A (at_+d) (if now.2=0 then (at_,d) else (now.1,now.2+d)) L:=by
 obtain ⟨hA,h⟩:=h
 refine ⟨by omega,.inr ?_⟩
 rcases h with ⟨h1,h2,h3⟩ | ⟨h1,h2,h3,h4,h5,h6⟩
 ·rw [if_pos h1]
  exact ⟨hd,rfl,hA,h2,h3,ho⟩
 ·rw [if_neg (by omega)]
  refine ⟨by simp only;omega,by simp only;omega,h3,h4,h5,fun t t1 t2=>?_⟩
  simp only at t1
  rcases Int.lt_or_le t at_ with h7 | h7
  ·exact h6 t t1 h7
  ·exact ho t h7 t2
theorem zvi {o:Int→Bool} {A at_ d:Int} {now:Int×Int} {L:List (Int×Int)} (h:Inv o A at_ now L) (hd:0 < d) (hn:now.2=0) (ho:∀t,at_≤t→t < at_+d→o t=false):Inv o A (at_+d) (0,0) L:=by
 obtain ⟨hA,h⟩:=h
 refine ⟨by omega,.inl ⟨rfl,?_⟩⟩
 rcases h with ⟨h1,h2,h3⟩ | ⟨h1,h2,h3,h4,h5,h6⟩
 ·exact ⟨zoH h2 (by omega) hA ho,fun p hp=>by have:=h3 p hp;omega⟩
 ·omega
theorem zyk {o:Int→Bool} {A at_ d:Int} {now:Int×Int} {L:List (Int×Int)} (h:Inv o A at_ now L) (hd:0 < d) (hn:0 < now.2) (ho:∀t,at_≤t→t < at_+d→o t=false):Inv o A (at_+d) (0,0) (L++[(now.1,now.1+now.2)]):=by
 obtain ⟨hA,h⟩:=h
 refine ⟨by omega,.inl ⟨rfl,?_⟩⟩
 rcases h with ⟨h1,h2,h3⟩ | ⟨h1,h2,h3,h4,h5,h6⟩
 ·omega
 ·have:=zzO (c:=now.1+now.2) h4 (by omega) h3 h5 fun t t1 t2=>h6 t t1 (by omega)
  refine ⟨zoH this (by omega) (by omega) fun t t1 t2=>ho t (by omega) t2,fun p hp=>?_⟩
  rcases List.mem_append.1 hp with hp | hp
  ·have:=h5 p hp;omega
  ·simp at hp;subst hp;simp only;omega
def at0 (g:Gts):Int:=ka (g.1.take (clo g.1))
structure KR (g:Gts) (L:List (Int×Int)):Prop where
 cv:Cov (opT g) (at0 g) (at0 g+g.2) L
 gt:∀p∈L,at0 g < p.1
theorem zsD {g:Gts} (hg:yp g):0≤at0 g∧at0 g≤9600000:=by
 unfold at0
 have hb:=Ue (l:=g.1.take (clo g.1)) fun e he=>hg.el e (List.mem_of_mem_take he)
 have hle:=zey hg.el (zsC g.1)
 rw [zdC,hg.cy] at hle
 have:=hg.c1
 omega
theorem zoI {g:Gts} (hg:yp g) (ha:¬zcv g.1):∃e,g.1[clo g.1]?=some e∧opn e.1=false∧zct e∧tAt g (clo g.1)=at0 g:=by
 have hl:=znO ha
 have hx:g.1[clo g.1]?=some (g.1[clo g.1]):=List.getElem?_eq_getElem hl
 exact ⟨_,hx,zqU _ _ hx,hg.el _ (List.getElem_mem hl),zyf hl⟩
theorem zyl {g:Gts} (hg:yp g) (ha:¬zcv g.1) {L L':List (Int×Int)} (h:Cov (opT g) (tAt g (clo g.1+1)) (tAt g (clo g.1+1)+g.2) L) (hr:KR g L'):L'=L:=by
 obtain ⟨e,hx,he,hen,h0⟩:=zoI hg ha
 have hm:clo g.1 % g.1.length=clo g.1:=Nat.mod_eq_of_lt (znO ha)
 have hts:=zhb hg (k:=clo g.1) (e:=e) (by rw [hm];exact hx)
 have hd:=hen.2.2.1
 have hp:=hg.pos
 have hcl:∀t,at0 g≤t→t < at0 g+e.2→opT g t=false:=fun t t1 t2=>by
  rw [zyg hg (k:=clo g.1) (e:=e) (by rw [hm];exact hx) (by omega) (by omega)];exact he
 have c1:Cov (opT g) (at0 g) (at0 g+g.2+e.2) L':=zoH hr.cv (by omega) (by omega) fun t t1 t2=>by
  have:=zGf g (t - g.2)
  rw [Int.sub_add_cancel] at this
  rw [this];exact hcl _ (by omega) (by omega)
 have c2:Cov (opT g) (at0 g) (at0 g+g.2+e.2) L:=by
  rw [hts,h0] at h
  have:=zGg h (show at0 g≤at0 g+e.2 by omega) hcl
  rwa [show at0 g+e.2+g.2=at0 g+g.2+e.2 by omega] at this
 exact zyi c1 c2
theorem zEL {g:Gts} (hg:yp g) (ha:¬zcv g.1):∃L,KR g L:=by
 have hl:=znO ha
 obtain ⟨e,hx,he,hen,h0⟩:=zoI hg ha
 have h0b:=zsD hg
 have hc:=hg.c1;have hp:=hg.pos;have hn:=hg.n1
 obtain ⟨L,hcv,_⟩:=zCK (opT g) (at0 g) g.2.toNat
 rw [show at0 g+(g.2.toNat:Int)=at0 g+g.2 by omega] at hcv
 refine ⟨L,hcv,fun p hp'=>?_⟩
 have hb:=hcv.bd p hp'
 have hm:clo g.1 % g.1.length=clo g.1:=Nat.mod_eq_of_lt hl
 have hd:=hen.2.2.1
 rcases Int.lt_or_le (at0 g) p.1 with h | h
 ·exact h
 ·exfalso
  have e1:p.1=at0 g:=by omega
  have:=(hcv.iff p.1 hb.1 (by omega)).2 ⟨p,hp',by omega,hb.2.1⟩
  rw [zyg hg (k:=clo g.1) (e:=e) (by rw [hm];exact hx) (by omega) (by omega),he] at this
  cases this
theorem zsE {g:Gts} (hg:yp g) {k:Nat} (h:k≤4*g.1.length):0≤tAt g k∧tAt g k≤5*9600000:=by
 have h0:=hg.n0;have hp:=hg.pos;have hc:=hg.c1
 unfold tAt
 have hm:k % g.1.length < g.1.length:=Nat.mod_lt _ (by omega)
 have hb:=Ue (l:=g.1.take (k % g.1.length)) fun e he=>hg.el e (List.mem_of_mem_take he)
 have hle:=zey hg.el (show k % g.1.length≤g.1.length by omega)
 rw [zdC,hg.cy] at hle
 have hd:k / g.1.length≤4:=by
  have:k / g.1.length < 5:=Nat.div_lt_of_lt_mul (by omega)
  omega
 have h1:((k / g.1.length:Nat):Int)≤4:=by exact_mod_cast hd
 have:((k / g.1.length:Nat):Int)*g.2≤4*g.2:=Int.mul_le_mul_of_nonneg_right h1 (by omega)
 have:0≤((k / g.1.length:Nat):Int)*g.2:=Int.mul_nonneg (Int.natCast_nonneg _) (by omega)
 omega
theorem zzP {g:Gts} (hg:yp g) {c i:Nat} (hc:c < 1000000) (hi:i < 1000000):Int.tmod (wrF .i64 ((wrF .i64 ((c:Int)+1))+(i:Int))) (g.1.length:Int)=(((c+1+i) % g.1.length:Nat):Int):=by
 rw [qX (by omega),qR (by omega) (by omega),Int.tmod_eq_emod_of_nonneg (by omega),←Int.natCast_add,←Int.natCast_emod]
theorem zCL {g:Gts} (hg:yp g) (k:Nat):∃e,g.1[k % g.1.length]?=some e∧zct e∧tAt g (k+1)=tAt g k+e.2∧∀t,tAt g k≤t→t < tAt g k+e.2→opT g t=opn e.1:=by
 have h0:=hg.n0
 have hm:k % g.1.length < g.1.length:=Nat.mod_lt _ (by omega)
 have hx:g.1[k % g.1.length]?=some (g.1[k % g.1.length]):=List.getElem?_eq_getElem hm
 exact ⟨_,hx,hg.el _ (List.getElem_mem hm),zhb hg hx,fun t t1 t2=>zyg hg hx t1 t2⟩
theorem zCM {o:Int→Bool} {A at_:Int} {now:Int×Int} {L:List (Int×Int)} (h:Inv o A at_ now L) (hA:0≤A) (hat:at_≤5*9600000):0≤now.2∧now.2≤at_:=by
 obtain ⟨hA',h⟩:=h
 rcases h with ⟨h1,h2,h3⟩ | ⟨h1,h2,h3,h4,h5,h6⟩<;>omega
theorem zcW {g:Gts} (hg:yp g) (ha:¬zcv g.1) {L:List (Int×Int)} (hr:KR g L) {lost:Int} (l0:0≤lost) (l1:lost≤1000000000000):uZ (g,lost,())=some (uU lost L,()):=by
 have hl:=znO ha
 obtain ⟨e,hx,he,hen,h0⟩:=zoI hg ha
 have h0b:=zsD hg
 have hc:=hg.c1;have hp:=hg.pos;have hn:=hg.n1;have hn0:=hg.n0
 rw [zca];unfold XH
 simp only [zez hg,zK,qo ha,cond_false]
 refine kV (zq (J:=fun x=>x.2.1=(0,(at0 g,(((clo g.1:Nat):Int),())))) (qG (clo g.1) (fun i s=>s=((0,(ka (g.1.take i),((i:Int),()))),((),((),())))) (by omega) rfl ?_ ?_) ?_)
 ·rintro i _ hi rfl
  have hy:g.1[i]?=some g.1[i]:=List.getElem?_eq_getElem (by omega)
  have hm:=List.getElem_mem (show i < g.1.length by omega)
  generalize g.1[i]=f at hy hm
  have hf:=hg.el f hm
  have hb:=Ue (l:=g.1.take i) fun e he=>hg.el e (List.mem_of_mem_take he)
  have hbl:(g.1.take i).length≤128:=by simp;omega
  refine zi (qD (show (i:Int) < (g.1.length:Int) by omega)) (zn (qh (n:=i) hy ?_))
  rw [vG hf]
  refine zi (zkZ _ i f hi hy) (zn (qh (n:=i) hy (zd (ji ?_))))
  show ((0,((wrF .i64 (ka (g.1.take i)+f.2)),((wrF .i64 ((i:Int)+1)),()))),((),((),())))=_
  have:=hf.2.2.1;have:=hf.2.2.2
  rw [Kf hy,qX (by omega),qR (by omega) (by omega)]
 ·rintro _ rfl
  refine zi (qD (show ((clo g.1:Nat):Int) < (g.1.length:Int) by omega)) (zn (qh (n:=clo g.1) hx ?_))
  rw [vG hen]
  exact zg he (zd (zE rfl))
 rintro ⟨j,⟨v,w,z,⟨⟩⟩,⟨⟩,⟨⟩,⟨⟩⟩ hv
 simp only [Prod.mk.injEq,and_true] at hv
 obtain ⟨rfl,rfl,rfl⟩:=hv
 refine zg (jx (show ((clo g.1:Nat):Int)≠(g.1.length:Int) by omega)) (zn (qh (n:=clo g.1) hx ?_))
 have hm:clo g.1 % g.1.length=clo g.1:=Nat.mod_eq_of_lt hl
 have hts:=zhb hg (k:=clo g.1) (e:=e) (by rw [hm];exact hx)
 have hA:=zsE hg (k:=clo g.1+1) (by omega)
 refine zq (J:=fun x=>x.2.1.2.1=uU lost L) (qG g.1.length (fun i s=>∃now L',s=((now,(uU lost L',(tAt g (clo g.1+1+i),((i:Int),())))),((),((),())))∧Inv (opT g) (tAt g (clo g.1+1)) (tAt g (clo g.1+1+i)) now L'∧(∀f,0 < i→g.1[(clo g.1+i) % g.1.length]?=some f→opn f.1=false→now.2=0)) (by omega) ?_ ?_ ?_) ?_
 ·refine ⟨(0,0),[],?_,⟨Int.le_refl _,.inl ⟨rfl,zuh _ _,fun p hp=>(by cases hp)⟩⟩,fun f h=>by omega⟩
  show (((0,0),(0,((wrF .i64 (at0 g+e.2)),(0,())))),((),((),())))=_
  rw [Nat.add_zero,hts,h0,qR (by omega) (by have:=hen.2.2.2;omega)];rfl
 ·rintro i _ hi ⟨now,L',rfl,hinv,_⟩
  obtain ⟨f,hy,hf,hsu,hop⟩:=zCL hg (clo g.1+1+i)
  have hB:=zsE hg (k:=clo g.1+1+i) (by omega)
  have hnb:=zCM hinv hA.1 hB.2
  have hmm:(clo g.1+1+i) % g.1.length < g.1.length:=Nat.mod_lt _ (by omega)
  have f1:=hf.2.2.1;have f2:=hf.2.2.2
  refine zi (qD (show (i:Int) < (g.1.length:Int) by omega)) (zg (jx (show (g.1.length:Int)≠0 by omega)) ?_)
  refine zn (qF (a:=f) (by show atI g.1 (Int.tmod (wrF .i64 ((wrF .i64 (((clo g.1:Nat):Int)+1))+(i:Int))) (g.1.length:Int))=_;rw [zzP hg (by omega) (by omega)];exact Ql hy) ?_)
  rw [vG hf]
  have eat:wrF .i64 (tAt g (clo g.1+1+i)+f.2)=tAt g (clo g.1+1+(i+1)):=by
   rw [show clo g.1+1+(i+1)=clo g.1+1+i+1 from rfl,hsu,qR (by omega) (by omega)]
  have eup:wrF .i64 ((i:Int)+1)=((i+1:Nat):Int):=qX (by omega)
  have idx:∀f',0 < i+1→g.1[(clo g.1+(i+1)) % g.1.length]?=some f'→f'=f:=fun f' _ h=>by
   rw [show clo g.1+(i+1)=clo g.1+1+i by omega,hy] at h
   exact (Option.some.inj h).symm
  refine zt (fun ho=>?_) (fun ho=>?_)
  ·have ho:opn f.1=true:=ho
   rw [ho] at hop
   have hi2:=zyj hinv (show 0 < f.2 by omega) hop
   refine zq (J:=fun x=>x.2.1.1=if now.2=0 then (tAt g (clo g.1+1+i),0) else now) (zt (fun h=>?_) (fun h=>?_)) ?_
   ·have h:now.2=0:=jJ h
    refine zd ?_
    rw [if_pos h]
    show (tAt g (clo g.1+1+i),now.2)=_
    rw [h]
   ·have h:now.2≠0:=wH h
    exact zd (by rw [if_neg h])
   ·rintro ⟨j,⟨nw,⟨⟩⟩,⟨⟩,⟨⟩,⟨⟩⟩ hnw
    simp only at hnw
    subst hnw
    refine zd (ji ⟨_,L',?_,(by rw [←hsu] at hi2;exact hi2),fun f' h1 h2 h3=>?_⟩)
    ·show ((((if now.2=0 then (tAt g (clo g.1+1+i),0) else now).1,(wrF .i64 ((if now.2=0 then (tAt g (clo g.1+1+i),0) else now).2+f.2))),(uU lost L',((wrF .i64 (tAt g (clo g.1+1+i)+f.2)),((wrF .i64 ((i:Int)+1)),())))),((),((),())))=_
     rw [eat,eup]
     by_cases h:now.2=0
     ·rw [if_pos h,if_pos h]
      simp only
      rw [qR (by omega) (by omega),Int.zero_add]
     ·rw [if_neg h,if_neg h,qR (by omega) (by omega)]
    ·rw [idx f' h1 h2,ho] at h3;cases h3
  ·have ho:opn f.1=false:=ho
   rw [ho] at hop
   refine zt (fun h=>?_) (fun h=>?_)
   ·have h:0 < now.2:=yn h
    have hi2:=zyk hinv (show 0 < f.2 by omega) h hop
    have hgb:=zf6 (lost:=lost) l0 (l:=L'++[(now.1,now.1+now.2)]) (a:=tAt g (clo g.1+1)) (b:=tAt g (clo g.1+1+i)+f.2) hi2.1 (by
      rcases hi2.2 with ⟨_,hc,_⟩ | ⟨h',_⟩
      ·exact hc.bd
      ·simp at h') (by
      rcases hi2.2 with ⟨_,hc,_⟩ | ⟨h',_⟩
      ·exact hc.pw
      ·simp at h')
    have eg:uU lost (L'++[(now.1,now.1+now.2)])=uU lost L'+max 0 (now.2 - lost):=by
     unfold uU;simp only [List.map_append,List.sum_append,List.map_cons,List.map_nil,List.sum_cons,List.sum_nil]
     omega
    have hg1:=zf6 (lost:=lost) l0 (l:=L') (a:=tAt g (clo g.1+1)) (b:=tAt g (clo g.1+1+i)) hinv.1 (by
      rcases hinv.2 with ⟨_,hc,_⟩ | ⟨_,h',_,hc,_⟩
      ·exact hc.bd
      ·exact fun p hp=>by have:=hc.bd p hp;omega) (by
      rcases hinv.2 with ⟨_,hc,_⟩ | ⟨_,_,_,hc,_⟩
      ·exact hc.pw
      ·exact hc.pw)
    refine zd (ji ⟨(0,0),_,?_,(by rw [←hsu] at hi2;exact hi2),fun f' h1 h2 h3=>rfl⟩)
    show (((0,0),((wrF .i64 (uU lost L'+Yl 0 (wrF .i64 (now.2 - lost)))),((wrF .i64 (tAt g (clo g.1+1+i)+f.2)),((wrF .i64 ((i:Int)+1)),())))),((),((),())))=_
    rw [eat,eup,zjI,qR (z:=now.2 - lost) (by omega) (by omega),eg,qR (by omega) (by omega)]
   ·have h:now.2=0:=by have:now.2≤0:=wA h;omega
    have hi2:=zvi hinv (show 0 < f.2 by omega) h hop
    refine zd (ji ⟨(0,0),L',?_,(by rw [←hsu] at hi2;exact hi2),fun f' h1 h2 h3=>rfl⟩)
    show (((0,0),(uU lost L',((wrF .i64 (tAt g (clo g.1+1+i)+f.2)),((wrF .i64 ((i:Int)+1)),())))),((),((),())))=_
    rw [eat,eup]
 ·rintro _ ⟨now,L',rfl,hinv,hlast⟩
  refine zg (qm (show ¬(g.1.length:Int) < (g.1.length:Int) by omega)) (zd (zE ?_))
  have hz:=hlast e (by omega) (by rw [Nat.add_mod_right,hm];exact hx) he
  show uU lost L'=uU lost L
  rcases hinv.2 with ⟨_,hc,_⟩ | ⟨h',_⟩
  ·rw [zzN hg] at hc
   rw [zyl hg ha hc hr]
  ·omega
 ·rintro ⟨j,⟨nw,v,w,z,⟨⟩⟩,⟨⟩,⟨⟩,⟨⟩⟩ hv
  refine zt (fun _=>?_) (fun _=>?_)<;>exact zd hv
theorem zjN {g:Gts} (hg:yp g) (ha:zcv g.1) (lost:Int):uZ (g,lost,())=some (g.2,()):=by
 rw [zca];unfold XH
 simp only [zez hg,zK,zO ha,cond_true]
def bX (g:Gts) (L:List (Int×Int)) (q:Nat):Int:=((L[q % L.length]?).getD (0,0)).1+((q / L.length:Nat):Int)*g.2
def bY (g:Gts) (L:List (Int×Int)) (q:Nat):Int:=((L[q % L.length]?).getD (0,0)).2+((q / L.length:Nat):Int)*g.2
theorem zHV {L:List (Int×Int)} (h:0 < L.length) (q:Nat):∃p,L[q % L.length]?=some p∧p∈L∧∀g,bX g L q=p.1+((q / L.length:Nat):Int)*g.2∧bY g L q=p.2+((q / L.length:Nat):Int)*g.2:=by
 have hm:q % L.length < L.length:=Nat.mod_lt _ h
 have hx:L[q % L.length]?=some (L[q % L.length]):=List.getElem?_eq_getElem hm
 refine ⟨_,hx,List.getElem_mem hm,fun g=>?_⟩
 unfold bX bY
 rw [hx]
 exact ⟨rfl,rfl⟩
theorem zHW (g:Gts) {L:List (Int×Int)} (h:0 < L.length) (q:Nat):bX g L (q+L.length)=bX g L q+g.2∧bY g L (q+L.length)=bY g L q+g.2:=by
 unfold bX bY
 rw [Nat.add_mod_right,Nat.add_div_right _ h,Int.natCast_succ,Int.add_mul]
 omega
theorem zk0 {g:Gts} {L:List (Int×Int)} (hr:KR g L) (h:0 < L.length) (q:Nat):bX g L q < bY g L q∧at0 g+((q / L.length:Nat):Int)*g.2 < bX g L q∧bY g L q≤at0 g+((q / L.length:Nat):Int)*g.2+g.2:=by
 obtain ⟨p,hx,hp,he⟩:=zHV h q
 obtain ⟨e1,e2⟩:=he g
 have:=hr.cv.bd p hp
 have:=hr.gt p hp
 omega
theorem zBi {g:Gts} {L:List (Int×Int)} (hr:KR g L) (h:0 < L.length) (q:Nat):bY g L q < bX g L (q+1):=by
 rcases Nat.lt_or_ge (q % L.length+1) L.length with h1 | h1
 ·have e1:(q+1) % L.length=q % L.length+1:=by
   rw [Nat.add_mod,Nat.mod_eq_of_lt (show 1 < L.length by omega),Nat.mod_eq_of_lt h1]
  have e2:(q+1) / L.length=q / L.length:=by
   have a:=Nat.div_add_mod (q+1) L.length
   have a2:=Nat.div_add_mod q L.length
   rw [e1] at a
   have b:L.length*((q+1) / L.length)=L.length*(q / L.length):=by omega
   exact Nat.eq_of_mul_eq_mul_left (by omega) b
  have hx:L[q % L.length]?=some (L[q % L.length]'(by omega)):=List.getElem?_eq_getElem (by omega)
  have hy:L[q % L.length+1]?=some (L[q % L.length+1]'h1):=List.getElem?_eq_getElem h1
  have:=List.pairwise_iff_getElem.1 hr.cv.pw (q % L.length) (q % L.length+1) (by omega) h1 (by omega)
  unfold bX bY
  rw [e1,e2,hx,hy]
  simp only [Option.getD_some]
  omega
 ·have hm:=Nat.mod_lt q h
  have h2:q % L.length+1=L.length:=by omega
  have a2:=Nat.div_add_mod q L.length
  have e3:q+1=(q / L.length+1)*L.length:=by
   rw [Nat.add_mul,Nat.mul_comm];omega
  have e2:(q+1) / L.length=q / L.length+1:=by rw [e3];exact Nat.mul_div_left _ (by omega)
  have b1:=zk0 hr h q
  have b2:=zk0 hr h (q+1)
  rw [e2,Int.natCast_succ,Int.add_mul] at b2
  omega
theorem zIg {g:Gts} {L:List (Int×Int)} (hr:KR g L) (h:0 < L.length) {q r:Nat} (hq:q < r):bY g L q < bX g L r:=by
 obtain ⟨d,rfl⟩:∃d,r=q+1+d:=⟨r - q - 1,by omega⟩
 induction d with
 |zero=>exact zBi hr h q
 |succ d ih=>
  have:=ih (by omega)
  have:=zk0 hr h (q+1+d)
  have:=zBi hr h (q+1+d)
  rw [show q+1+(d+1)=q+1+d+1 from rfl]
  omega
def mn (g:Gts) (L:List (Int×Int)) (lost:Int) (q:Nat):Int:=min (bY g L q - bX g L q) lost
def fr (g:Gts) (L:List (Int×Int)) (lost:Int) (i:Nat):Int:=bY g L i - mn g L lost i
def tt (g:Gts) (L:List (Int×Int)) (lost:Int) (j:Nat):Int:=bX g L j+mn g L lost j
def wg (g:Gts) (L:List (Int×Int)) (lost:Int) (q:Nat):Int:=max 0 (bY g L q - bX g L q - lost)
def xV (g:Gts) (L:List (Int×Int)) (lost:Int) (i:Nat):Nat→Int
 |0=>0
 |k+1=>xV g L lost i k+wg g L lost (i+1+k)
theorem zEM {g:Gts} (hg:yp g) {L:List (Int×Int)} (hr:KR g L) (h:0 < L.length) {q:Nat} (hq:q < 2*L.length):0≤bX g L q∧bY g L q≤30000000:=by
 have x:=zk0 hr h q
 have h0b:=zsD hg;have hc:=hg.c1;have hp:=hg.pos
 have h1:q / L.length=0∨q / L.length=1:=by
  have:q / L.length < 2:=Nat.div_lt_of_lt_mul (by omega)
  exact Nat.le_one_iff_eq_zero_or_eq_one.1 (Nat.le_of_lt_succ this)
 rcases h1 with h1 | h1<;>rw [h1] at x<;>simp at x<;>omega
def mxK (c:Nat→Bool) (V:Nat→Int):Nat→Int→Int
 |0,a=>a
 |k+1,a=>bif c k then max (mxK c V k a) (V k) else mxK c V k a
def mxN (c:Nat→Nat→Bool) (V:Nat→Nat→Int) (K:Nat):Nat→Int→Int
 |0,a=>a
 |n+1,a=>mxK (c n) (V n) K (mxN c V K n a)
theorem zCN (c:Nat→Bool) (V:Nat→Int):∀(k:Nat) (a:Int),a≤mxK c V k a∧∀q,q < k→c q=true→V q≤mxK c V k a
 |0,a=>⟨Int.le_refl _,fun q hq=>by omega⟩
 |k+1,a=>by
  obtain ⟨h1,h2⟩:=zCN c V k a
  unfold mxK
  cases hc:c k with
  |true=>
   rw [cond_true]
   refine ⟨by omega,fun q hq hcq=>?_⟩
   rcases Nat.lt_or_ge q k with h | h
   ·have:=h2 q h hcq;omega
   ·have:q=k:=by omega
    subst this;omega
  |false=>
   rw [cond_false]
   refine ⟨h1,fun q hq hcq=>?_⟩
   rcases Nat.lt_or_ge q k with h | h
   ·exact h2 q h hcq
   ·have:q=k:=by omega
    subst this;rw [hc] at hcq;cases hcq
theorem zCO (c:Nat→Bool) (V:Nat→Int):∀(k:Nat) (a:Int),mxK c V k a=a∨∃q,q < k∧c q=true∧mxK c V k a=V q
 |0,a=>.inl rfl
 |k+1,a=>by
  have ih:=zCO c V k a
  unfold mxK
  cases hc:c k with
  |true=>
   rw [cond_true]
   rcases Int.le_total (V k) (mxK c V k a) with h | h
   ·rw [show max (mxK c V k a) (V k)=mxK c V k a by omega]
    rcases ih with h1 | ⟨q,h1,h2,h3⟩
    ·exact .inl h1
    ·exact .inr ⟨q,by omega,h2,h3⟩
   ·exact .inr ⟨k,by omega,hc,by omega⟩
  |false=>
   rw [cond_false]
   rcases ih with h1 | ⟨q,h1,h2,h3⟩
   ·exact .inl h1
   ·exact .inr ⟨q,by omega,h2,h3⟩
theorem zCP (c:Nat→Nat→Bool) (V:Nat→Nat→Int) (K:Nat):∀(n:Nat) (a:Int),a≤mxN c V K n a∧∀i q,i < n→q < K→c i q=true→V i q≤mxN c V K n a
 |0,a=>⟨Int.le_refl _,fun i q hi=>by omega⟩
 |n+1,a=>by
  obtain ⟨h1,h2⟩:=zCP c V K n a
  obtain ⟨h3,h4⟩:=zCN (c n) (V n) K (mxN c V K n a)
  unfold mxN
  refine ⟨by omega,fun i q hi hq hc=>?_⟩
  rcases Nat.lt_or_ge i n with h | h
  ·have:=h2 i q h hq hc;omega
  ·have:i=n:=by omega
   subst this;exact h4 q hq hc
theorem zCQ (c:Nat→Nat→Bool) (V:Nat→Nat→Int) (K:Nat):∀(n:Nat) (a:Int),mxN c V K n a=a∨∃i q,i < n∧q < K∧c i q=true∧mxN c V K n a=V i q
 |0,a=>.inl rfl
 |n+1,a=>by
  unfold mxN
  rcases zCO (c n) (V n) K (mxN c V K n a) with h | ⟨q,h1,h2,h3⟩
  ·rw [h]
   rcases zCQ c V K n a with h | ⟨i,q,h1,h2,h3,h4⟩
   ·exact .inl h
   ·exact .inr ⟨i,q,by omega,h2,h3,h4⟩
  ·exact .inr ⟨n,q,by omega,h1,h2,h3⟩
section
variable {g:Gts} {L:List (Int×Int)} {lost:Int}
theorem zCR (i a:Nat):∀b,xV g L lost i (a+b)=xV g L lost i a+xV g L lost (i+a) b
 |0=>by rw [Nat.add_zero];show _=_+0;omega
 |b+1=>by
  show xV g L lost i (a+b)+wg g L lost (i+1+(a+b))=_+(xV g L lost (i+a) b+wg g L lost (i+a+1+b))
  rw [zCR i a b,show i+1+(a+b)=i+a+1+b by omega];omega
theorem zym (hr:KR g L) (h:0 < L.length) (hl:0≤lost) (i:Nat):∀k,0≤xV g L lost i k∧xV g L lost i k≤bX g L (i+1+k) - bX g L (i+1)
 |0=>by rw [Nat.add_zero];show (0:Int)≤0∧(0:Int)≤_;omega
 |k+1=>by
  have ih:=zym hr h hl i k
  have x:=zk0 hr h (i+1+k)
  have s:=zBi hr h (i+1+k)
  rw [show i+1+(k+1)=i+1+k+1 from rfl]
  show 0≤xV g L lost i k+wg g L lost (i+1+k)∧xV g L lost i k+wg g L lost (i+1+k)≤_
  unfold wg
  omega
theorem zGi (hr:KR g L) (h:0 < L.length) {q r:Nat} (hq:q≤r):bX g L q≤bX g L r:=by
 rcases Nat.lt_or_ge q r with h1 | h1
 ·have:=zIg hr h h1;have:=zk0 hr h q;omega
 ·have:q=r:=by omega
  rw [this];exact Int.le_refl _
theorem zui (hr:KR g L) (h:0 < L.length) (hl:0≤lost) (i:Nat) {k:Nat} (hk:k≤L.length):0≤xV g L lost i k∧xV g L lost i k≤g.2:=by
 have:=zym hr h hl i k
 have:=zGi hr h (show i+1+k≤i+1+L.length by omega)
 have:=(zHW g h (i+1)).1
 omega
end
theorem KF {a b:Int} (h1:0 < b) (h2:b≤1000000000000) (h3 : -1000000000000000000≤a) (h4:a≤1000000000000000000):uE (a,b,())=some (a / b,()):=by
 have a1 : -b < Int.tmod a b:=Int.lt_tmod_of_pos a h1
 have a2:Int.tmod a b < b:=Int.tmod_lt_of_pos a h1
 have m1:=Int.emod_nonneg a (show b≠0 by omega)
 have m2:=Int.emod_lt_of_pos a h1
 have em:Int.tmod (wrF .i64 (Int.tmod a b+b)) b=a % b:=by
  rw [qR (by omega) (by omega),Int.tmod_eq_emod_of_nonneg (by omega),Int.add_emod_right]
  have:=Int.tmod_add_mul_tdiv a b
  calc Int.tmod a b % b=(Int.tmod a b+b*Int.tdiv a b) % b:=by rw [Int.add_mul_emod_self_left]
   _=a % b:=by rw [this]
 have e:Yz (a,b,())=some (a % b,()):=by
  rw [zqw];unfold zeQ
  rw [jx (show b≠0 by omega),em];rfl
 rw [zjx];unfold Gb
 rw [e,zK,jx (show b≠0 by omega),cond_false]
 have hq:=Int.emod_add_mul_ediv a b
 have hd:a - a % b=b*(a / b):=by omega
 rw [qR (z:=a - a % b) (by omega) (by omega),hd,Int.mul_tdiv_cancel_left _ (by omega)]
 have : -1000000000000000001≤a / b:=by
  have:(-1000000000000000001)*b≤a:=by
   have:(-1000000000000000001)*b≤(-1000000000000000001)*1:=Int.mul_le_mul_of_nonpos_left (by omega) (by omega)
   omega
  exact Int.le_ediv_of_mul_le h1 this
 have:a / b≤1000000000000000000:=by
  rcases Int.le_total 0 a with h | h
  ·exact Int.le_trans (Int.ediv_le_self b h) h4
  ·have:a / b≤0:=Int.ediv_nonpos_of_nonpos_of_neg h h1
   omega
 rw [qR (by omega) (by omega)]
def cl (d w:Int):Int:=(w+d - 1) / d
theorem zzQ {d a b:Int} (hd:0 < d) (h:a≤b):cl d a≤cl d b:=Int.ediv_le_ediv hd (by omega)
theorem zHn {d l z:Int} (hd:0 < d):cl d (l*d - z)=l - z / d:=by
 unfold cl
 have h:=Int.emod_add_mul_ediv z d
 have h1:=Int.emod_nonneg z (show d≠0 by omega)
 have h2:=Int.emod_lt_of_pos z hd
 have e:l*d - z+d - 1=(d - 1 - z % d)+(l - z / d)*d:=by
  rw [Int.sub_mul,Int.mul_comm (z / d) d];omega
 rw [e,Int.add_mul_ediv_right _ _ (by omega),Int.ediv_eq_zero_of_lt (by omega) (by omega)];omega
end Go.Proofs.YtleloebnggepoaaGreat.sg
namespace Go.Proofs.YtleloebnggepoaaGreat.sg
open Go Go.Fz Go.Fz.Sy
def yj (C per y:Int):Int:=y*1048576 / (C*per)
theorem zjO {a b A B:Int} (h0:0≤a) (h1:a≤A) (h2:0≤b) (h3:b≤B):0≤a*b∧a*b≤A*B:=⟨Int.mul_nonneg h0 h2,Int.mul_le_mul h1 h3 h2 (by omega)⟩
structure RtC (C per y:Int):Prop where
 c0:1≤C
 c1:C≤9600000
 p0:1≤per
 p1:per≤1000
 y0:0≤y
 y1:y≤C
theorem RtC.cp {C per y:Int} (h:RtC C per y):1≤C*per∧C*per≤9600000000:=by
 have:=zjO (show 0≤C by have:=h.c0;omega) h.c1 (show 0≤per by have:=h.p0;omega) h.p1
 have h1:1*1≤C*per:=Int.mul_le_mul h.c0 h.p0 (by omega) (by have:=h.c0;omega)
 omega
theorem RtC.rate {C per y:Int} (h:RtC C per y):wrF .i64 (Int.tdiv (wrF .i64 (y*1048576)) (wrF .i64 (C*per)))=yj C per y∧0≤yj C per y∧yj C per y*(C*per)≤y*1048576:=by
 have:=h.cp;have:=h.c1;have:=h.y0;have:=h.y1
 have h1:0≤yj C per y:=Int.ediv_nonneg (by omega) (by omega)
 have h2:yj C per y≤y*1048576:=Int.ediv_le_self _ (by omega)
 refine ⟨?_,h1,Int.ediv_mul_le _ (by omega)⟩
 rw [qR (z:=y*1048576) (by omega) (by omega),qR (z:=C*per) (by omega) (by omega),Int.tdiv_eq_ediv_of_nonneg (by omega)]
 show wrF .i64 (yj C per y)=_
 rw [qR (by omega) (by omega)]
theorem RtC.rp {C per y:Int} (h:RtC C per y) (hr:1≤yj C per y):yj C per y≤1048576∧per≤yj C per y*per∧yj C per y*per≤1048576:=by
 obtain ⟨_,_,h2⟩:=h.rate
 have hc:=h.c0;have hp:=h.p0;have hy:=h.y1
 have h3:per≤yj C per y*per:=by
  have:=Int.mul_le_mul_of_nonneg_right hr (show 0≤per by omega)
  omega
 have h4:yj C per y*per≤1048576:=by
  have e:yj C per y*(C*per)=C*(yj C per y*per):=by rw [←Int.mul_assoc,Int.mul_comm (yj C per y) C,Int.mul_assoc]
  have:C*(yj C per y*per)≤C*1048576:=by omega
  exact Int.le_of_mul_le_mul_left this (by omega)
 have h5:yj C per y≤yj C per y*per:=by
  have:=Int.mul_le_mul_of_nonneg_left hp (show 0≤yj C per y by omega)
  omega
 exact ⟨by omega,h3,h4⟩
theorem zqV {per rp:Int} (p0:1≤per) (p1:per≤1000) (h1:per≤rp) (h2:rp≤1048576):cl rp (127*per*1048576)=0 - (-127*per*1048576) / rp∧0≤cl rp (127*per*1048576)∧cl rp (127*per*1048576)≤133169152:=by
 have e:=zHn (d:=rp) (l:=0) (z:=-127*per*1048576) (by omega)
 rw [show 0*rp - -127*per*1048576=127*per*1048576 by omega] at e
 refine ⟨e,Int.ediv_nonneg (by omega) (by omega),?_⟩
 have : -133169152≤(-127*per*1048576) / rp:=Int.le_ediv_of_mul_le (by omega) (by omega)
 omega
section
variable {g:Gts} {L:List (Int×Int)} {per most:Int}
def vV (g:Gts) (L:List (Int×Int)) (lost per rate:Int) (i k:Nat):Int:=tt g L lost (i+1+k) - fr g L lost i - ((xV g L lost i k - 127*per)*1048576) / (rate*per)
noncomputable def zyn (g:Gts) (L:List (Int×Int)) (lost per rate:Int):Int:=mxN (fun _ _=>true) (vV g L lost per rate) L.length L.length (cl (rate*per) (127*per*1048576))
structure OfC (g:Gts) (L:List (Int×Int)) (per most:Int):Prop where
 hg:yp g
 ha:¬zcv g.1
 hr:KR g L
 h0:0 < L.length
 p0:1≤per
 p1:per≤1000
 m0:84≤most
 m1:most≤1542
 rt:1≤yj g.2 per (uU (most*per) L)
theorem OfC.lost (h:OfC g L per most):84≤most*per∧most*per≤1542000:=by
 have:=zjO (show 0≤most by have:=h.m0;omega) h.m1 (show 0≤per by have:=h.p0;omega) h.p1
 have h1:84*1≤most*per:=Int.mul_le_mul h.m0 h.p0 (by omega) (by have:=h.m0;omega)
 omega
theorem OfC.rc (h:OfC g L per most):RtC g.2 per (uU (most*per) L):=by
 have hl:=h.lost
 have hb:=zf6 (lost:=most*per) (by omega) (a:=at0 g) (b:=at0 g+g.2) (by have:=h.hg.pos;omega) h.hr.cv.bd h.hr.cv.pw
 exact ⟨h.hg.pos,h.hg.c1,h.p0,h.p1,hb.1,by omega⟩
theorem OfC.ft (h:OfC g L per most) {q:Nat} (hq:q < 2*L.length):(0≤fr g L (most*per) q∧fr g L (most*per) q≤30000000)∧(0≤tt g L (most*per) q∧tt g L (most*per) q≤30000000)∧1≤mn g L (most*per) q∧mn g L (most*per) q≤bY g L q - bX g L q:=by
 have:=zEM h.hg h.hr h.h0 hq
 have:=zk0 h.hr h.h0 q
 have hl:=h.lost
 unfold fr tt mn
 omega
theorem zHX (hg:yp g) (hr:KR g L):(L.length:Int)≤9600000:=by
 have hb:=zf6 (lost:=0) (by omega) (a:=at0 g) (b:=at0 g+g.2) (by have:=hg.pos;omega) hr.cv.bd hr.cv.pw
 have:=hg.c1
 omega
theorem zHo (h:OfC g L per most) {i k:Nat} (hk:k≤L.length) : -133169152000≤(xV g L (most*per) i k - 127*per)*1048576∧(xV g L (most*per) i k - 127*per)*1048576≤10066329600000∧-133169152≤((xV g L (most*per) i k - 127*per)*1048576) / (yj g.2 per (uU (most*per) L)*per)∧((xV g L (most*per) i k - 127*per)*1048576) / (yj g.2 per (uU (most*per) L)*per)≤10066329600000:=by
 have hl:=h.lost
 obtain ⟨r1,r2,r3⟩:=h.rc.rp h.rt
 have hs:=zui h.hr h.h0 (lost:=most*per) (by omega) i hk
 have hc:=h.hg.c1;have:=h.p0;have:=h.p1
 have z1 : -133169152000≤(xV g L (most*per) i k - 127*per)*1048576:=by omega
 have z2:(xV g L (most*per) i k - 127*per)*1048576≤10066329600000:=by omega
 generalize hz:(xV g L (most*per) i k - 127*per)*1048576=z at z1 z2
 have z3 : -133169152*per≤z:=by omega
 generalize yj g.2 per (uU (most*per) L)*per=rp at r2 r3
 refine ⟨z1,z2,Int.le_ediv_of_mul_le (by omega) (by omega),?_⟩
 rcases Int.le_total 0 z with h | h
 ·exact Int.le_trans (Int.ediv_le_self _ h) z2
 ·have:z / rp≤0:=Int.ediv_nonpos_of_nonpos_of_neg h (by omega)
  omega
theorem zGj (h:OfC g L per most):0≤zyn g L (most*per) per (yj g.2 per (uU (most*per) L))∧zyn g L (most*per) per (yj g.2 per (uU (most*per) L))≤268435456:=by
 obtain ⟨r1,r2,r3⟩:=h.rc.rp h.rt
 obtain ⟨b1,b2,b3⟩:=zqV h.p0 h.p1 r2 r3
 have ub:=zCP (fun _ _=>true) (vV g L (most*per) per (yj g.2 per (uU (most*per) L))) L.length L.length (cl (yj g.2 per (uU (most*per) L)*per) (127*per*1048576))
 have at1:=zCQ (fun _ _=>true) (vV g L (most*per) per (yj g.2 per (uU (most*per) L))) L.length L.length (cl (yj g.2 per (uU (most*per) L)*per) (127*per*1048576))
 unfold zyn
 refine ⟨by omega,?_⟩
 rcases at1 with e | ⟨i,k,hi,hk,_,e⟩
 ·rw [e];omega
 ·rw [e]
  obtain ⟨_,_,z1,_⟩:=zHo h (i:=i) (k:=k) (by omega)
  have:=(h.ft (q:=i) (by omega)).1;have:=(h.ft (q:=i+1+k) (by omega)).2.1
  unfold vV
  omega
end
end Go.Proofs.YtleloebnggepoaaGreat.sg
namespace Go.Proofs.YtleloebnggepoaaGreat.sg
open Go Go.Fz Go.Fz.Sy
theorem zae (g:Gts) {per most:Int} (p0:1≤per) (p1:per≤1000) (m0:84≤most) (m1:most≤1542):Jo (g,per,most,())=some (bif tv (yp g) then 0 else 370,()):=by
 rw [znl];unfold zb6
 rw [zcu,zK]
 by_cases hg:yp g
 ·rw [zO hg,qm (show ¬per < 1 by omega),qm (show ¬1000 < per by omega),qm (show ¬most < 84 by omega),qm (show ¬1542 < most by omega)];rfl
 ·rw [qo hg];rfl
theorem zHp {z:Nat} (h:z≤1000000000000):wrF .i64 (z:Int)=(z:Int):=by rw [qR]<;>omega
def asL (xs:List (Int×Int)):List (Int×Int):=xs.map fun p=>(p.1,p.1+p.2)
theorem zCS {g:Gts} {L xs:List (Int×Int)} (hx:asL xs=L) (h:0 < L.length) (q:Nat):∃p,xs[q % xs.length]?=some p∧bX g L q=p.1+((q / L.length:Nat):Int)*g.2∧bY g L q - bX g L q=p.2:=by
 have hl:xs.length=L.length:=by rw [←hx];unfold asL;simp
 have hm:q % xs.length < xs.length:=Nat.mod_lt _ (by omega)
 have hy:xs[q % xs.length]?=some (xs[q % xs.length]):=List.getElem?_eq_getElem hm
 refine ⟨_,hy,?_⟩
 have hL:L[q % L.length]?=some ((xs[q % xs.length]).1,(xs[q % xs.length]).1+(xs[q % xs.length]).2):=by
  rw [←hl,←hx];unfold asL
  rw [List.getElem?_map,hy];rfl
 unfold bX bY
 rw [hL]
 simp only [Option.getD_some]
 exact ⟨trivial,by omega⟩
section
variable {g:Gts} {L:List (Int×Int)} {per most:Int}
theorem zGk (h:OfC g L per most):xM (g,per,most,())=some ((yj g.2 per (uU (most*per) L),zyn g L (most*per) per (yj g.2 per (uU (most*per) L))),0,()):=by
 have hg:=h.hg;have ha:=h.ha;have hr:=h.hr;have hL0:=h.h0
 have p0:=h.p0;have p1:=h.p1;have m0:=h.m0;have m1:=h.m1
 have hlost:=h.lost
 obtain ⟨eR,r0,ry⟩:=h.rc.rate
 obtain ⟨r1,r2,r3⟩:=h.rc.rp h.rt
 obtain ⟨b1,b2,b3⟩:=zqV p0 p1 r2 r3
 have hrt:=h.rt
 have hcp:=h.rc.cp
 have hc:=hg.c1;have hp:=hg.pos;have hn:=hg.n1;have hn0:=hg.n0
 have hLC:=zHX hg hr
 have eM:wrF .i64 (most*per)=most*per:=qR (by omega) (by omega)
 have eRP:wrF .i64 (yj g.2 per (uU (most*per) L)*per)=yj g.2 per (uU (most*per) L)*per:=qR (by omega) (by omega)
 have hl:=znO ha
 obtain ⟨e,hx,he,hen,h0⟩:=zoI hg ha
 have h0b:=zsD hg
 rw [zcc];unfold Gc
 rw [zae g p0 p1 m0 m1,zO hg,zK,cond_true]
 refine xr ?_
 refine zg rfl ?_
 rw [eM,zcW hg ha hr (by omega) (by omega),zK]
 simp only [eR]
 refine zg (jx (show wrF .i64 (g.2*per)≠0 by rw [qR]<;>omega)) (zg (qm (by omega)) ?_)
 generalize hy:uU (most*per) L=y at *
 generalize hrate:yj g.2 per y=rate at *
 rw [show wrF .i64 ((wrF .i64 (-127*per))*1048576) = -127*per*1048576 from by rw [qR (z:=-127*per) (by omega) (by omega),qR (by omega) (by omega)],eRP,KF (by omega) (by omega) (by omega) (by omega),zK]
 refine zq (J:=fun x=>x.2.1=(at0 g,(((clo g.1:Nat):Int),()))∧x.2.2.1.1=[]) (qG (clo g.1) (fun i s=>s=((ka (g.1.take i),((i:Int),())),(([],()),((),((),()))))) (by omega) rfl ?_ ?_) ?_
 ·rintro i _ hi rfl
  have hy':g.1[i]?=some g.1[i]:=List.getElem?_eq_getElem (by omega)
  have hm:=List.getElem_mem (show i < g.1.length by omega)
  generalize g.1[i]=f at hy' hm
  have hf:=hg.el f hm
  have hb:=Ue (l:=g.1.take i) fun e he=>hg.el e (List.mem_of_mem_take he)
  have hbl:(g.1.take i).length≤128:=by simp;omega
  refine zi (qD (show (i:Int) < (g.1.length:Int) by omega)) (zn (qh (n:=i) hy' ?_))
  rw [vG hf]
  refine zi (zkZ _ i f hi hy') (zn (qh (n:=i) hy' (zd (ji ?_))))
  show (((wrF .i64 (ka (g.1.take i)+f.2)),((wrF .i64 ((i:Int)+1)),())),(([],()),((),((),()))))=_
  have:=hf.2.2.1;have:=hf.2.2.2
  rw [Kf hy',qX (by omega),qR (by omega) (by omega)]
 ·rintro _ rfl
  refine zi (qD (show ((clo g.1:Nat):Int) < (g.1.length:Int) by omega)) (zn (qh (n:=clo g.1) hx ?_))
  rw [vG hen]
  exact zg he (zd (zE ⟨rfl,rfl⟩))
 rintro ⟨j,⟨w,z,⟨⟩⟩,⟨c,⟨⟩⟩,⟨⟩,⟨⟩,⟨⟩⟩ ⟨hv,hc'⟩
 simp only [Prod.mk.injEq,and_true] at hv hc'
 obtain ⟨rfl,rfl⟩:=hv
 subst hc'
 refine zg (jx (show ((clo g.1:Nat):Int)≠(g.1.length:Int) by omega)) (zn (qh (n:=clo g.1) hx ?_))
 have hm:clo g.1 % g.1.length=clo g.1:=Nat.mod_eq_of_lt hl
 have hts:=zhb hg (k:=clo g.1) (e:=e) (by rw [hm];exact hx)
 have hA:=zsE hg (k:=clo g.1+1) (by omega)
 refine zq (J:=fun x=>x.1=0∧asL x.2.2.1.1=L) (qG g.1.length (fun i s=>∃now xs,s=((now,(tAt g (clo g.1+1+i),((i:Int),()))),((xs,()),((),((),()))))∧xs.length≤i∧Inv (opT g) (tAt g (clo g.1+1)) (tAt g (clo g.1+1+i)) now (asL xs)∧(∀f,0 < i→g.1[(clo g.1+i) % g.1.length]?=some f→opn f.1=false→now.2=0)) (by omega) ?_ ?_ ?_) ?_
 ·refine ⟨(0,0),[],?_,by simp,⟨Int.le_refl _,.inl ⟨rfl,zuh _ _,fun p hp=>(by cases hp)⟩⟩,fun f h=>by omega⟩
  show (((0,0),((wrF .i64 (at0 g+e.2)),(0,()))),(([],()),((),((),()))))=_
  rw [Nat.add_zero,hts,h0,qR (by omega) (by have:=hen.2.2.2;omega)];rfl
 ·rintro i _ hi ⟨now,xs,rfl,hxl,hinv,_⟩
  obtain ⟨f,hy',hf,hsu,hop⟩:=zCL hg (clo g.1+1+i)
  have hB:=zsE hg (k:=clo g.1+1+i) (by omega)
  have hnb:=zCM hinv hA.1 hB.2
  have f1:=hf.2.2.1;have f2:=hf.2.2.2
  refine zi (qD (show (i:Int) < (g.1.length:Int) by omega)) (zg (jx (show (g.1.length:Int)≠0 by omega)) ?_)
  refine zn (qF (a:=f) (by show atI g.1 (Int.tmod (wrF .i64 ((wrF .i64 (((clo g.1:Nat):Int)+1))+(i:Int))) (g.1.length:Int))=_;rw [zzP hg (by omega) (by omega)];exact Ql hy') ?_)
  rw [vG hf]
  have eat:wrF .i64 (tAt g (clo g.1+1+i)+f.2)=tAt g (clo g.1+1+(i+1)):=by
   rw [show clo g.1+1+(i+1)=clo g.1+1+i+1 from rfl,hsu,qR (by omega) (by omega)]
  have eup:wrF .i64 ((i:Int)+1)=((i+1:Nat):Int):=qX (by omega)
  have idx:∀f',0 < i+1→g.1[(clo g.1+(i+1)) % g.1.length]?=some f'→f'=f:=fun f' _ h=>by
   rw [show clo g.1+(i+1)=clo g.1+1+i by omega,hy'] at h
   exact (Option.some.inj h).symm
  refine zt (fun ho=>?_) (fun ho=>?_)
  ·have ho:opn f.1=true:=ho
   rw [ho] at hop
   have hi2:=zyj hinv (show 0 < f.2 by omega) hop
   refine zq (J:=fun x=>x.2.1.1=if now.2=0 then (tAt g (clo g.1+1+i),0) else now) (zt (fun h=>?_) (fun h=>?_)) ?_
   ·have h:now.2=0:=jJ h
    refine zd ?_
    rw [if_pos h]
    show (tAt g (clo g.1+1+i),now.2)=_
    rw [h]
   ·have h:now.2≠0:=wH h
    exact zd (by rw [if_neg h])
   ·rintro ⟨j,⟨nw,⟨⟩⟩,⟨⟩,⟨⟩,⟨⟩⟩ hnw
    simp only at hnw
    subst hnw
    refine zd (ji ⟨_,xs,?_,by omega,(by rw [←hsu] at hi2;exact hi2),fun f' h1 h2 h3=>?_⟩)
    ·show ((((if now.2=0 then (tAt g (clo g.1+1+i),0) else now).1,(wrF .i64 ((if now.2=0 then (tAt g (clo g.1+1+i),0) else now).2+f.2))),((wrF .i64 (tAt g (clo g.1+1+i)+f.2)),((wrF .i64 ((i:Int)+1)),()))),((xs,()),((),((),()))))=_
     rw [eat,eup]
     by_cases h:now.2=0
     ·rw [if_pos h,if_pos h]
      simp only
      rw [qR (by omega) (by omega),Int.zero_add]
     ·rw [if_neg h,if_neg h,qR (by omega) (by omega)]
    ·rw [idx f' h1 h2,ho] at h3;cases h3
  ·have ho:opn f.1=false:=ho
   rw [ho] at hop
   refine zt (fun h=>?_) (fun h=>?_)
   ·have h:0 < now.2:=yn h
    have hi2:=zyk hinv (show 0 < f.2 by omega) h hop
    refine zi (kW (by show (xs.length+1)*16≤_;omega) (by show xs.length+1≤_;omega)) (zd (ji ⟨(0,0),xs++[now],?_,by simp;omega,?_,fun f' h1 h2 h3=>rfl⟩))
    ·show (((0,0),((wrF .i64 (tAt g (clo g.1+1+i)+f.2)),((wrF .i64 ((i:Int)+1)),()))),((xs++[now],()),((),((),()))))=_
     rw [eat,eup]
    ·rw [←hsu] at hi2
     have:asL (xs++[now])=asL xs++[(now.1,now.1+now.2)]:=by unfold asL;simp
     rw [this];exact hi2
   ·have h:now.2=0:=by have:now.2≤0:=wA h;omega
    have hi2:=zvi hinv (show 0 < f.2 by omega) h hop
    refine zd (ji ⟨(0,0),xs,?_,by omega,(by rw [←hsu] at hi2;exact hi2),fun f' h1 h2 h3=>rfl⟩)
    show (((0,0),((wrF .i64 (tAt g (clo g.1+1+i)+f.2)),((wrF .i64 ((i:Int)+1)),()))),((xs,()),((),((),()))))=_
    rw [eat,eup]
 ·rintro _ ⟨now,xs,rfl,hxl,hinv,hlast⟩
  refine zg (qm (show ¬(g.1.length:Int) < (g.1.length:Int) by omega)) (zd (zE ⟨rfl,?_⟩))
  have hz:=hlast e (by omega) (by rw [Nat.add_mod_right,hm];exact hx) he
  show asL xs=L
  rcases hinv.2 with ⟨_,hc,_⟩ | ⟨h',_⟩
  ·rw [zzN hg] at hc
   exact (zyl hg ha hc hr).symm
  ·omega
 rintro ⟨j,⟨nw,v,z,⟨⟩⟩,⟨xs,⟨⟩⟩,⟨⟩,⟨⟩,⟨⟩⟩ ⟨hj,hxs⟩
 simp only at hj hxs
 subst hj
 have hxl:xs.length=L.length:=by rw [←hxs];unfold asL;simp
 refine zi rfl ?_
 refine zq (J:=fun x=>x.2.1.1=zyn g L (most*per) per rate∧x.2.1.2.1=rate)
  (qG L.length (fun i s=>s=((mxN (fun _ _=>true) (vV g L (most*per) per rate) L.length i (cl (rate*per) (127*per*1048576)),(rate,(per,((i:Int),())))),((),()))) (by omega) ?_ ?_ ?_) ?_
 ·show ((Yl 0 (wrF .i64 (0 - (-127*per*1048576) / (rate*per))),(rate,(per,(0,())))),((),()))=_
  rw [←b1,qR (by omega) (by omega),zjI]
  show _=((cl (rate*per) (127*per*1048576),_),_)
  rw [show max 0 (cl (rate*per) (127*per*1048576))=cl (rate*per) (127*per*1048576) by omega];rfl
 ·rintro i _ hi rfl
  obtain ⟨pi,hpi,epi1,epi2⟩:=zCS (g:=g) hxs hL0 i
  rw [Nat.mod_eq_of_lt (by omega)] at hpi
  rw [Nat.div_eq_of_lt hi] at epi1
  have fti:=h.ft (q:=i) (by omega)
  refine zi (qD (show (i:Int) < (xs.length:Int) by omega)) (zn (qh (n:=i) hpi (zn (qF (a:=pi) (by show gl xs (Int.toNat (i:Int))=_;rw [Int.toNat_natCast,ke];exact hpi) ?_))))
  refine zq (J:=fun x=>x.2.1.1=mxN (fun _ _=>true) (vV g L (most*per) per rate) L.length (i+1) (cl (rate*per) (127*per*1048576))∧x.2.1.2.1=rate∧x.2.1.2.2.1=per)
   (qG L.length (fun k s=>s=((mxK (fun _=>true) (vV g L (most*per) per rate i) k (mxN (fun _ _=>true) (vV g L (most*per) per rate) L.length i (cl (rate*per) (127*per*1048576))),(rate,(per,(xV g L (most*per) i k,((k:Int),()))))),((),()))) (by omega) rfl ?_ ?_) ?_
  ·rintro k _ hk rfl
   obtain ⟨pj,hpj,epj1,epj2⟩:=zCS (g:=g) hxs hL0 (i+1+k)
   have ftj:=h.ft (q:=i+1+k) (by omega)
   have zb:=zHo h (i:=i) (k:=k) (by omega)
   rw [hy,hrate] at zb
   have sb:=zui hr hL0 (lost:=most*per) (by omega) i (show k≤L.length by omega)
   have sb':=zui hr hL0 (lost:=most*per) (by omega) i (show k+1≤L.length by omega)
   have hbi:=zEM hg hr hL0 (show i < 2*L.length by omega);have hbj:=zEM hg hr hL0 (show i+1+k < 2*L.length by omega)
   have hxi:=zk0 hr hL0 i;have hxj:=zk0 hr hL0 (i+1+k)
   have ej:Int.tmod (wrF .i64 ((wrF .i64 ((i:Int)+1))+(k:Int))) (xs.length:Int)=(((i+1+k) % xs.length:Nat):Int):=by
    rw [qX (by omega),qR (by omega) (by omega),Int.tmod_eq_emod_of_nonneg (by omega),←Int.natCast_add,←Int.natCast_emod]
   have ed:wrF .i64 (Int.tdiv (wrF .i64 ((wrF .i64 ((i:Int)+1))+(k:Int))) (xs.length:Int))=(((i+1+k) / L.length:Nat):Int):=by
    rw [qX (by omega),qR (z:=((i+1:Nat):Int)+(k:Int)) (by omega) (by omega),Int.tdiv_eq_ediv_of_nonneg (by omega),hxl,←Int.natCast_add,←Int.natCast_ediv]
    exact zHp (Nat.le_trans (Nat.div_le_self _ _) (by omega))
   have hd1:(i+1+k) / L.length=0∨(i+1+k) / L.length=1:=by
    have:(i+1+k) / L.length < 2:=Nat.div_lt_of_lt_mul (by omega)
    exact Nat.le_one_iff_eq_zero_or_eq_one.1 (Nat.le_of_lt_succ this)
   have edC:0≤(((i+1+k) / L.length:Nat):Int)*g.2∧(((i+1+k) / L.length:Nat):Int)*g.2≤9600000:=by
    rcases hd1 with h1 | h1<;>rw [h1]<;>simp<;>omega
   generalize hdc:(((i+1+k) / L.length:Nat):Int)=dc at ed edC epj1
   refine zi (qD (show (k:Int) < (xs.length:Int) by omega)) (zg (jx (show (xs.length:Int)≠0 by omega)) ?_)
   refine zn (qF (a:=pj) (by show atI xs (Int.tmod (wrF .i64 ((wrF .i64 ((i:Int)+1))+(k:Int))) (xs.length:Int))=_;rw [ej];exact Ql hpj) (zn (qF (a:=pj) (by show gl xs (Int.toNat (Int.tmod (wrF .i64 ((wrF .i64 ((i:Int)+1))+(k:Int))) (xs.length:Int)))=_;rw [ej,Int.toNat_natCast,ke];exact hpj) ?_)))
   refine zg (jx (show (xs.length:Int)≠0 by omega)) ?_
   have ez:wrF .i64 ((wrF .i64 (xV g L (most*per) i k - (wrF .i64 (127*per))))*1048576)=(xV g L (most*per) i k - 127*per)*1048576:=by
    rw [qR (z:=127*per) (by omega) (by omega),qR (z:=xV g L (most*per) i k - 127*per) (by omega) (by omega),qR (by omega) (by omega)]
   have efl:uE (wrF .i64 ((wrF .i64 (xV g L (most*per) i k - (wrF .i64 (127*per))))*1048576),wrF .i64 (rate*per),())=some (((xV g L (most*per) i k - 127*per)*1048576) / (rate*per),()):=by
    rw [ez,eRP,KF (by omega) (by omega) (by omega) (by omega)]
   refine zn (qF efl ?_)
   refine zd (ji ?_)
   have em1:UM (most*per) pj.2=mn g L (most*per) (i+1+k):=by rw [zzI,←epj2];unfold mn;omega
   have em2:UM (most*per) pi.2=mn g L (most*per) i:=by rw [zzI,←epi2];unfold mn;omega
   have eto:wrF .i64 ((wrF .i64 (pj.1+(wrF .i64 (dc*g.2))))+UM (most*per) pj.2)=tt g L (most*per) (i+1+k):=by
    rw [em1,qR (z:=dc*g.2) (by omega) (by omega),qR (z:=pj.1+dc*g.2) (by omega) (by omega),←epj1]
    show wrF .i64 (tt g L (most*per) (i+1+k))=_
    rw [qR (by omega) (by omega)]
   have efr:wrF .i64 ((wrF .i64 (pi.1+pi.2)) - UM (most*per) pi.2)=fr g L (most*per) i:=by
    have e1:pi.1+pi.2=bY g L i:=by simp at epi1;omega
    rw [em2,e1,qR (z:=bY g L i) (by omega) (by omega)]
    show wrF .i64 (fr g L (most*per) i)=_
    rw [qR (by omega) (by omega)]
   have ev:wrF .i64 ((wrF .i64 (tt g L (most*per) (i+1+k) - fr g L (most*per) i)) - ((xV g L (most*per) i k - 127*per)*1048576) / (rate*per))=vV g L (most*per) per rate i k:=by
    rw [qR (z:=tt g L (most*per) (i+1+k) - fr g L (most*per) i) (by omega) (by omega)]
    show wrF .i64 (vV g L (most*per) per rate i k)=_
    unfold vV
    rw [qR (by omega) (by omega)]
   have ew:wrF .i64 (xV g L (most*per) i k+Yl 0 (wrF .i64 (pj.2 - most*per)))=xV g L (most*per) i (k+1):=by
    have:xV g L (most*per) i (k+1)=xV g L (most*per) i k+max 0 (pj.2 - most*per):=by
     show _+wg g L (most*per) (i+1+k)=_
     unfold wg;rw [epj2]
    rw [qR (z:=pj.2 - most*per) (by omega) (by omega),zjI,←this,qR (by omega) (by omega)]
   show ((Yl (mxK (fun _=>true) (vV g L (most*per) per rate i) k (mxN (fun _ _=>true) (vV g L (most*per) per rate) L.length i (cl (rate*per) (127*per*1048576)))) (wrF .i64 ((wrF .i64 ((wrF .i64 ((wrF .i64 (pj.1+(wrF .i64 ((wrF .i64 (Int.tdiv (wrF .i64 ((wrF .i64 ((i:Int)+1))+(k:Int))) (xs.length:Int)))*g.2))))+UM (most*per) pj.2)) - (wrF .i64 ((wrF .i64 (pi.1+pi.2)) - UM (most*per) pi.2)))) - ((xV g L (most*per) i k - 127*per)*1048576) / (rate*per))),(rate,(per,((wrF .i64 (xV g L (most*per) i k+Yl 0 (wrF .i64 (pj.2 - most*per)))),((wrF .i64 ((k:Int)+1)),()))))),((),()))=_
   rw [ed,eto,efr,ev,ew,qX (by omega),zjI]
   rfl
  ·rintro _ rfl
   exact zg (qm (show ¬((L.length:Nat):Int) < (xs.length:Int) by omega)) (zd (zE ⟨rfl,rfl,rfl⟩))
  ·rintro ⟨j,⟨a1,a2,a3,a4,a5,⟨⟩⟩,⟨⟩,⟨⟩⟩ ⟨h1,h2,h3⟩
   simp only at h1 h2 h3
   subst h1 h2 h3
   exact zd (ji (congrArg (fun z=>((_,(_,(_,(z,())))),((),()))) (qX (by omega))))
 ·rintro _ rfl
  exact zg (qm (show ¬((L.length:Nat):Int) < (xs.length:Int) by omega)) (zd (zE ⟨rfl,rfl⟩))
 ·rintro ⟨j,⟨a1,a2,a3,a4,⟨⟩⟩,⟨⟩,⟨⟩⟩ ⟨h1,h2⟩
  simp only at h1 h2
  subst h1 h2
  exact zd rfl
end
end Go.Proofs.YtleloebnggepoaaGreat.sg
namespace Go.Proofs.YtleloebnggepoaaGreat.sg
open Go Go.Fz Go.Fz.Sy
section
variable {g:Gts} {L:List (Int×Int)} {per most:Int}
end
def zoJ (v:Int×Int):Prop:=1≤v.1∧v.1≤1048576∧0≤v.2∧v.2≤268435456
theorem zIh {g:Gts} (hg:yp g) {per most:Int} (p0:1≤per) (p1:per≤1000) (m0:84≤most) (m1:most≤1542):∃v e,xM (g,per,most,())=some (v,e,())∧((e=0∧zoJ v)∨(e=4∧v=(0,0))):=by
 have hc:=hg.c1;have hp:=hg.pos;have hn:=hg.n1
 have hlost:84≤most*per∧most*per≤1542000:=by
  have:=zjO (show 0≤most by omega) m1 (show 0≤per by omega) p1
  have h1:84*1≤most*per:=Int.mul_le_mul m0 p0 (by omega) (by omega)
  omega
 have eM:wrF .i64 (most*per)=most*per:=qR (by omega) (by omega)
 by_cases ha:zcv g.1
 ·
  have hR:RtC g.2 per g.2:=⟨hp,hc,p0,p1,by omega,Int.le_refl _⟩
  obtain ⟨eR,r0,ry⟩:=hR.rate
  have hcp:=hR.cp
  have hr1:1≤yj g.2 per g.2:=by
   have:1*(g.2*per)≤g.2*1048576:=by
    have:=Int.mul_le_mul_of_nonneg_left (show per≤1048576 by omega) (show 0≤g.2 by omega)
    omega
   exact Int.le_ediv_of_mul_le (by omega) this
  obtain ⟨r1,r2,r3⟩:=hR.rp hr1
  obtain ⟨b1,b2,b3⟩:=zqV p0 p1 r2 r3
  have eRP:wrF .i64 (yj g.2 per g.2*per)=yj g.2 per g.2*per:=qR (by omega) (by omega)
  have hcl:=zGh ha
  refine ⟨(yj g.2 per g.2,cl (yj g.2 per g.2*per) (127*per*1048576)),0,?_,.inl ⟨rfl,hr1,r1,b2,by simp only;omega⟩⟩
  ·rw [zcc];unfold Gc
   rw [zae g p0 p1 m0 m1,zO hg,zK,cond_true]
   refine xr ?_
   refine zg rfl ?_
   rw [eM,zjN hg ha,zK]
   simp only [eR]
   refine zg (jx (show wrF .i64 (g.2*per)≠0 by rw [qR]<;>omega)) (zg (qm (by omega)) ?_)
   generalize yj g.2 per g.2=rate at *
   rw [show wrF .i64 ((wrF .i64 (-127*per))*1048576) = -127*per*1048576 from by rw [qR (z:=-127*per) (by omega) (by omega),qR (by omega) (by omega)],eRP,KF (by omega) (by omega) (by omega) (by omega),zK]
   refine zq (J:=fun x=>x.2.1.2.1=(g.1.length:Int)∧x.2.2.1.1=[]) (qG g.1.length (fun i s=>s=((ka (g.1.take i),((i:Int),())),(([],()),((),((),()))))) (by omega) rfl ?_ ?_) ?_
   ·rintro i _ hi rfl
    have hy':g.1[i]?=some g.1[i]:=List.getElem?_eq_getElem (by omega)
    have hm:=List.getElem_mem (show i < g.1.length by omega)
    generalize g.1[i]=f at hy' hm
    have hf:=hg.el f hm
    have hb:=Ue (l:=g.1.take i) fun e he=>hg.el e (List.mem_of_mem_take he)
    have hbl:(g.1.take i).length≤128:=by simp;omega
    refine zi (qD (show (i:Int) < (g.1.length:Int) by omega)) (zn (qh (n:=i) hy' ?_))
    rw [vG hf]
    refine zi (ha f hm) (zn (qh (n:=i) hy' (zd (ji ?_))))
    show (((wrF .i64 (ka (g.1.take i)+f.2)),((wrF .i64 ((i:Int)+1)),())),(([],()),((),((),()))))=_
    have:=hf.2.2.1;have:=hf.2.2.2
    rw [Kf hy',qX (by omega),qR (by omega) (by omega)]
   ·rintro _ rfl
    exact zg (qm (show ¬(g.1.length:Int) < (g.1.length:Int) by omega)) (zd (zE ⟨rfl,rfl⟩))
   rintro ⟨j,⟨w,z,⟨⟩⟩,⟨c,⟨⟩⟩,⟨⟩,⟨⟩,⟨⟩⟩ ⟨hv,hc'⟩
   simp only at hv hc'
   subst hv hc'
   refine zi (yJ rfl) ?_
   refine zq (J:=fun x=>x.2.1.1=cl (rate*per) (127*per*1048576)∧x.2.1.2.1=rate) (qG 0 (fun _ s=>s=((Yl 0 (wrF .i64 (0 - (-127*per*1048576) / (rate*per))),(rate,(per,(0,())))),((),()))) (by omega) rfl (fun i s hi=>by omega) ?_) ?_
   ·rintro _ rfl
    refine zg (qm (show ¬(0:Int) < (([]:List (Int×Int)).length:Int) by simp)) (zd (zE ⟨?_,rfl⟩))
    show Yl 0 (wrF .i64 (0 - (-127*per*1048576) / (rate*per)))=_
    rw [←b1,qR (by omega) (by omega),zjI];omega
   ·rintro ⟨j,⟨a1,a2,a3,a4,⟨⟩⟩,⟨⟩,⟨⟩⟩ ⟨h1,h2⟩
    simp only at h1 h2
    subst h1 h2
    exact zd rfl
 ·obtain ⟨L,hr⟩:=zEL hg ha
  have hb:=zf6 (lost:=most*per) (by omega) (a:=at0 g) (b:=at0 g+g.2) (by omega) hr.cv.bd hr.cv.pw
  have hR:RtC g.2 per (uU (most*per) L):=⟨hp,hc,p0,p1,hb.1,by omega⟩
  obtain ⟨eR,r0,ry⟩:=hR.rate
  have hcp:=hR.cp
  by_cases hr1:1≤yj g.2 per (uU (most*per) L)
  ·have h0:0 < L.length:=by
    apply Classical.byContradiction
    intro hn
    have:L=[]:=List.length_eq_zero_iff.1 (by omega)
    rw [this] at hr1
    unfold yj uU at hr1
    simp at hr1
   have h:OfC g L per most:=⟨hg,ha,hr,h0,p0,p1,m0,m1,hr1⟩
   have hb:=zGj h
   have hrp:=h.rc.rp hr1
   exact ⟨_,_,zGk h,.inl ⟨rfl,hr1,hrp.1,hb.1,hb.2⟩⟩
  ·refine ⟨(0,0),4,?_,.inr ⟨rfl,rfl⟩⟩
   ·rw [zcc];unfold Gc
    rw [zae g p0 p1 m0 m1,zO hg,zK,cond_true]
    refine xr (zg rfl ?_)
    rw [eM,zcW hg ha hr (by omega) (by omega),zK]
    simp only [eR]
    exact zg (jx (show wrF .i64 (g.2*per)≠0 by rw [qR]<;>omega)) (zi (qD (by omega)) (zd rfl))
end Go.Proofs.YtleloebnggepoaaGreat.sg
end
