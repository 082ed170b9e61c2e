/- Parts of a proof, joined. -/
import Derived.Test.YtplhphmbkmpocaaGreatE95
set_option linter.unusedSectionVars false
set_option linter.unusedVariables false
set_option linter.unusedSimpArgs false
set_option maxHeartbeats 0
set_option maxRecDepth 100000
noncomputable section
namespace Go.Proofs.YtplhphmbkmpocaaGreat.ad
open Go Go.Fz Go.Fz.Sy
abbrev zge:List VT:=[⟨true,zv⟩,⟨true,yb⟩]
abbrev zgf:List VT:=[⟨false,I⟩,⟨false,I⟩]
def zpp:zW:=zN [cdF zv] [] [] [] [78,114]
def zaH (yn:Jw) (yC:Yf) (a0:qi) (a1:jx):Option (Int×Int×Unit):=
 opt (yn ((a0::[]),(a1,()))) fun x0=>
 bif !(zo x0.2.1 0) then some (0,(x0.2.1,()))
 else opt (yC ((wrF .i64 (a0.2*a1.2)),(1048576,()))) fun x1=>
  some ((wrF .i64 (a0.1+x1.1)),(0,()))
abbrev XY:Type:=(qi×jx×Unit)→Option (Int×Int×Unit)
def zgg:Jw→Yf→XY:=fun yn yC=>sF Tryz.prog [(78,⟨zdl,zdm,yn⟩),(114,⟨zfn,zfo,yC⟩)] zpp (zM []) 30 79 zge zgf
theorem zrq (yn) (yC) (a0) (a1):zgg yn yC (a0,a1,())=zaH yn yC a0 a1:=by kernel_rfl
def Wa:XY:=zgg ga gW
theorem zl2 (a0) (a1):Wa (a0,a1,())=zaH ga gW a0 a1:=zrq ga gW a0 a1
abbrev zyq:List VT:=[⟨true,wK⟩,⟨false,(.list zK)⟩,⟨false,I⟩]
abbrev zyr:List VT:=[⟨true,Xy⟩,⟨false,I⟩]
def zxy:zW:=zN [cdF wK,cdF zK,cdF Xy,cdF zG,cdF qc,cdF zR,cdF qq] [] [⟨3,87,some 8,zv,true⟩,⟨5,87,some 8,zv,true⟩,⟨7,87,some 8,zv,true⟩,⟨10,87,some 8,zv,true⟩,⟨13,87,some 8,zv,true⟩,⟨16,87,some 8,zv,true⟩] [] [27,76,75,77,78,79]
def zgR (yW:Ye) (XD:zcb) (Kl:zec) (XE:zce) (yn:Jw) (Zn:XY) (a0:uV) (a1:(List jL)) (a2:Int):Option (GW×Int×Unit):=
 opt (zI (fun s0:((Int×Unit)×((List (Int×Int))×Unit))=>
  bif (zi s0.1.1 ((a1.length:Nat):Int)) then opt (opt (atI a1 s0.1.1) fun x1=>
    opt (yW (x1,(a2,()))) fun x2=>
    bif x2.1 then opt (atI a1 s0.1.1) fun x3=>
     bif (qE s0.2.1.length ((x3.2.2.2.2.2.2.1::[]).length) 16) then some (0,((),((s0.2.1++(x3.2.2.2.2.2.2.1::[])),())))
     else none
    else some (0,((),(s0.2.1,())))) fun x4=>
   some (.inr (((wrF .i64 (s0.1.1+1)),()),(x4.2.2.1,())))
  else some (.inl (0,((s0.1.1,()),(s0.2.1,()))))) zQ ((0,()),([],()))) fun x5=>
 bif (zo ((x5.2.2.1.length:Nat):Int) 0) then some (((0,0),((0,0),(0,0))),(4,()))
 else opt (atI a0.2.2.1 a2) fun x6=>
  opt (XD (a0.1,(a2,()))) fun x7=>
  opt (Kl (x6,(x7.1,(a0.2.2.2,())))) fun x8=>
  bif !(zo x8.2.1 0) then some (((0,0),((0,0),(0,0))),(411,()))
  else opt (XE (x5.2.2.1,())) fun x9=>
   bif !(zo x9.2.1 0) then some (((0,0),((0,0),(0,0))),(6,()))
   else opt (yn ((x9.1::[]),(x8.1,()))) fun x10=>
    bif !(zo x10.2.1 0) then some (((0,0),((0,0),(0,0))),(141,()))
    else opt (Zn (x9.1,(x8.1,()))) fun x11=>
     some ((x9.1,(x8.1,(x10.1,x11.1))),(0,()))
abbrev zn3:Type:=(uV×(List jL)×Int×Unit)→Option (GW×Int×Unit)
def zn4:Ye→zcb→zec→zce→Jw→XY→zn3:=fun yW XD Kl XE yn Zn=>sF Tryz.prog [(27,⟨Yc,Yd,yW⟩),(76,⟨znV,znW,XD⟩),(75,⟨zrl,zrm,Kl⟩),(77,⟨zn0,zn1,XE⟩),(78,⟨zdl,zdm,yn⟩),(79,⟨zge,zgf,Zn⟩)] zxy (zM []) 30 46 zyq zyr
theorem zys (yW) (XD) (Kl) (XE) (yn) (Zn) (a0) (a1) (a2):zn4 yW XD Kl XE yn Zn (a0,a1,a2,())=zgR yW XD Kl XE yn Zn a0 a1 a2:=by kernel_rfl
def zn5:zn3:=zn4 vo KL JZ KM ga Wa
theorem ztd (a0) (a1) (a2):zn5 (a0,a1,a2,())=zgR vo KL JZ KM ga Wa a0 a1 a2:=zys vo KL JZ KM ga Wa a0 a1 a2
abbrev Kd:List VT:=[⟨false,(.list zK)⟩,⟨false,I⟩]
abbrev Ke:List VT:=[⟨false,I⟩,⟨false,I⟩]
abbrev YX:List VT:=[⟨true,zd6⟩]
abbrev YY:List VT:=[⟨false,I⟩]
abbrev Vy:List VT:=[⟨true,zG⟩,⟨false,I⟩]
abbrev Vz:List VT:=[⟨false,I⟩,⟨false,I⟩]
abbrev Yg:List VT:=[⟨true,wK⟩,⟨false,(.list zK)⟩,⟨false,I⟩,⟨false,I⟩]
abbrev Yh:List VT:=[⟨false,I⟩,⟨false,I⟩]
abbrev zcf:List VT:=[]
abbrev zcg:List VT:=[⟨true,wK⟩]
abbrev YZ:List VT:=[⟨false,I⟩,⟨false,I⟩,⟨false,I⟩,⟨false,I⟩,⟨false,I⟩]
abbrev Xa:List VT:=[⟨true,zK⟩]
abbrev ZE:List VT:=[⟨true,wK⟩,⟨false,(.list zK)⟩]
abbrev ZF:List VT:=[⟨false,I⟩]
abbrev ZY:List VT:=[⟨true,zG⟩,⟨true,zK⟩]
abbrev ZZ:List VT:=[⟨false,I⟩]
abbrev Jx:List VT:=[⟨true,wK⟩,⟨false,(.list zK)⟩,⟨true,zK⟩]
abbrev Jy:List VT:=[⟨false,(.list zK)⟩,⟨false,I⟩]
abbrev zaI:List VT:=[⟨false,(.list zK)⟩,⟨false,(.list zK)⟩]
abbrev zaJ:List VT:=[⟨false,.bool⟩]
abbrev ZG:List VT:=[]
abbrev ZH:List VT:=[⟨false,.bool⟩]
abbrev nT:T zG:=(3,([true,false,true],[(0,(1,(8,5))),(1,(2,(8,5)))]))
abbrev nF:T wK:=(nT,((100,(2,(10,8000))),([([(127,100)],100),([(127,100)],100),([(127,100)],100),([(127,100)],100)],200)))
def zn6:T (zp zcf)→Option (T (zp zcg)):=sF Tryz.prog [] (fun _ _ _ _=>none) (fun _ _=>false) 100 28 zcf zcg
theorem zte:Con.Ok Tryz.prog 28 ⟨zcf,zcg,zn6⟩:=zx zn zq (by kernel_rfl)
def zft:T (zp YZ)→Option (T (zp Xa)):=sF Tryz.prog [] (fun _ _ _ _=>none) (fun _ _=>false) 100 29 YZ Xa
theorem zkc:Con.Ok Tryz.prog 29 ⟨YZ,Xa,zft⟩:=zx zn zq (by kernel_rfl)
def zn7:T (zp Wg)→Option (T (zp Wh)):=sF Tryz.prog [] (fun _ _ _ _=>none) (fun _ _=>false) 100 92 Wg Wh
theorem ztf:Con.Ok Tryz.prog 92 ⟨Wg,Wh,zn7⟩:=zx zn zq (by kernel_rfl)
def zl3:T (zp Qs)→Option (T (zp Qt)):=sF Tryz.prog [(92,⟨Wg,Wh,zn7⟩)] (fun _ _ _ _=>none) (fun _ _=>false) 100 64 Qs Qt
theorem zrr:Con.Ok Tryz.prog 64 ⟨Qs,Qt,zl3⟩:=zx (zd ztf zn) zq (by kernel_rfl)
def zl4:T (zp Qu)→Option (T (zp Qv)):=sF Tryz.prog [] (fun _ _ _ _=>none) (fun _ _=>false) 100 66 Qu Qv
theorem zrs:Con.Ok Tryz.prog 66 ⟨Qu,Qv,zl4⟩:=zx zn zq (by kernel_rfl)
def Xr:T (zp wb)→Option (T (zp wc)):=sF Tryz.prog [] (fun _ _ _ _=>none) (fun _ _=>false) 100 96 wb wc
theorem za4:Con.Ok Tryz.prog 96 ⟨wb,wc,Xr⟩:=zx zn zq (by kernel_rfl)
def Wl:T (zp js)→Option (T (zp jt)):=sF Tryz.prog [(96,⟨wb,wc,Xr⟩)] (fun _ _ _ _=>none) (fun _ _=>false) 100 65 js jt
theorem UT:Con.Ok Tryz.prog 65 ⟨js,jt,Wl⟩:=zx (zd za4 zn) zq (by kernel_rfl)
def zxz:T (zp jO)→Option (T (zp jP)):=sF Tryz.prog [(64,⟨Qs,Qt,zl3⟩),(66,⟨Qu,Qv,zl4⟩),(65,⟨js,jt,Wl⟩)] (fun _ _ _ _=>none) (fun _ _=>false) 100 37 jO jP
theorem zrt:Con.Ok Tryz.prog 37 ⟨jO,jP,zxz⟩:=zx (zd zrr (zd zrs (zd UT zn))) zq (by kernel_rfl)
def QJ:T (zp jO)→Option (T (zp jP)):=Xm [((nT,()),(0,()))]
theorem Zj:Con.Ok Tryz.prog 37 ⟨jO,jP,QJ⟩:=YC zrt (yq (by kernel_rfl) Vo)
def Xb:T (zp wM)→Option (T (zp wN)):=sF Tryz.prog [] (fun _ _ _ _=>none) (fun _ _=>false) 100 67 wM wN
theorem XL:Con.Ok Tryz.prog 67 ⟨wM,wN,Xb⟩:=zx zn zq (by kernel_rfl)
def zbc:T (zp xB)→Option (T (zp xC)):=sF Tryz.prog [(67,⟨wM,wN,Xb⟩)] (fun _ _ _ _=>none) (fun _ _=>false) 100 38 xB xC
theorem zgS:Con.Ok Tryz.prog 38 ⟨xB,xC,zbc⟩:=zx (zd XL zn) zq (by kernel_rfl)
def Uq:T (zp xn)→Option (T (zp xp)):=sF Tryz.prog [] (fun _ _ _ _=>none) (fun _ _=>false) 100 39 xn xp
theorem UU:Con.Ok Tryz.prog 39 ⟨xn,xp,Uq⟩:=zx zn zq (by kernel_rfl)
def zkd:T (zp jz)→Option (T (zp jA)):=sF Tryz.prog [(37,⟨jO,jP,QJ⟩),(38,⟨xB,xC,zbc⟩),(39,⟨xn,xp,Uq⟩)] (fun _ _ _ _=>none) (fun _ _=>false) 100 13 jz jA
theorem zgT:Con.Ok Tryz.prog 13 ⟨jz,jA,zkd⟩:=zx (zd Zj (zd zgS (zd UU zn))) zq (by kernel_rfl)
def QV:T (zp jz)→Option (T (zp jA)):=Xm [((nF,()),(0,()))]
theorem Wi:Con.Ok Tryz.prog 13 ⟨jz,jA,QV⟩:=YC zgT (yq (by kernel_rfl) Vo)
def zfu:T (zp uE)→Option (T (zp uF)):=sF Tryz.prog [(67,⟨wM,wN,Xb⟩)] (fun _ _ _ _=>none) (fun _ _=>false) 100 119 uE uF
theorem zke:Con.Ok Tryz.prog 119 ⟨uE,uF,zfu⟩:=zx (zd XL zn) zq (by kernel_rfl)
def zbd:T (zp yH)→Option (T (zp yI)):=sF Tryz.prog [] (fun _ _ _ _=>none) (fun _ _=>false) 100 86 yH yI
theorem zgU:Con.Ok Tryz.prog 86 ⟨yH,yI,zbd⟩:=zx zn zq (by kernel_rfl)
def Yi:T (zp jY)→Option (T (zp jZ)):=sF Tryz.prog [(86,⟨yH,yI,zbd⟩)] (fun _ _ _ _=>none) (fun _ _=>false) 100 84 jY jZ
theorem Wv:Con.Ok Tryz.prog 84 ⟨jY,jZ,Yi⟩:=zx (zd zgU zn) zq (by kernel_rfl)
def VA:T (zp yu)→Option (T (zp yv)):=sF Tryz.prog [] (fun _ _ _ _=>none) (fun _ _=>false) 100 176 yu yv
theorem Gu:Con.Ok Tryz.prog 176 ⟨yu,yv,VA⟩:=zx zn zq (by kernel_rfl)
def VB:T (zp yx)→Option (T (zp yy)):=sF Tryz.prog [] (fun _ _ _ _=>none) (fun _ _=>false) 100 157 yx yy
theorem Gv:Con.Ok Tryz.prog 157 ⟨yx,yy,VB⟩:=zx zn zq (by kernel_rfl)
def zdo:T (zp uj)→Option (T (zp uk)):=sF Tryz.prog [(37,⟨jO,jP,QJ⟩),(157,⟨yx,yy,VB⟩)] (fun _ _ _ _=>none) (fun _ _=>false) 100 174 uj uk
theorem zfv:Con.Ok Tryz.prog 174 ⟨uj,uk,zdo⟩:=zx (zd Zj (zd Gv zn)) zq (by kernel_rfl)
def zjK:T (zp Zu)→Option (T (zp Zv)):=sF Tryz.prog [(176,⟨yu,yv,VA⟩),(174,⟨uj,uk,zdo⟩)] (fun _ _ _ _=>none) (fun _ _=>false) 100 173 Zu Zv
theorem zpq:Con.Ok Tryz.prog 173 ⟨Zu,Zv,zjK⟩:=zx (zd Gu (zd zfv zn)) zq (by kernel_rfl)
def zl5:T (zp Qx)→Option (T (zp Qy)):=sF Tryz.prog [(173,⟨Zu,Zv,zjK⟩)] (fun _ _ _ _=>none) (fun _ _=>false) 100 154 Qx Qy
theorem zru:Con.Ok Tryz.prog 154 ⟨Qx,Qy,zl5⟩:=zx (zd zpq zn) zq (by kernel_rfl)
def zhE:T (zp gv)→Option (T (zp gw)):=sF Tryz.prog [(154,⟨Qx,Qy,zl5⟩)] (fun _ _ _ _=>none) (fun _ _=>false) 100 125 gv gw
theorem znl:Con.Ok Tryz.prog 125 ⟨gv,gw,zhE⟩:=zx (zd zru zn) zq (by kernel_rfl)
def zhF:T (zp gy)→Option (T (zp gz)):=sF Tryz.prog [] (fun _ _ _ _=>none) (fun _ _=>false) 100 158 gy gz
theorem znm:Con.Ok Tryz.prog 158 ⟨gy,gz,zhF⟩:=zx zn zq (by kernel_rfl)
def VC:T (zp wO)→Option (T (zp wP)):=sF Tryz.prog [] (fun _ _ _ _=>none) (fun _ _=>false) 100 190 wO wP
theorem zcE:Con.Ok Tryz.prog 190 ⟨wO,wP,VC⟩:=zx zn zq (by kernel_rfl)
def YE:T (zp jQ)→Option (T (zp jR)):=sF Tryz.prog [(190,⟨wO,wP,VC⟩)] (fun _ _ _ _=>none) (fun _ _=>false) 100 177 jQ jR
theorem zaK:Con.Ok Tryz.prog 177 ⟨jQ,jR,YE⟩:=zx (zd zcE zn) zq (by kernel_rfl)
def zcF:T (zp xO)→Option (T (zp xP)):=sF Tryz.prog [(176,⟨yu,yv,VA⟩),(177,⟨jQ,jR,YE⟩)] (fun _ _ _ _=>none) (fun _ _=>false) 100 159 xO xP
theorem zhG:Con.Ok Tryz.prog 159 ⟨xO,xP,zcF⟩:=zx (zd Gu (zd zaK zn)) zq (by kernel_rfl)
def zjL:T (zp Zw)→Option (T (zp Zx)):=sF Tryz.prog [(157,⟨yx,yy,VB⟩),(158,⟨gy,gz,zhF⟩),(159,⟨xO,xP,zcF⟩),(174,⟨uj,uk,zdo⟩)] (fun _ _ _ _=>none) (fun _ _=>false) 100 127 Zw Zx
theorem zpr:Con.Ok Tryz.prog 127 ⟨Zw,Zx,zjL⟩:=zx (zd Gv (zd znm (zd zhG (zd zfv zn)))) zq (by kernel_rfl)
def zbR:T (zp uQ)→Option (T (zp uR)):=sF Tryz.prog [(67,⟨wM,wN,Xb⟩),(119,⟨uE,uF,zfu⟩),(84,⟨jY,jZ,Yi⟩),(125,⟨gv,gw,zhE⟩),(127,⟨Zw,Zx,zjL⟩)] (fun _ _ _ _=>none) (fun _ _=>false) 100 82 uQ uR
theorem zdG:Con.Ok Tryz.prog 82 ⟨uQ,uR,zbR⟩:=zx (zd XL (zd zke (zd Wv (zd znl (zd zpr zn))))) zq (by kernel_rfl)
def Ww:T (zp yK)→Option (T (zp yL)):=sF Tryz.prog [(37,⟨jO,jP,QJ⟩),(82,⟨uQ,uR,zbR⟩)] (fun _ _ _ _=>none) (fun _ _=>false) 100 72 yK yL
theorem Xc:Con.Ok Tryz.prog 72 ⟨yK,yL,Ww⟩:=zx (zd Zj (zd zdG zn)) zq (by kernel_rfl)
def Yj:T (zp jE)→Option (T (zp jF)):=sF Tryz.prog [] (fun _ _ _ _=>none) (fun _ _=>false) 100 162 jE jF
theorem GC:Con.Ok Tryz.prog 162 ⟨jE,jF,Yj⟩:=zx zn zq (by kernel_rfl)
def xt:T (zp qC)→Option (T (zp qD)):=sF Tryz.prog [(162,⟨jE,jF,Yj⟩)] (fun _ _ _ _=>none) (fun _ _=>false) 100 136 qC qD
theorem vJ:Con.Ok Tryz.prog 136 ⟨qC,qD,xt⟩:=zx (zd GC zn) zq (by kernel_rfl)
def zhH:T (zp gD)→Option (T (zp gF)):=sF Tryz.prog [] (fun _ _ _ _=>none) (fun _ _=>false) 100 138 gD gF
theorem znn:Con.Ok Tryz.prog 138 ⟨gD,gF,zhH⟩:=zx zn zq (by kernel_rfl)
def zed:T (zp ZN)→Option (T (zp ZO)):=sF Tryz.prog [(37,⟨jO,jP,QJ⟩),(138,⟨gD,gF,zhH⟩)] (fun _ _ _ _=>none) (fun _ _=>false) 100 100 ZN ZO
theorem zdp:Con.Ok Tryz.prog 100 ⟨ZN,ZO,zed⟩:=zx (zd Zj (zd znn zn)) zq (by kernel_rfl)
def zgh:T (zp km)→Option (T (zp kn)):=sF Tryz.prog [(39,⟨xn,xp,Uq⟩)] (fun _ _ _ _=>none) (fun _ _=>false) 100 139 km kn
theorem zl6:Con.Ok Tryz.prog 139 ⟨km,kn,zgh⟩:=zx (zd UU zn) zq (by kernel_rfl)
def zjM:T (zp Zy)→Option (T (zp Zz)):=sF Tryz.prog [(39,⟨xn,xp,Uq⟩)] (fun _ _ _ _=>none) (fun _ _=>false) 100 191 Zy Zz
theorem zps:Con.Ok Tryz.prog 191 ⟨Zy,Zz,zjM⟩:=zx (zd UU zn) zq (by kernel_rfl)
def zl7:T (zp QA)→Option (T (zp QB)):=sF Tryz.prog [] (fun _ _ _ _=>none) (fun _ _=>false) 100 197 QA QB
theorem zrv:Con.Ok Tryz.prog 197 ⟨QA,QB,zl7⟩:=zx zn zq (by kernel_rfl)
def zl8:T (zp QC)→Option (T (zp QD)):=sF Tryz.prog [(197,⟨QA,QB,zl7⟩)] (fun _ _ _ _=>none) (fun _ _=>false) 100 192 QC QD
theorem zrw:Con.Ok Tryz.prog 192 ⟨QC,QD,zl8⟩:=zx (zd zrv zn) zq (by kernel_rfl)
def zl9:T (zp QE)→Option (T (zp QF)):=sF Tryz.prog [(191,⟨Zy,Zz,zjM⟩),(192,⟨QC,QD,zl8⟩)] (fun _ _ _ _=>none) (fun _ _=>false) 100 178 QE QF
theorem zrx:Con.Ok Tryz.prog 178 ⟨QE,QF,zl9⟩:=zx (zd zps (zd zrw zn)) zq (by kernel_rfl)
def zfw:T (zp uG)→Option (T (zp uH)):=sF Tryz.prog [(178,⟨QE,QF,zl9⟩)] (fun _ _ _ _=>none) (fun _ _=>false) 100 164 uG uH
theorem zkf:Con.Ok Tryz.prog 164 ⟨uG,uH,zfw⟩:=zx (zd zrx zn) zq (by kernel_rfl)
def UW:T (zp xe)→Option (T (zp xf)):=sF Tryz.prog [] (fun _ _ _ _=>none) (fun _ _=>false) 100 180 xe xf
theorem zbe:Con.Ok Tryz.prog 180 ⟨xe,xf,UW⟩:=zx zn zq (by kernel_rfl)
def zdH:T (zp vy)→Option (T (zp vz)):=sF Tryz.prog [(164,⟨uG,uH,zfw⟩),(180,⟨xe,xf,UW⟩)] (fun _ _ _ _=>none) (fun _ _=>false) 100 140 vy vz
theorem ziV:Con.Ok Tryz.prog 140 ⟨vy,vz,zdH⟩:=zx (zd zkf (zd zbe zn)) zq (by kernel_rfl)
def zjN:T (zp ZA)→Option (T (zp ZB)):=sF Tryz.prog [] (fun _ _ _ _=>none) (fun _ _=>false) 100 166 ZA ZB
theorem zpt:Con.Ok Tryz.prog 166 ⟨ZA,ZB,zjN⟩:=zx zn zq (by kernel_rfl)
def zcG:T (zp xQ)→Option (T (zp xR)):=sF Tryz.prog [(166,⟨ZA,ZB,zjN⟩)] (fun _ _ _ _=>none) (fun _ _=>false) 100 142 xQ xR
theorem zhI:Con.Ok Tryz.prog 142 ⟨xQ,xR,zcG⟩:=zx (zd zpt zn) zq (by kernel_rfl)
def zxA:T (zp xT)→Option (T (zp xU)):=sF Tryz.prog [(139,⟨km,kn,zgh⟩),(140,⟨vy,vz,zdH⟩),(142,⟨xQ,xR,zcG⟩),(180,⟨xe,xf,UW⟩)] (fun _ _ _ _=>none) (fun _ _=>false) 100 101 xT xU
theorem zry:Con.Ok Tryz.prog 101 ⟨xT,xU,zxA⟩:=zx (zd zl6 (zd ziV (zd zhI (zd zbe zn)))) zq (by kernel_rfl)
def zaL:T (zp xT)→Option (T (zp xU)):=Xm [((([(127,100)],100),8,200,()),((131072,1016),0,()))]
theorem zaM:Con.Ok Tryz.prog 101 ⟨xT,xU,zaL⟩:=YC zry (yq (by kernel_rfl) Vo)
def zaN:T (zp ko)→Option (T (zp kp)):=sF Tryz.prog [(84,⟨jY,jZ,Yi⟩)] (fun _ _ _ _=>none) (fun _ _=>false) 100 102 ko kp
theorem zaO:Con.Ok Tryz.prog 102 ⟨ko,kp,zaN⟩:=zx (zd Wv zn) zq (by kernel_rfl)
def zdq:T (zp xZ)→Option (T (zp ve)):=sF Tryz.prog [] (fun _ _ _ _=>none) (fun _ _=>false) 100 59 xZ ve
theorem zfx:Con.Ok Tryz.prog 59 ⟨xZ,ve,zdq⟩:=zx zn zq (by kernel_rfl)
def zdr:T (zp uo)→Option (T (zp uq)):=sF Tryz.prog [] (fun _ _ _ _=>none) (fun _ _=>false) 100 182 uo uq
theorem zfy:Con.Ok Tryz.prog 182 ⟨uo,uq,zdr⟩:=zx zn zq (by kernel_rfl)
def zgi:T (zp kr)→Option (T (zp ku)):=sF Tryz.prog [] (fun _ _ _ _=>none) (fun _ _=>false) 100 184 kr ku
theorem zma:Con.Ok Tryz.prog 184 ⟨kr,ku,zgi⟩:=zx zn zq (by kernel_rfl)
def zdI:T (zp vB)→Option (T (zp vC)):=sF Tryz.prog [] (fun _ _ _ _=>none) (fun _ _=>false) 100 183 vB vC
theorem ziW:Con.Ok Tryz.prog 183 ⟨vB,vC,zdI⟩:=zx zn zq (by kernel_rfl)
def zdJ:T (zp vD)→Option (T (zp vE)):=sF Tryz.prog [] (fun _ _ _ _=>none) (fun _ _=>false) 100 196 vD vE
theorem ziX:Con.Ok Tryz.prog 196 ⟨vD,vE,zdJ⟩:=zx zn zq (by kernel_rfl)
def Xt:T (zp wh)→Option (T (zp wi)):=sF Tryz.prog [(196,⟨vD,vE,zdJ⟩)] (fun _ _ _ _=>none) (fun _ _=>false) 100 193 wh wi
theorem za5:Con.Ok Tryz.prog 193 ⟨wh,wi,Xt⟩:=zx (zd ziX zn) zq (by kernel_rfl)
def zdK:T (zp vF)→Option (T (zp vG)):=sF Tryz.prog [(193,⟨wh,wi,Xt⟩)] (fun _ _ _ _=>none) (fun _ _=>false) 100 185 vF vG
theorem ziY:Con.Ok Tryz.prog 185 ⟨vF,vG,zdK⟩:=zx (zd za5 zn) zq (by kernel_rfl)
def zjO:T (zp ZC)→Option (T (zp ZD)):=sF Tryz.prog [(182,⟨uo,uq,zdr⟩)] (fun _ _ _ _=>none) (fun _ _=>false) 100 186 ZC ZD
theorem zpu:Con.Ok Tryz.prog 186 ⟨ZC,ZD,zjO⟩:=zx (zd zfy zn) zq (by kernel_rfl)
def zmb:T (zp QG)→Option (T (zp QH)):=sF Tryz.prog [(182,⟨uo,uq,zdr⟩),(184,⟨kr,ku,zgi⟩),(183,⟨vB,vC,zdI⟩),(185,⟨vF,vG,zdK⟩),(186,⟨ZC,ZD,zjO⟩)] (fun _ _ _ _=>none) (fun _ _=>false) 100 171 QG QH
theorem zrz:Con.Ok Tryz.prog 171 ⟨QG,QH,zmb⟩:=zx (zd zfy (zd zma (zd ziW (zd ziY (zd zpu zn))))) zq (by kernel_rfl)
def zfz:T (zp ky)→Option (T (zp kz)):=sF Tryz.prog [(171,⟨QG,QH,zmb⟩)] (fun _ _ _ _=>none) (fun _ _=>false) 100 150 ky kz
theorem zgj:Con.Ok Tryz.prog 150 ⟨ky,kz,zfz⟩:=zx (zd zrz zn) zq (by kernel_rfl)
def zfA:T (zp uI)→Option (T (zp uJ)):=sF Tryz.prog [(150,⟨ky,kz,zfz⟩)] (fun _ _ _ _=>none) (fun _ _=>false) 100 148 uI uJ
theorem zkg:Con.Ok Tryz.prog 148 ⟨uI,uJ,zfA⟩:=zx (zd zgj zn) zq (by kernel_rfl)
def Ur:T (zp uv)→Option (T (zp uw)):=sF Tryz.prog [(84,⟨jY,jZ,Yi⟩),(59,⟨xZ,ve,zdq⟩),(148,⟨uI,uJ,zfA⟩)] (fun _ _ _ _=>none) (fun _ _=>false) 100 103 uv uw
theorem UX:Con.Ok Tryz.prog 103 ⟨uv,uw,Ur⟩:=zx (zd Wv (zd zfx (zd zkg zn))) zq (by kernel_rfl)
def zdL:T (zp vH)→Option (T (zp vI)):=sF Tryz.prog [(84,⟨jY,jZ,Yi⟩),(59,⟨xZ,ve,zdq⟩)] (fun _ _ _ _=>none) (fun _ _=>false) 100 149 vH vI
theorem ziZ:Con.Ok Tryz.prog 149 ⟨vH,vI,zdL⟩:=zx (zd Wv (zd zfx zn)) zq (by kernel_rfl)
def XZ:T (zp xD)→Option (T (zp xE)):=sF Tryz.prog [(149,⟨vH,vI,zdL⟩),(150,⟨ky,kz,zfz⟩)] (fun _ _ _ _=>none) (fun _ _=>false) 100 104 xD xE
theorem VD:Con.Ok Tryz.prog 104 ⟨xD,xE,XZ⟩:=zx (zd ziZ (zd zgj zn)) zq (by kernel_rfl)
def zyt:T (zp uW)→Option (T (zp uX)):=sF Tryz.prog [(13,⟨jz,jA,QV⟩),(72,⟨yK,yL,Ww⟩),(136,⟨qC,qD,xt⟩),(100,⟨ZN,ZO,zed⟩),(101,⟨xT,xU,zaL⟩),(102,⟨ko,kp,zaN⟩),(103,⟨uv,uw,Ur⟩),(104,⟨xD,xE,XZ⟩)] (fun _ _ _ _=>none) (fun _ _=>false) 100 15 uW uX
theorem ztg:Con.Ok Tryz.prog 15 ⟨uW,uX,zyt⟩:=zx (zd Wi (zd Xc (zd vJ (zd zdp (zd zaM (zd zaO (zd UX (zd VD zn)))))))) zq (by kernel_rfl)
def zn8:T (zp uW)→Option (T (zp uX)):=Xm [((nF,[(1,0,2,6,100,0,(200,16384),6000,[[0,2]])],0,()),(((200,16384),(131072,1016),2616,216),0,())),((nF,[(1,0,2,6,100,0,(200,16384),6000,[[0,2]])],1,()),(((0,0),(0,0),0,0),4,())),((nF,[(1,0,2,6,100,0,(200,131073),6000,[[0,2]])],0,()),(((0,0),(0,0),0,0),141,())),((nF,[(1,0,2,6,201,0,(300,16384),6000,[[0,2]])],0,()),(((0,0),(0,0),0,0),2,()))]
theorem zth:Con.Ok Tryz.prog 15 ⟨uW,uX,zn8⟩:=YC ztg (yq (by kernel_rfl) (yq (by kernel_rfl) (yq (by kernel_rfl) (yq (by kernel_rfl) Vo))))
def zhJ:T (zp Kd)→Option (T (zp Ke)):=sF Tryz.prog [] (fun _ _ _ _=>none) (fun _ _=>false) 100 47 Kd Ke
theorem zno:Con.Ok Tryz.prog 47 ⟨Kd,Ke,zhJ⟩:=zx zn zq (by kernel_rfl)
def zfB:T (zp YX)→Option (T (zp YY)):=sF Tryz.prog [] (fun _ _ _ _=>none) (fun _ _=>false) 100 116 YX YY
theorem zkh:Con.Ok Tryz.prog 116 ⟨YX,YY,zfB⟩:=zx zn zq (by kernel_rfl)
def zfC:T (zp Vy)→Option (T (zp Vz)):=sF Tryz.prog [(37,⟨jO,jP,QJ⟩),(116,⟨YX,YY,zfB⟩)] (fun _ _ _ _=>none) (fun _ _=>false) 100 80 Vy Vz
theorem zgk:Con.Ok Tryz.prog 80 ⟨Vy,Vz,zfC⟩:=zx (zd Zj (zd zkh zn)) zq (by kernel_rfl)
def zxB:T (zp Yg)→Option (T (zp Yh)):=sF Tryz.prog [(13,⟨jz,jA,QV⟩),(72,⟨yK,yL,Ww⟩),(47,⟨Kd,Ke,zhJ⟩),(136,⟨qC,qD,xt⟩),(100,⟨ZN,ZO,zed⟩),(101,⟨xT,xU,zaL⟩),(102,⟨ko,kp,zaN⟩),(103,⟨uv,uw,Ur⟩),(104,⟨xD,xE,XZ⟩),(80,⟨Vy,Vz,zfC⟩)] (fun _ _ _ _=>none) (fun _ _=>false) 100 17 Yg Yh
theorem zrA:Con.Ok Tryz.prog 17 ⟨Yg,Yh,zxB⟩:=zx (zd Wi (zd Xc (zd zno (zd vJ (zd zdp (zd zaM (zd zaO (zd UX (zd VD (zd zgk zn)))))))))) zq (by kernel_rfl)
def zmc:T (zp Yg)→Option (T (zp Yh)):=Xm [((nF,[(1,0,2,6,100,0,(200,16384),6000,[[0,2]])],1,0,()),(5262,0,()))]
theorem zrB:Con.Ok Tryz.prog 17 ⟨Yg,Yh,zmc⟩:=YC zrA (yq (by kernel_rfl) Vo)
def zvl:T (zp ZE)→Option (T (zp ZF)):=sF Tryz.prog [(13,⟨jz,jA,QV⟩),(72,⟨yK,yL,Ww⟩),(136,⟨qC,qD,xt⟩),(100,⟨ZN,ZO,zed⟩),(101,⟨xT,xU,zaL⟩),(102,⟨ko,kp,zaN⟩),(103,⟨uv,uw,Ur⟩),(104,⟨xD,xE,XZ⟩),(80,⟨Vy,Vz,zfC⟩)] (fun _ _ _ _=>none) (fun _ _=>false) 100 20 ZE ZF
theorem zpv:Con.Ok Tryz.prog 20 ⟨ZE,ZF,zvl⟩:=zx (zd Wi (zd Xc (zd vJ (zd zdp (zd zaM (zd zaO (zd UX (zd VD (zd zgk zn))))))))) zq (by kernel_rfl)
def zds:T (zp ZE)→Option (T (zp ZF)):=Xm [((nF,[],()),(0,())),((nF,[(1,0,2,6,100,0,(200,16384),6000,[[0,2]])],()),(0,())),((nF,[(1,0,2,6,100,0,(200,16384),6000,[[0,2]]),(2,0,2,6,100,0,(200,16384),6000,[[0,2]])],()),(412,())),((nF,[(1,0,2,6,100,0,(7985,16384),1099511627776,[[0,2]])],()),(7,()))]
theorem zfD:Con.Ok Tryz.prog 20 ⟨ZE,ZF,zds⟩:=YC zpv (yq (by kernel_rfl) (yq (by kernel_rfl) (yq (by kernel_rfl) (yq (by kernel_rfl) Vo))))
def zti:T (zp ZY)→Option (T (zp ZZ)):=sF Tryz.prog [(37,⟨jO,jP,QJ⟩),(82,⟨uQ,uR,zbR⟩)] (fun _ _ _ _=>none) (fun _ _=>false) 100 51 ZY ZZ
theorem znp:Con.Ok Tryz.prog 51 ⟨ZY,ZZ,zti⟩:=zx (zd Zj (zd zdG zn)) zq (by kernel_rfl)
def zhK:T (zp ZY)→Option (T (zp ZZ)):=Xm [((nT,(1,0,2,6,100,0,(200,16384),6000,[[0,2]]),()),(0,())),((nT,(2,0,2,6,100,0,(200,16384),6000,[[0,2]]),()),(0,())),((nT,(1,0,2,6,100,0,(200,131073),6000,[[0,2]]),()),(0,())),((nT,(1,0,2,6,201,0,(300,16384),6000,[[0,2]]),()),(0,())),((nT,(1,0,2,6,100,0,(7985,16384),1099511627776,[[0,2]]),()),(0,()))]
theorem znq:Con.Ok Tryz.prog 51 ⟨ZY,ZZ,zhK⟩:=YC znp (yq (by kernel_rfl) (yq (by kernel_rfl) (yq (by kernel_rfl) (yq (by kernel_rfl) (yq (by kernel_rfl) Vo)))))
def zvm:T (zp Jx)→Option (T (zp Jy)):=sF Tryz.prog [(20,⟨ZE,ZF,zds⟩),(51,⟨ZY,ZZ,zhK⟩)] (fun _ _ _ _=>none) (fun _ _=>false) 100 22 Jx Jy
theorem zpw:Con.Ok Tryz.prog 22 ⟨Jx,Jy,zvm⟩:=zx (zd zfD (zd znq zn)) zq (by kernel_rfl)
def zjP:T (zp Jx)→Option (T (zp Jy)):=Xm [((nF,[],(1,0,2,6,100,0,(200,16384),6000,[[0,2]]),()),([(1,0,2,6,100,0,(200,16384),6000,[[0,2]])],0,())),((nF,[(1,0,2,6,100,0,(200,16384),6000,[[0,2]])],(2,0,2,6,100,0,(200,16384),6000,[[0,2]]),()),([],412,()))]
theorem zpx:Con.Ok Tryz.prog 22 ⟨Jx,Jy,zjP⟩:=YC zpw (yq (by kernel_rfl) (yq (by kernel_rfl) Vo))
def zmd:T (zp zaI)→Option (T (zp zaJ)):=sF Tryz.prog [] (fun _ _ _ _=>none) (fun _ _=>false) 100 24 zaI zaJ
theorem zrC:Con.Ok Tryz.prog 24 ⟨zaI,zaJ,zmd⟩:=zx zn zq (by kernel_rfl)
def zjQ:T (zp ZG)→Option (T (zp ZH)):=sF Tryz.prog [(28,⟨zcf,zcg,zn6⟩),(29,⟨YZ,Xa,zft⟩),(15,⟨uW,uX,zn8⟩),(17,⟨Yg,Yh,zmc⟩),(22,⟨Jx,Jy,zjP⟩),(24,⟨zaI,zaJ,zmd⟩),(20,⟨ZE,ZF,zds⟩)] (fun _ _ _ _=>none) (fun _ _=>false) 100 19 ZG ZH
theorem zfE:Con.Ok Tryz.prog 19 ⟨ZG,ZH,zjQ⟩:=zx (zd zte (zd zkc (zd zth (zd zrB (zd zpx (zd zrC (zd zfD zn))))))) zq (by kernel_rfl)
theorem zBI:zjQ ()=some (true,()):=by kernel_rfl
theorem zBJ:Con.Ok Tryz.prog 19 ⟨ZG,ZH,fun _=>some (true,())⟩:=⟨zfE.1,fun x r h=>zfE.2 x r (by cases x;rw [←h];exact zBI)⟩
def ZI:(Unit)→Option (Bool×Unit):=fun _=>some (true,())
theorem zpy:Con.Ok Tryz.prog 19 ⟨ZG,ZH,ZI⟩:=zBJ
theorem zpz:ZI ()=some (true,()):=rfl
abbrev QW:List VT:=[⟨false,(.list qM)⟩]
abbrev QX:List VT:=[⟨false,I⟩]
def zi0:zW:=zN [cdF qM] [] [] [] [86]
def XM (qF:vR) (a0:(List xl)):Option (Int×Unit):=
 bif (zi 200 ((a0.length:Nat):Int)) then some (131,())
 else opt (zI (fun s0:((Int×(Int×(Int×Unit)))×Unit)=>
   bif (zi s0.1.2.2.1 ((a0.length:Nat):Int)) then opt (atI a0 s0.1.2.2.1) fun x1=>
    opt (opt (qF (x1.1,(s0.1.2.1,(1099511627776,())))) fun x2=>
     bif !x2.1 then some (1,((131,()),()))
     else opt (qF (x1.2,(1,(1048576,())))) fun x3=>
      bif !x3.1 then some (1,((131,()),()))
      else some (0,((s0.1.1,()),()))) fun x4=>
    bif Nat.beq x4.1 0 then some (.inr ((x4.2.1.1,(x1.1,((wrF .i64 (s0.1.2.2.1+1)),()))),()))
    else some (.inl (1,((x4.2.1.1,(s0.1.2.1,(s0.1.2.2.1,()))),())))
   else some (.inl (0,((s0.1.1,(s0.1.2.1,(s0.1.2.2.1,()))),())))) zQ ((0,(0,(0,()))),())) fun x5=>
  bif Nat.beq x5.1 0 then some (0,())
  else some (x5.2.1.1,())
abbrev vS:Type:=((List xl)×Unit)→Option (Int×Unit)
def zbf:vR→vS:=fun qF=>sF Tryz.prog [(86,⟨yH,yI,qF⟩)] zi0 (zM []) 30 57 QW QX
theorem zki (qF) (a0):zbf qF (a0,())=XM qF a0:=by kernel_rfl
def wT:vS:=zbf wS
theorem KN:Con.Ok Tryz.prog 57 ⟨QW,QX,wT⟩:=zx (zd KK zn) zq (by kernel_rfl)
theorem zgV (a0):wT (a0,())=XM wS a0:=zki wS a0
abbrev zbS:List VT:=[⟨true,zv⟩,⟨false,(.list qM)⟩]
abbrev zbT:List VT:=[⟨false,I⟩]
def zrD:zW:=zN [cdF zv] [] [] [] [84,57]
def zbU (zT:yf) (qS:vS) (a0:qi) (a1:(List xl)):Option (Int×Unit):=
 opt (zT (a0,())) fun x0=>
 bif !(zo x0.1 0) then some (x0.1,())
 else opt (qS (a1,())) fun x1=>
  some (x1.1,())
abbrev Kf:Type:=(qi×(List xl)×Unit)→Option (Int×Unit)
def zhL:yf→vS→Kf:=fun zT qS=>sF Tryz.prog [(84,⟨jY,jZ,zT⟩),(57,⟨QW,QX,qS⟩)] zrD (zM []) 30 53 zbS zbT
theorem ztj (zT) (qS) (a0) (a1):zhL zT qS (a0,a1,())=zbU zT qS a0 a1:=by kernel_rfl
def Qa:Kf:=zhL qR wT
theorem znr:Con.Ok Tryz.prog 53 ⟨zbS,zbT,Qa⟩:=zx (zd ZK (zd KN zn)) zq (by kernel_rfl)
theorem zns (a0) (a1):Qa (a0,a1,())=zbU qR wT a0 a1:=ztj qR wT a0 a1
abbrev zbV:List VT:=[⟨true,zv⟩,⟨false,(.list qM)⟩]
abbrev zbW:List VT:=[⟨false,I⟩]
def zrE:zW:=zN [cdF zv] [] [] [] []
def zbX (a0:qi) (a1:(List xl)):Option (Int×Unit):=
 opt (zI (fun s0:((Int×(Int×(Int×(Int×Unit))))×(Unit×(Unit×Unit)))=>
  bif (zi s0.1.2.2.2.1 ((a1.length:Nat):Int)) then opt (atI a1 s0.1.2.2.2.1) fun x1=>
   bif (zi (wrF .i64 ((jh (wrF .i64 (a0.1*1048576)) (wrF .i64 (s0.1.2.1+(wrF .i64 (a0.2*(wrF .i64 (x1.1 - s0.1.2.2.1))))))) - (wrF .i64 (x1.2*1048576)))) 0) then some (.inl (3,((s0.1.2.2.2.1,((wrF .i64 ((jh (wrF .i64 (a0.1*1048576)) (wrF .i64 (s0.1.2.1+(wrF .i64 (a0.2*(wrF .i64 (x1.1 - s0.1.2.2.1))))))) - (wrF .i64 (x1.2*1048576)))),(x1.1,(s0.1.2.2.2.1,())))),((),((),())))))
   else some (.inr ((s0.1.1,((wrF .i64 ((jh (wrF .i64 (a0.1*1048576)) (wrF .i64 (s0.1.2.1+(wrF .i64 (a0.2*(wrF .i64 (x1.1 - s0.1.2.2.1))))))) - (wrF .i64 (x1.2*1048576)))),(x1.1,((wrF .i64 (s0.1.2.2.2.1+1)),())))),((),((),()))))
  else some (.inl (0,((s0.1.1,(s0.1.2.1,(s0.1.2.2.1,(s0.1.2.2.2.1,())))),((),((),())))))) zQ ((0,((wrF .i64 (a0.1*1048576)),(0,(0,())))),((),((),())))) fun x2=>
 bif Nat.beq x2.1 0 then some ((-1),())
 else bif Nat.beq x2.1 1 then some (x2.2.1.1,())
  else bif Nat.beq x2.1 2 then some ((-1),())
   else some (x2.2.1.1,())
abbrev Kg:Type:=(qi×(List xl)×Unit)→Option (Int×Unit)
def zhM:Kg:=sF Tryz.prog [] zrE (zM []) 30 54 zbV zbW
theorem ztk (a0) (a1):zhM (a0,a1,())=zbX a0 a1:=by kernel_rfl
def Qb:Kg:=zhM
theorem znt:Con.Ok Tryz.prog 54 ⟨zbV,zbW,Qb⟩:=zx zn zq (by kernel_rfl)
theorem znu (a0) (a1):Qb (a0,a1,())=zbX  a0 a1:=ztk  a0 a1
abbrev Wx:List VT:=[⟨true,zv⟩,⟨false,(.list qM)⟩]
abbrev Wy:List VT:=[⟨false,.bool⟩,⟨false,I⟩]
def zme:zW:=zN [cdF zv] [] [] [] [53,54]
def Kw (Qh:Kf) (Qi:Kg) (a0:qi) (a1:(List xl)):Option (Bool×Int×Unit):=
 opt (Qh (a0,(a1,()))) fun x0=>
 bif !(zo x0.1 0) then some (false,(x0.1,()))
 else opt (Qi (a0,(a1,()))) fun x1=>
  some ((zi x1.1 0),(0,()))
abbrev Kx:Type:=(qi×(List xl)×Unit)→Option (Bool×Int×Unit)
def zdM:Kf→Kg→Kx:=fun Qh Qi=>sF Tryz.prog [(53,⟨zbS,zbT,Qh⟩),(54,⟨zbV,zbW,Qi⟩)] zme (zM []) 30 30 Wx Wy
theorem znv (Qh) (Qi) (a0) (a1):zdM Qh Qi (a0,a1,())=Kw Qh Qi a0 a1:=by kernel_rfl
def xz:Kx:=zdM Qa Qb
theorem zi1:Con.Ok Tryz.prog 30 ⟨Wx,Wy,xz⟩:=zx (zd znr (zd znt zn)) zq (by kernel_rfl)
theorem zi2 (a0) (a1):xz (a0,a1,())=Kw Qa Qb a0 a1:=znv Qa Qb a0 a1
abbrev UY:List VT:=[⟨false,I⟩,⟨false,(.list I)⟩]
abbrev UZ:List VT:=[⟨false,I⟩]
def znw:zW:=zN [] [] [] [] []
def Ga (a0:Int) (a1:(List Int)):Option (Int×Unit):=
 opt (zI (fun s0:((Int×(Int×Unit))×Unit)=>
  bif (zi s0.1.2.1 ((a1.length:Nat):Int)) then opt (atI a1 s0.1.2.1) fun x1=>
   some (.inr (((vq s0.1.1 x1),((wrF .i64 (s0.1.2.1+1)),())),()))
  else some (.inl (0,((s0.1.1,(s0.1.2.1,())),())))) zQ ((a0,(0,())),())) fun x2=>
 some (x2.2.1.1,())
abbrev Xd:Type:=(Int×(List Int)×Unit)→Option (Int×Unit)
def zfF:Xd:=sF Tryz.prog [] znw (zM []) 30 60 UY UZ
theorem zpA (a0) (a1):zfF (a0,a1,())=Ga a0 a1:=by kernel_rfl
def gK:Xd:=zfF
theorem zkj:Con.Ok Tryz.prog 60 ⟨UY,UZ,gK⟩:=zx zn zq (by kernel_rfl)
theorem zkk (a0) (a1):gK (a0,a1,())=Ga  a0 a1:=zpA  a0 a1
abbrev Us:List VT:=[⟨false,(.list qM)⟩,⟨true,yb⟩]
abbrev Ut:List VT:=[⟨false,(.list I)⟩,⟨false,I⟩]
def ztl:zW:=zN [cdF yb] [] [⟨2,55,some 4,I,false⟩,⟨7,55,some 4,I,false⟩,⟨2,55,some 2,qM,false⟩,⟨7,55,some 2,qM,false⟩] [] [57,59,60]
def zdt (qS:vS) (qK:kY) (xX:Xd) (a0:(List xl)) (a1:jx):Option ((List Int)×Int×Unit):=
 opt (qS (a0,())) fun x0=>
 bif !(zo x0.1 0) then bif !(zo x0.1 0) then some ([],(x0.1,()))
  else bif (zeu 0 ((a0.length:Nat):Int) 8) then opt (zI (fun s1:((Int×(Int×Unit))×((List Int)×Unit))=>
     bif (zi s1.1.2.1 ((a0.length:Nat):Int)) then opt (atI a0 s1.1.2.1) fun x2=>
      opt (xX (s1.1.1,(((wrF .i64 (x2.1*a1.1))::[]),()))) fun x3=>
      bif zo a1.1 0 then none
      else bif (qE s1.2.1.length (((wrF .i64 (a1.2+(wrF .i64 (Int.tdiv (wrF .i64 ((wrF .i64 ((wrF .i64 (x3.1+(wrF .i64 (x2.2*1048576))))+a1.1)) - 1)) a1.1))))::[]).length) 8) then some (.inr (((wrF .i64 (x3.1+(wrF .i64 (x2.2*1048576)))),((wrF .i64 (s1.1.2.1+1)),())),((s1.2.1++((wrF .i64 (a1.2+(wrF .i64 (Int.tdiv (wrF .i64 ((wrF .i64 ((wrF .i64 (x3.1+(wrF .i64 (x2.2*1048576))))+a1.1)) - 1)) a1.1))))::[])),())))
       else none
     else some (.inl (0,((s1.1.1,(s1.1.2.1,())),(s1.2.1,()))))) zQ ((0,(0,())),((List.replicate (Int.toNat 0) 0),()))) fun x4=>
    some (x4.2.2.1,(0,()))
   else none
 else opt (qK (a1,())) fun x5=>
  bif !(zo x5.1 0) then bif !(zo x5.1 0) then some ([],(x5.1,()))
   else bif (zeu 0 ((a0.length:Nat):Int) 8) then opt (zI (fun s6:((Int×(Int×Unit))×((List Int)×Unit))=>
      bif (zi s6.1.2.1 ((a0.length:Nat):Int)) then opt (atI a0 s6.1.2.1) fun x7=>
       opt (xX (s6.1.1,(((wrF .i64 (x7.1*a1.1))::[]),()))) fun x8=>
       bif zo a1.1 0 then none
       else bif (qE s6.2.1.length (((wrF .i64 (a1.2+(wrF .i64 (Int.tdiv (wrF .i64 ((wrF .i64 ((wrF .i64 (x8.1+(wrF .i64 (x7.2*1048576))))+a1.1)) - 1)) a1.1))))::[]).length) 8) then some (.inr (((wrF .i64 (x8.1+(wrF .i64 (x7.2*1048576)))),((wrF .i64 (s6.1.2.1+1)),())),((s6.2.1++((wrF .i64 (a1.2+(wrF .i64 (Int.tdiv (wrF .i64 ((wrF .i64 ((wrF .i64 (x8.1+(wrF .i64 (x7.2*1048576))))+a1.1)) - 1)) a1.1))))::[])),())))
        else none
      else some (.inl (0,((s6.1.1,(s6.1.2.1,())),(s6.2.1,()))))) zQ ((0,(0,())),((List.replicate (Int.toNat 0) 0),()))) fun x9=>
     some (x9.2.2.1,(0,()))
    else none
  else bif (zeu 0 ((a0.length:Nat):Int) 8) then opt (zI (fun s10:((Int×(Int×Unit))×((List Int)×Unit))=>
     bif (zi s10.1.2.1 ((a0.length:Nat):Int)) then opt (atI a0 s10.1.2.1) fun x11=>
      opt (xX (s10.1.1,(((wrF .i64 (x11.1*a1.1))::[]),()))) fun x12=>
      bif zo a1.1 0 then none
      else bif (qE s10.2.1.length (((wrF .i64 (a1.2+(wrF .i64 (Int.tdiv (wrF .i64 ((wrF .i64 ((wrF .i64 (x12.1+(wrF .i64 (x11.2*1048576))))+a1.1)) - 1)) a1.1))))::[]).length) 8) then some (.inr (((wrF .i64 (x12.1+(wrF .i64 (x11.2*1048576)))),((wrF .i64 (s10.1.2.1+1)),())),((s10.2.1++((wrF .i64 (a1.2+(wrF .i64 (Int.tdiv (wrF .i64 ((wrF .i64 ((wrF .i64 (x12.1+(wrF .i64 (x11.2*1048576))))+a1.1)) - 1)) a1.1))))::[])),())))
       else none
     else some (.inl (0,((s10.1.1,(s10.1.2.1,())),(s10.2.1,()))))) zQ ((0,(0,())),((List.replicate (Int.toNat 0) 0),()))) fun x13=>
    some (x13.2.2.1,(0,()))
   else none
abbrev zdu:Type:=((List xl)×jx×Unit)→Option ((List Int)×Int×Unit)
def zjR:vS→kY→Xd→zdu:=fun qS qK xX=>sF Tryz.prog [(57,⟨QW,QX,qS⟩),(59,⟨xZ,ve,qK⟩),(60,⟨UY,UZ,xX⟩)] ztl (zM []) 30 31 Us Ut
theorem zvn (qS) (qK) (xX) (a0) (a1):zjR qS qK xX (a0,a1,())=zdt qS qK xX a0 a1:=by kernel_rfl
def Jz:zdu:=zjR wT yN gK
theorem zpB:Con.Ok Tryz.prog 31 ⟨Us,Ut,Jz⟩:=zx (zd KN (zd UN (zd zkj zn))) zq (by kernel_rfl)
theorem zpC (a0) (a1):Jz (a0,a1,())=zdt wT yN gK a0 a1:=zvn wT yN gK a0 a1
abbrev QY:List VT:=[⟨true,yR⟩,⟨false,(.int .u8)⟩,⟨false,(.list (.int .u8))⟩,⟨false,(.list (.int .u16))⟩,⟨false,(.list (.int .u8))⟩]
abbrev XN:List VT:=[⟨false,.bool⟩]
def zaP:zW:=zN [cdF yR,cdF wK,cdF zK,cdF jX,cdF xH,cdF Xy,cdF zG,cdF qc,⟨(.pair (.int .u8) (.pair (.int .u8) (.int .u8))),WL (.pair (.int .u8) (.pair (.int .u8) (.int .u8))),[]⟩,cdF zR,cdF Zc,cdF qq] [] [⟨1,196,some 16,zK,true⟩,⟨1,196,some 18,qM,true⟩,⟨6,196,some 16,zK,true⟩,⟨6,196,some 18,qM,true⟩,⟨10,196,some 16,zK,true⟩,⟨10,196,some 18,qM,true⟩,⟨12,196,some 16,zK,true⟩,⟨12,196,some 18,qM,true⟩,⟨18,196,some 16,zK,true⟩,⟨18,196,some 18,qM,true⟩,⟨20,196,some 16,zK,true⟩,⟨20,196,some 18,qM,true⟩,⟨24,196,some 16,zK,true⟩,⟨24,196,some 18,qM,true⟩,⟨28,196,some 16,zK,true⟩,⟨28,196,some 18,qM,true⟩,⟨30,196,some 16,zK,true⟩,⟨30,196,some 18,qM,true⟩,⟨34,196,some 16,zK,true⟩,⟨34,196,some 18,qM,true⟩,⟨37,196,some 16,zK,true⟩,⟨37,196,some 18,qM,true⟩,⟨39,196,some 16,zK,true⟩,⟨39,196,some 18,qM,true⟩] [] [19,15,27,30]
def XO (Uw:(Unit)→Option (Bool×Unit)) (Wz:Kp) (Zo:WS) (zch:zgK) (yW:Ye) (WA:Kx) (Ux:zdu) (a0:jK) (a1:Int) (a2:(List Int)) (a3:(List Int)) (a4:(List Int)):Option (Bool×Unit):=
 opt (Uw ()) fun x0=>
 bif !x0.1 then some (false,())
 else opt (Wz (a0,())) fun x1=>
  opt (Zo (a0,())) fun x2=>
  bif (zo ((x1.1.2.2.1.length:Nat):Int) 0) then none
  else opt (zch (x1.1,(x2.1,((Int.tmod (wrF .i64 a1) ((x1.1.2.2.1.length:Nat):Int)),())))) fun x3=>
   bif !(zo x3.2.1 0) then some ((((zo x3.1.1.1 0)&&((zo x3.1.1.2 0)&&true))&&(((zo x3.1.2.1.1 0)&&((zo x3.1.2.1.2 0)&&true))&&((zo x3.1.2.2.1 0)&&((zo x3.1.2.2.2 0)&&true)))),())
   else opt (zI (fun s4:((Int×Unit)×((List (Int×(Int×(Int×(Int×(Int×(Int×((Int×Int)×(Int×(List (List Int)))))))))))×Unit))=>
     bif (zi s4.1.1 ((x2.1.length:Nat):Int)) then opt (opt (atI x2.1 s4.1.1) fun x5=>
       opt (yW (x5,((Int.tmod (wrF .i64 a1) ((x1.1.2.2.1.length:Nat):Int)),()))) fun x6=>
       bif x6.1 then opt (atI x2.1 s4.1.1) fun x7=>
        bif (qE s4.2.1.length ((x7::[]).length) 96) then some (0,((),((s4.2.1++(x7::[])),())))
        else none
       else some (0,((),(s4.2.1,())))) fun x8=>
      some (.inr (((wrF .i64 (s4.1.1+1)),()),(x8.2.2.1,())))
     else some (.inl (0,((s4.1.1,()),(s4.2.1,()))))) zQ ((0,()),([],()))) fun x9=>
    bif (zeu ((x9.2.2.1.length:Nat):Int) ((x9.2.2.1.length:Nat):Int) 24) then opt (zI (fun s10:((Int×(Bool×(Int×Unit)))×((List (List (Int×Int)))×((List (Int×Int))×Unit)))=>
      bif (zi s10.1.2.2.1 ((a2.length:Nat):Int)) then bif zi s10.1.2.2.1 40 then opt (bif (zi s10.1.2.2.1 ((a3.length:Nat):Int)) then opt (atI a3 s10.1.2.2.1) fun x11=>
          some (0,(((wrF .i64 (s10.1.1+(wrF .i64 x11))),()),()))
         else some (0,((s10.1.1,()),()))) fun x12=>
        opt (atI a2 s10.1.2.2.1) fun x13=>
        bif (zo ((x9.2.2.1.length:Nat):Int) 0) then none
        else opt (atI x9.2.2.1 (Int.tmod (wrF .i64 x13) ((x9.2.2.1.length:Nat):Int))) fun x14=>
         opt (gl x9.2.2.1 (Int.toNat (Int.tmod (wrF .i64 x13) ((x9.2.2.1.length:Nat):Int)))) fun x15=>
         opt (bif (zi s10.1.2.2.1 ((a4.length:Nat):Int)) then opt (atI a4 s10.1.2.2.1) fun x16=>
           opt (atI x9.2.2.1 (Int.tmod (wrF .i64 x13) ((x9.2.2.1.length:Nat):Int))) fun x17=>
           opt (gl x9.2.2.1 (Int.toNat (Int.tmod (wrF .i64 x13) ((x9.2.2.1.length:Nat):Int)))) fun x18=>
           bif (zo (wrF .i64 ((wrF .i64 (x18.2.2.2.2.1 - 84))+1)) 0) then none
           else some (0,(((x12.2.1.1,(wrF .i64 (84+(Int.tmod (wrF .i64 x16) (wrF .i64 ((wrF .i64 (x18.2.2.2.2.1 - 84))+1)))))),()),()))
          else some (0,(((x12.2.1.1,x15.2.2.2.2.1),()),()))) fun x19=>
         opt (atI s10.2.1 (Int.tmod (wrF .i64 x13) ((x9.2.2.1.length:Nat):Int))) fun x20=>
         opt (gl s10.2.1 (Int.toNat (Int.tmod (wrF .i64 x13) ((x9.2.2.1.length:Nat):Int)))) fun x21=>
         bif qE 0 x21.length 16 then bif (qE x21.length ((x19.2.1.1::[]).length) 16) then opt (atI x9.2.2.1 (Int.tmod (wrF .i64 x13) ((x9.2.2.1.length:Nat):Int))) fun x22=>
           opt (gl x9.2.2.1 (Int.toNat (Int.tmod (wrF .i64 x13) ((x9.2.2.1.length:Nat):Int)))) fun x23=>
           opt (WA (x23.2.2.2.2.2.2.1,((x21++(x19.2.1.1::[])),()))) fun x24=>
           bif !(zo x24.2.1 0) then some (.inl (1,((x12.2.1.1,(false,(s10.1.2.2.1,()))),(s10.2.1,(s10.2.2.1,())))))
           else bif x24.1 then opt (atI s10.2.1 (Int.tmod (wrF .i64 x13) ((x9.2.2.1.length:Nat):Int))) fun x25=>
             opt (gl s10.2.1 (Int.toNat (Int.tmod (wrF .i64 x13) ((x9.2.2.1.length:Nat):Int)))) fun x26=>
             bif (qE s10.2.2.1.length ((x19.2.1.1::[]).length) 16) then some (.inr ((x12.2.1.1,(s10.1.2.1,((wrF .i64 (s10.1.2.2.1+1)),()))),((s10.2.1.set (Int.toNat (Int.tmod (wrF .i64 x13) ((x9.2.2.1.length:Nat):Int))) (x21++(x19.2.1.1::[]))),((s10.2.2.1++(x19.2.1.1::[])),()))))
             else none
            else some (.inr ((x12.2.1.1,(s10.1.2.1,((wrF .i64 (s10.1.2.2.1+1)),()))),(s10.2.1,(s10.2.2.1,()))))
          else none
         else none
       else some (.inl (0,((s10.1.1,(s10.1.2.1,(s10.1.2.2.1,()))),(s10.2.1,(s10.2.2.1,())))))
      else some (.inl (0,((s10.1.1,(s10.1.2.1,(s10.1.2.2.1,()))),(s10.2.1,(s10.2.2.1,())))))) zQ ((0,(false,(0,()))),((List.replicate (Int.toNat ((x9.2.2.1.length:Nat):Int)) ([])),([],())))) fun x27=>
     bif Nat.beq x27.1 0 then opt (Ux (x27.2.2.2.1,(x3.1.2.1,()))) fun x28=>
      opt (bif !(zo x28.2.1 0) then some (1,((false,()),()))
       else bif (!(zo ((x28.1.length:Nat):Int) ((x27.2.2.2.1.length:Nat):Int))) then some (1,((false,()),()))
        else some (0,((x27.2.1.2.1,()),()))) fun x29=>
      bif Nat.beq x29.1 0 then opt (zI (fun s30:((Bool×(Int×Unit))×Unit)=>
        bif (zi s30.1.2.1 ((x27.2.2.2.1.length:Nat):Int)) then opt (atI x28.1 s30.1.2.1) fun x31=>
         opt (atI x27.2.2.2.1 s30.1.2.1) fun x32=>
         bif (zi (wrF .i64 (x32.1+x3.1.2.2.1)) x31) then some (.inl (1,((false,(s30.1.2.1,())),())))
         else some (.inr ((s30.1.1,((wrF .i64 (s30.1.2.1+1)),())),()))
        else some (.inl (0,((s30.1.1,(s30.1.2.1,())),())))) zQ ((x29.2.1.1,(0,())),())) fun x33=>
       bif Nat.beq x33.1 0 then some (true,())
       else some (x33.2.1.1,())
      else some (x29.2.1.1,())
     else some (x27.2.1.2.1,())
    else none
theorem zkl (Uw:(Unit)→Option (Bool×Unit)) (Wz:(jK×Unit)→Option (uV×Unit)) (Zo:(jK×Unit)→Option ((List jL)×Unit)) (zch:(uV×(List jL)×Int×Unit)→Option (GW×Int×Unit)) (yW:(jL×Int×Unit)→Option (Bool×Unit)) (WA:(qi×(List xl)×Unit)→Option (Bool×Int×Unit)) (Ux:((List xl)×jx×Unit)→Option ((List Int)×Int×Unit)) (a0:jK) (a1:Int) (a2:(List Int)) (a3:(List Int)) (a4:(List Int)):sF Tryz.prog [(19,⟨ZG,ZH,Uw⟩),(10,⟨Wn,Wo,Wz⟩),(11,⟨Zg,Zh,Zo⟩),(15,⟨uW,uX,zch⟩),(27,⟨Yc,Yd,yW⟩),(30,⟨Wx,Wy,WA⟩),(31,⟨Us,Ut,Ux⟩)] zaP (zM [(30,196)]) 30 9 QY XN (a0,a1,a2,a3,a4,())=XO Uw Wz Zo zch yW WA Ux a0 a1 a2 a3 a4:=by kernel_rfl
def QZ:(jK×Int×(List Int)×(List Int)×(List Int)×Unit)→Option (Bool×Unit):=sF Tryz.prog [(19,⟨ZG,ZH,ZI⟩),(10,⟨Wn,Wo,vv⟩),(11,⟨Zg,Zh,yS⟩),(15,⟨uW,uX,XA⟩),(27,⟨Yc,Yd,vo⟩),(30,⟨Wx,Wy,xz⟩),(31,⟨Us,Ut,Jz⟩)] zaP (zM [(30,196)]) 30 9 QY XN
theorem zgW:Con.Ok Tryz.prog 9 ⟨QY,XN,QZ⟩:=zx (zd zpy (zd ziA (zd zeZ (zd zsZ (zd zng (zd zi1 (zd zpB zn))))))) zq (by kernel_rfl)
theorem zgX (a0:jK) (a1:Int) (a2:(List Int)) (a3:(List Int)) (a4:(List Int)):QZ (a0,a1,a2,a3,a4,())=XO ZI vv yS XA vo xz Jz a0 a1 a2 a3 a4:=zkl ZI vv yS XA vo xz Jz a0 a1 a2 a3 a4
abbrev ya:=Int×Int×Int×Int
abbrev qk:=Int×List Bool×List ya
def je (t:qk) (n:Int):Prop:=0≤n∧n < t.1
def stn (t:qk) (n:Int):Bool:=(t.2.1[n.toNat]?).getD false
def zdv (t:qk) (l:ya):Prop:=je t l.1∧je t l.2.1∧l.1≠l.2.1∧¬(stn t l.1=true∧stn t l.2.1=true)∧1≤l.2.2.1∧l.2.2.1≤1000∧0≤l.2.2.2∧l.2.2.2≤10000
def gR (o:ya) (a b:Int):Prop:=(o.1=a∧o.2.1=b)∨(o.1=b∧o.2.1=a)
structure szP (t:qk):Prop where
 n0:2≤t.1
 n1:t.1≤12
 st:(t.2.1.length:Int)=t.1
 ls:t.2.2.length≤24
def zgl (t:qk):Prop:=∀(i:Nat) l,t.2.2[i]?=some l→zdv t l∧∀(k:Nat) o,k < i→t.2.2[k]?=some o→¬gR o l.1 l.2.1
def one (a:Int) (n:Nat):Int:=if a=(n:Int) then 1 else 0
def cnt (ls:List ya) (n:Nat):Int:=(ls.map fun l=>one l.1 n+one l.2.1 n).sum
def stp (r:List Bool) (l:ya):List Bool:=bif (r[l.1.toNat]?).getD false||(r[l.2.1.toNat]?).getD false then (r.set l.1.toNat true).set l.2.1.toNat true else r
def zaQ (ls:List ya):Nat→List Bool→List Bool
 |0,r=>r
 |n+1,r=>zaQ ls n (ls.foldl stp r)
def reachS (t:qk) (a:Nat):List Bool:=zaQ t.2.2 t.1.toNat ((List.replicate t.1.toNat false).set a true)
structure wU (t:qk):Prop where
 sz:szP t
 ls:zgl t
 re:∀(n:Nat),(n:Int) < t.1→(reachS t 0)[n]?=some true
 ct:∀(n:Nat),(n:Int) < t.1→stn t n=true→1≤cnt t.2.2 n∧cnt t.2.2 n≤2
theorem zFd {t:qk} {n:Nat} {b:Bool} (h:t.2.1[n]?=some b):stn t n=b:=by unfold stn;simp [h]
theorem zhN {t:qk} {n:Int} {b:Bool} (h:t.2.1[n.toNat]?=some b):stn t n=b:=by unfold stn;simp [h]
theorem ztm (t:qk) (n:Int):WO (t,n,())=some (tv (je t n),()):=by
 rw [zqz];unfold zeL je
 refine wu ?_
 refine zj (fun h=>?_) (fun h=>?_)<;>refine za ?_<;>simp only [xb] at *<;>grind
theorem zjS (t:qk) (n:Int):Xz (t,n,())=some (tv (je t n),()):=by
 rw [zsI];unfold zgD je
 refine wu ?_
 refine zj (fun h=>?_) (fun h=>?_)<;>refine za ?_<;>simp only [xb] at *<;>grind
theorem zgm (l:ya) (a b:Int):kV (l,a,b,())=some (tv (gR l a b),()):=by
 rw [zoI];unfold zcP gR
 refine wu ?_
 repeat' first | refine zj (fun h=>?_) (fun h=>?_) | refine za ?_
 all_goals simp only [ju] at *
 all_goals grind
theorem je.lt {t:qk} {n:Int} (h:je t n) (hs:szP t):n.toNat < t.2.1.length:=by
 have:=hs.st;have:=h.1;have:=h.2;omega
theorem je.lt' {t:qk} {n:Int} (h:je t n) (hs:szP t):n < (t.2.1.length:Int):=by
 have:=hs.st;have:=h.1;have:=h.2;omega
theorem ztn {t:qk} (hs:szP t) (l:ya):Qp (t,l,())=some (tv (zdv t l),()):=by
 rw [zqB];unfold zeO
 simp only [ztm,zD]
 refine wu (zk (J:=fun x=>(x.1=0∧je t l.1∧je t l.2.1∧l.1≠l.2.1∧¬(stn t l.1=true∧stn t l.2.1=true))∨(x.1=1∧x.2.1.1=false∧¬(je t l.1∧je t l.2.1∧l.1≠l.2.1∧¬(stn t l.1=true∧stn t l.2.1=true)))) ?_ ?_)
 ·refine zj (fun h=>?_) (fun h=>?_)
  ·have:¬je t l.1:=by intro hn;rw [qf hn] at h;cases h
   exact za (.inr ⟨rfl,rfl,by grind⟩)
  have h1:je t l.1:=xk h
  refine zj (fun h=>?_) (fun h=>?_)
  ·have:¬je t l.2.1:=by intro hn;rw [qf hn] at h;cases h
   exact za (.inr ⟨rfl,rfl,by grind⟩)
  have h2:je t l.2.1:=xk h
  refine zj (fun h=>?_) (fun h=>?_)
  ·have:=qO h
   exact za (.inr ⟨rfl,rfl,by grind⟩)
  have h3:=jM h
  refine zg (jv h1.1 (h1.lt' hs) fun x hx=>?_)
  have e1:=zhN hx
  refine zj (fun h=>?_) (fun h=>?_)
  ·refine zg (jv h2.1 (h2.lt' hs) fun y hy=>?_)
   have e2:=zhN hy
   refine zj (fun h=>?_) (fun h=>?_)
   ·exact za (.inr ⟨rfl,rfl,by grind⟩)
   ·exact za (.inl ⟨rfl,by grind⟩)
  ·exact za (.inl ⟨rfl,by grind⟩)
 ·rintro ⟨j,⟨v,⟨⟩⟩,⟨⟩⟩ (⟨rfl,hp⟩ | ⟨rfl,rfl,hp⟩)
  ·rw [show (Nat.beq 0 0)=true from rfl,cond_true]
   unfold zdv
   repeat' first | refine zj (fun h=>?_) (fun h=>?_) | refine za ?_
   all_goals simp only [xb] at *
   all_goals grind
  ·rw [show (Nat.beq 1 0)=false from rfl,cond_false]
   unfold zdv
   exact za (by grind)
theorem zfG {l:List Int} (hn:l.length≤1000000000000000000) (x:Int):vj (l,x,())=some (tv (x∈l),()):=by
 rw [zuF];unfold ziD
 refine wu (zk (J:=fun r=>(r.1=0∧¬x∈l)∨(r.1=1∧r.2.1.1=true∧x∈l)) (jn l.length (fun i=>l[i]?≠some x) hn ?_ ?_) ?_)
 ·intro i hi hp
  have hx:l[i]?=some l[i]:=List.getElem?_eq_getElem hi
  refine zf (zZ (show (i:Int) < _ by omega)) (zg (zC (n:=i) hx (zj (fun h=>?_) (fun h=>?_))))
  ·have:=qO h
   exact za (zu (.inr ⟨rfl,rfl,by rw [←this];exact List.getElem_mem hi⟩))
  ·have:=jM h
   exact za (yr (by omega) (by grind))
 ·intro hp
  refine ze (zJ (show ¬(l.length:Int) < _ by omega)) (za (zu (.inl ⟨rfl,fun hm=>?_⟩)))
  obtain ⟨k,hk⟩:=List.getElem?_of_mem hm
  exact hp k (by grind) hk
 ·rintro ⟨j,⟨v,w,⟨⟩⟩,⟨⟩⟩ (⟨rfl,hp⟩ | ⟨rfl,rfl,hp⟩)
  ·exact za (by simp [hp])
  ·exact za (by simp [hp])
theorem zEx (r:List Bool) (l:ya):(stp r l).length=r.length:=by
 unfold stp
 cases (r[l.1.toNat]?).getD false||(r[l.2.1.toNat]?).getD false<;>simp
theorem zi3 (ls:List ya):∀r:List Bool,(ls.foldl stp r).length=r.length:=by
 induction ls with
 |nil=>intro r;rfl
 |cons l ls ih=>intro r;rw [List.foldl_cons,ih,zEx]
theorem zpD (ls:List ya):∀(n:Nat) (r:List Bool),(zaQ ls n r).length=r.length
 |0,r=>rfl
 |n+1,r=>by rw [zaQ,zpD ls n,zi3]
theorem zui (ls:List ya):∀(n:Nat) (r:List Bool),zaQ ls (n+1) r=ls.foldl stp (zaQ ls n r)
 |0,r=>rfl
 |n+1,r=>by rw [zaQ,zui ls n,zaQ]
def QK (t:qk) (i:Nat):List Int:=(List.range t.1.toNat).map (cnt (t.2.2.take i))
theorem zBK (a:Int) (n:Nat):0≤one a n∧one a n≤1:=by unfold one;split<;>omega
theorem zBL (ls:List ya) (n:Nat):0≤cnt ls n∧cnt ls n≤2*ls.length:=by
 unfold cnt
 induction ls with
 |nil=>simp
 |cons l ls ih=>
  have:=zBK l.1 n;have:=zBK l.2.1 n
  simp only [List.map_cons,List.sum_cons,List.length_cons]
  omega
theorem zxC {ls:List ya} {i:Nat} {l:ya} (h:ls[i]?=some l) (n:Nat):cnt (ls.take (i+1)) n=cnt (ls.take i) n+(one l.1 n+one l.2.1 n):=by
 unfold cnt
 rw [List.take_add_one,h];simp
theorem Gb (t:qk) (i:Nat):(QK t i).length=t.1.toNat:=by simp [QK]
theorem zbY {t:qk} {i n:Nat} (h:n < t.1.toNat):(QK t i)[n]?=some (cnt (t.2.2.take i) n):=by simp [QK,h]
theorem zBM {t:qk} {i:Nat} {l:ya} (h:t.2.2[i]?=some l) (hl:t.2.2.length≤24) (ha:je t l.1) (hb:je t l.2.1) (hab:l.1≠l.2.1) {u v:Int}
  (hu:(QK t i)[l.1.toNat]?=some u) (hv:((QK t i).set l.1.toNat (wrF .i64 (u+1)))[l.2.1.toNat]?=some v) :
  ((QK t i).set l.1.toNat (wrF .i64 (u+1))).set l.2.1.toNat (wrF .i64 (v+1))=QK t (i+1):=by
 obtain ⟨a0,a1⟩:=ha;obtain ⟨b0,b1⟩:=hb
 have hne:l.1.toNat≠l.2.1.toNat:=by omega
 rw [zbY (by omega)] at hu
 rw [List.getElem?_set_ne hne,zbY (by omega)] at hv
 have hu:=Option.some.inj hu;have hv:=Option.some.inj hv
 have k1:=zBL (t.2.2.take i) l.1.toNat;have k2:=zBL (t.2.2.take i) l.2.1.toNat
 have k3:(t.2.2.take i).length≤24:=by simp;omega
 rw [zy (by omega) (by omega),zy (by omega) (by omega)]
 apply List.ext_getElem?
 intro n
 by_cases hn:n < t.1.toNat
 ·rw [zbY hn,zxC h,List.getElem?_set,List.getElem?_set,zbY hn]
  unfold one
  simp only [List.length_set,Gb]
  grind
 ·rw [List.getElem?_eq_none (by simp [Gb];omega),List.getElem?_eq_none (by simp [Gb];omega)]
theorem zFe (t:qk):List.replicate t.1.toNat (0:Int)=QK t 0:=by
 apply List.ext_getElem?
 intro n
 by_cases hn:n < t.1.toNat
 ·rw [zbY hn];simp [hn,cnt]
 ·rw [List.getElem?_eq_none (by simp;omega),List.getElem?_eq_none (by simp [Gb];omega)]
theorem zDp (t:qk) {n:Nat} (h:n < t.1.toNat):(QK t t.2.2.length)[n]?=some (cnt t.2.2 n):=by rw [zbY h,List.take_length]
theorem zdv.nodes {t:qk} {l:ya} (h:zdv t l):je t l.1∧je t l.2.1:=⟨h.1,h.2.1⟩
theorem zyu {t:qk} (h:¬szP t):¬wU t:=fun h'=>h h'.sz
theorem zyv {t:qk} (h:¬zgl t):¬wU t:=fun h'=>h h'.ls
def chk (t:qk) (i:Nat) (l:ya) (c:Nat):Prop:=match c with
 |0=>je t l.1∧je t l.2.1∧l.1≠l.2.1
 |1=>¬(stn t l.1=true∧stn t l.2.1=true)
 |2=>∀(k:Nat) o,k < i→t.2.2[k]?=some o→¬gR o l.1 l.2.1
 |_=>1≤l.2.2.1∧l.2.2.1≤1000∧0≤l.2.2.2∧l.2.2.2≤10000
theorem zto {t:qk} (hs:szP t):WT (t,())=some (tv (zgl t),()):=by
 have n0:=hs.n0;have n1:=hs.n1;have h3:=hs.ls;have h4:=hs.st
 rw [zqO];unfold ze1
 refine wu (zk (J:=fun x=>(x.1=0∧zgl t)∨(x.1=1∧x.2.1.1=false∧¬zgl t))
  (jn t.2.2.length (fun i=>∀l,t.2.2[i]?=some l→zdv t l∧∀(k:Nat) o,k < i→t.2.2[k]?=some o→¬gR o l.1 l.2.1) (by omega) ?_ ?_) ?_)
 ·intro i hi hp
  have hx:t.2.2[i]?=some t.2.2[i]:=List.getElem?_eq_getElem hi
  generalize hgl:t.2.2[i]=l at hx
  refine zf (zZ (show (i:Int) < (t.2.2.length:Int) by omega)) ?_
  refine zk (J:=fun x=>(x.1=0∧x.2.1.1=false∧∀c,c < 4→chk t i l c)∨(x.1=1∧x.2.1.1=false∧∃c,¬chk t i l c)) (jn 4 (chk t i l) (by omega) ?_ ?_) ?_
  ·intro c hc hpc
   refine zf (zZ (show (c:Int) < 4 by omega)) ?_
   have:c=0∨c=1∨c=2∨c=3:=by omega
   rcases this with rfl | rfl | rfl | rfl
   ·refine zf (Zb rfl) (zg (zC (n:=i) hx ?_))
    rw [zjS]
    refine zj (fun h1=>?_) (fun h1=>?_)
    ·rw [zjS]
     refine zj (fun h2=>?_) (fun h2=>?_)
     ·refine zj (fun h=>?_) (fun h=>?_)
      ·have:=qO (show zo l.1 l.2.1=true by simpa using h)
       exact za (zu (.inr ⟨rfl,rfl,0,fun hq=>hq.2.2 this⟩))
      ·have:=jM (show zo l.1 l.2.1=false by simpa using h)
       exact za (yr (by omega) ⟨Wm h1,Wm h2,this⟩)
     ·exact za (zu (.inr ⟨rfl,rfl,0,fun hq=>JS h2 hq.2.1⟩))
    ·exact za (zu (.inr ⟨rfl,rfl,0,fun hq=>JS h1 hq.1⟩))
   ·obtain ⟨⟨a0,a1⟩,⟨b0,b1⟩,hab⟩:=hpc 0 (by omega)
    refine ze rfl (zf (Zb rfl) (zg (zC (n:=i) hx ?_)))
    refine zg (jv a0 (by show l.1 < _;omega) fun x hx1=>?_)
    have e1:=zhN hx1
    refine zj (fun h1=>?_) (fun h1=>?_)
    ·exact za (yr (by omega) (by show ¬_;grind))
    ·refine zg (jv b0 (by show l.2.1 < _;omega) fun y hy1=>?_)
     have e2:=zhN hy1
     refine zj (fun h2=>?_) (fun h2=>?_)
     ·exact za (zu (.inr ⟨rfl,rfl,1,fun hq=>hq (by grind)⟩))
     ·exact za (yr (by omega) (by show ¬_;grind))
   ·refine ze rfl (ze rfl (zf (Zb rfl) (zg (zC (n:=i) hx ?_))))
    refine zg (qh (zyZ t.2.2 i (by omega)) ?_)
    have lt:(t.2.2.take i).length=i:=by simp;omega
    refine zk (J:=fun x=>(x.1=0∧∀(k:Nat) o,k < i→t.2.2[k]?=some o→¬gR o l.1 l.2.1)∨(x.1=1∧x.2.1.1=false∧∃(k:Nat) (o:ya),k < i∧t.2.2[k]?=some o∧gR o l.1 l.2.1))
     (jn i (fun k=>∀o,t.2.2[k]?=some o→¬gR o l.1 l.2.1) (by omega) ?_ ?_) ?_
    ·intro k hk hpk
     have hy:t.2.2[k]?=some t.2.2[k]:=List.getElem?_eq_getElem (by omega)
     have hy':(t.2.2.take i)[k]?=some t.2.2[k]:=by rw [List.getElem?_take];simp [hk,hy]
     generalize hgo:t.2.2[k]=o at hy hy'
     refine zf (zZ (show (k:Int) < (((t.2.2.take i).length:Nat):Int) by omega)) (zg (zC (n:=k) hy' ?_))
     refine zk (J:=fun x=>(x.1=0∧x.2.1.1=false∧¬gR o l.1 l.2.1)∨(x.1=1∧x.2.1.1=false∧gR o l.1 l.2.1)) ?_ ?_
     ·unfold gR
      repeat' first | refine zj (fun h=>?_) (fun h=>?_) | refine za ?_
      all_goals simp only [ju] at *
      all_goals grind
     ·rintro ⟨j,⟨v,⟨⟩⟩,⟨⟩⟩ (⟨rfl,rfl,hq⟩ | ⟨rfl,rfl,hq⟩)
      ·exact zf rfl (za (yr (by omega) fun o' ho=>by rw [hy] at ho;cases ho;exact hq))
      ·exact ze rfl (za (zu (.inr ⟨rfl,rfl,k,o,hk,hy,hq⟩)))
    ·intro hpk
     exact ze (zJ (show ¬(i:Int) < (((t.2.2.take i).length:Nat):Int) by omega)) (za (zu (.inl ⟨rfl,fun k' o hk'=>hpk k' hk' o⟩)))
    ·rintro ⟨j,⟨v,w,⟨⟩⟩,⟨⟩⟩ (⟨rfl,hq⟩ | ⟨rfl,rfl,k,o,hk,ho,hj⟩)
     ·exact zf rfl (za (yr (by omega) hq))
     ·exact ze rfl (zf rfl (za (zu (.inr ⟨rfl,rfl,2,fun hq=>hq k o hk ho hj⟩))))
   ·refine ze rfl (ze rfl (ze rfl (zf (Zb rfl) (zg (zC (n:=i) hx ?_)))))
    refine zj (fun h1=>?_) (fun h1=>?_)
    ·refine zj (fun h2=>?_) (fun h2=>?_)
     ·refine zj (fun h3=>?_) (fun h3=>?_)
      ·refine zj (fun h4=>?_) (fun h4=>?_)
       ·have:=qp (show zi 10000 l.2.2.2=true by simpa using h4)
        exact za (zu (.inr ⟨rfl,rfl,3,fun hq=>by have:=hq.2.2.2;omega⟩))
       ·have:=qG (show zi l.2.2.1 1=false by simpa using h1)
        have:=qG (show zi 1000 l.2.2.1=false by simpa using h2)
        have:=qG (show zi l.2.2.2 0=false by simpa using h3)
        have:=qG (show zi 10000 l.2.2.2=false by simpa using h4)
        exact za (yr (by omega) ⟨by omega,by omega,by omega,by omega⟩)
      ·have:=qp (show zi l.2.2.2 0=true by simpa using h3)
       exact za (zu (.inr ⟨rfl,rfl,3,fun hq=>by have:=hq.2.2.1;omega⟩))
     ·have:=qp (show zi 1000 l.2.2.1=true by simpa using h2)
      exact za (zu (.inr ⟨rfl,rfl,3,fun hq=>by have:=hq.2.1;omega⟩))
    ·have:=qp (show zi l.2.2.1 1=true by simpa using h1)
     exact za (zu (.inr ⟨rfl,rfl,3,fun hq=>by have:=hq.1;omega⟩))
  ·intro hpc
   exact ze (zJ (show ¬((4:Nat):Int) < 4 by omega)) (za (zu (.inl ⟨rfl,rfl,hpc⟩)))
  ·rintro ⟨j,⟨v,w,⟨⟩⟩,⟨⟩⟩ (⟨rfl,rfl,hq⟩ | ⟨rfl,rfl,c,hq⟩)
   ·obtain ⟨c0,c0',c0''⟩:=hq 0 (by omega)
    have c1:=hq 1 (by omega);have c2:=hq 2 (by omega)
    obtain ⟨d1,d2,d3,d4⟩:=hq 3 (by omega)
    exact zf rfl (za (yr (by omega) fun l' hl'=>by rw [hx] at hl';cases hl';exact ⟨⟨c0,c0',c0'',c1,d1,d2,d3,d4⟩,c2⟩))
   ·refine ze rfl (za (zu (.inr ⟨rfl,rfl,fun ht=>hq ?_⟩)))
    obtain ⟨⟨c0,c0',c0'',c1,d1,d2,d3,d4⟩,c2⟩:=ht i l hx
    unfold chk
    split
    ·exact ⟨c0,c0',c0''⟩
    ·exact c1
    ·exact c2
    ·exact ⟨d1,d2,d3,d4⟩
 ·intro hp
  exact ze (zJ (show ¬(t.2.2.length:Int) < (t.2.2.length:Int) by omega)) (za (zu (.inl ⟨rfl,fun i l hl=>hp i (by grind) l hl⟩)))
 ·rintro ⟨j,⟨v,w,⟨⟩⟩,⟨⟩⟩ (⟨rfl,hq⟩ | ⟨rfl,rfl,hq⟩)
  ·exact zf rfl (za ⟨fun _=>hq,fun _=>rfl⟩)
  ·exact ze rfl (za ⟨fun h=>(by cases h),fun h=>absurd h hq⟩)
abbrev zFJ:Bool×Bool×Bool×Bool×Bool×Bool×Bool×Bool×Bool×Bool×Bool×Bool×Bool×Bool×Bool×Bool×Bool×Bool×Bool×Bool×Bool×Bool×Bool×Bool:=(false,(false,(false,(false,(false,(false,(false,(false,(false,(false,(false,(false,(false,(false,(false,(false,(false,(false,(false,(false,(false,(false,(false,false)))))))))))))))))))))))
noncomputable def zDR (q:List Bool) (x4:ya):Option (Nat×(Unit×(List Bool×Unit))):=opt (atI q x4.1) fun x5=>
 opt (gl q (Int.toNat x4.1)) fun x6=>
 opt (atI q x4.2.1) fun x7=>
 opt (gl q (Int.toNat x4.2.1)) fun x8=>
 bif (!(x6 == x8)) then opt (atI q x4.1) fun x9=>
  opt (gl q (Int.toNat x4.1)) fun x10=>
  opt (atI (q.set (Int.toNat x4.1) true) x4.2.1) fun x11=>
  opt (gl (q.set (Int.toNat x4.1) true) (Int.toNat x4.2.1)) fun x12=>
  some (0,((),(((q.set (Int.toNat x4.1) true).set (Int.toNat x4.2.1) true),())))
 else some (0,((),(q,())))
theorem zEy {q:List Bool} {l:ya} {n:Nat} (hq:q.length=n) (a0:0≤l.1) (a1:l.1 < n) (b0:0≤l.2.1) (b1:l.2.1 < n):qm (zDR q l) fun x=>x.2.2.1=stp q l:=by
 unfold zDR
 refine zg (jv a0 (by omega) fun _ _=>zg (vO (by omega) fun x hx=>zg (jv b0 (by omega) fun _ _=>zg (vO (by omega) fun y hy=>?_))))
 refine zj (fun h=>?_) (fun h=>?_)
 ·refine zg (jv a0 (by omega) fun _ _=>zg (vO (by omega) fun _ _=>?_))
  refine zg (jv b0 (by simp;omega) fun _ _=>zg (vO (by simp;omega) fun _ _=>?_))
  refine za ?_
  show _=stp q l
  unfold stp
  rw [hx,hy]
  cases x<;>cases y<;>simp at h ⊢
 ·refine za ?_
  show q=stp q l
  unfold stp
  rw [hx,hy]
  cases x<;>cases y<;>simp at h ⊢
  apply List.ext_getElem?
  intro k
  simp only [List.getElem?_set]
  grind
theorem ztp {t:qk} (hs:szP t) (hl:∀(i:Nat) l,t.2.2[i]?=some l→je t l.1∧je t l.2.1):Qw (t,0,zFJ,())=some (reachS t 0,()):=by
 have h0:=hs.n0;have h1:=hs.n1;have h3:=hs.ls;have h4:=hs.st
 have e1:t.1.toNat=t.2.1.length:=by omega
 rw [zqQ];unfold ze2
 refine xA ?_
 refine zf (zhn (by omega) (by omega) (by omega)) ?_
 refine zg (jv (by omega) (by simp;omega) fun _ _=>zg (vO (by simp;omega) fun _ _=>?_))
 refine zk (J:=fun x=>x.2.2.1=reachS t 0) (zX t.1.toNat (fun i s=>s=(((i:Int),()),(zaQ t.2.2 i ((List.replicate t.1.toNat false).set 0 true),()))) (by omega) rfl ?_ ?_) ?_
 ·rintro i _ hi rfl
  refine zf (zZ (show (i:Int) < _ by omega)) ?_
  generalize hr:zaQ t.2.2 i ((List.replicate t.1.toNat false).set 0 true)=r
  have hrl:r.length=t.1.toNat:=by rw [←hr,zpD];simp
  refine zk (J:=fun x=>x.2.2.1=t.2.2.foldl stp r) (zX t.2.2.length (fun i s=>s=(((i:Int),()),((t.2.2.take i).foldl stp r,()))) (by omega) rfl ?_ ?_) ?_
  ·rintro k _ hk rfl
   refine zf (zZ (show (k:Int) < _ by omega)) ?_
   have hx:t.2.2[k]?=some t.2.2[k]:=List.getElem?_eq_getElem hk
   obtain ⟨⟨a0,a1⟩,⟨b0,b1⟩⟩:=hl k _ hx
   have hnx:(t.2.2.take (k+1)).foldl stp r=stp ((t.2.2.take k).foldl stp r) t.2.2[k]:=by
    rw [List.take_add_one,hx,List.foldl_append];rfl
   have hlen:((t.2.2.take k).foldl stp r).length=t.1.toNat:=by rw [zi3,hrl]
   generalize (t.2.2.take k).foldl stp r=q at hnx hlen
   generalize t.2.2[k]=l at hx hnx a0 a1 b0 b1
   refine zg (zC (n:=k) hx ?_)
   have key:=zEy hlen a0 (show l.1 < (t.1.toNat:Nat) by omega) b0 (show l.2.1 < (t.1.toNat:Nat) by omega)
   refine zk (J:=fun x=>x.2.2.1=stp q l) ?_ ?_
   ·rcases (by omega:k=0∨k=1∨k=2∨k=3∨k=4∨k=5∨k=6∨k=7∨k=8∨k=9∨k=10∨k=11∨k=12∨k=13∨k=14∨k=15∨k=16∨k=17∨k=18∨k=19∨k=20∨k=21∨k=22∨k=23) with rfl | rfl | rfl | rfl | rfl | rfl | rfl | rfl | rfl | rfl | rfl | rfl | rfl | rfl | rfl | rfl | rfl | rfl | rfl | rfl | rfl | rfl | rfl | rfl
    all_goals exact key
   ·rintro ⟨j,⟨⟩,q',⟨⟩⟩ hq
    refine za (qj ?_)
    simp only at hq
    rw [hnx,←hq]
    exact congrArg (fun z=>(((z,()),(q',())):(Int×Unit)×(List Bool×Unit))) (qv (by omega))
  ·rintro _ rfl
   refine ze (zJ (show ¬(t.2.2.length:Int) < _ by omega)) (za (zu ?_))
   simp
  ·rintro ⟨j,⟨z,⟨⟩⟩,q',⟨⟩⟩ hq
   refine za (qj ?_)
   simp only at hq
   rw [zui,hr,←hq]
   exact congrArg (fun z=>(((z,()),(q',())):(Int×Unit)×(List Bool×Unit))) (qv (by omega))
 ·rintro _ rfl
  exact ze (zJ (show ¬((t.1.toNat:Nat):Int) < _ by omega)) (za (zu rfl))
 ·rintro ⟨j,⟨z,⟨⟩⟩,q',⟨⟩⟩ hq
  exact za hq
theorem zbZ {l:List Bool} (hn:l.length≤1000000000000000000) (b:Bool):qm (ye (l,b,())) fun r=>(0≤r.1∧b∈l)∨(r.1 = -1∧¬b∈l):=by
 rw [za0];unfold Zt
 refine zk (J:=fun x=>(x.1=0∧¬b∈l)∨(x.1=1∧0≤x.2.1.1∧b∈l)) (jn l.length (fun i=>l[i]?≠some b) hn ?_ ?_) ?_
 ·intro i hi hp
  have hx:l[i]?=some l[i]:=List.getElem?_eq_getElem hi
  refine zf (zZ (show (i:Int) < (l.length:Int) by omega)) (zg (zC (n:=i) hx (zj (fun h=>?_) (fun h=>?_))))
  ·have:b=l[i]:=eq_of_beq h
   exact za (zu (.inr ⟨rfl,by show (0:Int)≤(i:Int);omega,by rw [this];exact List.getElem_mem hi⟩))
  ·exact za (yr (by omega) (by rw [hx];intro e;cases e;simp at h))
 ·intro hp
  refine ze (zJ (show ¬(l.length:Int) < (l.length:Int) by omega)) (za (zu (.inl ⟨rfl,fun hm=>?_⟩)))
  obtain ⟨k,hk⟩:=List.getElem?_of_mem hm
  exact hp k (by grind) hk
 ·rintro ⟨j,⟨v,w,⟨⟩⟩,⟨⟩⟩ (⟨rfl,hp⟩ | ⟨rfl,h0,hp⟩)
  ·exact zf rfl (za (.inr ⟨rfl,hp⟩))
  ·exact ze rfl (za (.inl ⟨h0,hp⟩))
theorem GD {l:List Bool} (hn:l.length≤1000000000000000000) (b:Bool):wv (l,b,())=some (tv (b∈l),()):=by
 rw [UH];unfold gf
 refine wu (zk (zbZ hn b) ?_)
 rintro ⟨v,⟨⟩⟩ (⟨h,hm⟩ | ⟨rfl,hm⟩)
 ·refine za ⟨fun _=>hm,fun _=>?_⟩
  show (!zi v 0)=true
  rw [zJ (by simp only at h;omega)];rfl
 ·exact za ⟨fun h=>(by cases h),fun h=>absurd h hm⟩
theorem Kh (t:qk):wL (t,())=some (bif tv (wU t) then 0 else 260,()):=by
 have good:∀{v:Int},wU t→v=0→v=bif tv (wU t) then 0 else 260:=fun h e=>by rw [qf h,e];rfl
 have bad:∀{v:Int},¬wU t→v=260→v=bif tv (wU t) then 0 else 260:=fun h e=>by rw [qu h,e];rfl
 rw [zqR];unfold ze3
 refine xA (zk (J:=fun x=>(x.1=0∧x.2.1.1=0∧2≤t.1∧t.1≤12∧(t.2.1.length:Int)=t.1)∨(x.1=1∧x.2.1.1=260∧¬szP t)) ?_ ?_)
 ·refine zj (fun h=>za (.inr ⟨rfl,rfl,fun hs=>?_⟩)) (fun h1=>zj (fun h=>za (.inr ⟨rfl,rfl,fun hs=>?_⟩)) (fun h2=>zj (fun h=>za (.inr ⟨rfl,rfl,fun hs=>?_⟩)) (fun h3=>za (.inl ⟨rfl,rfl,?_⟩))))
  ·have:=qp h;have:=hs.n0;omega
  ·have:=qp h;have:=hs.n1;omega
  ·have:=hs.st;rw [Zb this] at h;cases h
  ·have h1:=qG h1;have h2:=qG h2
   exact ⟨h1,h2,qO (by simpa using h3)⟩
 rintro ⟨j,⟨v,⟨⟩⟩,⟨⟩⟩ (⟨rfl,rfl,h1,h2,h3⟩ | ⟨rfl,rfl,hs⟩)
 rotate_left
 ·exact ze rfl (za (bad (zyu hs) rfl))
 refine zf rfl (zk (J:=fun x=>(x.1=0∧x.2.1.1=0∧szP t∧zgl t)∨(x.1=1∧x.2.1.1=260∧¬wU t)) ?_ ?_)
 ·refine zj (fun h=>za (.inr ⟨rfl,rfl,fun hs=>?_⟩)) (fun h4=>?_)
  ·have:=qp h;have:=hs.sz.ls;omega
  have h4:=qG h4
  have hs:szP t:=⟨h1,h2,h3,by omega⟩
  rw [zto hs]
  refine zj (fun h=>?_) (fun h=>?_)
  ·exact za (.inr ⟨rfl,rfl,zyv (yF h)⟩)
  ·exact za (.inl ⟨rfl,rfl,hs,xk h⟩)
 rintro ⟨j,⟨v,⟨⟩⟩,⟨⟩⟩ (⟨rfl,rfl,hs,hls⟩ | ⟨rfl,rfl,ht⟩)
 rotate_left
 ·exact ze rfl (za (bad ht rfl))
 have h5:=hs.ls
 refine zf rfl (zf (zhn (by omega) (by omega) (by omega)) ?_)
 refine zk (J:=fun x=>x.2.2.1=QK t t.2.2.length) (zX t.2.2.length (fun i s=>s=(((i:Int),()),(QK t i,()))) (by omega) (by rw [zFe];rfl) ?_ ?_) ?_
 ·rintro i _ hi rfl
  have hx:t.2.2[i]?=some t.2.2[i]:=List.getElem?_eq_getElem hi
  refine zf (zZ (show (i:Int) < (t.2.2.length:Int) by omega)) (zg (zC (n:=i) hx ?_))
  generalize t.2.2[i]=l at hx
  have hl:=(hls i l hx).1
  obtain ⟨⟨a0,a1⟩,⟨b0,b1⟩⟩:=hl.nodes
  have lc:=Gb t i
  refine zg (jv a0 (by show _ < (((QK t i).length:Nat):Int);omega) fun _ _=>zg (vO (by show _ < (QK t i).length;omega) fun u hu=>zg (jv a0 (by show _ < (((QK t i).length:Nat):Int);omega) fun _ _=>zg (vO (by show _ < (QK t i).length;omega) fun _ _=>?_))))
  refine zg (jv b0 (by show _ < ((((QK t i).set _ _).length:Nat):Int);simp;omega) fun _ _=>zg (vO (by show _ < ((QK t i).set _ _).length;simp;omega) fun w hw=>zg (jv b0 (by show _ < ((((QK t i).set _ _).length:Nat):Int);simp;omega) fun _ _=>zg (vO (by show _ < ((QK t i).set _ _).length;simp;omega) fun _ _=>?_))))
  refine za (qj ?_)
  have e:=zBM hx hs.ls hl.1 hl.2.1 hl.2.2.1 hu hw
  show (((wrF .i64 ((i:Int)+1)),()),((((QK t i).set l.1.toNat (wrF .i64 (u+1))).set l.2.1.toNat (wrF .i64 (w+1))),()))=_
  rw [e,qv (by omega)]
 ·rintro _ rfl
  exact ze (zJ (show ¬(t.2.2.length:Int) < (t.2.2.length:Int) by omega)) (za (zu rfl))
 rintro ⟨j,⟨z,⟨⟩⟩,c,⟨⟩⟩ hc
 simp only at hc
 subst hc
 refine zk (J:=fun x=>(x.1=0∧∀(n:Nat),(n:Int) < t.1→stn t n=true→1≤cnt t.2.2 n∧cnt t.2.2 n≤2)∨(x.1=1∧x.2.1.1=260∧¬wU t)) (jn t.2.1.length (fun n=>stn t n=true→1≤cnt t.2.2 n∧cnt t.2.2 n≤2) (by omega) ?_ ?_) ?_
 ·intro n hn hp
  have hst:t.2.1[n]?=some t.2.1[n]:=List.getElem?_eq_getElem (by omega)
  have e1:=zFd hst
  have hn':n < t.1.toNat:=by omega
  have e2:=zDp t hn'
  refine zf (zZ (show (n:Int) < (t.2.1.length:Int) by omega)) (zg (zC (n:=n) hst ?_))
  refine zk (J:=fun x=>(x.1=0∧x.2.1.1=0∧(stn t n=true→1≤cnt t.2.2 n∧cnt t.2.2 n≤2))∨(x.1=1∧x.2.1.1=260∧¬wU t)) (zj (fun h5=>?_) (fun h5=>?_)) ?_
  ·refine zg (zC (n:=n) e2 (zg (vO (by show n < _;rw [Gb];exact hn') fun u hu=>?_)))
   have hu:u=cnt t.2.2 n:=by have hu:(QK t t.2.2.length)[n]?=some u:=hu;rw [e2] at hu;exact (Option.some.inj hu).symm
   subst hu
   refine zj (fun h6=>?_) (fun h6=>?_)
   ·have:=qp h6
    exact za (.inr ⟨rfl,rfl,fun ht=>by have:=ht.ct n (by omega) (by grind);omega⟩)
   refine zg (zC (n:=n) e2 (zg (vO (by show n < _;rw [Gb];exact hn') fun u hu=>?_)))
   have hu:u=cnt t.2.2 n:=by have hu:(QK t t.2.2.length)[n]?=some u:=hu;rw [e2] at hu;exact (Option.some.inj hu).symm
   subst hu
   refine zj (fun h7=>?_) (fun h7=>?_)
   ·have:=qp h7
    exact za (.inr ⟨rfl,rfl,fun ht=>by have:=ht.ct n (by omega) (by grind);omega⟩)
   ·have:=qG h6;have:=qG h7
    exact za (.inl ⟨rfl,rfl,fun _=>⟨by omega,by omega⟩⟩)
  ·exact za (.inl ⟨rfl,rfl,fun hc=>by grind⟩)
  ·rintro ⟨j,⟨v,⟨⟩⟩,⟨⟩⟩ (⟨rfl,rfl,hq⟩ | ⟨rfl,rfl,hq⟩)
   ·exact zf rfl (za (yr (by omega) hq))
   ·exact ze rfl (za (zu (.inr ⟨rfl,rfl,hq⟩)))
 ·intro hp
  exact ze (zJ (show ¬(t.2.1.length:Int) < (t.2.1.length:Int) by omega)) (za (zu (.inl ⟨rfl,fun n hn=>hp n (by omega)⟩)))
 rintro ⟨j,⟨v,w,⟨⟩⟩,⟨⟩⟩ (⟨rfl,hct⟩ | ⟨rfl,rfl,hq⟩)
 rotate_left
 ·exact ze rfl (za (bad hq rfl))
 have hrl:(reachS t 0).length=t.1.toNat:=by unfold reachS;rw [zpD];simp
 refine zf rfl ?_
 rw [show Qw (t,0,_,())=some (reachS t 0,()) from ztp hs (fun i l hl=>(hls i l hl).1.nodes),zD]
 rw [GD (by show (reachS t 0).length≤_;omega),zD]
 refine zj (fun h=>?_) (fun h=>?_)
 ·refine za (bad (fun ht=>?_) rfl)
  obtain ⟨k,hk⟩:=List.getElem?_of_mem (Wm h)
  have:=ht.re k (by grind)
  rw [this] at hk;cases hk
 ·refine za (good ⟨hs,hls,fun n hn=>?_,hct⟩ rfl)
  have hr:(reachS t 0)[n]?=some (reachS t 0)[n]:=List.getElem?_eq_getElem (by omega)
  rw [hr]
  cases e:(reachS t 0)[n] with
  |true=>rfl
  |false=>exact absurd (by rw [←e];exact List.getElem_mem _) (JS h)
def wm (t:qk) (p:Int):Prop:=0≤p∧p < 2*(t.2.2.length:Int)
def lnk (t:qk) (p:Int):ya:=(t.2.2[p.toNat / 2]?).getD (0,0,0,0)
def frm (t:qk) (p:Int):Int:=if p % 2=1 then (lnk t p).2.1 else (lnk t p).1
def too (t:qk) (p:Int):Int:=if p % 2=1 then (lnk t p).1 else (lnk t p).2.1
theorem ztq {p:Int} (h:0≤p) (h2:p≤1000000000000000000):wrF .i64 (Int.tdiv p 2)=((p.toNat / 2:Nat):Int):=by
 rw [Int.tdiv_eq_ediv_of_nonneg h,zy (by omega) (by omega)];omega
theorem par {p:Int} (h:0≤p):Int.tmod p 2=p % 2:=Int.tmod_eq_emod_of_nonneg h
theorem Gw {t:qk} {p:Int} (h:wm t p):t.2.2[p.toNat / 2]?=some (lnk t p):=by
 have:=h.1;have:=h.2
 have hx:t.2.2[p.toNat / 2]?=some (t.2.2[p.toNat / 2]'(by omega)):=List.getElem?_eq_getElem (by omega)
 unfold lnk;rw [hx];rfl
theorem tw (t:qk) (h:t.2.2.length≤1000000000000000):wrF .i64 (2*(t.2.2.length:Int))=2*(t.2.2.length:Int):=zy (by omega) (by omega)
theorem Gc {t:qk} (hl:zgl t) {p:Int} (h:wm t p):je t (frm t p)∧je t (too t p)∧frm t p≠too t p:=by
 have:=(hl _ _ (Gw h)).1
 have h1:=this.1;have h2:=this.2.1;have h3:=this.2.2.1
 unfold frm too
 split
 ·exact ⟨h2,h1,fun e=>h3 e.symm⟩
 ·exact ⟨h1,h2,h3⟩
theorem ztr {t:qk} (h:t.2.2.length≤1000000000000000) (p:Int):WQ (t,p,())=some (tv (wm t p),()):=by
 rw [zqJ];unfold zeV wm
 refine wu (zj (fun h=>?_) (fun h=>?_))<;>refine za ?_<;>simp only [xb] at *
 ·have:=tw t ‹_›;grind
 ·grind
theorem Qc {t:qk} (h:t.2.2.length≤1000000000000000) {p:Int} (hp:wm t p):ji (t,p,())=some (frm t p,()):=by
 have:=hp.1;have:=hp.2
 rw [zqD];unfold zeP
 simp only [ztq hp.1 (by omega),par hp.1,yd (Gw hp),zD,ju]
 unfold frm
 by_cases e:p % 2=1
 ·simp [e]
 ·have e2:(p % 2 == 1)=false:=by simpa using e
  rw [e2,if_neg e];rfl
theorem QL {t:qk} (h:t.2.2.length≤1000000000000000) {p:Int} (hp:wm t p):wR (t,p,())=some (too t p,()):=by
 have:=hp.1;have:=hp.2
 rw [zuE];unfold ziC
 simp only [ztq hp.1 (by omega),par hp.1,yd (Gw hp),zD,ju]
 unfold too
 by_cases e:p % 2=1
 ·simp [e]
 ·have e2:(p % 2 == 1)=false:=by simpa using e
  rw [e2,if_neg e];rfl
theorem zvo {t:qk} (h:t.2.2.length≤1000000000000000) {p:Int} (hp:wm t p):KL (t,p,())=some ((lnk t p).2.2.1,()):=by
 have:=hp.1;have:=hp.2
 rw [zs2];unfold zgL
 simp only [ztq hp.1 (by omega),yd (Gw hp),zD]
theorem zpE {t:qk} (h:t.2.2.length≤1000000000000000) {p:Int} (hp:wm t p):zi p 0=false∧(!zi p (wrF .i64 (2*(t.2.2.length:Int))))=false:=by
 have:=hp.1;have:=hp.2
 rw [tw t h,zJ (by omega),zZ (by omega)];simp
theorem zxD {t:qk} (ht:wU t) {p:Int} (hp:wm t p):ZP (t,p,())=some ((lnk t p).2.2.1,0,()):=by
 have hl:t.2.2.length≤1000000000000000:=by have:=ht.sz.ls;omega
 have:=hp.1;have:=hp.2
 obtain ⟨e1,e2⟩:=zpE hl hp
 rw [zuX];unfold ziL
 simp only [Kh,zD,qf ht,cond_true,Zb,Bool.not_true,cond_false,e1,e2,ztq hp.1 (show p≤1000000000000000000 by omega),yd (Gw hp),zm8,zbO]
 rfl
def zS (t:qk) (r:List Int):List Int:=match r with
 |[]=>[]
 |p::_=>frm t p::r.map (too t)
theorem gX (t:qk) {r:List Int} (h:r≠[]):(zS t r).length=r.length+1:=by
 cases r with
 |nil=>exact absurd rfl h
 |cons p r=>simp [zS]
theorem zts (t:qk) {r:List Int} {p:Int} (h:r[0]?=some p):(zS t r)[0]?=some (frm t p):=by
 cases r with
 |nil=>cases h
 |cons q r=>simp at h;subst h;rfl
theorem Wb (t:qk) {r:List Int} {i:Nat} {p:Int} (h:r[i]?=some p):(zS t r)[i+1]?=some (too t p):=by
 cases r with
 |nil=>cases h
 |cons q r=>simp only [zS,List.getElem?_cons_succ,List.getElem?_map,h,Option.map_some]
theorem zaR {t:qk} (h:t.2.2.length≤1000000000000000) {r:List Int} (h0:r≠[]) (h8:r.length≤8) (hp:∀p∈r,wm t p):ug (t,r,())=some (zS t r,()):=by
 have hl:0 < r.length:=List.length_pos_iff.2 h0
 have hx0:r[0]?=some r[0]:=List.getElem?_eq_getElem hl
 rw [zoM];unfold zcU
 refine xA (zg (zC (n:=0) hx0 ?_))
 rw [Qc h (hp _ (List.getElem_mem hl)),zD]
 refine zk (J:=fun x=>x.2.2.1=zS t r) (zX r.length (fun i s=>s=(((i:Int),()),((zS t r).take (i+1),()))) (by omega) ?_ ?_ ?_) ?_
 ·have:=zts t hx0
  have e:(zS t r).take 1=[frm t r[0]]:=by
   rw [show (1:Nat)=0+1 from rfl,List.take_add_one,this];simp
  rw [show (0:Nat)+1=1 from rfl,e];rfl
 ·rintro i _ hi rfl
  have hx:r[i]?=some r[i]:=List.getElem?_eq_getElem hi
  refine zf (zZ (show (i:Int) < (r.length:Int) by omega)) (zg (zC (n:=i) hx ?_))
  rw [QL h (hp _ (List.getElem_mem hi)),zD]
  have hl:=gX t h0
  refine zf (wC (by show (((zS t r).take (i+1)).length+1)*8≤_;simp;omega) (by show ((zS t r).take (i+1)).length+1≤_;simp;omega)) ?_
  refine za (qj ?_)
  have e:(zS t r).take (i+1+1)=(zS t r).take (i+1)++[too t r[i]]:=by
   rw [List.take_add_one,Wb t hx];rfl
  rw [e,←qv (by omega)]
 ·rintro _ rfl
  refine ze (zJ (show ¬(r.length:Int) < (r.length:Int) by omega)) (za (zu ?_))
  show (zS t r).take (r.length+1)=_
  rw [List.take_of_length_le (by rw [gX t h0];omega)]
 ·rintro ⟨j,⟨z,⟨⟩⟩,c,⟨⟩⟩ hc
  exact za hc
theorem Xe {t:qk} (h:t.2.2.length≤1000000000000000) {r:List Int} (h0:r≠[]) (h8:r.length≤8) (hp:∀p∈r,wm t p):yw (t,r,())=some (zS t r,()):=by
 rw [zhs];unfold Vq
 rw [show wrF .i64 ((r.length:Int)+1)=(r.length:Int)+1 from zy (by omega) (by omega)]
 refine xA (zf (zhn (by omega) (by omega) (by omega)) ?_)
 refine zk (J:=fun x=>x.2.2.1.1=zS t r) (zX r.length (fun i s=>s=(((i:Int),()),((((zS t r).take (if i=0 then 0 else i+1)),()),((),((),()))))) (by omega) rfl ?_ ?_) ?_
 ·rintro i _ hi rfl
  have hx:r[i]?=some r[i]:=List.getElem?_eq_getElem hi
  have hpi:=hp _ (List.getElem_mem hi)
  generalize r[i]=p at hx hpi
  have:=hpi.1;have:=hpi.2
  refine zf (zZ (show (i:Int) < (r.length:Int) by omega)) (zg (zC (n:=i) hx ?_))
  obtain ⟨e1,e2⟩:=zpE h hpi
  refine ze e1 (ze e2 ?_)
  rw [ztq hpi.1 (by omega),yd (Gw hpi),zD]
  refine zk (J:=fun x=>x.2.1.1.2.1=frm t p∧x.2.1.1.2.2=too t p) ?_ ?_
  ·rw [par hpi.1]
   unfold frm too
   refine zj (fun h=>?_) (fun h=>?_)
   ·have:=qO h
    exact za (by simp [this])
   ·have:=jM h
    exact za (by simp [this])
  rintro ⟨j,⟨⟨u,v,w⟩,⟨⟩⟩,⟨⟩,⟨⟩,⟨⟩⟩ ⟨rfl,rfl⟩
  have hl:=gX t h0
  refine zk (J:=fun x=>x.2.2.1.1=(zS t r).take (i+1)) (zj (fun h=>?_) (fun h=>?_)) ?_
  ·have:=qO h
   have hi0:i=0:=by simp only at this;omega
   subst hi0
   refine zf (wC (by simp) (by simp)) (za ?_)
   show List.take 0 (zS t r)++[frm t p]=_
   rw [List.take_add_one,zts t hx];rfl
  ·have:=jM h
   have hi0:i≠0:=by intro e;apply this;simp only [e];rfl
   exact za (by show (zS t r).take (if i=0 then 0 else i+1)=_;rw [if_neg hi0])
  ·rintro ⟨j,⟨⟩,⟨⟨c,⟨⟩⟩,⟨⟩,⟨⟩⟩⟩ hc
   simp only at hc
   subst hc
   refine zf (wC (by show (((zS t r).take (i+1)).length+1)*8≤_;simp;omega) (by show ((zS t r).take (i+1)).length+1≤_;simp;omega)) (za (qj ?_))
   have e:(zS t r).take (i+1+1)=(zS t r).take (i+1)++[too t p]:=by
    rw [List.take_add_one,Wb t hx];rfl
   have e2:(if i+1=0 then 0 else i+1+1)=i+1+1:=if_neg (by omega)
   rw [e2,e,←qv (by omega)]
 ·rintro _ rfl
  refine ze (zJ (show ¬(r.length:Int) < (r.length:Int) by omega)) (za (zu ?_))
  have:r.length≠0:=fun e=>h0 (List.length_eq_zero_iff.1 e)
  show (zS t r).take (if r.length=0 then 0 else r.length+1)=_
  rw [if_neg this,List.take_of_length_le (by rw [gX t h0];omega)]
 ·rintro ⟨j,⟨z,⟨⟩⟩,⟨c,⟨⟩⟩,⟨⟩,⟨⟩,⟨⟩⟩ hc
  exact za hc
def zDS (t:qk) (r:List Int) (i:Nat) (p:Int):Prop:=¬too t p∈(zS t r).take (i+1)∧(0 < i→∀n,(zS t r)[i]?=some n→stn t n=false∧frm t p=n)
structure qU (t:qk) (r:List Int):Prop where
 n0:1≤r.length
 n1:r.length≤8
 pt:∀p∈r,wm t p
 st:∀(i:Nat) p,r[i]?=some p→zDS t r i p
theorem qU.ne {t:qk} {r:List Int} (h:qU t r):r≠[]:=by
 intro e;have:=h.n0;rw [e] at this;simp at this
theorem wU.ll {t:qk} (h:wU t):t.2.2.length≤1000000000000000:=by have:=h.sz.ls;omega
theorem zEz {t:qk} (ht:wU t) {r:List Int} (hp:∀p∈r,wm t p):∀n∈zS t r,je t n:=by
 intro n hn
 cases r with
 |nil=>cases hn
 |cons q r=>
  simp only [zS,List.mem_cons,List.mem_map] at hn
  rcases hn with rfl | ⟨p,hp',rfl⟩
  ·exact (Gc ht.ls (hp q (by simp))).1
  ·exact (Gc ht.ls (hp p (by simpa using hp'))).2.1
theorem je.get {t:qk} (hs:szP t) {n:Int} (h:je t n):t.2.1[n.toNat]?=some (stn t n):=by
 have hx:t.2.1[n.toNat]?=some (t.2.1[n.toNat]'(h.lt hs)):=List.getElem?_eq_getElem (h.lt hs)
 rw [hx,zhN hx]
theorem zgn {t:qk} (ht:wU t) (r:List Int):xY (t,r,())=some (tv (qU t r),()):=by
 have hll:=ht.ll
 rw [zoN];unfold zcV
 refine wu (zk (J:=fun x=>(x.1=0∧x.2.1.1=false∧1≤r.length∧r.length≤8)∨(x.1=1∧x.2.1.1=false∧¬qU t r)) ?_ ?_)
 ·refine zj (fun h=>za (.inr ⟨rfl,rfl,fun hs=>?_⟩)) (fun h1=>zj (fun h=>za (.inr ⟨rfl,rfl,fun hs=>?_⟩)) (fun h2=>za (.inl ⟨rfl,rfl,?_⟩)))
  ·have:=qp h;have:=hs.n0;omega
  ·have:=qp h;have:=hs.n1;omega
  ·have h1:=qG h1;have h2:=qG h2;omega
 rintro ⟨j,⟨v,⟨⟩⟩,⟨⟩⟩ (⟨rfl,rfl,h1,h8⟩ | ⟨rfl,rfl,hq⟩)
 rotate_left
 ·exact ze rfl (za ⟨fun h=>(by cases h),fun h=>absurd h hq⟩)
 refine zf rfl (zk (J:=fun x=>(x.1=0∧x.2.1.1=false∧∀p∈r,wm t p)∨(x.1=1∧x.2.1.1=false∧¬qU t r)) (jn r.length (fun i=>∀p,r[i]?=some p→wm t p) (by omega) ?_ ?_) ?_)
 ·intro i hi hp
  have hx:r[i]?=some r[i]:=List.getElem?_eq_getElem hi
  refine zf (zZ (show (i:Int) < (r.length:Int) by omega)) (zg (zC (n:=i) hx ?_))
  rw [ztr hll]
  refine zj (fun h=>?_) (fun h=>?_)
  ·exact za (zu (.inr ⟨rfl,rfl,fun hr=>yF h (hr.pt _ (List.getElem_mem hi))⟩))
  ·exact za (yr (by omega) fun p hp=>by rw [hx] at hp;cases hp;exact xk h)
 ·intro hp
  refine ze (zJ (show ¬(r.length:Int) < (r.length:Int) by omega)) (za (zu (.inl ⟨rfl,rfl,fun p hm=>?_⟩)))
  obtain ⟨k,hk⟩:=List.getElem?_of_mem hm
  exact hp k (by grind) p hk
 rintro ⟨j,⟨v,w,⟨⟩⟩,⟨⟩⟩ (⟨rfl,rfl,hpt⟩ | ⟨rfl,rfl,hq⟩)
 rotate_left
 ·exact ze rfl (za ⟨fun h=>(by cases h),fun h=>absurd h hq⟩)
 have hne:r≠[]:=by intro e;rw [e] at h1;simp at h1
 have hnl:=gX t hne
 have hnP:=zEz ht hpt
 refine zf rfl ?_
 rw [zaR hll hne h8 hpt,zD]
 refine zk (J:=fun x=>(x.1=0∧qU t r)∨(x.1=1∧x.2.1.1=false∧¬qU t r)) (jn (zS t r).length (fun i=>(∀n,(zS t r)[i]?=some n→¬n∈(zS t r).take i)∧∀p,r[i]?=some p→0 < i→∀n,(zS t r)[i]?=some n→stn t n=false∧frm t p=n) (by omega) ?_ ?_) ?_
 ·intro i hi hp
  have hx:(zS t r)[i]?=some (zS t r)[i]:=List.getElem?_eq_getElem hi
  have hn:=hnP _ (List.getElem_mem hi)
  generalize (zS t r)[i]=n at hx hn
  refine zf (zZ (show (i:Int) < ((zS t r).length:Int) by omega)) (zg (qh (zyZ (zS t r) i (by omega)) (zg (zC (n:=i) hx ?_))))
  rw [zfG (by simp;omega)]
  refine zj (fun h=>?_) (fun h=>?_)
  ·refine za (zu (.inr ⟨rfl,rfl,fun hr=>?_⟩))
   have hm:=Wm h
   cases i with
   |zero=>simp at hm
   |succ i=>
    have hy:r[i]?=some r[i]:=List.getElem?_eq_getElem (by omega)
    have e:=Wb t hy
    rw [hx] at e
    have:=(hr.st i _ hy).1
    rw [←Option.some.inj e] at this
    exact this hm
  have hin:=JS h
  refine zk (J:=fun x=>(x.1=0∧x.2.1.1=false∧∀p,r[i]?=some p→0 < i→stn t n=false∧frm t p=n)∨(x.1=1∧x.2.1.1=false∧¬qU t r)) ?_ ?_
  ·refine zj (fun h2=>?_) (fun h2=>?_)
   ·have h2:=qp (show zi 0 (i:Int)=true from h2)
    refine zj (fun h3=>?_) (fun h3=>?_)
    ·have h3:=qp (show zi (i:Int) (r.length:Int)=true from h3)
     have hy:r[i]?=some r[i]:=List.getElem?_eq_getElem (by omega)
     have hpy:=hpt _ (List.getElem_mem (show i < r.length by omega))
     generalize r[i]=p at hy hpy
     refine zg (zC (n:=i) hx (zg (qh (a:=stn t n) (by rw [show n=((n.toNat:Nat):Int) from (by have:=hn.1;omega),yd (n:=n.toNat)];exact hn.get ht.sz) ?_)))
     refine zj (fun h4=>?_) (fun h4=>?_)
     ·refine za (.inr ⟨rfl,rfl,fun hr=>?_⟩)
      have:=((hr.st i p hy).2 (by omega) n hx).1
      rw [this] at h4;cases h4
     ·refine zg (zC (n:=i) hy ?_)
      rw [Qc hll hpy,zD]
      refine zg (zC (n:=i) hx (zj (fun h5=>?_) (fun h5=>?_)))
      ·refine za (.inr ⟨rfl,rfl,fun hr=>?_⟩)
       have:=((hr.st i p hy).2 (by omega) n hx).2
       rw [Zb this] at h5;cases h5
      ·have:=qO (show zo (frm t p) n=true by simpa using h5)
       exact za (.inl ⟨rfl,rfl,fun p' hp' _=>by rw [hy] at hp';cases hp';exact ⟨h4,this⟩⟩)
    ·have h3:=qG (show zi (i:Int) (r.length:Int)=false from h3)
     exact za (.inl ⟨rfl,rfl,fun p hp=>by rw [List.getElem?_eq_none (by omega)] at hp;cases hp⟩)
   ·have h2:=qG (show zi 0 (i:Int)=false from h2)
    exact za (.inl ⟨rfl,rfl,fun p hp h0=>by omega⟩)
  ·rintro ⟨j,⟨v,⟨⟩⟩,⟨⟩⟩ (⟨rfl,rfl,hq⟩ | ⟨rfl,rfl,hq⟩)
   ·exact zf rfl (za (yr (by omega) ⟨fun m hm=>by rw [hx] at hm;cases hm;exact hin,fun p hp h0 m hm=>by rw [hx] at hm;cases hm;exact hq p hp h0⟩))
   ·exact ze rfl (za (zu (.inr ⟨rfl,rfl,hq⟩)))
 ·intro hp
  refine ze (zJ (show ¬((zS t r).length:Int) < ((zS t r).length:Int) by omega)) (za (zu (.inl ⟨rfl,h1,h8,hpt,fun i p hi=>⟨?_,fun h0 n hn=>?_⟩⟩)))
  ·have hil:i < r.length:=by grind
   exact (hp (i+1) (by omega)).1 _ (Wb t hi)
  ·have hil:i < r.length:=by grind
   exact (hp i (by omega)).2 p hi h0 n hn
 ·rintro ⟨j,⟨v,w,⟨⟩⟩,⟨⟩⟩ (⟨rfl,hq⟩ | ⟨rfl,rfl,hq⟩)
  ·exact zf rfl (za ⟨fun _=>hq,fun _=>rfl⟩)
  ·exact ze rfl (za ⟨fun h=>(by cases h),fun h=>absurd h hq⟩)
def zaS (t:qk) (r:List Int) (i:Nat):List Bool:=(List.range 12).map fun n=>decide (((n:Nat):Int)∈(zS t r).take (if i=0 then 0 else i+1))
theorem zDq (t:qk) (r:List Int) (i:Nat):(zaS t r i).length=12:=by simp [zaS]
def atS (t:qk) (r:List Int) (i:Nat):Int:=if i=0 then 0 else ((zS t r)[i]?).getD 0
theorem zuj {f g:Nat→Bool} (h:∀n,n < 12→f n=g n):(List.range 12).map f=(List.range 12).map g:=List.map_congr_left fun n hn=>h n (List.mem_range.1 hn)
theorem zuk {f:Nat→Bool} {k:Nat} (hk:k < 12):((List.range 12).map f).set k true=(List.range 12).map fun n=>(f n||n == k):=by
 apply List.ext_getElem?
 intro n
 rw [List.getElem?_set]
 by_cases h:n < 12
 ·by_cases e:k=n
  ·subst e;simp [h]
  ·have:(n == k)=false:=by simp;omega
   simp [h,e,this]
 ·rw [List.getElem?_eq_none (by simp;omega),List.getElem?_eq_none (by simp;omega)]
  split<;>simp<;>omega
theorem zaT {t:qk} (ht:wU t) (r:List Int):yz (t,r,())=some (tv (qU t r),()):=by
 have hll:=ht.ll
 have n1:=ht.sz.n1
 rw [zht];unfold Vr
 refine wu (zk (J:=fun x=>(x.1=0∧x.2.1.1=false∧1≤r.length∧r.length≤8)∨(x.1=1∧x.2.1.1=false∧¬qU t r)) ?_ ?_)
 ·refine zj (fun h=>za (.inr ⟨rfl,rfl,fun hs=>?_⟩)) (fun h1=>zj (fun h=>za (.inr ⟨rfl,rfl,fun hs=>?_⟩)) (fun h2=>za (.inl ⟨rfl,rfl,?_⟩)))
  ·have:=qp h;have:=hs.n0;omega
  ·have:=qp h;have:=hs.n1;omega
  ·have h1:=qG h1;have h2:=qG h2;omega
 rintro ⟨j,⟨v,⟨⟩⟩,⟨⟩⟩ (⟨rfl,rfl,h1,h8⟩ | ⟨rfl,rfl,hq⟩)
 rotate_left
 ·exact ze rfl (za ⟨fun h=>(by cases h),fun h=>absurd h hq⟩)
 have hne:r≠[]:=by intro e;rw [e] at h1;simp at h1
 have hnl:=gX t hne
 refine zf rfl (zk (J:=fun x=>(x.2.1.2.1=(r.length:Int)∧qU t r)∨(x.2.1.2.1 < (r.length:Int)∧¬qU t r))
  (zX r.length (fun i s=>s=((atS t r i,((i:Int),((i:Int),()))),(zaS t r i,((),((),()))))∧∀(k:Nat),k < i→∀p,r[k]?=some p→wm t p∧zDS t r k p) (by omega) ⟨rfl,fun k hk=>by omega⟩ ?_ ?_) ?_)
 ·rintro i _ hi ⟨rfl,hp⟩
  have hx:r[i]?=some r[i]:=List.getElem?_eq_getElem hi
  have hmem:=List.getElem_mem hi
  generalize r[i]=p at hx hmem
  have bad:∀{x:Nat×((Int×(Int×(Int×Unit)))×(List Bool×(Unit×(Unit×Unit))))},x.2.1.2.1=(i:Int)→¬qU t r→(x.2.1.2.1=(r.length:Int)∧qU t r)∨(x.2.1.2.1 < (r.length:Int)∧¬qU t r):=fun e hq=>.inr ⟨by rw [e];omega,hq⟩
  refine zf (zZ (show (i:Int) < (r.length:Int) by omega)) (zg (zC (n:=i) hx ?_))
  refine zj (fun h=>za (zu (bad rfl fun hr=>?_))) (fun hp0=>zj (fun h=>za (zu (bad rfl fun hr=>?_))) (fun hp1=>?_))
  ·have:=qp h;have:=(hr.pt p hmem).1;omega
  ·have:=hr.pt p hmem
   rw [(zpE hll this).2] at h;cases h
  have hpi:wm t p:=by
   have:=qG hp0
   rw [tw t hll] at hp1
   have:=qp (show zi p (2*(t.2.2.length:Int))=true by simpa using hp1)
   exact ⟨by omega,by omega⟩
  have:=hpi.1;have:=hpi.2
  obtain ⟨⟨f0,f1⟩,⟨g0,g1⟩,hfg⟩:=Gc ht.ls hpi
  rw [ztq hpi.1 (by omega),yd (Gw hpi),zD]
  refine zk (J:=fun x=>x.1=0∧x.2.1.1.2.1=frm t p∧x.2.1.1.2.2=too t p) ?_ ?_
  ·rw [par hpi.1]
   unfold frm too
   refine zj (fun h=>?_) (fun h=>?_)
   ·have:=qO h
    exact za (by simp [this])
   ·have:=jM h
    exact za (by simp [this])
  rintro ⟨j,⟨⟨u,v,w⟩,⟨⟩⟩,⟨⟩,⟨⟩,⟨⟩⟩ ⟨rfl,rfl,rfl⟩
  have hsl:=zDq t r i
  have htk:(zS t r).take (i+1+1)=(zS t r).take (i+1)++[too t p]:=by
   rw [List.take_add_one,Wb t hx];rfl
  refine zf rfl (zk (J:=fun x=>(x.1=0∧x.2.2.1=(List.range 12).map (fun n=>decide (((n:Nat):Int)∈(zS t r).take (i+1)))∧(0 < i→∀n,(zS t r)[i]?=some n→stn t n=false∧frm t p=n))∨(x.1=1∧¬qU t r)) (zj (fun h=>?_) (fun h=>?_)) ?_)
  ·have h0:=qO (show zo (i:Int) 0=true from h)
   have hi0:i=0:=by omega
   subst hi0
   refine zf (zZ (show frm t p < 12 by omega)) (zg (jv f0 (by show frm t p < (((zaS t r 0).length:Nat):Int);omega) fun _ _=>zg (vO (by show (frm t p).toNat < (zaS t r 0).length;omega) fun _ _=>?_)))
   refine za (.inl ⟨rfl,?_,fun h=>by omega⟩)
   show (zaS t r 0).set (frm t p).toNat true=_
   unfold zaS
   rw [zuk (by omega)]
   refine zuj fun n hn=>?_
   rw [List.take_add_one,zts t hx]
   simp only [if_true,List.take_zero,List.nil_append,Option.toList,List.mem_singleton,List.not_mem_nil,decide_false,Bool.false_or]
   rw [Bool.eq_iff_iff];simp only [beq_iff_eq,decide_eq_true_eq];omega
  ·have h0:=jM (show zo (i:Int) 0=false from h)
   have hi0:i≠0:=fun e=>h0 (by rw [e];rfl)
   have hxn:(zS t r)[i]?=some (zS t r)[i]:=List.getElem?_eq_getElem (by omega)
   have hat:atS t r i=(zS t r)[i]:=by unfold atS;rw [if_neg hi0,hxn];rfl
   have hn:je t (zS t r)[i]:=by
    obtain ⟨m,rfl⟩:∃m,i=m+1:=⟨i - 1,by omega⟩
    have hy:r[m]?=some r[m]:=List.getElem?_eq_getElem (by omega)
    have e:=Wb t hy
    rw [hxn] at e
    rw [Option.some.inj e]
    exact (Gc ht.ls (hp m (by omega) _ hy).1).2.1
   generalize (zS t r)[i]=n at hxn hat hn
   refine zj (fun h2=>?_) (fun h2=>?_)
   ·refine za (.inr ⟨rfl,fun hr=>?_⟩)
    have:=((hr.st i p hx).2 (by omega) n hxn).2
    have h2':(!zo (frm t p) (atS t r i))=true:=h2
    rw [hat,Zb this] at h2';cases h2'
   ·have h2':(!zo (frm t p) (atS t r i))=false:=h2
    have e1:=qO (show zo (frm t p) (atS t r i)=true by simpa using h2')
    refine zg (qh (a:=stn t n) (by show atI t.2.1 (atS t r i)=_;rw [hat,show n=((n.toNat:Nat):Int) from (by have:=hn.1;omega),yd (n:=n.toNat)];exact hn.get ht.sz) ?_)
    refine zj (fun h4=>?_) (fun h4=>?_)
    ·refine za (.inr ⟨rfl,fun hr=>?_⟩)
     have:=((hr.st i p hx).2 (by omega) n hxn).1
     rw [this] at h4;cases h4
    ·refine za (.inl ⟨rfl,?_,fun _ m hm=>by rw [hxn] at hm;cases hm;exact ⟨h4,by rw [e1,hat]⟩⟩)
     show zaS t r i=_
     unfold zaS
     rw [if_neg hi0]
  ·rintro ⟨j,⟨⟩,c,⟨⟩,⟨⟩⟩ (⟨rfl,hc,hst⟩ | ⟨rfl,hq⟩)
   rotate_left
   ·exact ze rfl (za (zu (bad rfl hq)))
   simp only at hc
   have hcl:c.length=12:=by rw [hc];simp
   refine zf rfl (zf (zZ (show too t p < 12 by omega)) (zg (jv g0 (by show too t p < ((c.length:Nat):Int);omega) fun _ _=>zg (vO (by show (too t p).toNat < c.length;omega) fun x hx2=>?_))))
   have hx2':c[(too t p).toNat]?=some x:=hx2
   have hmt:(((too t p).toNat:Nat):Int)=too t p:=by omega
   have hxe:x=decide (too t p∈(zS t r).take (i+1)):=by
    rw [hc] at hx2'
    simp only [List.getElem?_map,List.getElem?_range (show (too t p).toNat < 12 by omega),Option.map_some,hmt] at hx2'
    exact (Option.some.inj hx2').symm
   refine zj (fun h6=>?_) (fun h6=>?_)
   ·subst h6
    refine za (zu (bad rfl fun hr=>(hr.st i p hx).1 ?_))
    exact of_decide_eq_true hxe.symm
   ·subst h6
    have hnm:¬too t p∈(zS t r).take (i+1):=of_decide_eq_false hxe.symm
    refine zf (zZ (show too t p < 12 by omega)) (zg (jv g0 (by show too t p < ((c.length:Nat):Int);omega) fun _ _=>zg (vO (by show (too t p).toNat < c.length;omega) fun _ _=>?_)))
    refine za (qj ⟨?_,fun k hk q hq=>?_⟩)
    ·have e1:atS t r (i+1)=too t p:=by unfold atS;rw [if_neg (by omega),Wb t hx];rfl
     have e2:c.set (too t p).toNat true=zaS t r (i+1):=by
      rw [hc,zuk (by omega)]
      unfold zaS
      rw [if_neg (by omega),htk]
      refine zuj fun n hn=>?_
      rw [Bool.eq_iff_iff]
      simp only [Bool.or_eq_true,decide_eq_true_eq,beq_iff_eq,List.mem_append,List.mem_singleton]
      constructor
      ·rintro (h | h)
       ·exact .inl h
       ·right;omega
      ·rintro (h | h)
       ·exact .inl h
       ·right;omega
     rw [e1,←e2,←qv (by omega)]
    ·rcases Nat.lt_or_ge k i with hki | hki
     ·exact hp k hki q hq
     ·have:k=i:=by omega
      subst this
      rw [hx] at hq;cases hq
      exact ⟨hpi,hnm,hst⟩
 ·rintro _ ⟨rfl,hp⟩
  refine ze (zJ (show ¬(r.length:Int) < (r.length:Int) by omega)) (za (zu (.inl ⟨rfl,h1,h8,fun p hm=>?_,fun i p hi=>(hp i (by grind) p hi).2⟩)))
  obtain ⟨k,hk⟩:=List.getElem?_of_mem hm
  exact (hp k (by grind) p hk).1
 ·rintro ⟨j,⟨v,w,z,⟨⟩⟩,c,⟨⟩,⟨⟩,⟨⟩⟩ (⟨hg,hr⟩ | ⟨hg,hr⟩)
  ·simp only at hg
   refine zj (fun _=>?_) (fun _=>?_)<;>exact za ⟨fun _=>hr,fun _=>Zb hg⟩
  ·simp only at hg
   refine zj (fun _=>?_) (fun _=>?_)<;>exact za ⟨fun h=>by have:=qO h;simp only at this;omega,fun h=>absurd h hr⟩
def Yk (a b:List Int):Prop:=∃p∈a,∃q∈b,Int.tdiv p 2=Int.tdiv q 2
def Xf (a:List Int):List Int:=(a.take (a.length - 1)).drop 1
def Ja (a b:List Int):Prop:=∃n∈Xf a,n∈b
def zmf (t:qk) (a b:List Int):Prop:=¬Yk a b∧¬Ja (zS t a) (zS t b)∧¬Ja (zS t b) (zS t a)
theorem zFx {p:Int} (h : -9223372036854775808≤p) (h2:p≤9223372036854775807):wrF .i64 (Int.tdiv p 2)=Int.tdiv p 2:=by
 rcases Int.le_total 0 p with h0 | h0
 ·rw [Int.tdiv_eq_ediv_of_nonneg h0];exact zy (by omega) (by omega)
 ·have e:Int.tdiv p 2 = -((-p) / 2):=by
   rw [←Int.tdiv_eq_ediv_of_nonneg (by omega),Int.neg_tdiv,Int.neg_neg]
  rw [e];exact zy (by omega) (by omega)
theorem zmR {t:qk} (h:t.2.2.length≤1000000000000000) {p:Int} (hp:wm t p):wrF .i64 (Int.tdiv p 2)=Int.tdiv p 2:=zFx (by have:=hp.1;omega) (by have:=hp.2;omega)
theorem yG {α:Type} {l:List α} {x:α} (h:x∈l):∃i,i < l.length∧l[i]?=some x:=by
 obtain ⟨i,hi⟩:=List.getElem?_of_mem h
 exact ⟨i,by grind,hi⟩
theorem zpF {t:qk} (h:t.2.2.length≤1000000000000000) {a b:List Int} (ha:∀p∈a,wm t p) (hb:∀p∈b,wm t p) (la:a.length≤8) (lb:b.length≤8):ZW (a,b,())=some (tv (Yk a b),()):=by
 rw [zm3];unfold zbK
 refine wu (zk (J:=fun x=>(x.1=0∧¬Yk a b)∨(x.1=1∧x.2.1.1=true∧Yk a b)) (jn a.length (fun i=>∀p,a[i]?=some p→¬∃q∈b,Int.tdiv p 2=Int.tdiv q 2) (by omega) ?_ ?_) ?_)
 ·intro i hi hp
  have hx:a[i]?=some a[i]:=List.getElem?_eq_getElem hi
  have hm:=List.getElem_mem hi
  generalize a[i]=p at hx hm
  refine zf (zZ (show (i:Int) < (a.length:Int) by omega)) (zg (zC (n:=i) hx ?_))
  refine zk (J:=fun x=>(x.1=0∧x.2.1.1=false∧¬∃q∈b,Int.tdiv p 2=Int.tdiv q 2)∨(x.1=1∧x.2.1.1=true∧∃q∈b,Int.tdiv p 2=Int.tdiv q 2)) (jn b.length (fun k=>∀q,b[k]?=some q→Int.tdiv p 2≠Int.tdiv q 2) (by omega) ?_ ?_) ?_
  ·intro k hk hq
   have hy:b[k]?=some b[k]:=List.getElem?_eq_getElem hk
   have hmk:=List.getElem_mem hk
   generalize b[k]=q at hy hmk
   refine zf (zZ (show (k:Int) < (b.length:Int) by omega)) (zg (zC (n:=k) hy ?_))
   rw [zmR h (ha p hm),zmR h (hb q hmk)]
   refine zj (fun h=>?_) (fun h=>?_)
   ·exact za (zu (.inr ⟨rfl,rfl,q,hmk,qO h⟩))
   ·exact za (yr (by omega) fun q' hq'=>by rw [hy] at hq';cases hq';exact jM h)
  ·intro hq
   refine ze (zJ (show ¬(b.length:Int) < (b.length:Int) by omega)) (za (zu (.inl ⟨rfl,rfl,fun ⟨q,hq1,hq2⟩=>?_⟩)))
   obtain ⟨k,hk,hk2⟩:=yG hq1
   exact hq k hk q hk2 hq2
  ·rintro ⟨j,⟨v,w,⟨⟩⟩,⟨⟩⟩ (⟨rfl,rfl,hq⟩ | ⟨rfl,rfl,hq⟩)
   ·exact zf rfl (za (yr (by omega) fun p' hp'=>by rw [hx] at hp';cases hp';exact hq))
   ·exact ze rfl (za (zu (.inr ⟨rfl,rfl,p,hm,hq⟩)))
 ·intro hp
  refine ze (zJ (show ¬(a.length:Int) < (a.length:Int) by omega)) (za (zu (.inl ⟨rfl,fun ⟨p,hp1,hp2⟩=>?_⟩)))
  obtain ⟨k,hk,hk2⟩:=yG hp1
  exact hp k hk p hk2 hp2
 ·rintro ⟨j,⟨v,w,⟨⟩⟩,⟨⟩⟩ (⟨rfl,hq⟩ | ⟨rfl,rfl,hq⟩)
  ·exact zf rfl (za ⟨fun h=>(by cases h),fun h=>absurd h hq⟩)
  ·exact ze rfl (za ⟨fun _=>hq,fun _=>rfl⟩)
theorem zul {a:List Int} {i:Nat} (h:1≤i) (h2:i < a.length - 1):(Xf a)[i - 1]?=a[i]?:=by
 unfold Xf
 rw [List.getElem?_drop,List.getElem?_take]
 rw [if_pos (by omega)]
 congr 1;omega
theorem zum (a:List Int):(Xf a).length=a.length - 1 - 1:=by unfold Xf;simp
theorem zun {a:List Int} {n:Int}:n∈Xf a↔∃i,1≤i∧i < a.length - 1∧a[i]?=some n:=by
 constructor
 ·intro h
  obtain ⟨k,hk,hk2⟩:=yG h
  rw [zum] at hk
  refine ⟨k+1,by omega,by omega,?_⟩
  rw [←zul (by omega) (by omega)];exact hk2
 ·rintro ⟨i,h1,h2,h3⟩
  rw [←zul h1 h2] at h3
  exact List.mem_of_getElem? h3
theorem zdN {a b:List Int} (la:1≤a.length) (la2:a.length≤100) (lb:b.length≤100):Ze (a,b,())=some (tv (Ja a b),()):=by
 have e1:wrF .i64 ((a.length:Int) - 1)=(a.length:Int) - 1:=zy (by omega) (by omega)
 rw [zls];unfold zaj
 rw [e1]
 refine wu (zk (J:=fun x=>(x.1=0∧¬Ja a b)∨(x.1=1∧x.2.1.1=true∧Ja a b))
  (zX (a.length - 1 - 1) (fun i s=>s=((false,(((i+1:Nat):Int),())),())∧∀k,1≤k→k < i+1→∀n,a[k]?=some n→¬n∈b) (by omega) ⟨rfl,fun k h1 h2=>by omega⟩ ?_ ?_) ?_)
 ·rintro i _ hi ⟨rfl,hp⟩
  have hx:a[i+1]?=some a[i+1]:=List.getElem?_eq_getElem (by omega)
  generalize a[i+1]=n at hx
  refine zf (zZ (show ((i+1:Nat):Int) < (a.length:Int) - 1 by omega)) (zg (zC (n:=i+1) hx ?_))
  rw [zfG (by show b.length≤_;omega)]
  refine zj (fun h=>?_) (fun h=>?_)
  ·exact za (zu (.inr ⟨rfl,rfl,n,zun.2 ⟨i+1,by omega,by omega,hx⟩,Wm h⟩))
  ·refine za (qj ⟨congrArg (fun z=>((false,(z,())),())) (qv (i:=i+1) (by omega)),fun k h1 h2 m hm=>?_⟩)
   rcases Nat.lt_or_ge k (i+1) with hk | hk
   ·exact hp k h1 hk m hm
   ·have:k=i+1:=by omega
    subst this
    rw [hx] at hm;cases hm
    exact JS h
 ·rintro _ ⟨rfl,hp⟩
  refine ze (zJ (show ¬((a.length - 1 - 1+1:Nat):Int) < (a.length:Int) - 1 by omega)) (za (zu (.inl ⟨rfl,fun ⟨n,h1,h2⟩=>?_⟩)))
  obtain ⟨i,i1,i2,i3⟩:=zun.1 h1
  exact hp i i1 (by omega) n i3 h2
 ·rintro ⟨j,⟨v,w,⟨⟩⟩,⟨⟩⟩ (⟨rfl,hq⟩ | ⟨rfl,rfl,hq⟩)
  ·exact zf rfl (za ⟨fun h=>(by cases h),fun h=>absurd h hq⟩)
  ·exact ze rfl (za ⟨fun _=>hq,fun _=>rfl⟩)
theorem zgo {t:qk} (ht:wU t) {a b:List Int} (ha:qU t a) (hb:qU t b):uh (t,a,b,())=some (tv (zmf t a b),()):=by
 have hll:=ht.ll
 have na:=gX t ha.ne;have nb:=gX t hb.ne
 have a0:=ha.n0;have a8:=ha.n1;have b0:=hb.n0;have b8:=hb.n1
 rw [zoP];unfold zcW
 refine wu (zk (J:=fun x=>(x.1=0∧¬Yk a b)∨(x.1=1∧x.2.1.1=false∧Yk a b)) (jn a.length (fun i=>∀p,a[i]?=some p→¬∃q∈b,Int.tdiv p 2=Int.tdiv q 2) (by omega) ?_ ?_) ?_)
 ·intro i hi hp
  have hx:a[i]?=some a[i]:=List.getElem?_eq_getElem hi
  have hm:=List.getElem_mem hi
  generalize a[i]=p at hx hm
  refine zf (zZ (show (i:Int) < (a.length:Int) by omega)) ?_
  refine zk (J:=fun x=>(x.1=0∧x.2.1.1=false∧¬∃q∈b,Int.tdiv p 2=Int.tdiv q 2)∨(x.1=1∧x.2.1.1=false∧∃q∈b,Int.tdiv p 2=Int.tdiv q 2)) (jn b.length (fun k=>∀q,b[k]?=some q→Int.tdiv p 2≠Int.tdiv q 2) (by omega) ?_ ?_) ?_
  ·intro k hk hq
   have hy:b[k]?=some b[k]:=List.getElem?_eq_getElem hk
   have hmk:=List.getElem_mem hk
   generalize b[k]=q at hy hmk
   refine zf (zZ (show (k:Int) < (b.length:Int) by omega)) (zg (zC (n:=i) hx (zg (zC (n:=k) hy ?_))))
   rw [zmR hll (ha.pt p hm),zmR hll (hb.pt q hmk)]
   refine zj (fun h=>?_) (fun h=>?_)
   ·exact za (zu (.inr ⟨rfl,rfl,q,hmk,qO h⟩))
   ·exact za (yr (by omega) fun q' hq'=>by rw [hy] at hq';cases hq';exact jM h)
  ·intro hq
   refine ze (zJ (show ¬(b.length:Int) < (b.length:Int) by omega)) (za (zu (.inl ⟨rfl,rfl,fun ⟨q,hq1,hq2⟩=>?_⟩)))
   obtain ⟨k,hk,hk2⟩:=yG hq1
   exact hq k hk q hk2 hq2
  ·rintro ⟨j,⟨v,w,⟨⟩⟩,⟨⟩⟩ (⟨rfl,rfl,hq⟩ | ⟨rfl,rfl,hq⟩)
   ·exact zf rfl (za (yr (by omega) fun p' hp'=>by rw [hx] at hp';cases hp';exact hq))
   ·exact ze rfl (za (zu (.inr ⟨rfl,rfl,p,hm,hq⟩)))
 ·intro hp
  refine ze (zJ (show ¬(a.length:Int) < (a.length:Int) by omega)) (za (zu (.inl ⟨rfl,fun ⟨p,hp1,hp2⟩=>?_⟩)))
  obtain ⟨k,hk,hk2⟩:=yG hp1
  exact hp k hk p hk2 hp2
 ·rintro ⟨j,⟨v,w,⟨⟩⟩,⟨⟩⟩ (⟨rfl,hq⟩ | ⟨rfl,rfl,hq⟩)
  ·refine zf rfl ?_
   simp only [zaR hll ha.ne ha.n1 ha.pt,zaR hll hb.ne hb.n1 hb.pt,zD]
   rw [zdN (by omega) (by omega) (by omega)]
   refine zj (fun h=>?_) (fun h=>?_)
   ·rw [zdN (by omega) (by omega) (by omega)]
    refine za ⟨fun h2=>⟨hq,yF h,yF h2⟩,fun h2=>?_⟩
    show (!tv _)=true
    rw [qu h2.2.2];rfl
   ·exact za ⟨fun h2=>(by cases h2),fun h2=>absurd (xk h) h2.2.1⟩
  ·exact ze rfl (za ⟨fun h=>(by cases h),fun h=>absurd hq h.1⟩)
theorem zdw {l:List Int} (hn:l.length≤1000000000000000000) (b:Int):qm (yT (l,b,())) fun r=>(0≤r.1∧b∈l)∨(r.1 = -1∧¬b∈l):=by
 rw [zcy];unfold Qz
 refine zk (J:=fun x=>(x.1=0∧¬b∈l)∨(x.1=1∧0≤x.2.1.1∧b∈l)) (jn l.length (fun i=>l[i]?≠some b) hn ?_ ?_) ?_
 ·intro i hi hp
  have hx:l[i]?=some l[i]:=List.getElem?_eq_getElem hi
  refine zf (zZ (show (i:Int) < (l.length:Int) by omega)) (zg (zC (n:=i) hx (zj (fun h=>?_) (fun h=>?_))))
  ·have:b=l[i]:=qO h
   exact za (zu (.inr ⟨rfl,by show (0:Int)≤(i:Int);omega,by rw [this];exact List.getElem_mem hi⟩))
  ·have:=jM (show zo b l[i]=false from h)
   exact za (yr (by omega) (by rw [hx];intro e;cases e;exact this rfl))
 ·intro hp
  refine ze (zJ (show ¬(l.length:Int) < (l.length:Int) by omega)) (za (zu (.inl ⟨rfl,fun hm=>?_⟩)))
  obtain ⟨k,hk,hk2⟩:=yG hm
  exact hp k hk hk2
 ·rintro ⟨j,⟨v,w,⟨⟩⟩,⟨⟩⟩ (⟨rfl,hp⟩ | ⟨rfl,h0,hp⟩)
  ·exact zf rfl (za (.inr ⟨rfl,hp⟩))
  ·exact ze rfl (za (.inl ⟨h0,hp⟩))
theorem za6 {l:List Int} (hn:l.length≤1000000000000000000) (b:Int):wY (l,b,())=some (tv (b∈l),()):=by
 rw [zat];unfold gV
 refine wu (zk (zdw hn b) ?_)
 rintro ⟨v,⟨⟩⟩ (⟨h,hm⟩ | ⟨rfl,hm⟩)
 ·refine za ⟨fun _=>hm,fun _=>?_⟩
  show (!zi v 0)=true
  rw [zJ (by simp only at h;omega)];rfl
 ·exact za ⟨fun h=>(by cases h),fun h=>absurd h hm⟩
theorem zaU {l:List Int} (hn:l.length≤1000000000000000000) (b:Int):qm (wG (l,b,())) fun r=>(0≤r.1∧b∈l)∨(r.1 = -1∧¬b∈l):=by
 rw [GA];unfold gC
 refine zk (J:=fun x=>(x.1=0∧¬b∈l)∨(x.1=1∧0≤x.2.1.1∧b∈l)) (jn l.length (fun i=>l[i]?≠some b) hn ?_ ?_) ?_
 ·intro i hi hp
  have hx:l[i]?=some l[i]:=List.getElem?_eq_getElem hi
  refine zf (zZ (show (i:Int) < (l.length:Int) by omega)) (zg (zC (n:=i) hx (zj (fun h=>?_) (fun h=>?_))))
  ·have:b=l[i]:=qO h
   exact za (zu (.inr ⟨rfl,by show (0:Int)≤(i:Int);omega,by rw [this];exact List.getElem_mem hi⟩))
  ·have:=jM (show zo b l[i]=false from h)
   exact za (yr (by omega) (by rw [hx];intro e;cases e;exact this rfl))
 ·intro hp
  refine ze (zJ (show ¬(l.length:Int) < (l.length:Int) by omega)) (za (zu (.inl ⟨rfl,fun hm=>?_⟩)))
  obtain ⟨k,hk,hk2⟩:=yG hm
  exact hp k hk hk2
 ·rintro ⟨j,⟨v,w,⟨⟩⟩,⟨⟩⟩ (⟨rfl,hp⟩ | ⟨rfl,h0,hp⟩)
  ·exact zf rfl (za (.inr ⟨rfl,hp⟩))
  ·exact ze rfl (za (.inl ⟨h0,hp⟩))
theorem KP {l:List Int} (hn:l.length≤1000000000000000000) (b:Int):jf (l,b,())=some (tv (b∈l),()):=by
 rw [Ks];unfold uU
 refine wu (zk (zaU hn b) ?_)
 rintro ⟨v,⟨⟩⟩ (⟨h,hm⟩ | ⟨rfl,hm⟩)
 ·refine za ⟨fun _=>hm,fun _=>?_⟩
  show (!zi v 0)=true
  rw [zJ (by simp only at h;omega)];rfl
 ·exact za ⟨fun h=>(by cases h),fun h=>absurd h hm⟩
theorem zaV {t:qk} (ht:wU t) {a b:List Int} (ha:qU t a) (hb:qU t b):uP (t,a,b,())=some (tv (Ja (zS t a) (zS t b)),()):=by
 have hll:=ht.ll
 have na:=gX t ha.ne;have nb:=gX t hb.ne
 have a0:=ha.n0;have a8:=ha.n1;have b0:=hb.n0;have b8:=hb.n1
 rw [zhx];unfold Vt
 simp only [Xe hll ha.ne ha.n1 ha.pt,Xe hll hb.ne hb.n1 hb.pt,zD]
 generalize zS t a=A at na
 generalize zS t b=B at nb
 have e1:wrF .i64 ((A.length:Int) - 1)=((A.length - 1:Nat):Int):=by rw [zy]<;>omega
 have e2:zbp A (some 1) (some (((A.length - 1:Nat):Int))) (some (((A.length - 1:Nat):Int)))=some (Xf A):=zDo A 1 (A.length - 1) (by omega) (by omega)
 rw [e1,e2,zD]
 have il:=zum A
 refine wu (zk (J:=fun x=>(x.1=0∧¬Ja A B)∨(x.1=1∧x.2.1.1=true∧Ja A B)) (jn (Xf A).length (fun i=>∀n,(Xf A)[i]?=some n→¬n∈B) (by omega) ?_ ?_) ?_)
 ·intro i hi hp
  have hx:(Xf A)[i]?=some (Xf A)[i]:=List.getElem?_eq_getElem hi
  have hm:=List.getElem_mem hi
  generalize (Xf A)[i]=n at hx hm
  refine zf (zZ (show (i:Int) < ((Xf A).length:Int) by omega)) (zg (zC (n:=i) hx ?_))
  rw [za6 (by omega)]
  refine zj (fun h=>?_) (fun h=>?_)
  ·exact za (zu (.inr ⟨rfl,rfl,n,hm,Wm h⟩))
  ·exact za (yr (by omega) fun m hm=>by rw [hx] at hm;cases hm;exact JS h)
 ·intro hp
  refine ze (zJ (show ¬((Xf A).length:Int) < ((Xf A).length:Int) by omega)) (za (zu (.inl ⟨rfl,fun ⟨n,h1,h2⟩=>?_⟩)))
  obtain ⟨k,hk,hk2⟩:=yG h1
  exact hp k hk n hk2 h2
 ·rintro ⟨j,⟨v,w,⟨⟩⟩,⟨⟩⟩ (⟨rfl,hq⟩ | ⟨rfl,rfl,hq⟩)
  ·exact zf rfl (za ⟨fun h=>(by cases h),fun h=>absurd h hq⟩)
  ·exact ze rfl (za ⟨fun _=>hq,fun _=>rfl⟩)
theorem zgp {t:qk} (ht:wU t) (r:List Int):um (t,r,())=some (bif tv (qU t r) then 0 else 310,()):=by
 rw [zoX];unfold zc3
 simp only [Kh,zD,qf ht,cond_true,zaT ht]
 rw [show (!zo 0 0)=false from rfl,cond_false]
 cases tv (qU t r)<;>rfl
theorem zrF {t:qk} (ht:wU t) {a b:List Int} (ha:qU t a) (hb:qU t b):kX (t,a,b,())=some (tv (zmf t a b),0,()):=by
 rw [zo1];unfold zc5
 simp only [zgp ht,zD,qf ha,qf hb,cond_true,zaT ht,zpF ht.ll ha.pt hb.pt ha.n1 hb.n1,zaV ht ha hb,zaV ht hb ha]
 rw [show (!zo 0 0)=false from rfl,cond_false]
 simp only [Bool.not_true,cond_false]
 unfold zmf
 by_cases h1:Yk a b
 ·simp [qf h1,qu (show ¬(¬Yk a b∧¬Ja (zS t a) (zS t b)∧¬Ja (zS t b) (zS t a)) from fun h=>h.1 h1)]
 ·by_cases h2:Ja (zS t a) (zS t b)
  ·simp [qu h1,qf h2,qu (show ¬(¬Yk a b∧¬Ja (zS t a) (zS t b)∧¬Ja (zS t b) (zS t a)) from fun h=>h.2.1 h2)]
  ·by_cases h3:Ja (zS t b) (zS t a)
   ·simp [qu h1,qu h2,qf h3,qu (show ¬(¬Yk a b∧¬Ja (zS t a) (zS t b)∧¬Ja (zS t b) (zS t a)) from fun h=>h.2.2 h3)]
   ·simp [qu h1,qu h2,qu h3,qf (show ¬Yk a b∧¬Ja (zS t a) (zS t b)∧¬Ja (zS t b) (zS t a) from ⟨h1,h2,h3⟩)]
def Xu (t:qk) (r:List Int):Int:=frm t ((r[0]?).getD 0)
def Ki (t:qk) (r:List Int):Int:=too t ((r[r.length - 1]?).getD 0)
theorem zrG {t:qk} (ht:wU t) (r:List Int):Jo (t,r,())=some (bif tv (qU t r) then (zS t r,0,()) else ([],310,())):=by
 rw [zoZ];unfold zc4
 simp only [zgp ht,zD]
 by_cases h:qU t r
 ·simp only [qf h,cond_true,Xe ht.ll h.ne h.n1 h.pt,zD];rfl
 ·simp only [qu h,cond_false];rfl
theorem zyw (t:qk) {r:List Int} (h:r≠[]):(zS t r)[0]?=some (Xu t r):=by
 cases r with
 |nil=>exact absurd rfl h
 |cons p r=>rfl
theorem zAt (t:qk) {r:List Int} (h:r≠[]):(zS t r)[r.length]?=some (Ki t r):=by
 have hl:0 < r.length:=List.length_pos_iff.2 h
 have hx:r[r.length - 1]?=some (r[r.length - 1]'(by omega)):=List.getElem?_eq_getElem (by omega)
 have:=Wb t hx
 rw [show r.length - 1+1=r.length by omega] at this
 rw [this];unfold Ki;rw [hx];rfl
theorem ztt {t:qk} (ht:wU t) (r:List Int):WU (t,r,())=some (bif tv (qU t r) then (Xu t r,Ki t r,0,()) else (0,0,310,())):=by
 rw [zqU];unfold ze7
 simp only [zrG ht,zD]
 by_cases h:qU t r
 ·have hn:=gX t h.ne
  have:=h.n1
  simp only [qf h,cond_true]
  rw [show (!zo 0 0)=false from rfl,cond_false]
  rw [show wrF .i64 (((zS t r).length:Int) - 1)=((r.length:Nat):Int) from by rw [zy]<;>omega]
  rw [show (0:Int)=((0:Nat):Int) from rfl,yd (zyw t h.ne),zD,yd (zAt t h.ne),zD]
 ·simp only [qu h,cond_false];rfl
theorem zpG {t:qk} (ht:wU t) (r:List Int) (a b:Int):gx (t,r,a,b,())=some (tv (qU t r∧Xu t r=a∧Ki t r=b),()):=by
 rw [zm1];unfold zbJ
 simp only [ztt ht,zD]
 by_cases h:qU t r
 ·simp only [qf h,cond_true]
  rw [show zo 0 0=true from rfl,cond_true]
  refine wu (zj (fun h1=>?_) (fun h1=>?_))
  ·exact za ⟨fun h2=>⟨h,qO h1,qO h2⟩,fun h2=>Zb h2.2.2⟩
  ·exact za ⟨fun h2=>(by cases h2),fun h2=>absurd h2.2.1 (jM h1)⟩
 ·simp only [qu h,cond_false]
  rw [show zo 310 0=false from rfl,cond_false,qu fun h2=>h h2.1]
abbrev jj:=Int×Int×Int×Int×Int×Int×(Int×Int)×Int×List (List Int)
structure Zk (t:qk) (s:jj):Prop where
 id:1≤s.1∧s.1≤4095
 ta:je t s.2.1∧stn t s.2.1=true
 li:je t s.2.2.1∧stn t s.2.2.1=true
 tl:s.2.1≠s.2.2.1
 sz:84≤s.2.2.2.2.1∧s.2.2.2.2.1≤1542
 dl:1≤s.2.2.2.2.2.2.2.1∧s.2.2.2.2.2.2.2.1≤1099511627776
 cl:(s.2.2.2.1=7∧(1≤s.2.2.2.2.2.1∧s.2.2.2.2.2.1≤240)∧s.2.2.2.2.2.2.1=(0,0))∨(s.2.2.2.1=6∧s.2.2.2.2.2.1=0∧(s.2.2.2.2.1≤s.2.2.2.2.2.2.1.1∧s.2.2.2.2.2.2.1.1≤1048576)∧(1≤s.2.2.2.2.2.2.1.2∧s.2.2.2.2.2.2.1.2≤2097152))
 rn:1≤s.2.2.2.2.2.2.2.2.length∧s.2.2.2.2.2.2.2.2.length≤2
 rt:∀r∈s.2.2.2.2.2.2.2.2,qU t r∧Xu t r=s.2.1∧Ki t r=s.2.2.1
 ap:∀a b,s.2.2.2.2.2.2.2.2[0]?=some a→s.2.2.2.2.2.2.2.2[1]?=some b→zmf t a b
theorem zi4 {a b c:Int} {R:Int→Int→Int→Option (Bool×Unit)} (hR:R a b c=(bif (!(zi (a) (b))) then some ((!(zi (c) (a))),()) else some (false,()))):R a b c=some (tv (b≤a∧a≤c),()):=by
 rw [hR]
 refine wu (zj (fun h=>?_) (fun h=>?_))<;>refine za ?_<;>simp only [xb] at *<;>grind
theorem VE (a b c:Int):we (a,b,c,())=some (tv (b≤a∧a≤c),()):=by
 rw [zjW];exact zi4 (R:=UI) rfl
theorem zmg (a b c:Int):ZL (a,b,c,())=some (tv (b≤a∧a≤c),()):=by
 rw [zuL];exact zi4 (R:=ziE) rfl
theorem Yl (a b c:Int):wS (a,b,c,())=some (tv (b≤a∧a≤c),()):=by
 rw [zgI];exact zi4 (R:=XK) rfl
theorem zy0 {n:Int} (h : -1000000≤n) (h2:n≤1000000):wrF .i64 (n - 1)=n - 1:=zy (by omega) (by omega)
theorem zmh {t:qk} (hs:szP t) (n:Int):gu (t,n,())=some (tv (je t n∧stn t n=true),()):=by
 have h0:=hs.n0;have h1:=hs.n1
 rw [zj0];unfold UK
 simp only [VE,zD,zy0 (show -1000000≤t.1 by omega) (by omega)]
 refine wu (zj (fun h=>?_) (fun h=>?_))
 ·obtain ⟨h2,h3⟩:=Wm h
  have hn:je t n:=⟨h2,by omega⟩
  refine zg (qh (a:=stn t n) (by show atI t.2.1 n=_;rw [show n=((n.toNat:Nat):Int) from (by omega),yd (n:=n.toNat)];exact hn.get hs) ?_)
  exact za ⟨fun h=>⟨hn,h⟩,fun h=>h.2⟩
 ·have:=JS h
  exact za ⟨fun h=>(by cases h),fun h=>absurd ⟨h.1.1,by have:=h.1.2;omega⟩ this⟩
theorem znx {t:qk} (hs:szP t) (n:Int):Zf (t,n,())=some (tv (je t n∧stn t n=true),()):=by
 have h0:=hs.n0;have h1:=hs.n1
 rw [zlu];unfold zam
 simp only [zmg,zD,zy0 (show -1000000≤t.1 by omega) (by omega)]
 refine wu (zj (fun h=>?_) (fun h=>?_))
 ·obtain ⟨h2,h3⟩:=Wm h
  have hn:je t n:=⟨h2,by omega⟩
  refine zg (qh (a:=stn t n) (by show atI t.2.1 n=_;rw [show n=((n.toNat:Nat):Int) from (by omega),yd (n:=n.toNat)];exact hn.get hs) ?_)
  exact za ⟨fun h=>⟨hn,h⟩,fun h=>h.2⟩
 ·have:=JS h
  exact za ⟨fun h=>(by cases h),fun h=>absurd ⟨h.1.1,by have:=h.1.2;omega⟩ this⟩
def jG (b:Int×Int):Prop:=(1≤b.1∧b.1≤1048576)∧(1≤b.2∧b.2≤2097152)
theorem gL (b:Int×Int):qR (b,())=some (bif tv (jG b) then 0 else 130,()):=by
 rw [zmZ];unfold zbI jG
 simp only [Yl,zD]
 by_cases h1:1≤b.1∧b.1≤1048576
 ·by_cases h2:1≤b.2∧b.2≤2097152
  ·simp only [qf h1,qf h2,qf (And.intro h1 h2)];rfl
  ·simp only [qf h1,qu h2,qu (fun h:(1≤b.1∧b.1≤1048576)∧(1≤b.2∧b.2≤2097152)=>h2 h.2)];rfl
 ·simp only [qu h1,qu (fun h:(1≤b.1∧b.1≤1048576)∧(1≤b.2∧b.2≤2097152)=>h1 h.1)];rfl
theorem zBN (b:Int×Int):((zo b.1 0)&&((zo b.2 0)&&true))=tv (b=(0,0)):=by
 obtain ⟨x,y⟩:=b
 rw [zFb,ju,ju]
 simp only [Bool.and_true]
 rw [Bool.eq_iff_iff]
 simp [Prod.ext_iff]
theorem zn9 {t:qk} (ht:wU t) {s:jj} {Q:Prop} (hn:1≤s.2.2.2.2.2.2.2.2.length∧s.2.2.2.2.2.2.2.2.length≤2) {B:((Bool×(Int×Unit))×Unit)→Option ((Nat×((Bool×(Int×Unit))×Unit)) ⊕ ((Bool×(Int×Unit))×Unit))}
  {K:(Nat×((Bool×(Int×Unit))×Unit))→Option (Bool×Unit)}
  (hB
    : B=fun s7=>bif (zi (s7.1.2.1) ((((s.2.2.2.2.2.2.2.2).length:Nat):Int))) then opt (atI (s.2.2.2.2.2.2.2.2) (s7.1.2.1)) fun x8=>
    opt (gx ((t,(x8,(s.2.1,(s.2.2.1,())))))) fun x9=>
    bif (!x9.1) then some (.inl (1,((false,(s7.1.2.1,())),())))
    else some (.inr ((s7.1.1,((wrF .i64 ((s7.1.2.1+1))),())),()))
   else some (.inl (0,((s7.1.1,(s7.1.2.1,())),()))))
  (hK :
     ∀x,K x=bif (Nat.beq x.1 0) then bif (zi ((((s.2.2.2.2.2.2.2.2).length:Nat):Int)) (2)) then some (true,())
     else opt (atI (s.2.2.2.2.2.2.2.2) (0)) fun x11=>opt (atI (s.2.2.2.2.2.2.2.2) (1)) fun x12=>opt (kX ((t,(x11,(x12,()))))) fun x13=>
      bif (zo (x13.2.1) (0)) then bif (!x13.1) then some (false,()) else some (true,()) else some (false,())
    else bif (!x.2.1.1) then some (false,())
     else bif (zi ((((s.2.2.2.2.2.2.2.2).length:Nat):Int)) (2)) then some (true,())
      else opt (atI (s.2.2.2.2.2.2.2.2) (0)) fun x14=>opt (atI (s.2.2.2.2.2.2.2.2) (1)) fun x15=>opt (kX ((t,(x14,(x15,()))))) fun x16=>
       bif (zo (x16.2.1) (0)) then bif (!x16.1) then some (false,()) else some (true,()) else some (false,()))
  (hQ:Q↔(∀r∈s.2.2.2.2.2.2.2.2,qU t r∧Xu t r=s.2.1∧Ki t r=s.2.2.1)∧∀a b,s.2.2.2.2.2.2.2.2[0]?=some a→s.2.2.2.2.2.2.2.2[1]?=some b→zmf t a b) :
  qm (opt (zI B zQ ((false,(0,())),())) K) fun r=>(r.1=true↔Q):=by
 subst hB
 obtain ⟨n0,n2⟩:=hn
 refine zk (J:=fun x=>(x.1=0∧∀r∈s.2.2.2.2.2.2.2.2,qU t r∧Xu t r=s.2.1∧Ki t r=s.2.2.1)∨(x.1=1∧x.2.1.1=false∧¬Q)) (jn s.2.2.2.2.2.2.2.2.length (fun i=>∀r,s.2.2.2.2.2.2.2.2[i]?=some r→qU t r∧Xu t r=s.2.1∧Ki t r=s.2.2.1) (by omega) ?_ ?_) ?_
 ·intro i hi hp
  have hx:s.2.2.2.2.2.2.2.2[i]?=some s.2.2.2.2.2.2.2.2[i]:=List.getElem?_eq_getElem hi
  have hm:=List.getElem_mem hi
  generalize s.2.2.2.2.2.2.2.2[i]=r at hx hm
  refine zf (zZ (show (i:Int) < (s.2.2.2.2.2.2.2.2.length:Int) by omega)) (zg (zC (n:=i) hx ?_))
  rw [zpG ht]
  refine zj (fun h=>?_) (fun h=>?_)
  ·exact za (zu (.inr ⟨rfl,rfl,fun hq=>yF h ((hQ.1 hq).1 r hm)⟩))
  ·exact za (yr (by omega) fun r' hr'=>by rw [hx] at hr';cases hr';exact xk h)
 ·intro hp
  refine ze (zJ (show ¬(s.2.2.2.2.2.2.2.2.length:Int) < (s.2.2.2.2.2.2.2.2.length:Int) by omega)) (za (zu (.inl ⟨rfl,fun r hr=>?_⟩)))
  obtain ⟨k,hk,hk2⟩:=yG hr
  exact hp k hk r hk2
 ·rintro ⟨j,⟨v,w,⟨⟩⟩,⟨⟩⟩ (⟨rfl,hq⟩ | ⟨rfl,rfl,hq⟩)
  ·rw [hK]
   refine zf rfl (zj (fun h=>?_) (fun h=>?_))
   ·have h:=qp h
    have h:s.2.2.2.2.2.2.2.2.length < 2:=by omega
    exact za ⟨fun _=>hQ.2 ⟨hq,fun a b _ hb=>by rw [List.getElem?_eq_none (by omega)] at hb;cases hb⟩,fun _=>rfl⟩
   ·have h:=qG h
    have h:2≤s.2.2.2.2.2.2.2.2.length:=by omega
    have hx0:s.2.2.2.2.2.2.2.2[0]?=some s.2.2.2.2.2.2.2.2[0]:=List.getElem?_eq_getElem (by omega)
    have hx1:s.2.2.2.2.2.2.2.2[1]?=some s.2.2.2.2.2.2.2.2[1]:=List.getElem?_eq_getElem (by omega)
    have r0:=(hq _ (List.getElem_mem (show 0 < s.2.2.2.2.2.2.2.2.length by omega))).1
    have r1:=(hq _ (List.getElem_mem (show 1 < s.2.2.2.2.2.2.2.2.length by omega))).1
    generalize s.2.2.2.2.2.2.2.2[0]=a at hx0 r0
    generalize s.2.2.2.2.2.2.2.2[1]=b at hx1 r1
    refine zg (zC (n:=0) hx0 (zg (zC (n:=1) hx1 ?_)))
    rw [zrF ht r0 r1]
    refine zj (fun h=>?_) (fun h=>?_)
    ·exact za ⟨fun h=>(by cases h),fun hq2=>absurd ((hQ.1 hq2).2 a b hx0 hx1) (yF h)⟩
    ·exact za ⟨fun _=>hQ.2 ⟨hq,fun a' b' ha hb=>by rw [hx0] at ha;rw [hx1] at hb;cases ha;cases hb;exact xk h⟩,fun _=>rfl⟩
  ·rw [hK]
   exact ze rfl (zf rfl (za ⟨fun h=>(by cases h),fun h=>absurd h hq⟩))
theorem zpH {t:qk} (ht:wU t) (s:jj):ZX (t,s,())=some (tv (Zk t s),()):=by
 have no:¬Zk t s→qm (some ((false,()):Bool×Unit)) fun r=>(r.1=true↔Zk t s):=fun h=>za ⟨fun h=>(by cases h),fun h2=>absurd h2 h⟩
 rw [zm5];unfold zbM
 simp only [VE,zmh ht.sz,gL,zD,zBN]
 refine wu (zj (fun h=>no fun hs=>yF h hs.id) fun h1=>zj (fun h2=>zj (fun h3=>zj (fun h=>no fun hs=>?_) fun h4=>zj (fun h=>no fun hs=>yF h hs.sz) fun h5=>zj (fun h=>no fun hs=>yF h hs.dl) fun h6=>?_) fun h=>no fun hs=>JS h hs.li) fun h=>no fun hs=>JS h hs.ta)
 ·exact hs.tl (qO (show zo s.2.1 s.2.2.1=true by simpa using h))
 have h1:=xk h1;have h2:=Wm h2;have h3:=Wm h3;have h5:=xk h5;have h6:=xk h6
 have h4:=jM (show zo s.2.1 s.2.2.1=false by simpa using h4)
 refine zj (fun c7=>?_) (fun c7=>zj (fun c6=>?_) (fun c6=>no fun hs=>?_))
 ·have c7:=qO c7
  refine zj (fun h7=>zj (fun h=>no fun hs=>?_) fun h8=>zj (fun h=>no fun hs=>?_) fun h9=>?_) (fun h=>no fun hs=>?_)
  ·rcases hs.cl with ⟨_,_,hb⟩ | ⟨h6',_⟩
   ·exact yF h hb
   ·omega
  ·have:=yF h
   have:=hs.rn
   omega
  ·have h9:=xk h9
   refine zn9 ht ⟨by omega,by omega⟩ rfl (fun _=>rfl) ⟨fun hs=>⟨hs.rt,hs.ap⟩,fun hr=>⟨h1,h2,h3,h4,h5,h6,.inl ⟨c7,Wm h7,xk h8⟩,⟨by omega,by omega⟩,hr.1,hr.2⟩⟩
  ·rcases hs.cl with ⟨_,hb,_⟩ | ⟨h6',_⟩
   ·exact JS h hb
   ·omega
 ·have c6:=qO c6
  refine zj (fun h7=>zj (fun h8=>zj (fun h=>no fun hs=>?_) fun h9=>zj (fun h=>no fun hs=>?_) fun h10=>?_) (fun h=>no fun hs=>?_)) (fun h=>no fun hs=>?_)
  ·rcases hs.cl with ⟨h7',_⟩ | ⟨_,_,hb,_⟩
   ·omega
   ·have:=qp (show zi s.2.2.2.2.2.2.1.1 s.2.2.2.2.1=true by simpa using h)
    omega
  ·have:=yF h
   have:=hs.rn
   omega
  ·have h10:=xk h10
   have h7:=qO h7
   have h8:jG s.2.2.2.2.2.2.1:=by
    apply Classical.byContradiction
    intro hb
    rw [qu hb] at h8;cases h8
   have h9:=qG (show zi s.2.2.2.2.2.2.1.1 s.2.2.2.2.1=false by simpa using h9)
   refine zn9 ht ⟨by omega,by omega⟩ rfl (fun _=>rfl) ⟨fun hs=>⟨hs.rt,hs.ap⟩,fun hr=>⟨h1,h2,h3,h4,h5,h6,.inr ⟨c6,h7,⟨h9,h8.1.2⟩,h8.2⟩,⟨by omega,by omega⟩,hr.1,hr.2⟩⟩
  ·rcases hs.cl with ⟨h7',_⟩ | ⟨_,_,hb,hr⟩
   ·omega
   ·have:=hs.sz
    have hbp:jG s.2.2.2.2.2.2.1:=⟨⟨by omega,hb.2⟩,hr⟩
    rw [qf hbp] at h;cases h
  ·rcases hs.cl with ⟨h7',_⟩ | ⟨_,hp,_⟩
   ·omega
   ·exact jM h hp
 ·rcases hs.cl with ⟨h7,_⟩ | ⟨h6',_⟩
  ·exact jM c7 h7
  ·exact jM c6 h6'
theorem zrH {t:qk} (ht:wU t) (s:jj):Jm (t,s,())=some (tv (Zk t s),()):=by
 have hll:=ht.ll
 rw [zoS];unfold zcZ
 simp only [zmg,znx ht.sz,zD,zBN]
 refine wu (zk (J:=fun x=>(x.1=0∧x.2.1.1=false∧(1≤s.1∧s.1≤4095)∧(je t s.2.1∧stn t s.2.1=true)∧(je t s.2.2.1∧stn t s.2.2.1=true)∧s.2.1≠s.2.2.1∧(84≤s.2.2.2.2.1∧s.2.2.2.2.1≤1542)∧(1≤s.2.2.2.2.2.2.2.1∧s.2.2.2.2.2.2.2.1≤1099511627776))∨(x.1=1∧x.2.1.1=false∧¬Zk t s)) ?_ ?_)
 ·refine zj (fun h=>za (.inr ⟨rfl,rfl,fun hs=>yF h hs.id⟩)) fun h1=>zj (fun h=>za (.inr ⟨rfl,rfl,fun hs=>yF h hs.ta⟩)) fun h2=>zj (fun h=>za (.inr ⟨rfl,rfl,fun hs=>yF h hs.li⟩)) fun h3=>zj (fun h=>za (.inr ⟨rfl,rfl,fun hs=>hs.tl (qO h)⟩)) fun h4=>zj (fun h=>za (.inr ⟨rfl,rfl,fun hs=>yF h hs.sz⟩)) fun h5=>zj (fun h=>za (.inr ⟨rfl,rfl,fun hs=>yF h hs.dl⟩)) fun h6=>?_
  exact za (.inl ⟨rfl,rfl,xk h1,xk h2,xk h3,jM h4,xk h5,xk h6⟩)
 rintro ⟨j,⟨v,⟨⟩⟩,⟨⟩⟩ (⟨rfl,rfl,h1,h2,h3,h4,h5,h6⟩ | ⟨rfl,rfl,hq⟩)
 rotate_left
 ·exact ze rfl (za ⟨fun h=>(by cases h),fun h=>absurd h hq⟩)
 refine zf rfl (zk (J:=fun x=>(x.1=0∧x.2.1.1=false∧((s.2.2.2.1=7∧(1≤s.2.2.2.2.2.1∧s.2.2.2.2.2.1≤240)∧s.2.2.2.2.2.2.1=(0,0))∨(s.2.2.2.1=6∧s.2.2.2.2.2.1=0∧(s.2.2.2.2.1≤s.2.2.2.2.2.2.1.1∧s.2.2.2.2.2.2.1.1≤1048576)∧(1≤s.2.2.2.2.2.2.1.2∧s.2.2.2.2.2.2.1.2≤2097152))))∨(x.1=1∧x.2.1.1=false∧¬Zk t s)) ?_ ?_)
 ·refine zj (fun c7=>?_) (fun c7=>zj (fun c6=>?_) (fun c6=>za (.inr ⟨rfl,rfl,fun hs=>?_⟩)))
  ·have c7:=qO c7
   refine zk (J:=fun x=>(x.1=0∧x.2.1.1=false∧(1≤s.2.2.2.2.2.1∧s.2.2.2.2.2.1≤240)∧s.2.2.2.2.2.2.1=(0,0))∨(x.1=1∧x.2.1.1=false∧¬Zk t s)) ?_ ?_
   ·refine zj (fun h=>za (.inr ⟨rfl,rfl,fun hs=>?_⟩)) fun h7=>zj (fun h=>za (.inr ⟨rfl,rfl,fun hs=>?_⟩)) fun h8=>za (.inl ⟨rfl,rfl,xk h7,xk h8⟩)
    ·rcases hs.cl with ⟨_,hb,_⟩ | ⟨h6',_⟩
     ·exact yF h hb
     ·omega
    ·rcases hs.cl with ⟨_,_,hb⟩ | ⟨h6',_⟩
     ·exact yF h hb
     ·omega
   ·rintro ⟨j,⟨v,⟨⟩⟩,⟨⟩⟩ (⟨rfl,rfl,h7,h8⟩ | ⟨rfl,rfl,hq⟩)
    ·exact zf rfl (za (.inl ⟨rfl,rfl,.inl ⟨c7,h7,h8⟩⟩))
    ·exact ze rfl (za (.inr ⟨rfl,rfl,hq⟩))
  ·have c6:=qO c6
   refine zk (J:=fun x=>(x.1=0∧x.2.1.1=false∧s.2.2.2.2.2.1=0∧(s.2.2.2.2.1≤s.2.2.2.2.2.2.1.1∧s.2.2.2.2.2.2.1.1≤1048576)∧(1≤s.2.2.2.2.2.2.1.2∧s.2.2.2.2.2.2.1.2≤2097152))∨(x.1=1∧x.2.1.1=false∧¬Zk t s)) ?_ ?_
   ·refine zj (fun h=>za (.inr ⟨rfl,rfl,fun hs=>?_⟩)) fun h7=>zj (fun h=>za (.inr ⟨rfl,rfl,fun hs=>?_⟩)) fun h8=>zj (fun h=>za (.inr ⟨rfl,rfl,fun hs=>?_⟩)) fun h9=>za (.inl ⟨rfl,rfl,qO (by simpa using h7),xk h8,xk h9⟩)
    ·rcases hs.cl with ⟨h7',_⟩ | ⟨_,hp,_⟩
     ·omega
     ·rw [Zb hp] at h;cases h
    ·rcases hs.cl with ⟨h7',_⟩ | ⟨_,_,hb,_⟩
     ·omega
     ·exact yF h hb
    ·rcases hs.cl with ⟨h7',_⟩ | ⟨_,_,_,hb⟩
     ·omega
     ·exact yF h hb
   ·rintro ⟨j,⟨v,⟨⟩⟩,⟨⟩⟩ (⟨rfl,rfl,h7,h8⟩ | ⟨rfl,rfl,hq⟩)
    ·exact zf rfl (za (.inl ⟨rfl,rfl,.inr ⟨c6,h7,h8⟩⟩))
    ·exact ze rfl (za (.inr ⟨rfl,rfl,hq⟩))
  ·rcases hs.cl with ⟨h7,_⟩ | ⟨h6',_⟩
   ·exact jM c7 h7
   ·exact jM c6 h6'
 rintro ⟨j,⟨v,⟨⟩⟩,⟨⟩⟩ (⟨rfl,rfl,hcl⟩ | ⟨rfl,rfl,hq⟩)
 rotate_left
 ·exact ze rfl (za ⟨fun h=>(by cases h),fun h=>absurd h hq⟩)
 refine zf rfl (zk (J:=fun x=>(x.1=0∧x.2.1.1=false∧1≤s.2.2.2.2.2.2.2.2.length∧s.2.2.2.2.2.2.2.2.length≤2)∨(x.1=1∧x.2.1.1=false∧¬Zk t s)) ?_ ?_)
 ·refine zj (fun h=>za (.inr ⟨rfl,rfl,fun hs=>?_⟩)) fun h7=>zj (fun h=>za (.inr ⟨rfl,rfl,fun hs=>?_⟩)) fun h8=>za (.inl ⟨rfl,rfl,?_⟩)
  ·have:=qp h;have:=hs.rn;omega
  ·have:=qp h;have:=hs.rn;omega
  ·have h7:=qG h7;have h8:=qG h8;omega
 rintro ⟨j,⟨v,⟨⟩⟩,⟨⟩⟩ (⟨rfl,rfl,n0,n2⟩ | ⟨rfl,rfl,hq⟩)
 rotate_left
 ·exact ze rfl (za ⟨fun h=>(by cases h),fun h=>absurd h hq⟩)
 refine zf rfl (zk (J:=fun x=>(x.1=0∧∀r∈s.2.2.2.2.2.2.2.2,qU t r∧Xu t r=s.2.1∧Ki t r=s.2.2.1)∨(x.1=1∧x.2.1.1=false∧¬Zk t s)) (jn s.2.2.2.2.2.2.2.2.length (fun i=>∀r,s.2.2.2.2.2.2.2.2[i]?=some r→qU t r∧Xu t r=s.2.1∧Ki t r=s.2.2.1) (by omega) ?_ ?_) ?_)
 ·intro i hi hp
  have hx:s.2.2.2.2.2.2.2.2[i]?=some s.2.2.2.2.2.2.2.2[i]:=List.getElem?_eq_getElem hi
  have hm:=List.getElem_mem hi
  generalize s.2.2.2.2.2.2.2.2[i]=r at hx hm
  refine zf (zZ (show (i:Int) < (s.2.2.2.2.2.2.2.2.length:Int) by omega)) (zg (zC (n:=i) hx ?_))
  rw [zgn ht]
  refine zk (J:=fun x=>(x.1=0∧x.2.1.1=false∧qU t r∧Xu t r=s.2.1∧Ki t r=s.2.2.1)∨(x.1=1∧x.2.1.1=false∧¬Zk t s)) ?_ ?_
  ·refine zj (fun h=>za (.inr ⟨rfl,rfl,fun hs=>yF h (hs.rt r hm).1⟩)) fun h=>?_
   have hr:=xk h
   have r0:=hr.n0;have r8:=hr.n1
   have hy0:r[0]?=some r[0]:=List.getElem?_eq_getElem (by omega)
   have hy1:r[r.length - 1]?=some (r[r.length - 1]'(by omega)):=List.getElem?_eq_getElem (by omega)
   have e0:Xu t r=frm t r[0]:=by unfold Xu;rw [hy0];rfl
   have e1:Ki t r=too t (r[r.length - 1]'(by omega)):=by unfold Ki;rw [hy1];rfl
   have p0:=hr.pt _ (List.getElem_mem (show 0 < r.length by omega))
   have p1:=hr.pt _ (List.getElem_mem (show r.length - 1 < r.length by omega))
   generalize r[0]=p at hy0 e0 p0
   generalize (r[r.length - 1]'(by omega))=q at hy1 e1 p1
   refine zg (zC (n:=0) hy0 ?_)
   rw [Qc hll p0,zD]
   refine zj (fun h=>za (.inr ⟨rfl,rfl,fun hs=>?_⟩)) fun h7=>?_
   ·rw [←e0,Zb (hs.rt r hm).2.1] at h;cases h
   have h7:=qO (show zo (frm t p) s.2.1=true by simpa using h7)
   rw [show wrF .i64 ((r.length:Int) - 1)=((r.length - 1:Nat):Int) from by rw [zy]<;>omega]
   refine zg (zC (n:=r.length - 1) hy1 ?_)
   rw [QL hll p1,zD]
   refine zj (fun h=>za (.inr ⟨rfl,rfl,fun hs=>?_⟩)) fun h8=>?_
   ·rw [←e1,Zb (hs.rt r hm).2.2] at h;cases h
   have h8:=qO (show zo (too t q) s.2.2.1=true by simpa using h8)
   exact za (.inl ⟨rfl,rfl,hr,by rw [e0,h7],by rw [e1,h8]⟩)
  ·rintro ⟨j,⟨v,⟨⟩⟩,⟨⟩⟩ (⟨rfl,rfl,hq⟩ | ⟨rfl,rfl,hq⟩)
   ·exact zf rfl (za (yr (by omega) fun r' hr'=>by rw [hx] at hr';cases hr';exact hq))
   ·exact ze rfl (za (zu (.inr ⟨rfl,rfl,hq⟩)))
 ·intro hp
  refine ze (zJ (show ¬(s.2.2.2.2.2.2.2.2.length:Int) < (s.2.2.2.2.2.2.2.2.length:Int) by omega)) (za (zu (.inl ⟨rfl,fun r hr=>?_⟩)))
  obtain ⟨k,hk,hk2⟩:=yG hr
  exact hp k hk r hk2
 ·rintro ⟨j,⟨v,w,⟨⟩⟩,⟨⟩⟩ (⟨rfl,hrt⟩ | ⟨rfl,rfl,hq⟩)
  rotate_left
  ·exact ze rfl (za ⟨fun h=>(by cases h),fun h=>absurd h hq⟩)
  refine zf rfl (zj (fun h=>?_) (fun h=>?_))
  ·have h:=qO h
   have h:s.2.2.2.2.2.2.2.2.length=1:=by omega
   exact za ⟨fun _=>⟨h1,h2,h3,h4,h5,h6,hcl,⟨n0,n2⟩,hrt,fun a b _ hb=>by rw [List.getElem?_eq_none (by omega)] at hb;cases hb⟩,fun _=>rfl⟩
  ·have h:=jM h
   have h:s.2.2.2.2.2.2.2.2.length=2:=by omega
   have hx0:s.2.2.2.2.2.2.2.2[0]?=some s.2.2.2.2.2.2.2.2[0]:=List.getElem?_eq_getElem (by omega)
   have hx1:s.2.2.2.2.2.2.2.2[1]?=some s.2.2.2.2.2.2.2.2[1]:=List.getElem?_eq_getElem (by omega)
   have r0:=(hrt _ (List.getElem_mem (show 0 < s.2.2.2.2.2.2.2.2.length by omega))).1
   have r1:=(hrt _ (List.getElem_mem (show 1 < s.2.2.2.2.2.2.2.2.length by omega))).1
   generalize s.2.2.2.2.2.2.2.2[0]=a at hx0 r0
   generalize s.2.2.2.2.2.2.2.2[1]=b at hx1 r1
   refine zg (zC (n:=0) hx0 (zg (zC (n:=1) hx1 ?_)))
   rw [zgo ht r0 r1,zD]
   exact za ⟨fun h=>⟨h1,h2,h3,h4,h5,h6,hcl,⟨n0,n2⟩,hrt,fun a' b' ha hb=>by rw [hx0] at ha;rw [hx1] at hb;cases ha;cases hb;exact Wm h⟩,fun hs=>qf (hs.ap a b hx0 hx1)⟩
def ztu (t:qk) (l:List jj):Prop:=∀s∈l,Zk t s
def ztv (l:List jj):Prop:=∀(i k:Nat) a b,k < i→l[i]?=some a→l[k]?=some b→b.1≠a.1
noncomputable def zfH (t:qk) (l:List jj):Int:=bif tv (l.length≤12) then bif tv (ztu t l) then bif tv (ztv l) then 0 else 322 else 321 else 3
theorem zy1 {α:Type} (m:List (Int×α)) (a b:Int) (x z:α):mpD (mpP m a x) b z=if a=b then x else mpD m b z:=by
 induction m with
 |nil=>
  unfold mpP mpD
  rw [ju]
  by_cases h:a=b
  ·rw [if_pos h,h];simp
  ·rw [if_neg h,show (a == b)=false from by simpa using h];rfl
 |cons p m ih=>
  unfold mpP
  rw [ju]
  by_cases h:p.1=a
  ·rw [h];simp only [beq_self_eq_true,cond_true]
   unfold mpD
   rw [ju,ju]
   by_cases h2:a=b
   ·rw [if_pos h2,h2];simp
   ·rw [if_neg h2,h,show (a == b)=false from by simpa using h2];rfl
  ·rw [show (p.1 == a)=false from by simpa using h,cond_false]
   unfold mpD
   rw [ih,ju]
   by_cases h2:p.1=b
   ·rw [h2];simp only [beq_self_eq_true,cond_true]
    rw [if_neg (by rw [h2] at h;exact fun e=>h e.symm)]
   ·rw [show (p.1 == b)=false from by simpa using h2];rfl
theorem zEA {α:Type} (m:List (Int×α)) (a b:Int) (x:α):mpH (mpP m a x) b=(decide (a=b)||mpH m b):=by
 induction m with
 |nil=>
  unfold mpP mpH
  rw [ju]
  by_cases h:a=b
  ·rw [h];simp
  ·rw [show (a == b)=false from by simpa using h];simp [h,mpH]
 |cons p m ih=>
  unfold mpP
  rw [ju]
  by_cases h:p.1=a
  ·rw [h];simp only [beq_self_eq_true,cond_true]
   unfold mpH
   rw [ju,ju]
   by_cases h2:a=b
   ·rw [h2];simp
   ·rw [h,show (a == b)=false from by simpa using h2];simp [h2]
  ·rw [show (p.1 == a)=false from by simpa using h,cond_false]
   unfold mpH
   rw [ih,ju]
   by_cases h2:p.1=b
   ·rw [h2];simp
   ·rw [show (p.1 == b)=false from by simpa using h2];simp
theorem zkm {t:qk} (ht:wU t) (l:List jj):kI (t,l,())=some (zfH t l,()):=by
 rw [ziK];unfold Kq zfH
 simp only [Kh,zD,qf ht,cond_true]
 rw [show (!zo 0 0)=false from rfl,cond_false]
 refine xA (zj (fun h=>?_) (fun h=>?_))
 ·have h:=qp h
  rw [qu (show ¬l.length≤12 by omega)];exact za rfl
 have h12:l.length≤12:=by have:=qG h;omega
 rw [qf h12,cond_true]
 refine zk (J:=fun x=>(x.1=0∧x.2.1.1=0∧ztu t l)∨(x.1=1∧x.2.1.1=321∧¬ztu t l)) (jn l.length (fun i=>∀s,l[i]?=some s→Zk t s) (by omega) ?_ ?_) ?_
 ·intro i hi hp
  have hx:l[i]?=some l[i]:=List.getElem?_eq_getElem hi
  have hm:=List.getElem_mem hi
  generalize l[i]=s at hx hm
  refine zf (zZ (show (i:Int) < (l.length:Int) by omega)) (zg (zC (n:=i) hx ?_))
  rw [zpH ht]
  refine zj (fun h=>?_) (fun h=>?_)
  ·exact za (zu (.inr ⟨rfl,rfl,fun hq=>yF h (hq s hm)⟩))
  ·exact za (yr (by omega) fun r' hr'=>by rw [hx] at hr';cases hr';exact xk h)
 ·intro hp
  refine ze (zJ (show ¬(l.length:Int) < (l.length:Int) by omega)) (za (zu (.inl ⟨rfl,rfl,fun r hr=>?_⟩)))
  obtain ⟨k,hk,hk2⟩:=yG hr
  exact hp k hk r hk2
 rintro ⟨j,⟨v,w,⟨⟩⟩,⟨⟩⟩ (⟨rfl,rfl,hq⟩ | ⟨rfl,rfl,hq⟩)
 rotate_left
 ·rw [qu hq];exact ze rfl (za rfl)
 rw [qf hq,cond_true]
 refine zf rfl (zk (J:=fun x=>(x.1=0∧ztv l)∨(x.1=1∧x.2.1.1=322∧¬ztv l))
  (zX l.length (fun i s=>(∃m,s=((0,((i:Int),())),(m,()))∧∀z,mpD m z false=true↔∃(k:Nat) (b:jj),k < i∧l[k]?=some b∧b.1=z)∧∀(k' k:Nat) a b,k' < i→k < k'→l[k']?=some a→l[k]?=some b→b.1≠a.1) (by omega) ⟨⟨[],rfl,fun z=>⟨fun h=>(by cases h),fun ⟨k,b,hk,_⟩=>by omega⟩⟩,fun k' k a b hk=>by omega⟩ ?_ ?_) ?_)
 ·rintro i _ hi ⟨⟨m,rfl,hm⟩,hp⟩
  have hx:l[i]?=some l[i]:=List.getElem?_eq_getElem hi
  generalize l[i]=s at hx
  refine zf (zZ (show (i:Int) < (l.length:Int) by omega)) (zg (zC (n:=i) hx ?_))
  refine zj (fun h=>?_) (fun h=>?_)
  ·obtain ⟨k,b,hk,hb,e⟩:=(hm s.1).1 h
   exact za (zu (.inr ⟨rfl,rfl,fun hd=>hd i k s b hk hx hb e⟩))
  ·have hno:¬∃(k:Nat) (b:jj),k < i∧l[k]?=some b∧b.1=s.1:=fun he=>by
    have:=(hm s.1).2 he
    have h':mpD m s.1 false=false:=h
    rw [this] at h';cases h'
   refine za (qj ⟨⟨_,congrArg (fun z=>(((0:Int),(z,())),(_,()))) (qv (by omega)),fun z=>?_⟩,fun k' k a b hk' hk ha hb=>?_⟩)
   ·show mpD (mpP m s.1 true) z false=true↔_
    rw [zy1]
    split
    ·rename_i e
     exact ⟨fun _=>⟨i,s,by omega,hx,e⟩,fun _=>rfl⟩
    ·rename_i e
     rw [hm z]
     constructor
     ·rintro ⟨k,b,h1,h2,h3⟩;exact ⟨k,b,by omega,h2,h3⟩
     ·rintro ⟨k,b,h1,h2,h3⟩
      rcases Nat.lt_or_ge k i with hk | hk
      ·exact ⟨k,b,hk,h2,h3⟩
      ·have:k=i:=by omega
       subst this
       rw [hx] at h2;cases h2
       exact absurd h3 e
   ·rcases Nat.lt_or_ge k' i with hki | hki
    ·exact hp k' k a b hki hk ha hb
    ·have:k'=i:=by omega
     subst this
     rw [hx] at ha;cases ha
     exact fun e=>hno ⟨k,b,hk,hb,e⟩
 ·rintro _ ⟨⟨m,rfl,hm⟩,hp⟩
  exact ze (zJ (show ¬(l.length:Int) < (l.length:Int) by omega)) (za (zu (.inl ⟨rfl,fun i k a b hk ha hb=>hp i k a b (by grind) hk ha hb⟩)))
 ·rintro ⟨j,⟨v,w,⟨⟩⟩,c,⟨⟩⟩ (⟨rfl,hd⟩ | ⟨rfl,rfl,hd⟩)
  ·rw [qf hd];exact zf rfl (za rfl)
  ·rw [qu hd];exact ze rfl (za rfl)
def Xv (u:Int×Int×Int×Int):Prop:=(1≤u.1∧u.1≤10000)∧(0≤u.2.1∧u.2.1≤1000)∧(0≤u.2.2.1∧u.2.2.1≤10000)∧(1542≤u.2.2.2∧u.2.2.2≤65536)
theorem zhO (u:Int×Int×Int×Int):vP (u,())=some (bif tv (Xv u) then 0 else 320,()):=by
 rw [zgF];unfold XI
 simp only [VE,zD]
 by_cases h1:1≤u.1∧u.1≤10000
 ·by_cases h2:0≤u.2.1∧u.2.1≤1000
  ·by_cases h3:0≤u.2.2.1∧u.2.2.1≤10000
   ·by_cases h4:1542≤u.2.2.2∧u.2.2.2≤65536
    ·rw [qf h1,qf h2,qf h3,qf h4,qf (show Xv u from ⟨h1,h2,h3,h4⟩)];rfl
    ·rw [qf h1,qf h2,qf h3,qu h4,qu (fun h:Xv u=>h4 h.2.2.2)];rfl
   ·rw [qf h1,qf h2,qu h3,qu (fun h:Xv u=>h3 h.2.2.1)];rfl
  ·rw [qf h1,qu h2,qu (fun h:Xv u=>h2 h.2.1)];rfl
 ·rw [qu h1,qu (fun h:Xv u=>h1 h.1)];rfl
abbrev Gts:=List (Int×Int)×Int
def zb0 (e:Int×Int):Prop:=0≤e.1∧e.1≤255∧1≤e.2∧e.2≤9600000
def qA (l:List (Int×Int)):Int:=(l.map (·.2)).sum
structure qz (g:Gts):Prop where
 n0:1≤g.1.length
 n1:g.1.length≤128
 el:∀e∈g.1,zb0 e
 cy:qA g.1=g.2
 c1:g.2≤9600000
theorem uT {l:List (Int×Int)} {n:Nat} {x:Int×Int} (h:l[n]?=some x):qA (l.take (n+1))=qA (l.take n)+x.2:=by
 unfold qA;rw [List.take_add_one,h];simp
theorem Qd {l:List (Int×Int)} (h:∀e∈l,zb0 e):(l.length:Int)≤qA l∧qA l≤9600000*l.length:=by
 unfold qA
 induction l with
 |nil=>simp
 |cons a l ih=>
  obtain ⟨_,_,h1,h2⟩:=h a (by simp)
  have:=ih fun e he=>h e (by simp [he])
  simp only [List.map_cons,List.sum_cons,List.length_cons]
  omega
theorem zrI {g:Gts} (n1:g.1.length≤128) {α:Type} {z bad:α} {B:((α×(Int×(Int×Unit)))×Unit)→Option ((Nat×((α×(Int×(Int×Unit)))×Unit)) ⊕ ((α×(Int×(Int×Unit)))×Unit))}
  (hB
    : B=fun s1=>bif (zi (s1.1.2.2.1) ((((g.1).length:Nat):Int))) then opt (atI (g.1) (s1.1.2.2.1)) fun x2=>
    opt (bif (zi (x2.1) (0)) then some (1,((bad,()),()))
     else bif (zi (255) (x2.1)) then some (1,((bad,()),()))
      else bif (zi (x2.2) (1)) then some (1,((bad,()),()))
       else bif (zi (9600000) (x2.2)) then some (1,((bad,()),()))
        else some (0,((s1.1.1,()),()))) fun x3=>
    bif (Nat.beq x3.1 0) then some (.inr ((x3.2.1.1,((wrF .i64 ((s1.1.2.1+x2.2))),((wrF .i64 ((s1.1.2.2.1+1))),()))),()))
    else some (.inl (1,((x3.2.1.1,(s1.1.2.1,(s1.1.2.2.1,()))),())))
   else some (.inl (0,((s1.1.1,(s1.1.2.1,(s1.1.2.2.1,()))),())))) :
  qm (zI B zQ ((z,(0,(0,()))),())) fun x=>(x.1=0∧x.2.1.1=z∧x.2.1.2.1=qA g.1∧∀e∈g.1,zb0 e)∨(x.1=1∧x.2.1.1=bad∧¬∀e∈g.1,zb0 e):=by
 subst hB
 refine zX g.1.length (fun i s=>s=((z,(qA (g.1.take i),((i:Int),()))),())∧∀e∈g.1.take i,zb0 e) (by omega) ⟨rfl,fun e he=>by simp at he⟩ ?_ ?_
 ·rintro i _ hi ⟨rfl,hp⟩
  have hx:g.1[i]?=some g.1[i]:=List.getElem?_eq_getElem hi
  have hm:=List.getElem_mem hi
  generalize g.1[i]=e at hx hm
  refine zf (zZ (show (i:Int) < (g.1.length:Int) by omega)) (zg (zC (n:=i) hx ?_))
  refine zk (J:=fun x=>(x.1=0∧x.2.1.1=z∧zb0 e)∨(x.1=1∧x.2.1.1=bad∧¬zb0 e)) ?_ ?_
  ·refine zj (fun h=>za (.inr ⟨rfl,rfl,fun hs=>?_⟩)) fun h1=>zj (fun h=>za (.inr ⟨rfl,rfl,fun hs=>?_⟩)) fun h2=>zj (fun h=>za (.inr ⟨rfl,rfl,fun hs=>?_⟩)) fun h3=>zj (fun h=>za (.inr ⟨rfl,rfl,fun hs=>?_⟩)) fun h4=>za (.inl ⟨rfl,rfl,?_⟩)
   ·have:=qp h;have:=hs.1;omega
   ·have:=qp h;have:=hs.2.1;omega
   ·have:=qp h;have:=hs.2.2.1;omega
   ·have:=qp h;have:=hs.2.2.2;omega
   ·exact ⟨qG h1,qG h2,qG h3,qG h4⟩
  ·rintro ⟨j,⟨v,⟨⟩⟩,⟨⟩⟩ (⟨rfl,rfl,he⟩ | ⟨rfl,rfl,he⟩)
   ·have hb:=Qd hp
    have hl:(g.1.take i).length=i:=by simp;omega
    have e1:wrF .i64 (qA (g.1.take i)+e.2)=qA (g.1.take (i+1)):=by
     rw [uT hx,zy]<;>(have:=he.2.2.1;have:=he.2.2.2;omega)
    refine zf rfl (za (qj ⟨?_,fun e' he'=>?_⟩))
    ·rw [←e1,←qv (by omega)]
    ·rw [List.take_add_one,hx] at he'
     simp only [Option.toList,List.mem_append,List.mem_singleton] at he'
     rcases he' with h | rfl
     ·exact hp e' h
     ·exact he
   ·exact ze rfl (za (zu (.inr ⟨rfl,rfl,fun h=>he (h e hm)⟩)))
 ·rintro _ ⟨rfl,hp⟩
  refine ze (zJ (show ¬(g.1.length:Int) < (g.1.length:Int) by omega)) (za (zu (.inl ⟨rfl,rfl,?_,?_⟩)))
  ·show qA (g.1.take g.1.length)=_
   rw [List.take_length]
  ·rw [List.take_length] at hp;exact hp
theorem zaW (g:Gts):yM (g,())=some (bif tv (qz g) then 0 else 370,()):=by
 have bad:∀{v:Int},¬qz g→v=370→v=bif tv (qz g) then 0 else 370:=fun h e=>by rw [qu h,e];rfl
 rw [zoU];unfold zc1
 refine xA (zk (J:=fun x=>(x.1=0∧x.2.1.1=0∧1≤g.1.length∧g.1.length≤128)∨(x.1=1∧x.2.1.1=370∧¬qz g)) ?_ ?_)
 ·refine zj (fun h=>za (.inr ⟨rfl,rfl,fun hs=>?_⟩)) fun h1=>zj (fun h=>za (.inr ⟨rfl,rfl,fun hs=>?_⟩)) fun h2=>za (.inl ⟨rfl,rfl,?_⟩)
  ·have:=qp h;have:=hs.n0;omega
  ·have:=qp h;have:=hs.n1;omega
  ·have:=qG h1;have:=qG h2;omega
 rintro ⟨j,⟨v,⟨⟩⟩,⟨⟩⟩ (⟨rfl,rfl,n0,n1⟩ | ⟨rfl,rfl,hq⟩)
 rotate_left
 ·exact ze rfl (za (bad hq rfl))
 refine zf rfl (zk (zrI n1 rfl) ?_)
 rintro ⟨j,⟨v,w,z,⟨⟩⟩,⟨⟩⟩ (⟨rfl,rfl,rfl,he⟩ | ⟨rfl,rfl,he⟩)
 rotate_left
 ·exact ze rfl (za (bad (fun h=>he h.el) rfl))
 refine zf rfl (zk (J:=fun x=>(x.1=0∧qz g)∨(x.1=1∧x.2.1.1=370∧¬qz g)) ?_ ?_)
 ·refine zj (fun h=>za (.inr ⟨rfl,rfl,fun hs=>?_⟩)) fun h1=>zj (fun h=>za (.inr ⟨rfl,rfl,fun hs=>?_⟩)) fun h2=>za (.inl ⟨rfl,n0,n1,he,qO (by simpa using h1),?_⟩)
  ·rw [Zb hs.cy] at h;cases h
  ·have:=qp h;have:=hs.c1;have:=hs.cy;simp only at *;omega
  ·have:=qG h2
   have:qA g.1=g.2:=qO (by simpa using h1)
   simp only at *;omega
 ·rintro ⟨j,⟨v,⟨⟩⟩,⟨⟩⟩ (⟨rfl,hq⟩ | ⟨rfl,rfl,hq⟩)
  ·rw [qf hq];exact zf rfl (za rfl)
  ·exact ze rfl (za (bad hq rfl))
theorem zrJ (g:Gts):Xo (g,())=some (tv (qz g),()):=by
 rw [zoV];unfold zc2
 refine wu (zk (J:=fun x=>(x.1=0∧x.2.1.1=false∧1≤g.1.length∧g.1.length≤128)∨(x.1=1∧x.2.1.1=false∧¬qz g)) ?_ ?_)
 ·refine zj (fun h=>za (.inr ⟨rfl,rfl,fun hs=>?_⟩)) fun h1=>zj (fun h=>za (.inr ⟨rfl,rfl,fun hs=>?_⟩)) fun h2=>za (.inl ⟨rfl,rfl,?_⟩)
  ·have:=qp h;have:=hs.n0;omega
  ·have:=qp h;have:=hs.n1;omega
  ·have:=qG h1;have:=qG h2;omega
 rintro ⟨j,⟨v,⟨⟩⟩,⟨⟩⟩ (⟨rfl,rfl,n0,n1⟩ | ⟨rfl,rfl,hq⟩)
 rotate_left
 ·exact ze rfl (za ⟨fun h=>(by cases h),fun h=>absurd h hq⟩)
 refine zf rfl (zk (zrI n1 rfl) ?_)
 rintro ⟨j,⟨v,w,z,⟨⟩⟩,⟨⟩⟩ (⟨rfl,rfl,rfl,he⟩ | ⟨rfl,rfl,he⟩)
 rotate_left
 ·exact ze rfl (za ⟨fun h=>(by cases h),fun h=>absurd h.el he⟩)
 refine zf rfl (zj (fun h1=>?_) (fun h1=>?_))
 ·have h1:qA g.1=g.2:=qO h1
  refine za ⟨fun h2=>⟨n0,n1,he,h1,?_⟩,fun hs=>?_⟩
  ·have h2:(!zi 9600000 (qA g.1))=true:=h2
   have:=qG (show zi 9600000 (qA g.1)=false by simpa using h2)
   omega
  ·show (!zi 9600000 (qA g.1))=true
   rw [zJ (by have:=hs.c1;omega)];rfl
 ·exact za ⟨fun h=>(by cases h),fun h=>absurd h.cy (jM h1)⟩
abbrev Fab:=qk×(Int×Int×Int×Int)×List Gts×Int
def zrK (n:Fab):Prop:=∀g∈n.2.2.1,qz g
def zmi (n:Fab):Prop:=(n.2.2.1.length:Int)=2*(n.1.2.2.length:Int)∧84≤n.2.2.2∧n.2.2.2≤1542
noncomputable def zfI (n:Fab):Int:=bif tv (wU n.1) then bif tv (Xv n.2.1) then bif tv (zrK n) then bif tv (zmi n) then 0 else 410 else 370 else 320 else 260
structure zxE (n:Fab):Prop where
 t:wU n.1
 u:Xv n.2.1
 g:zrK n
 f:zmi n
theorem zBO {n:Fab} (h:zfI n=0):zxE n:=by
 unfold zfI at h
 by_cases h1:wU n.1
 ·by_cases h2:Xv n.2.1
  ·by_cases h3:zrK n
   ·by_cases h4:zmi n
    ·exact ⟨h1,h2,h3,h4⟩
    ·rw [qf h1,qf h2,qf h3,qu h4] at h;cases h
   ·rw [qf h1,qf h2,qu h3] at h;cases h
  ·rw [qf h1,qu h2] at h;cases h
 ·rw [qu h1] at h;cases h
theorem zAu {n:Fab} (hl:n.1.2.2.length≤24):qm (bif (!(zo ((((n.2.2.1).length:Nat):Int)) ((wrF .i64 ((2*(((n.1.2.2).length:Nat):Int))))))) then some ((1:Nat),(((410:Int),()),()))
     else bif (zi (n.2.2.2) (84)) then some (1,((410,()),()))
      else bif (zi (1542) (n.2.2.2)) then some (1,((410,()),()))
       else some (0,((0,()),()))) fun x=>(x.1=0∧x.2.1.1=0∧zmi n)∨(x.1=1∧x.2.1.1=410∧¬zmi n):=by
 rw [tw n.1 (by omega)]
 refine zj (fun h=>za (.inr ⟨rfl,rfl,fun hs=>?_⟩)) fun h1=>zj (fun h=>za (.inr ⟨rfl,rfl,fun hs=>?_⟩)) fun h2=>zj (fun h=>za (.inr ⟨rfl,rfl,fun hs=>?_⟩)) fun h3=>za (.inl ⟨rfl,rfl,?_⟩)
 ·rw [Zb hs.1] at h;cases h
 ·have:=qp h;have:=hs.2.1;omega
 ·have:=qp h;have:=hs.2.2;omega
 ·exact ⟨qO (by simpa using h1),qG h2,qG h3⟩
theorem zhP {n:Fab} (hn:n.2.2.1.length≤1000000000000000000):vQ (n,())=some (zfI n,()):=by
 rw [zgH];unfold XJ zfI
 simp only [Kh,zD]
 by_cases ht:wU n.1
 rotate_left
 ·rw [qu ht];rfl
 rw [qf ht]
 simp only [cond_true,zhO,zD]
 rw [show (!zo 0 0)=false from rfl,cond_false]
 by_cases hu:Xv n.2.1
 rotate_left
 ·rw [qu hu];rfl
 rw [qf hu]
 simp only [cond_true]
 rw [show (!zo 0 0)=false from rfl,cond_false]
 refine xA (zk (J:=fun x=>(x.1=0∧x.2.1.1=0∧zrK n)∨(x.1=1∧x.2.1.1=370∧¬zrK n)) (jn n.2.2.1.length (fun i=>∀g,n.2.2.1[i]?=some g→qz g) hn ?_ ?_) ?_)
 ·intro i hi hp
  have hx:n.2.2.1[i]?=some n.2.2.1[i]:=List.getElem?_eq_getElem hi
  have hm:=List.getElem_mem hi
  generalize n.2.2.1[i]=g at hx hm
  refine zf (zZ (show (i:Int) < (n.2.2.1.length:Int) by omega)) (zg (zC (n:=i) hx ?_))
  rw [zaW,zD]
  by_cases hg:qz g
  ·rw [qf hg]
   exact ze rfl (za (yr (by omega) fun r' hr'=>by rw [hx] at hr';cases hr';exact hg))
  ·rw [qu hg]
   exact zf rfl (za (zu (.inr ⟨rfl,rfl,fun hq=>hg (hq g hm)⟩)))
 ·intro hp
  refine ze (zJ (show ¬(n.2.2.1.length:Int) < (n.2.2.1.length:Int) by omega)) (za (zu (.inl ⟨rfl,rfl,fun r hr=>?_⟩)))
  obtain ⟨k,hk,hk2⟩:=yG hr
  exact hp k hk r hk2
 ·rintro ⟨j,⟨v,w,⟨⟩⟩,⟨⟩⟩ (⟨rfl,rfl,hq⟩ | ⟨rfl,rfl,hq⟩)
  ·rw [qf hq]
   refine zf rfl (zk (zAu ht.sz.ls) ?_)
   rintro ⟨j,⟨v,⟨⟩⟩,⟨⟩⟩ (⟨rfl,rfl,hf⟩ | ⟨rfl,rfl,hf⟩)
   ·rw [qf hf];exact zf rfl (za rfl)
   ·rw [qu hf];exact ze rfl (za rfl)
  ·rw [qu hq];exact ze rfl (za rfl)
def opn (m:Int):Bool:=m / 64 % 2 == 1
theorem zFf {m:Int}:jU .i64 m 6=m / 64:=by
 show m.fdiv (2 ^ (min (6:Int).toNat 64))=m / 64
 rw [show (2:Int) ^ (min (6:Int).toNat 64)=64 from rfl]
 exact Int.fdiv_eq_ediv_of_nonneg m (by omega)
theorem xa {e:Int×Int} (h:zb0 e):xg (e,())=some (opn e.1,()):=by
 rw [zbb];unfold YU opn
 rw [zFf]
 have h0:=h.1;have h1:=h.2.1
 have:e.1 / 64=0∨e.1 / 64=1∨e.1 / 64=2∨e.1 / 64=3:=by omega
 rcases this with h | h | h | h<;>rw [h]<;>rfl
theorem Uu {m:Int} (h:0≤m):vZ (m,6,())=some (opn m,()):=by
 rw [zs3];unfold zgM opn
 rw [show wrF .u64 6=6 from rfl,zFf]
 refine xA (ze rfl (za ?_))
 show zo (Int.tmod (m / 64) 2) 1=_
 rw [ju,Int.tmod_eq_emod_of_nonneg (by omega)]
def opA:List (Int×Int)→Int→Bool
 |[],_=>false
 |e::l,r=>if r < e.2 then opn e.1 else opA l (r - e.2)
def opT (g:Gts) (t:Int):Bool:=opA g.1 (t % g.2)
theorem zxF:∀(l:List (Int×Int)),(∀e∈l,zb0 e)→∀(i:Nat) (e:Int×Int) (r:Int),l[i]?=some e→qA (l.take i)≤r→r < qA (l.take i)+e.2→opA l r=opn e.1
 |[],_,i,e,r,h,_,_=>by simp at h
 |a::l,hl,0,e,r,h,h1,h2=>by
  simp at h;subst h
  simp [qA] at h1 h2
  unfold opA;rw [if_pos h2]
 |a::l,hl,i+1,e,r,h,h1,h2=>by
  have h':l[i]?=some e:=by simpa using h
  have hh:=Qd (l:=l.take i) fun e he=>hl e (by simp [List.mem_of_mem_take he])
  have ea:qA ((a::l).take (i+1))=a.2+qA (l.take i):=by simp [qA]
  rw [ea] at h1 h2
  unfold opA
  rw [if_neg (by omega)]
  exact zxF l (fun e he=>hl e (by simp [he])) i e (r - a.2) h' (by omega) (by omega)
theorem zy2 (g:Gts) (t:Int):opT g (t+g.2)=opT g t:=by unfold opT;rw [Int.add_emod_right]
theorem VF {l:List (Int×Int)} (h:∀e∈l,zb0 e) {i k:Nat} (hk:i≤k):qA (l.take i)≤qA (l.take k):=by
 obtain ⟨d,rfl⟩:∃d,k=i+d:=⟨k - i,by omega⟩
 induction d with
 |zero=>exact Int.le_refl _
 |succ d ih=>
  have:=ih (by omega)
  rcases Nat.lt_or_ge (i+d) l.length with h2 | h2
  ·have hx:l[i+d]?=some l[i+d]:=List.getElem?_eq_getElem h2
   have:=uT hx
   have:=(h _ (List.getElem_mem h2)).2.2.1
   rw [show i+(d+1)=i+d+1 from rfl];omega
  ·rw [List.take_of_length_le (by omega:l.length≤i+(d+1)),←List.take_of_length_le (l:=l) (by omega:l.length≤i+d)]
   rw [List.take_of_length_le (l:=l) (by omega:l.length≤i+d)] at this ⊢
   exact this
theorem VG (l:List (Int×Int)):qA (l.take l.length)=qA l:=by rw [List.take_length]
theorem qz.pos {g:Gts} (h:qz g):1≤g.2:=by
 have:=(Qd h.el).1;have:=h.cy;have:=h.n0;omega
def tAt (g:Gts) (k:Nat):Int:=((k / g.1.length:Nat):Int)*g.2+qA (g.1.take (k % g.1.length))
theorem zxG {g:Gts} {k:Nat} (h:k < g.1.length):tAt g k=qA (g.1.take k):=by
 unfold tAt;rw [Nat.div_eq_of_lt h,Nat.mod_eq_of_lt h];simp
theorem zy3 {g:Gts} (hg:qz g) (k:Nat):tAt g (k+g.1.length)=tAt g k+g.2:=by
 have:=hg.n0
 unfold tAt
 rw [Nat.add_div_right _ (by omega),Nat.add_mod_right,Int.natCast_succ,Int.add_mul];omega
theorem zfJ {g:Gts} (hg:qz g) {k:Nat} {e:Int×Int} (h:g.1[k % g.1.length]?=some e):tAt g (k+1)=tAt g k+e.2:=by
 have h0:=hg.n0
 have hm:k % g.1.length < g.1.length:=Nat.mod_lt _ (by omega)
 have hk:=Nat.div_add_mod k g.1.length
 have hs:=uT h
 unfold tAt
 rcases Nat.lt_or_ge (k % g.1.length+1) g.1.length with h1 | h1
 ·have e1:(k+1) % g.1.length=k % g.1.length+1:=by
   rw [Nat.add_mod,Nat.mod_eq_of_lt (show 1 < g.1.length by omega),Nat.mod_eq_of_lt h1]
  have e2:(k+1) / g.1.length=k / g.1.length:=by
   have a:=Nat.div_add_mod (k+1) g.1.length
   rw [e1] at a
   have b:g.1.length*((k+1) / g.1.length)=g.1.length*(k / g.1.length):=by omega
   exact Nat.eq_of_mul_eq_mul_left (by omega) b
  rw [e1,e2,hs];omega
 ·have h2:k % g.1.length+1=g.1.length:=by omega
  have e3:k+1=(k / g.1.length+1)*g.1.length:=by
   rw [Nat.add_mul,Nat.mul_comm];omega
  have e1:(k+1) % g.1.length=0:=by rw [e3];exact Nat.mul_mod_left _ _
  have e2:(k+1) / g.1.length=k / g.1.length+1:=by rw [e3];exact Nat.mul_div_left _ (by omega)
  rw [h2,VG,hg.cy] at hs
  rw [e1,e2,Int.natCast_succ,Int.add_mul]
  simp only [List.take_zero]
  have:qA []=0:=rfl
  omega
theorem zxH {g:Gts} (hg:qz g) {k:Nat} {e:Int×Int} (h:g.1[k % g.1.length]?=some e) {t:Int} (h1:tAt g k≤t) (h2:t < tAt g k+e.2):opT g t=opn e.1:=by
 have h0:=hg.n0
 have hm:k % g.1.length < g.1.length:=Nat.mod_lt _ (by omega)
 have hs:=uT h
 have hb:=Qd (l:=g.1.take (k % g.1.length)) fun e he=>hg.el e (List.mem_of_mem_take he)
 have hle:=VF hg.el (show k % g.1.length+1≤g.1.length by omega)
 rw [VG,hg.cy] at hle
 unfold tAt at h1 h2
 have hr:t % g.2=t - ((k / g.1.length:Nat):Int)*g.2:=by
  have:t=(t - ((k / g.1.length:Nat):Int)*g.2)+((k / g.1.length:Nat):Int)*g.2:=by omega
  rw [this,Int.add_mul_emod_self_right,Int.emod_eq_of_lt (by omega) (by omega)];omega
 unfold opT
 exact zxF g.1 hg.el (k % g.1.length) e _ h (by omega) (by omega)
theorem zEB {g:Gts} (hg:qz g) (t:Int):∃(i:Nat) (e:Int×Int),g.1[i]?=some e∧qA (g.1.take i)≤t % g.2∧t % g.2 < qA (g.1.take i)+e.2:=by
 have hp:=hg.pos
 have h1:=Int.emod_nonneg t (show g.2≠0 by omega)
 have h2:=Int.emod_lt_of_pos t (show 0 < g.2 by omega)
 have key:∀(n:Nat),n≤g.1.length→t % g.2 < qA (g.1.take n)→∃(i:Nat) (e:Int×Int),g.1[i]?=some e∧qA (g.1.take i)≤t % g.2∧t % g.2 < qA (g.1.take i)+e.2:=by
  intro n
  induction n with
  |zero=>intro _ h;simp [qA] at h;omega
  |succ n ih=>
   intro hn h
   have hx:g.1[n]?=some g.1[n]:=List.getElem?_eq_getElem (by omega)
   rw [uT hx] at h
   rcases Int.lt_or_le (t % g.2) (qA (g.1.take n)) with h3 | h3
   ·exact ih (by omega) h3
   ·exact ⟨n,_,hx,h3,h⟩
 exact key g.1.length (Nat.le_refl _) (by rw [VG,hg.cy];exact h2)
def Ym (l:List (Int×Int)):Prop:=∀e∈l,opn e.1=true
theorem QM {g:Gts} (hg:qz g):yU (g,())=some (tv (Ym g.1),()):=by
 have h1:=hg.n1
 rw [zni];unfold zbQ
 refine wu (zk (J:=fun x=>(x.1=0∧Ym g.1)∨(x.1=1∧x.2.1.1=false∧¬Ym g.1)) (jn g.1.length (fun i=>∀e,g.1[i]?=some e→opn e.1=true) (by omega) ?_ ?_) ?_)
 ·intro i hi hp
  have hx:g.1[i]?=some g.1[i]:=List.getElem?_eq_getElem hi
  have hm:=List.getElem_mem hi
  generalize g.1[i]=e at hx hm
  refine zf (zZ (show (i:Int) < (g.1.length:Int) by omega)) (zg (zC (n:=i) hx ?_))
  rw [Uu (hg.el e hm).1]
  refine zj (fun h=>?_) (fun h=>?_)
  ·have h':(!opn e.1)=true:=h
   refine za (zu (.inr ⟨rfl,rfl,fun hq=>?_⟩))
   rw [hq e hm] at h';cases h'
  ·have h':(!opn e.1)=false:=h
   exact za (yr (by omega) fun r' hr'=>by rw [hx] at hr';cases hr';simpa using h')
 ·intro hp
  refine ze (zJ (show ¬(g.1.length:Int) < (g.1.length:Int) by omega)) (za (zu (.inl ⟨rfl,fun r hr=>?_⟩)))
  obtain ⟨k,hk,hk2⟩:=yG hr
  exact hp k hk r hk2
 ·rintro ⟨j,⟨v,w,⟨⟩⟩,⟨⟩⟩ (⟨rfl,hq⟩ | ⟨rfl,rfl,hq⟩)
  ·exact zf rfl (za ⟨fun _=>hq,fun _=>rfl⟩)
  ·exact ze rfl (za ⟨fun h=>(by cases h),fun h=>absurd h hq⟩)
theorem zFy {e:Int×Int} (h:zb0 e):zo (kf .and .i64 (jU .i64 e.1 6) 1) 1=opn e.1:=by
 have:=xa h
 rw [zbb] at this
 unfold YU at this
 exact congrArg (·.1) (Option.some.inj this)
theorem ztw {g:Gts} (hg:qz g) {e:Int×Int} (h:g.1[0]?=some e):WX (g,0,())=some (0,e.2,()):=by
 have hp:=hg.pos;have hc:=hg.c1
 have he:=hg.el e (List.mem_of_getElem? h)
 have h2:=he.2.2.1;have h3:=he.2.2.2
 rw [zq2];unfold ze9
 rw [jS (show g.2≠0 by omega),cond_false,cond_false,show atI g.1 0=some e from yd (n:=0) h]
 simp only [zD]
 rw [show Int.tmod 0 g.2=0 from Int.zero_tmod _,show wrF .i64 (0+g.2)=g.2 from by rw [zy]<;>omega,show Int.tmod g.2 g.2=0 from Int.tmod_self]
 rw [zZ (show (0:Int) < e.2 by omega),show wrF .i64 (e.2 - 0)=e.2 from by rw [zy]<;>omega]
 rfl
theorem ztx {g:Gts} (hg:qz g):qm (WY (g,6,0,())) fun r=>(r.1=1099511627776∧Ym g.1)∨(r.1 < 1099511627776∧¬Ym g.1):=by
 have h0:=hg.n0;have h1:=hg.n1;have hp:=hg.pos;have hc:=hg.c1
 have hx0:g.1[0]?=some g.1[0]:=List.getElem?_eq_getElem (by omega)
 generalize g.1[0]=e0 at hx0
 rw [zq4];unfold zfa
 rw [ztw hg hx0,zD]
 have ew:wrF .i64 ((g.1.length:Int)+1)=(g.1.length:Int)+1:=zy (by omega) (by omega)
 rw [ew]
 refine zk (J:=fun x=>(x.1=0∧x.2.1.2.1=g∧Ym g.1)∨(x.1=1∧x.2.1.2.2.1 < g.2∧¬Ym g.1))
  (zX (g.1.length+1) (fun i s=>∃e,g.1[i % g.1.length]?=some e∧s=((6,(g,(0,(tAt g i,(((i % g.1.length:Nat):Int),(e.2,((i:Int),()))))))),())∧∀(k:Nat),k < i→∀e',g.1[k % g.1.length]?=some e'→opn e'.1=true) (by omega)
   ⟨e0,by rw [Nat.zero_mod];exact hx0,by rw [zxG (by omega),Nat.zero_mod];rfl,fun k hk=>by omega⟩ ?_ ?_) ?_
 ·rintro i _ hi ⟨e,he,rfl,hp'⟩
  have hm:i % g.1.length < g.1.length:=Nat.mod_lt _ (by omega)
  have hen:=hg.el e (List.mem_of_getElem? he)
  have hts:=zfJ hg he
  have htb:0≤tAt g i∧tAt g i≤2*9600000:=by
   unfold tAt
   have hb:=Qd (l:=g.1.take (i % g.1.length)) fun e he=>hg.el e (List.mem_of_mem_take he)
   have hle:=VF hg.el (show i % g.1.length≤g.1.length by omega)
   rw [VG,hg.cy] at hle
   have hd:i / g.1.length≤1:=by
    have:i / g.1.length < 2:=Nat.div_lt_of_lt_mul (by omega)
    omega
   have:((i / g.1.length:Nat):Int)*g.2≤1*g.2:=Int.mul_le_mul_of_nonneg_right (by omega) (by omega)
   have:0≤((i / g.1.length:Nat):Int)*g.2:=Int.mul_nonneg (Int.natCast_nonneg _) (by omega)
   omega
  refine zf (zZ (show (i:Int) < (g.1.length:Int)+1 by omega)) (zg (zC (n:=i % g.1.length) he ?_))
  refine ze rfl ?_
  have hb:=zFy hen
  refine zj (fun h=>?_) (fun h=>?_)
  ·have h':(!zo (kf .and .i64 (jU .i64 e.1 6) 1) 1)=true:=h
   rw [hb] at h'
   refine za (zu (.inr ⟨rfl,?_,fun ha=>?_⟩))
   ·show tAt g i < g.2
    rcases Nat.lt_or_ge i g.1.length with hi2 | hi2
    ·rw [zxG hi2]
     have hle:=VF hg.el (show i+1≤g.1.length by omega)
     rw [VG,hg.cy] at hle
     rw [Nat.mod_eq_of_lt hi2] at he
     rw [uT he] at hle
     have:=hen.2.2.1;omega
    ·exfalso
     have hi3:i=g.1.length:=by omega
     rw [hi3,Nat.mod_self] at he
     have:=hp' 0 (by omega) e (by rw [Nat.zero_mod];exact he)
     rw [this] at h';cases h'
   ·rw [ha e (List.mem_of_getElem? he)] at h';cases h'
  ·have h':(!zo (kf .and .i64 (jU .i64 e.1 6) 1) 1)=false:=h
   rw [hb] at h'
   have hop:opn e.1=true:=by simpa using h'
   refine ze (jS (show (g.1.length:Int)≠0 by omega)) ?_
   have e1:Int.tmod (wrF .i64 (((i % g.1.length:Nat):Int)+1)) (g.1.length:Int)=(((i+1) % g.1.length:Nat):Int):=by
    rw [qv (by omega),Int.tmod_eq_emod_of_nonneg (by omega),←Int.natCast_emod,Nat.mod_add_mod]
   have hm2:(i+1) % g.1.length < g.1.length:=Nat.mod_lt _ (by omega)
   have hx2:g.1[(i+1) % g.1.length]?=some (g.1[(i+1) % g.1.length]'hm2):=List.getElem?_eq_getElem hm2
   refine zg (qh (a:=g.1[(i+1) % g.1.length]'hm2) (by show atI g.1 (Int.tmod (wrF .i64 (((i % g.1.length:Nat):Int)+1)) (g.1.length:Int))=_;rw [e1];exact yd hx2) ?_)
   refine za (qj ⟨_,hx2,?_,fun k hk e' he'=>?_⟩)
   ·show ((6,(g,(0,((wrF .i64 (tAt g i+e.2)),((Int.tmod (wrF .i64 (((i % g.1.length:Nat):Int)+1)) (g.1.length:Int)),(_,((wrF .i64 ((i:Int)+1)),()))))))),())=_
    rw [e1,qv (by omega),hts,zy (by have:=hen.2.2.1;omega) (by have:=hen.2.2.2;omega)]
   ·rcases Nat.lt_or_ge k i with hki | hki
    ·exact hp' k hki e' he'
    ·have:k=i:=by omega
     subst this
     rw [he] at he';cases he'
     exact hop
 ·rintro _ ⟨e,he,rfl,hp'⟩
  refine ze (zJ (show ¬((g.1.length+1:Nat):Int) < (g.1.length:Int)+1 by omega)) (za (zu (.inl ⟨rfl,rfl,fun e' he'=>?_⟩)))
  obtain ⟨k,hk,hk2⟩:=yG he'
  exact hp' k (by omega) e' (by rw [Nat.mod_eq_of_lt hk];exact hk2)
 ·rintro ⟨j,⟨c,q,r,n,i,l,k,⟨⟩⟩,⟨⟩⟩ (⟨rfl,hq,ha⟩ | ⟨rfl,hq,ha⟩)
  ·simp only at hq
   subst hq
   exact zf rfl (zf (Zb rfl) (za (.inl ⟨rfl,ha⟩)))
  ·simp only at hq
   refine ze rfl (ze (jS (show r≠g.2 by omega)) (za (.inr ⟨?_,ha⟩)))
   show r < _
   omega
theorem zcH {g:Gts} (hg:qz g):gG (g,())=some (tv (Ym g.1),()):=by
 rw [zj6];unfold UM
 refine wu ?_
 have e1:Jp (g,6,0,0,())=some (0,()):=by
  rw [zo4];unfold zc6
  rw [zaW,qf hg];rfl
 obtain ⟨⟨v,⟨⟩⟩,e2,hv⟩:=ztx hg
 have e3:WZ (g,6,0,())=some (v,0,()):=by
  rw [zq6];unfold zfb
  rw [e1,e2];rfl
 rw [e3]
 refine za ?_
 rcases hv with ⟨h1,h2⟩ | ⟨h1,h2⟩
 ·exact ⟨fun _=>h2,fun _=>Zb h1⟩
 ·exact ⟨fun h=>by have:=qO h;simp only at h1 this;omega,fun h=>absurd h h2⟩
structure Cov (o:Int→Bool) (a b:Int) (l:List (Int×Int)):Prop where
 bd:∀p∈l,a≤p.1∧p.1 < p.2∧p.2≤b
 pw:l.Pairwise fun p q=>p.2 < q.1
 iff:∀t,a≤t→t < b→(o t=true↔∃p∈l,p.1≤t∧t < p.2)
theorem zxI {o:Int→Bool} {a b:Int} {p:Int×Int} {l:List (Int×Int)} (h:Cov o a b (p::l)):Cov o p.2 b l:=by
 have hp:=h.bd p (by simp)
 have hpw:=List.pairwise_cons.1 h.pw
 refine ⟨fun q hq=>?_,hpw.2,fun t h1 h2=>?_⟩
 ·have:=h.bd q (by simp [hq]);have:=hpw.1 q hq;omega
 ·rw [h.iff t (by omega) h2]
  constructor
  ·rintro ⟨q,hq,h3,h4⟩
   rcases List.mem_cons.1 hq with rfl | hq
   ·omega
   ·exact ⟨q,hq,h3,h4⟩
  ·rintro ⟨q,hq,h3,h4⟩
   exact ⟨q,by simp [hq],h3,h4⟩
theorem zpI {o:Int→Bool}:∀{l m:List (Int×Int)} {a b:Int},Cov o a b l→Cov o a b m→l=m
 |[],[],_,_,_,_=>rfl
 |[],q::m,a,b,h,h'=>by
  have hq:=h'.bd q (by simp)
  have:=(h'.iff q.1 hq.1 (by omega)).2 ⟨q,by simp,by omega,hq.2.1⟩
  obtain ⟨p,hp,_⟩:=(h.iff q.1 hq.1 (by omega)).1 this
  cases hp
 |p::l,[],a,b,h,h'=>by
  have hq:=h.bd p (by simp)
  have:=(h.iff p.1 hq.1 (by omega)).2 ⟨p,by simp,by omega,hq.2.1⟩
  obtain ⟨p,hp,_⟩:=(h'.iff p.1 hq.1 (by omega)).1 this
  cases hp
 |p::l,q::m,a,b,h,h'=>by
  have hp:=h.bd p (by simp)
  have hq:=h'.bd q (by simp)
  have hpw:=List.pairwise_cons.1 h.pw
  have hqw:=List.pairwise_cons.1 h'.pw
  have e1:p.1=q.1:=by
   apply Classical.byContradiction
   intro hne
   rcases Int.lt_or_lt_of_ne hne with hlt | hlt
   ·have:=(h.iff p.1 hp.1 (by omega)).2 ⟨p,by simp,by omega,hp.2.1⟩
    obtain ⟨r,hr,h1,h2⟩:=(h'.iff p.1 hp.1 (by omega)).1 this
    rcases List.mem_cons.1 hr with rfl | hr
    ·omega
    ·have:=hqw.1 r hr;omega
   ·have:=(h'.iff q.1 hq.1 (by omega)).2 ⟨q,by simp,by omega,hq.2.1⟩
    obtain ⟨r,hr,h1,h2⟩:=(h.iff q.1 hq.1 (by omega)).1 this
    rcases List.mem_cons.1 hr with rfl | hr
    ·omega
    ·have:=hpw.1 r hr;omega
  have e2:p.2=q.2:=by
   apply Classical.byContradiction
   intro hne
   rcases Int.lt_or_lt_of_ne hne with hlt | hlt
   ·have:=(h'.iff p.2 (by omega) (by omega)).2 ⟨q,by simp,by omega,by omega⟩
    obtain ⟨r,hr,h1,h2⟩:=(h.iff p.2 (by omega) (by omega)).1 this
    rcases List.mem_cons.1 hr with rfl | hr
    ·omega
    ·have:=hpw.1 r hr;omega
   ·have:=(h.iff q.2 (by omega) (by omega)).2 ⟨p,by simp,by omega,by omega⟩
    obtain ⟨r,hr,h1,h2⟩:=(h'.iff q.2 (by omega) (by omega)).1 this
    rcases List.mem_cons.1 hr with rfl | hr
    ·omega
    ·have:=hqw.1 r hr;omega
  have e:p=q:=Prod.ext e1 e2
  subst e
  rw [zpI (zxI h) (zxI h')]
theorem zty (o:Int→Bool) (a:Int):Cov o a a []:=⟨fun p h=>(by cases h),List.Pairwise.nil,fun t h1 h2=>by omega⟩
theorem zmS {o:Int→Bool} {a b c:Int} {l:List (Int×Int)} (h:Cov o a b l) (hb:b≤c) (hab:a≤b) (hg:∀t,b≤t→t < c→o t=false):Cov o a c l:=by
 refine ⟨fun p hp=>by have:=h.bd p hp;omega,h.pw,fun t h1 h2=>?_⟩
 rcases Int.lt_or_le t b with h3 | h3
 ·exact h.iff t h1 h3
 ·rw [hg t h3 h2]
  constructor
  ·intro h;cases h
  ·rintro ⟨p,hp,h4,h5⟩
   have:=h.bd p hp;omega
theorem zy4 {o:Int→Bool} {a b c:Int} {l:List (Int×Int)} (h:Cov o a b l) (hb:b < c) (hab:a≤b) (hl:∀p∈l,p.2 < b) (hg:∀t,b≤t→t < c→o t=true):Cov o a c (l++[(b,c)]):=by
 refine ⟨fun p hp=>?_,?_,fun t h1 h2=>?_⟩
 ·rcases List.mem_append.1 hp with hp | hp
  ·have:=h.bd p hp;omega
  ·simp at hp;subst hp;simp only;omega
 ·rw [List.pairwise_append]
  refine ⟨h.pw,List.pairwise_singleton _ _,fun p hp q hq=>?_⟩
  simp at hq;subst hq
  exact hl p hp
 ·rcases Int.lt_or_le t b with h3 | h3
  ·rw [h.iff t h1 h3]
   constructor
   ·rintro ⟨p,hp,h4⟩;exact ⟨p,by simp [hp],h4⟩
   ·rintro ⟨p,hp,h4,h5⟩
    rcases List.mem_append.1 hp with hp | hp
    ·exact ⟨p,hp,h4,h5⟩
    ·simp at hp;subst hp;simp only at h4;omega
  ·rw [hg t h3 h2]
   exact ⟨fun _=>⟨(b,c),by simp,h3,h2⟩,fun _=>rfl⟩
theorem zDr {o:Int→Bool} {a b c x:Int} {l:List (Int×Int)} (h:Cov o a b (l++[(x,b)])) (hb:b≤c) (hg:∀t,b≤t→t < c→o t=true):Cov o a c (l++[(x,c)]):=by
 have hx:=h.bd (x,b) (by simp)
 simp only at hx
 have hpw:=List.pairwise_append.1 h.pw
 refine ⟨fun p hp=>?_,?_,fun t h1 h2=>?_⟩
 ·rcases List.mem_append.1 hp with hp | hp
  ·have:=h.bd p (by simp [hp]);omega
  ·simp at hp;subst hp;simp only;omega
 ·rw [List.pairwise_append]
  refine ⟨hpw.1,List.pairwise_singleton _ _,fun p hp q hq=>?_⟩
  simp at hq;subst hq
  exact hpw.2.2 p hp (x,b) (by simp)
 ·rcases Int.lt_or_le t b with h3 | h3
  ·rw [h.iff t h1 h3]
   constructor
   ·rintro ⟨p,hp,h4,h5⟩
    rcases List.mem_append.1 hp with hp | hp
    ·exact ⟨p,by simp [hp],h4,h5⟩
    ·simp at hp;subst hp;exact ⟨(x,c),by simp,h4,by simp only at h5 ⊢;omega⟩
   ·rintro ⟨p,hp,h4,h5⟩
    rcases List.mem_append.1 hp with hp | hp
    ·exact ⟨p,by simp [hp],h4,h5⟩
    ·simp at hp;subst hp;exact ⟨(x,b),by simp,h4,h3⟩
  ·rw [hg t h3 h2]
   exact ⟨fun _=>⟨(x,c),by simp,by simp only;omega,h2⟩,fun _=>rfl⟩
def qV (lost:Int) (l:List (Int×Int)):Int:=(l.map fun p=>max 0 (p.2 - p.1 - lost)).sum
theorem XC {lost:Int} (hl:0≤lost):∀{l:List (Int×Int)} {a b:Int},a≤b→(∀p∈l,a≤p.1∧p.1 < p.2∧p.2≤b)→l.Pairwise (fun p q=>p.2 < q.1)→0≤qV lost l∧qV lost l≤b - a∧(l.length:Int)≤b - a
 |[],a,b,hab,_,_=>by simp [qV];omega
 |p::l,a,b,hab,hb,hp=>by
  have h1:=hb p (by simp)
  have hpw:=List.pairwise_cons.1 hp
  have ih:=XC (lost:=lost) hl (l:=l) (a:=p.2) (b:=b) (by omega) (fun q hq=>by have:=hb q (by simp [hq]);have:=hpw.1 q hq;omega) hpw.2
  unfold qV at ih ⊢
  simp only [List.map_cons,List.sum_cons,List.length_cons]
  omega
theorem zjT {l:List (Int×Int)} {lost a b:Int} (hl:0≤lost) (hl2:lost≤1000000000000) (hab:a≤b) (hbd:∀p∈l,a≤p.1∧p.1 < p.2∧p.2≤b) (hpw:l.Pairwise fun p q=>p.2 < q.1) (ha : -1000000000000≤a) (hb:b≤1000000000000):ZU (l,lost,())=some (qV lost l,()):=by
 have hln:=(XC (lost:=lost) hl hab hbd hpw).2.2
 rw [zs6];unfold zgP
 refine xA (zk (J:=fun x=>x.2.1.1=qV lost l) (zX l.length (fun i s=>s=((qV lost (l.take i),((i:Int),())),())) (by omega) rfl ?_ ?_) ?_)
 ·rintro i _ hi rfl
  have hx:l[i]?=some l[i]:=List.getElem?_eq_getElem hi
  have hm:=List.getElem_mem hi
  generalize l[i]=p at hx hm
  have hp:=hbd p hm
  refine zf (zZ (show (i:Int) < (l.length:Int) by omega)) (zg (zC (n:=i) hx (zg (zC (n:=i) hx ?_))))
  have hgi:=XC (lost:=lost) hl (l:=l.take i) hab (fun q hq=>hbd q (List.mem_of_mem_take hq)) (List.Pairwise.sublist (List.take_sublist i l) hpw)
  have e1:qV lost (l.take (i+1))=qV lost (l.take i)+max 0 (p.2 - p.1 - lost):=by
   unfold qV;rw [List.take_add_one,hx];simp
  refine za (qj ?_)
  show (((wrF .i64 (qV lost (l.take i)+vq 0 (wrF .i64 ((wrF .i64 (p.2 - p.1)) - lost)))),((wrF .i64 ((i:Int)+1)),())),())=_
  rw [ZV,zy (z:=p.2 - p.1) (by omega) (by omega),zy (z:=p.2 - p.1 - lost) (by omega) (by omega),zy (z:=qV lost (l.take i)+_) (by omega) (by omega),←e1,qv (by omega)]
 ·rintro _ rfl
  refine ze (zJ (show ¬(l.length:Int) < (l.length:Int) by omega)) (za (zu ?_))
  show qV lost (l.take l.length)=_
  rw [List.take_length]
 ·rintro ⟨j,⟨v,w,⟨⟩⟩,⟨⟩⟩ hv
  exact za hv
theorem zxJ {g:Gts} (hg:qz g) {t:Int} (h1 : -1000000000000≤t) (h2:t≤1000000000000):∃(i:Nat) (e:Int×Int),Kc (g,t,())=some ((i:Int),t % g.2 - qA (g.1.take i),())∧g.1[i]?=some e∧qA (g.1.take i)≤t % g.2∧t % g.2 < qA (g.1.take i)+e.2:=by
 have hp:=hg.pos;have hc:=hg.c1;have hn:=hg.n1
 obtain ⟨i,e,hx,hi1,hi2⟩:=zEB hg t
 refine ⟨i,e,?_,hx,hi1,hi2⟩
 have m1:=Int.emod_nonneg t (show g.2≠0 by omega)
 have m2:=Int.emod_lt_of_pos t (show 0 < g.2 by omega)
 have a1 : -g.2 < Int.tmod t g.2:=Int.lt_tmod_of_pos t (by omega)
 have a2:Int.tmod t g.2 < g.2:=Int.tmod_lt_of_pos t (by omega)
 have em:t % g.2=if Int.tmod t g.2 < 0 then Int.tmod t g.2+g.2 else Int.tmod t g.2:=by
  have h3:=Int.tmod_eq_emod (a:=t) (b:=g.2)
  have hna:((g.2.natAbs:Nat):Int)=g.2:=by omega
  by_cases hc2:0≤t∨g.2∣t
  ·rw [if_pos hc2] at h3
   rw [if_neg (by omega)];omega
  ·rw [if_neg hc2] at h3
   rw [if_pos (by omega)];omega
 rw [zvc];unfold ziU
 rw [jS (show g.2≠0 by omega),cond_false]
 have goal:qm (opt (bif (zi ((Int.tmod t g.2)) (0)) then some ((0:Nat),(((wrF .i64 (((Int.tmod t g.2)+g.2))),()),()))
   else some (0,(((Int.tmod t g.2),()),()))) fun x0=>
  opt (zI (fun s1:((Int×(Int×Unit))×Unit)=>
   opt (atI (g.1) (s1.1.2.1)) fun x2=>
   bif (!(zi (s1.1.1) (x2.2))) then opt (atI (g.1) (s1.1.2.1)) fun x3=>
    some (.inr (((wrF .i64 ((s1.1.1 - x3.2))),((wrF .i64 ((s1.1.2.1+1))),())),()))
   else some (.inl ((0:Nat),((s1.1.1,(s1.1.2.1,())),())))) zQ ((x0.2.1.1,(0,())),())) fun x4=>
  some (x4.2.1.2.1,(x4.2.1.1,()))) (fun r=>r=((i:Int),(t % g.2 - qA (g.1.take i),()))):=by
  refine zk (J:=fun x=>x.2.1.1=t % g.2) ?_ ?_
  ·rw [em]
   refine zj (fun h=>?_) (fun h=>?_)
   ·have h:=qp h
    refine za ?_
    show wrF .i64 (Int.tmod t g.2+g.2)=_
    rw [if_pos h,zy (by omega) (by omega)]
   ·have h:=qG h
    refine za ?_
    show Int.tmod t g.2=_
    rw [if_neg (by omega)]
  rintro ⟨j,⟨v,⟨⟩⟩,⟨⟩⟩ hv
  simp only at hv
  subst hv
  have hil:i < g.1.length:=by grind
  refine zk (J:=fun x=>x.2.1.2.1=(i:Int)∧x.2.1.1=t % g.2 - qA (g.1.take i)) (zX i (fun k s=>s=((t % g.2 - qA (g.1.take k),((k:Int),())),())) (by omega) (by show _=((t % g.2 - 0,_),());rw [Int.sub_zero];rfl) ?_ ?_) ?_
  ·rintro k _ hk rfl
   have hy:g.1[k]?=some g.1[k]:=List.getElem?_eq_getElem (by omega)
   generalize g.1[k]=f at hy
   have hmo:=VF hg.el (show k+1≤i by omega)
   rw [uT hy] at hmo
   have hk0:=Qd (l:=g.1.take k) fun e he=>hg.el e (List.mem_of_mem_take he)
   have hf:=hg.el f (List.mem_of_getElem? hy)
   refine zg (zC (n:=k) hy (zf (by rw [zJ (show ¬t % g.2 - qA (g.1.take k) < f.2 by omega)];rfl) (zg (zC (n:=k) hy ?_))))
   refine za (qj ?_)
   show (((wrF .i64 (t % g.2 - qA (g.1.take k) - f.2)),((wrF .i64 ((k:Int)+1)),())),())=_
   have:=hf.2.2.1;have:=hf.2.2.2
   rw [qv (by omega),uT hy,zy (by omega) (by omega),Int.sub_sub]
  ·rintro _ rfl
   refine zg (zC (n:=i) hx (ze (by rw [zZ (show t % g.2 - qA (g.1.take i) < e.2 by omega)];rfl) (za (zu ⟨rfl,rfl⟩))))
  ·rintro ⟨j,⟨v,w,⟨⟩⟩,⟨⟩⟩ ⟨h1,h2⟩
   simp only at h1 h2
   subst h1 h2
   exact za rfl
 obtain ⟨r,e,rfl⟩:=goal
 exact e
theorem zcI {g:Gts} (hg:qz g) {a b:Int} (hab:a≤b) (ha : -100000000000≤a) (hb:b≤100000000000):∃l,xh (g,a,b,())=some (l,())∧Cov (opT g) a b l:=by
 have hp:=hg.pos;have hc:=hg.c1
 have key:qm (xh (g,a,b,())) fun r=>Cov (opT g) a b r.1:=by
  rw [zka];unfold UR
  refine zk (J:=fun x=>Cov (opT g) a b x.2.2.1) (zlg (fun s=>a≤s.1.2.1∧s.1.2.1≤b∧Cov (opT g) a s.1.2.1 s.2.1∧(s.1.1=true→∃m x,s.2.1=m++[(x,s.1.2.1)])∧(s.1.1=false→∀p∈s.2.1,p.2 < s.1.2.1)) _ (fun s=>(b - s.1.2.1).toNat) ⟨Int.le_refl _,hab,zty _ _,fun h=>(by cases h),fun _ p hp=>(by cases hp)⟩ (by show (b - a).toNat < _;omega) ?_) ?_
  ·rintro ⟨⟨op,at_,⟨⟩⟩,out,⟨⟩⟩ ⟨h1,h2,hcov,ht,hf⟩
   simp only at h1 h2 hcov ht hf
   have hlen:=(XC (lost:=0) (by omega) h1 hcov.bd hcov.pw).2.2
   refine zj (fun h=>?_) (fun h=>?_)
   rotate_left
   ·have h:=qG h
    have:at_=b:=by simp only at h;omega
    subst this
    exact za (zlf hcov)
   have h3:=qp (show zi at_ b=true from h)
   obtain ⟨i,e,eA,hx,i1,i2⟩:=zxJ hg (t:=at_) (by omega) (by omega)
   have hil:i < g.1.length:=by grind
   have he:=hg.el e (List.mem_of_getElem? hx)
   have m1:=Int.emod_nonneg at_ (show g.2≠0 by omega)
   have m2:=Int.emod_lt_of_pos at_ (show 0 < g.2 by omega)
   have hs0:=Qd (l:=g.1.take i) fun e he=>hg.el e (List.mem_of_mem_take he)
   have:=he.2.2.1;have:=he.2.2.2
   have hst:∀t,at_≤t→t < at_ - (at_ % g.2 - qA (g.1.take i))+e.2→opT g t=opn e.1:=by
    intro t t1 t2
    have hle:=VF hg.el (show i+1≤g.1.length by omega)
    rw [VG,hg.cy,uT hx] at hle
    have hr:t % g.2=at_ % g.2+(t - at_):=by
     have hdm:=Int.emod_add_mul_ediv at_ g.2
     have:t=(at_ % g.2+(t - at_))+g.2*(at_ / g.2):=by omega
     rw [this,Int.add_mul_emod_self_left,Int.emod_eq_of_lt (by omega) (by omega)];omega
    unfold opT
    exact zxF g.1 hg.el i e _ hx (by omega) (by omega)
   rw [show Kc (g,((op,at_,()),out,()).1.2.1,())=_ from eA,zD]
   refine zg (zC (n:=i) hx (zg (zC (n:=i) hx ?_)))
   rw [Uu he.1,zD]
   have eEnd:jh (wrF .i64 ((wrF .i64 (at_ - (at_ % g.2 - qA (g.1.take i))))+e.2)) b=min (at_ - (at_ % g.2 - qA (g.1.take i))+e.2) b:=by
    rw [WM,zy (z:=at_ - _) (by omega) (by omega),zy (by omega) (by omega)]
   generalize hE:min (at_ - (at_ % g.2 - qA (g.1.take i))+e.2) b=E at eEnd
   have hE1:at_ < E:=by omega
   have hE2:E≤b:=by omega
   have hst':∀t,at_≤t→t < E→opT g t=opn e.1:=fun t t1 t2=>hst t t1 (by omega)
   cases ho:opn e.1 with
   |true=>
    rw [ho] at hst'
    cases hop:op with
    |true=>
     subst hop
     obtain ⟨m,x,hm⟩:=ht rfl
     have hne:out.length=m.length+1:=by rw [hm];simp
     have eL:wrF .i64 ((out.length:Int) - 1)=((m.length:Nat):Int):=by rw [zy]<;>omega
     have hlast:out[m.length]?=some (x,at_):=by rw [hm];simp
     refine zk (J:=fun x'=>x'.2.2.1=m++[(x,E)]) ?_ ?_
     ·refine zf rfl (zf rfl ?_)
      refine zg (qh (a:=(x,at_)) (by show atI out (wrF .i64 ((out.length:Int) - 1))=_;rw [eL];exact yd hlast) (zg (qh (a:=(x,at_)) (by show gl out (Int.toNat (wrF .i64 ((out.length:Int) - 1)))=_;rw [eL,yJ];exact hlast) ?_)))
      refine za ?_
      show out.set (Int.toNat (wrF .i64 ((out.length:Int) - 1))) (x,jh (wrF .i64 ((wrF .i64 (at_ - (at_ % g.2 - qA (g.1.take i))))+e.2)) b)=_
      rw [eL,eEnd,Int.toNat_natCast,hm]
      simp
     rintro ⟨j,⟨⟩,c,⟨⟩⟩ hc
     simp only at hc
     subst hc
     refine zk (J:=fun x'=>x'.2.2.1=m++[(x,E)]) (zf rfl (ze rfl (za rfl))) ?_
     rintro ⟨j,⟨⟩,c,⟨⟩⟩ hc
     simp only at hc
     subst hc
     refine za (zbH ⟨?_,?_,?_,fun _=>⟨m,x,?_⟩,fun h=>(by cases h)⟩ ?_)
     ·show a≤jh _ _;rw [eEnd];omega
     ·show jh _ _≤b;rw [eEnd];omega
     ·show Cov _ _ (jh _ _) _;rw [eEnd];rw [hm] at hcov;exact zDr hcov (by omega) hst'
     ·show _=m++[(x,jh _ _)];rw [eEnd]
     ·show (b - jh _ _).toNat < (b - at_).toNat;rw [eEnd];omega
    |false=>
     subst hop
     refine zk (J:=fun x'=>x'.2.2.1=out) (zf rfl (ze rfl (za rfl))) ?_
     rintro ⟨j,⟨⟩,c,⟨⟩⟩ hc
     simp only at hc
     subst hc
     refine zk (J:=fun x'=>x'.2.2.1=c++[(at_,E)]) (zf rfl (zf rfl (zf (wC (by show (c.length+1)*16≤_;omega) (by show c.length+1≤_;omega)) (za ?_)))) ?_
     ·show c++[(at_,jh (wrF .i64 ((wrF .i64 (at_ - (at_ % g.2 - qA (g.1.take i))))+e.2)) b)]=_
      rw [eEnd]
     rintro ⟨j,⟨⟩,c',⟨⟩⟩ hc
     simp only at hc
     subst hc
     refine za (zbH ⟨?_,?_,?_,fun _=>⟨c,at_,?_⟩,fun h=>(by cases h)⟩ ?_)
     ·show a≤jh _ _;rw [eEnd];omega
     ·show jh _ _≤b;rw [eEnd];omega
     ·show Cov _ _ (jh _ _) _;rw [eEnd];exact zy4 hcov hE1 h1 (hf rfl) hst'
     ·show _=c++[(at_,jh _ _)];rw [eEnd]
     ·show (b - jh _ _).toNat < (b - at_).toNat;rw [eEnd];omega
   |false=>
    rw [ho] at hst'
    refine zk (J:=fun x'=>x'.2.2.1=out) (ze rfl (za rfl)) ?_
    rintro ⟨j,⟨⟩,c,⟨⟩⟩ hc
    simp only at hc
    subst hc
    refine zk (J:=fun x'=>x'.2.2.1=c) (ze rfl (za rfl)) ?_
    rintro ⟨j,⟨⟩,c',⟨⟩⟩ hc
    simp only at hc
    subst hc
    refine za (zbH ⟨?_,?_,?_,fun h=>(by cases h),fun _ p hp=>?_⟩ ?_)
    ·show a≤jh _ _;rw [eEnd];omega
    ·show jh _ _≤b;rw [eEnd];omega
    ·show Cov _ _ (jh _ _) _;rw [eEnd];exact zmS hcov (by omega) h1 hst'
    ·show p.2 < jh _ _;rw [eEnd];have:=hcov.bd p hp;omega
    ·show (b - jh _ _).toNat < (b - at_).toNat;rw [eEnd];omega
  ·rintro ⟨j,⟨v,w,⟨⟩⟩,c,⟨⟩⟩ hc
   exact za hc
 obtain ⟨⟨l,⟨⟩⟩,e,h⟩:=key
 exact ⟨l,e,h⟩
theorem zEC {o:Int→Bool} {a a' b:Int} {l:List (Int×Int)} (h:Cov o a b l) (hb:a'≤a) (hg:∀t,a'≤t→t < a→o t=false):Cov o a' b l:=by
 refine ⟨fun p hp=>by have:=h.bd p hp;omega,h.pw,fun t h1 h2=>?_⟩
 rcases Int.lt_or_le t a with h3 | h3
 ·rw [hg t h1 h3]
  constructor
  ·intro h;cases h
  ·rintro ⟨p,hp,h4,h5⟩
   have:=h.bd p hp;omega
 ·exact h.iff t h3 h2
def clo:List (Int×Int)→Nat
 |[]=>0
 |e::l=>if opn e.1=true then clo l+1 else 0
theorem zrL:∀l,clo l≤l.length
 |[]=>Nat.le_refl _
 |e::l=>by unfold clo;have:=zrL l;split<;>simp<;>omega
theorem zfK:∀(l:List (Int×Int)) (i:Nat) (e:Int×Int),i < clo l→l[i]?=some e→opn e.1=true
 |[],i,e,h,_=>by simp [clo] at h
 |a::l,0,e,h,h2=>by
  simp at h2;subst h2
  unfold clo at h
  split at h
  ·assumption
  ·omega
 |a::l,i+1,e,h,h2=>by
  unfold clo at h
  split at h
  ·exact zfK l i e (by omega) (by simpa using h2)
  ·omega
theorem zpJ:∀(l:List (Int×Int)) (e:Int×Int),l[clo l]?=some e→opn e.1=false
 |[],e,h=>by simp [clo] at h
 |a::l,e,h=>by
  unfold clo at h
  split at h
  ·exact zpJ l e (by simpa using h)
  ·rename_i h2
   simp at h;subst h
   simpa using h2
theorem zmj {l:List (Int×Int)} (h:¬Ym l):clo l < l.length:=by
 have:=zrL l
 apply Classical.byContradiction
 intro hn
 apply h
 intro e he
 obtain ⟨k,hk,hk2⟩:=yG he
 exact zfK l k e (by omega) hk2
theorem zED {l:List (Int×Int)} (h:Ym l):clo l=l.length:=by
 have:=zrL l
 apply Classical.byContradiction
 intro hn
 have hx:l[clo l]?=some (l[clo l]'(by omega)):=List.getElem?_eq_getElem (by omega)
 have:=zpJ l _ hx
 rw [h _ (List.getElem_mem _)] at this
 cases this
def Inv (o:Int→Bool) (A at_:Int) (now:Int×Int) (L:List (Int×Int)):Prop:=
 A≤at_∧((now.2=0∧Cov o A at_ L∧∀p∈L,p.2 < at_)∨(0 < now.2∧now.1+now.2=at_∧A≤now.1∧Cov o A now.1 L∧(∀p∈L,p.2 < now.1)∧∀t,now.1≤t→t < at_→o t=true))
theorem zxK {o:Int→Bool} {A at_ d:Int} {now:Int×Int} {L:List (Int×Int)} (h:Inv o A at_ now L) (hd:0 < d) (ho:∀t,at_≤t→t < at_+d→o t=true):Inv o A (at_+d) (if now.2=0 then (at_,d) else (now.1,now.2+d)) L:=by
 obtain ⟨hA,h⟩:=h
 refine ⟨by omega,.inr ?_⟩
 rcases h with ⟨h1,h2,h3⟩ | ⟨h1,h2,h3,h4,h5,h6⟩
 ·rw [if_pos h1]
  exact ⟨hd,rfl,hA,h2,h3,ho⟩
 ·rw [if_neg (by omega)]
  refine ⟨by simp only;omega,by simp only;omega,h3,h4,h5,fun t t1 t2=>?_⟩
  simp only at t1
  rcases Int.lt_or_le t at_ with h7 | h7
  ·exact h6 t t1 h7
  ·exact ho t h7 t2
theorem zuo {o:Int→Bool} {A at_ d:Int} {now:Int×Int} {L:List (Int×Int)} (h:Inv o A at_ now L) (hd:0 < d) (hn:now.2=0) (ho:∀t,at_≤t→t < at_+d→o t=false):Inv o A (at_+d) (0,0) L:=by
 obtain ⟨hA,h⟩:=h
 refine ⟨by omega,.inl ⟨rfl,?_⟩⟩
 rcases h with ⟨h1,h2,h3⟩ | ⟨h1,h2,h3,h4,h5,h6⟩
 ·exact ⟨zmS h2 (by omega) hA ho,fun p hp=>by have:=h3 p hp;omega⟩
 ·omega
theorem zxL {o:Int→Bool} {A at_ d:Int} {now:Int×Int} {L:List (Int×Int)} (h:Inv o A at_ now L) (hd:0 < d) (hn:0 < now.2) (ho:∀t,at_≤t→t < at_+d→o t=false):Inv o A (at_+d) (0,0) (L++[(now.1,now.1+now.2)]):=by
 obtain ⟨hA,h⟩:=h
 refine ⟨by omega,.inl ⟨rfl,?_⟩⟩
 rcases h with ⟨h1,h2,h3⟩ | ⟨h1,h2,h3,h4,h5,h6⟩
 ·omega
 ·have:=zy4 (c:=now.1+now.2) h4 (by omega) h3 h5 fun t t1 t2=>h6 t t1 (by omega)
  refine ⟨zmS this (by omega) (by omega) fun t t1 t2=>ho t (by omega) t2,fun p hp=>?_⟩
  rcases List.mem_append.1 hp with hp | hp
  ·have:=h5 p hp;omega
  ·simp at hp;subst hp;simp only;omega
def at0 (g:Gts):Int:=qA (g.1.take (clo g.1))
structure gn (g:Gts) (L:List (Int×Int)):Prop where
 cv:Cov (opT g) (at0 g) (at0 g+g.2) L
 gt:∀p∈L,at0 g < p.1
theorem zmk {g:Gts} (hg:qz g):0≤at0 g∧at0 g≤9600000:=by
 unfold at0
 have hb:=Qd (l:=g.1.take (clo g.1)) fun e he=>hg.el e (List.mem_of_mem_take he)
 have hle:=VF hg.el (zrL g.1)
 rw [VG,hg.cy] at hle
 have:=hg.c1
 omega
theorem zmT {g:Gts} (hg:qz g) (ha:¬Ym g.1):∃e,g.1[clo g.1]?=some e∧opn e.1=false∧zb0 e∧tAt g (clo g.1)=at0 g:=by
 have hl:=zmj ha
 have hx:g.1[clo g.1]?=some (g.1[clo g.1]):=List.getElem?_eq_getElem hl
 exact ⟨_,hx,zpJ _ _ hx,hg.el _ (List.getElem_mem hl),zxG hl⟩
theorem zxM {g:Gts} (hg:qz g) (ha:¬Ym g.1) {L L':List (Int×Int)} (h:Cov (opT g) (tAt g (clo g.1+1)) (tAt g (clo g.1+1)+g.2) L) (hr:gn g L'):L'=L:=by
 obtain ⟨e,hx,he,hen,h0⟩:=zmT hg ha
 have hm:clo g.1 % g.1.length=clo g.1:=Nat.mod_eq_of_lt (zmj ha)
 have hts:=zfJ hg (k:=clo g.1) (e:=e) (by rw [hm];exact hx)
 have hd:=hen.2.2.1
 have hp:=hg.pos
 have hcl:∀t,at0 g≤t→t < at0 g+e.2→opT g t=false:=fun t t1 t2=>by
  rw [zxH hg (k:=clo g.1) (e:=e) (by rw [hm];exact hx) (by omega) (by omega)];exact he
 have c1:Cov (opT g) (at0 g) (at0 g+g.2+e.2) L':=zmS hr.cv (by omega) (by omega) fun t t1 t2=>by
  have:=zy2 g (t - g.2)
  rw [Int.sub_add_cancel] at this
  rw [this];exact hcl _ (by omega) (by omega)
 have c2:Cov (opT g) (at0 g) (at0 g+g.2+e.2) L:=by
  rw [hts,h0] at h
  have:=zEC h (show at0 g≤at0 g+e.2 by omega) hcl
  rwa [show at0 g+e.2+g.2=at0 g+g.2+e.2 by omega] at this
 exact zpI c1 c2
theorem zrM {g:Gts} (hg:qz g) (ha:¬Ym g.1):∃L,vf (g,())=some (L,())∧gn g L:=by
 have hl:=zmj ha
 obtain ⟨e,hx,he,hen,h0⟩:=zmT hg ha
 have h0b:=zmk hg
 have hc:=hg.c1;have hp:=hg.pos;have hn:=hg.n1
 obtain ⟨L,hL,hcv⟩:=zcI hg (a:=at0 g) (b:=at0 g+g.2) (by omega) (by omega) (by omega)
 refine ⟨L,?_,hcv,fun p hp'=>?_⟩
 ·rw [zpj];unfold zde
  refine xA (zk (J:=fun x=>x.2.1.1=at0 g) (zX (clo g.1) (fun i s=>s=((qA (g.1.take i),((i:Int),())),())) (by omega) rfl ?_ ?_) ?_)
  ·rintro i _ hi rfl
   have hy:g.1[i]?=some g.1[i]:=List.getElem?_eq_getElem (by omega)
   have hm:=List.getElem_mem (show i < g.1.length by omega)
   generalize g.1[i]=f at hy hm
   have hf:=hg.el f hm
   have hb:=Qd (l:=g.1.take i) fun e he=>hg.el e (List.mem_of_mem_take he)
   have hbl:(g.1.take i).length≤128:=by simp;omega
   refine zf (zZ (show (i:Int) < (g.1.length:Int) by omega)) (zg (zC (n:=i) hy ?_))
   rw [Uu hf.1]
   refine zf (zfK _ i f hi hy) (zg (zC (n:=i) hy (za (qj ?_))))
   show (((wrF .i64 (qA (g.1.take i)+f.2)),((wrF .i64 ((i:Int)+1)),())),())=_
   have:=hf.2.2.1;have:=hf.2.2.2
   rw [uT hy,qv (by omega),zy (by omega) (by omega)]
  ·rintro _ rfl
   refine zf (zZ (show ((clo g.1:Nat):Int) < (g.1.length:Int) by omega)) (zg (zC (n:=clo g.1) hx ?_))
   rw [Uu hen.1]
   exact ze he (za (zu rfl))
  ·rintro ⟨j,⟨v,w,⟨⟩⟩,⟨⟩⟩ hv
   simp only at hv
   subst hv
   rw [show wrF .i64 (at0 g+g.2)=at0 g+g.2 from zy (by omega) (by omega),hL]
   exact za rfl
 ·have hb:=hcv.bd p hp'
  have hm:clo g.1 % g.1.length=clo g.1:=Nat.mod_eq_of_lt hl
  have hd:=hen.2.2.1
  rcases Int.lt_or_le (at0 g) p.1 with h | h
  ·exact h
  ·exfalso
   have e1:p.1=at0 g:=by omega
   have:=(hcv.iff p.1 hb.1 (by omega)).2 ⟨p,hp',by omega,hb.2.1⟩
   rw [zxH hg (k:=clo g.1) (e:=e) (by rw [hm];exact hx) (by omega) (by omega),he] at this
   cases this
theorem zrN {g:Gts} (hg:qz g) {k:Nat} (h:k≤4*g.1.length):0≤tAt g k∧tAt g k≤5*9600000:=by
 have h0:=hg.n0;have hp:=hg.pos;have hc:=hg.c1
 unfold tAt
 have hm:k % g.1.length < g.1.length:=Nat.mod_lt _ (by omega)
 have hb:=Qd (l:=g.1.take (k % g.1.length)) fun e he=>hg.el e (List.mem_of_mem_take he)
 have hle:=VF hg.el (show k % g.1.length≤g.1.length by omega)
 rw [VG,hg.cy] at hle
 have hd:k / g.1.length≤4:=by
  have:k / g.1.length < 5:=Nat.div_lt_of_lt_mul (by omega)
  omega
 have h1:((k / g.1.length:Nat):Int)≤4:=by exact_mod_cast hd
 have:((k / g.1.length:Nat):Int)*g.2≤4*g.2:=Int.mul_le_mul_of_nonneg_right h1 (by omega)
 have:0≤((k / g.1.length:Nat):Int)*g.2:=Int.mul_nonneg (Int.natCast_nonneg _) (by omega)
 omega
theorem zy5 {g:Gts} (hg:qz g) {c i:Nat} (hc:c < 1000000) (hi:i < 1000000):Int.tmod (wrF .i64 ((wrF .i64 ((c:Int)+1))+(i:Int))) (g.1.length:Int)=(((c+1+i) % g.1.length:Nat):Int):=by
 rw [qv (by omega),zy (by omega) (by omega),Int.tmod_eq_emod_of_nonneg (by omega),←Int.natCast_add,←Int.natCast_emod]
theorem zBP {g:Gts} (hg:qz g) (k:Nat):∃e,g.1[k % g.1.length]?=some e∧zb0 e∧tAt g (k+1)=tAt g k+e.2∧∀t,tAt g k≤t→t < tAt g k+e.2→opT g t=opn e.1:=by
 have h0:=hg.n0
 have hm:k % g.1.length < g.1.length:=Nat.mod_lt _ (by omega)
 have hx:g.1[k % g.1.length]?=some (g.1[k % g.1.length]):=List.getElem?_eq_getElem hm
 exact ⟨_,hx,hg.el _ (List.getElem_mem hm),zfJ hg hx,fun t t1 t2=>zxH hg hx t1 t2⟩
theorem zBQ {o:Int→Bool} {A at_:Int} {now:Int×Int} {L:List (Int×Int)} (h:Inv o A at_ now L) (hA:0≤A) (hat:at_≤5*9600000):0≤now.2∧now.2≤at_:=by
 obtain ⟨hA',h⟩:=h
 rcases h with ⟨h1,h2,h3⟩ | ⟨h1,h2,h3,h4,h5,h6⟩<;>omega
theorem zbg {g:Gts} (hg:qz g) (ha:¬Ym g.1) {L:List (Int×Int)} (hr:gn g L) {lost:Int} (l0:0≤lost) (l1:lost≤1000000000000):vA (g,lost,())=some (qV lost L,()):=by
 have hl:=zmj ha
 obtain ⟨e,hx,he,hen,h0⟩:=zmT hg ha
 have h0b:=zmk hg
 have hc:=hg.c1;have hp:=hg.pos;have hn:=hg.n1;have hn0:=hg.n0
 rw [zay];unfold Wq
 simp only [zcH hg,zD,qu ha,cond_false]
 refine xA (zk (J:=fun x=>x.2.1=(0,(at0 g,(((clo g.1:Nat):Int),())))) (zX (clo g.1) (fun i s=>s=((0,(qA (g.1.take i),((i:Int),()))),((),((),())))) (by omega) rfl ?_ ?_) ?_)
 ·rintro i _ hi rfl
  have hy:g.1[i]?=some g.1[i]:=List.getElem?_eq_getElem (by omega)
  have hm:=List.getElem_mem (show i < g.1.length by omega)
  generalize g.1[i]=f at hy hm
  have hf:=hg.el f hm
  have hb:=Qd (l:=g.1.take i) fun e he=>hg.el e (List.mem_of_mem_take he)
  have hbl:(g.1.take i).length≤128:=by simp;omega
  refine zf (zZ (show (i:Int) < (g.1.length:Int) by omega)) (zg (zC (n:=i) hy ?_))
  rw [xa hf]
  refine zf (zfK _ i f hi hy) (zg (zC (n:=i) hy (za (qj ?_))))
  show ((0,((wrF .i64 (qA (g.1.take i)+f.2)),((wrF .i64 ((i:Int)+1)),()))),((),((),())))=_
  have:=hf.2.2.1;have:=hf.2.2.2
  rw [uT hy,qv (by omega),zy (by omega) (by omega)]
 ·rintro _ rfl
  refine zf (zZ (show ((clo g.1:Nat):Int) < (g.1.length:Int) by omega)) (zg (zC (n:=clo g.1) hx ?_))
  rw [xa hen]
  exact ze he (za (zu rfl))
 rintro ⟨j,⟨v,w,z,⟨⟩⟩,⟨⟩,⟨⟩,⟨⟩⟩ hv
 simp only [Prod.mk.injEq,and_true] at hv
 obtain ⟨rfl,rfl,rfl⟩:=hv
 refine ze (jS (show ((clo g.1:Nat):Int)≠(g.1.length:Int) by omega)) (zg (zC (n:=clo g.1) hx ?_))
 have hm:clo g.1 % g.1.length=clo g.1:=Nat.mod_eq_of_lt hl
 have hts:=zfJ hg (k:=clo g.1) (e:=e) (by rw [hm];exact hx)
 have hA:=zrN hg (k:=clo g.1+1) (by omega)
 refine zk (J:=fun x=>x.2.1.2.1=qV lost L) (zX g.1.length (fun i s=>∃now L',s=((now,(qV lost L',(tAt g (clo g.1+1+i),((i:Int),())))),((),((),())))∧Inv (opT g) (tAt g (clo g.1+1)) (tAt g (clo g.1+1+i)) now L'∧(∀f,0 < i→g.1[(clo g.1+i) % g.1.length]?=some f→opn f.1=false→now.2=0)) (by omega) ?_ ?_ ?_) ?_
 ·refine ⟨(0,0),[],?_,⟨Int.le_refl _,.inl ⟨rfl,zty _ _,fun p hp=>(by cases hp)⟩⟩,fun f h=>by omega⟩
  show (((0,0),(0,((wrF .i64 (at0 g+e.2)),(0,())))),((),((),())))=_
  rw [Nat.add_zero,hts,h0,zy (by omega) (by have:=hen.2.2.2;omega)];rfl
 ·rintro i _ hi ⟨now,L',rfl,hinv,_⟩
  obtain ⟨f,hy,hf,hsu,hop⟩:=zBP hg (clo g.1+1+i)
  have hB:=zrN hg (k:=clo g.1+1+i) (by omega)
  have hnb:=zBQ hinv hA.1 hB.2
  have hmm:(clo g.1+1+i) % g.1.length < g.1.length:=Nat.mod_lt _ (by omega)
  have f1:=hf.2.2.1;have f2:=hf.2.2.2
  refine zf (zZ (show (i:Int) < (g.1.length:Int) by omega)) (ze (jS (show (g.1.length:Int)≠0 by omega)) ?_)
  refine zg (qh (a:=f) (by show atI g.1 (Int.tmod (wrF .i64 ((wrF .i64 (((clo g.1:Nat):Int)+1))+(i:Int))) (g.1.length:Int))=_;rw [zy5 hg (by omega) (by omega)];exact yd hy) ?_)
  rw [xa hf]
  have eat:wrF .i64 (tAt g (clo g.1+1+i)+f.2)=tAt g (clo g.1+1+(i+1)):=by
   rw [show clo g.1+1+(i+1)=clo g.1+1+i+1 from rfl,hsu,zy (by omega) (by omega)]
  have eup:wrF .i64 ((i:Int)+1)=((i+1:Nat):Int):=qv (by omega)
  have idx:∀f',0 < i+1→g.1[(clo g.1+(i+1)) % g.1.length]?=some f'→f'=f:=fun f' _ h=>by
   rw [show clo g.1+(i+1)=clo g.1+1+i by omega,hy] at h
   exact (Option.some.inj h).symm
  refine zj (fun ho=>?_) (fun ho=>?_)
  ·have ho:opn f.1=true:=ho
   rw [ho] at hop
   have hi2:=zxK hinv (show 0 < f.2 by omega) hop
   refine zk (J:=fun x=>x.2.1.1=if now.2=0 then (tAt g (clo g.1+1+i),0) else now) (zj (fun h=>?_) (fun h=>?_)) ?_
   ·have h:now.2=0:=qO h
    refine za ?_
    rw [if_pos h]
    show (tAt g (clo g.1+1+i),now.2)=_
    rw [h]
   ·have h:now.2≠0:=jM h
    exact za (by rw [if_neg h])
   ·rintro ⟨j,⟨nw,⟨⟩⟩,⟨⟩,⟨⟩,⟨⟩⟩ hnw
    simp only at hnw
    subst hnw
    refine za (qj ⟨_,L',?_,(by rw [←hsu] at hi2;exact hi2),fun f' h1 h2 h3=>?_⟩)
    ·show ((((if now.2=0 then (tAt g (clo g.1+1+i),0) else now).1,(wrF .i64 ((if now.2=0 then (tAt g (clo g.1+1+i),0) else now).2+f.2))),(qV lost L',((wrF .i64 (tAt g (clo g.1+1+i)+f.2)),((wrF .i64 ((i:Int)+1)),())))),((),((),())))=_
     rw [eat,eup]
     by_cases h:now.2=0
     ·rw [if_pos h,if_pos h]
      simp only
      rw [zy (by omega) (by omega),Int.zero_add]
     ·rw [if_neg h,if_neg h,zy (by omega) (by omega)]
    ·rw [idx f' h1 h2,ho] at h3;cases h3
  ·have ho:opn f.1=false:=ho
   rw [ho] at hop
   refine zj (fun h=>?_) (fun h=>?_)
   ·have h:0 < now.2:=qp h
    have hi2:=zxL hinv (show 0 < f.2 by omega) h hop
    have hgb:=XC (lost:=lost) l0 (l:=L'++[(now.1,now.1+now.2)]) (a:=tAt g (clo g.1+1)) (b:=tAt g (clo g.1+1+i)+f.2) hi2.1 (by
      rcases hi2.2 with ⟨_,hc,_⟩ | ⟨h',_⟩
      ·exact hc.bd
      ·simp at h') (by
      rcases hi2.2 with ⟨_,hc,_⟩ | ⟨h',_⟩
      ·exact hc.pw
      ·simp at h')
    have eg:qV lost (L'++[(now.1,now.1+now.2)])=qV lost L'+max 0 (now.2 - lost):=by
     unfold qV;simp only [List.map_append,List.sum_append,List.map_cons,List.map_nil,List.sum_cons,List.sum_nil]
     omega
    have hg1:=XC (lost:=lost) l0 (l:=L') (a:=tAt g (clo g.1+1)) (b:=tAt g (clo g.1+1+i)) hinv.1 (by
      rcases hinv.2 with ⟨_,hc,_⟩ | ⟨_,h',_,hc,_⟩
      ·exact hc.bd
      ·exact fun p hp=>by have:=hc.bd p hp;omega) (by
      rcases hinv.2 with ⟨_,hc,_⟩ | ⟨_,_,_,hc,_⟩
      ·exact hc.pw
      ·exact hc.pw)
    refine za (qj ⟨(0,0),_,?_,(by rw [←hsu] at hi2;exact hi2),fun f' h1 h2 h3=>rfl⟩)
    show (((0,0),((wrF .i64 (qV lost L'+vq 0 (wrF .i64 (now.2 - lost)))),((wrF .i64 (tAt g (clo g.1+1+i)+f.2)),((wrF .i64 ((i:Int)+1)),())))),((),((),())))=_
    rw [eat,eup,ZV,zy (z:=now.2 - lost) (by omega) (by omega),eg,zy (by omega) (by omega)]
   ·have h:now.2=0:=by have:now.2≤0:=qG h;omega
    have hi2:=zuo hinv (show 0 < f.2 by omega) h hop
    refine za (qj ⟨(0,0),L',?_,(by rw [←hsu] at hi2;exact hi2),fun f' h1 h2 h3=>rfl⟩)
    show (((0,0),(qV lost L',((wrF .i64 (tAt g (clo g.1+1+i)+f.2)),((wrF .i64 ((i:Int)+1)),())))),((),((),())))=_
    rw [eat,eup]
 ·rintro _ ⟨now,L',rfl,hinv,hlast⟩
  refine ze (zJ (show ¬(g.1.length:Int) < (g.1.length:Int) by omega)) (za (zu ?_))
  have hz:=hlast e (by omega) (by rw [Nat.add_mod_right,hm];exact hx) he
  show qV lost L'=qV lost L
  rcases hinv.2 with ⟨_,hc,_⟩ | ⟨h',_⟩
  ·rw [zy3 hg] at hc
   rw [zxM hg ha hc hr]
  ·omega
 ·rintro ⟨j,⟨nw,v,w,z,⟨⟩⟩,⟨⟩,⟨⟩,⟨⟩⟩ hv
  refine zj (fun _=>?_) (fun _=>?_)<;>exact za hv
theorem zhQ {g:Gts} (hg:qz g) (ha:Ym g.1) (lost:Int):vA (g,lost,())=some (g.2,()):=by
 rw [zay];unfold Wq
 simp only [zcH hg,zD,qf ha,cond_true]
theorem zgq {g:Gts} (hg:qz g) (ha:¬Ym g.1) {L:List (Int×Int)} (hL:vf (g,())=some (L,())) (hr:gn g L) {per most:Int} (l0:0≤most*per) (l1:most*per≤1000000000000):Ju (g,per,most,())=some (qV (most*per) L,()):=by
 have h0b:=zmk hg;have hc:=hg.c1;have hp:=hg.pos
 rw [zfl];unfold Um
 simp only [QM hg,zD,qu ha,cond_false,hL]
 rw [show wrF .i64 (most*per)=most*per from zy (by omega) (by omega),zjT l0 l1 (a:=at0 g) (b:=at0 g+g.2) (by omega) hr.cv.bd hr.cv.pw (by omega) (by omega)]
 rfl
theorem zny {g:Gts} (hg:qz g) (ha:Ym g.1) (per most:Int):Ju (g,per,most,())=some (g.2,()):=by
 rw [zfl];unfold Um
 simp only [QM hg,zD,qf ha,cond_true]
def bX (g:Gts) (L:List (Int×Int)) (q:Nat):Int:=((L[q % L.length]?).getD (0,0)).1+((q / L.length:Nat):Int)*g.2
def bY (g:Gts) (L:List (Int×Int)) (q:Nat):Int:=((L[q % L.length]?).getD (0,0)).2+((q / L.length:Nat):Int)*g.2
theorem zFz {L:List (Int×Int)} (h:0 < L.length) (q:Nat):∃p,L[q % L.length]?=some p∧p∈L∧∀g,bX g L q=p.1+((q / L.length:Nat):Int)*g.2∧bY g L q=p.2+((q / L.length:Nat):Int)*g.2:=by
 have hm:q % L.length < L.length:=Nat.mod_lt _ h
 have hx:L[q % L.length]?=some (L[q % L.length]):=List.getElem?_eq_getElem hm
 refine ⟨_,hx,List.getElem_mem hm,fun g=>?_⟩
 unfold bX bY
 rw [hx]
 exact ⟨rfl,rfl⟩
theorem zrO (g:Gts) {L:List (Int×Int)} (h:0 < L.length) (q:Nat):bX g L (q+L.length)=bX g L q+g.2∧bY g L (q+L.length)=bY g L q+g.2:=by
 unfold bX bY
 rw [Nat.add_mod_right,Nat.add_div_right _ h,Int.natCast_succ,Int.add_mul]
 omega
theorem QN {g:Gts} {L:List (Int×Int)} (hr:gn g L) (h:0 < L.length) (q:Nat):bX g L q < bY g L q∧at0 g+((q / L.length:Nat):Int)*g.2 < bX g L q∧bY g L q≤at0 g+((q / L.length:Nat):Int)*g.2+g.2:=by
 obtain ⟨p,hx,hp,he⟩:=zFz h q
 obtain ⟨e1,e2⟩:=he g
 have:=hr.cv.bd p hp
 have:=hr.gt p hp
 omega
theorem zAv {g:Gts} {L:List (Int×Int)} (hr:gn g L) (h:0 < L.length) (q:Nat):bY g L q < bX g L (q+1):=by
 rcases Nat.lt_or_ge (q % L.length+1) L.length with h1 | h1
 ·have e1:(q+1) % L.length=q % L.length+1:=by
   rw [Nat.add_mod,Nat.mod_eq_of_lt (show 1 < L.length by omega),Nat.mod_eq_of_lt h1]
  have e2:(q+1) / L.length=q / L.length:=by
   have a:=Nat.div_add_mod (q+1) L.length
   have a2:=Nat.div_add_mod q L.length
   rw [e1] at a
   have b:L.length*((q+1) / L.length)=L.length*(q / L.length):=by omega
   exact Nat.eq_of_mul_eq_mul_left (by omega) b
  have hx:L[q % L.length]?=some (L[q % L.length]'(by omega)):=List.getElem?_eq_getElem (by omega)
  have hy:L[q % L.length+1]?=some (L[q % L.length+1]'h1):=List.getElem?_eq_getElem h1
  have:=List.pairwise_iff_getElem.1 hr.cv.pw (q % L.length) (q % L.length+1) (by omega) h1 (by omega)
  unfold bX bY
  rw [e1,e2,hx,hy]
  simp only [Option.getD_some]
  omega
 ·have hm:=Nat.mod_lt q h
  have h2:q % L.length+1=L.length:=by omega
  have a2:=Nat.div_add_mod q L.length
  have e3:q+1=(q / L.length+1)*L.length:=by
   rw [Nat.add_mul,Nat.mul_comm];omega
  have e2:(q+1) / L.length=q / L.length+1:=by rw [e3];exact Nat.mul_div_left _ (by omega)
  have b1:=QN hr h q
  have b2:=QN hr h (q+1)
  rw [e2,Int.natCast_succ,Int.add_mul] at b2
  omega
theorem zdx {g:Gts} {L:List (Int×Int)} (hr:gn g L) (h:0 < L.length) {q r:Nat} (hq:q < r):bY g L q < bX g L r:=by
 obtain ⟨d,rfl⟩:∃d,r=q+1+d:=⟨r - q - 1,by omega⟩
 induction d with
 |zero=>exact zAv hr h q
 |succ d ih=>
  have:=ih (by omega)
  have:=QN hr h (q+1+d)
  have:=zAv hr h (q+1+d)
  rw [show q+1+(d+1)=q+1+d+1 from rfl]
  omega
theorem zEE {g:Gts} {L:List (Int×Int)} (hr:gn g L) (h:0 < L.length) {t:Int} (h1:at0 g≤t) (h2:t < at0 g+g.2+g.2):opT g t=true↔∃q,q < 2*L.length∧bX g L q≤t∧t < bY g L q:=by
 have lo:∀q,q < L.length→bX g L q=((L[q]?).getD (0,0)).1∧bY g L q=((L[q]?).getD (0,0)).2:=fun q hq=>by
  unfold bX bY;rw [Nat.mod_eq_of_lt hq,Nat.div_eq_of_lt hq];simp
 rcases Int.lt_or_le t (at0 g+g.2) with h3 | h3
 ·rw [hr.cv.iff t h1 h3]
  constructor
  ·rintro ⟨p,hp,h4,h5⟩
   obtain ⟨k,hk,hk2⟩:=yG hp
   obtain ⟨e1,e2⟩:=lo k hk
   rw [hk2] at e1 e2
   exact ⟨k,by omega,by rw [e1];exact h4,by rw [e2];exact h5⟩
  ·rintro ⟨q,hq,h4,h5⟩
   rcases Nat.lt_or_ge q L.length with h6 | h6
   ·obtain ⟨e1,e2⟩:=lo q h6
    have hx:L[q]?=some L[q]:=List.getElem?_eq_getElem h6
    rw [hx] at e1 e2
    exact ⟨L[q],List.getElem_mem h6,by rw [e1] at h4;exact h4,by rw [e2] at h5;exact h5⟩
   ·have:=QN hr h q
    have hd:q / L.length=1:=by
     have:q / L.length < 2:=Nat.div_lt_of_lt_mul (by omega)
     have:1≤q / L.length:=(Nat.le_div_iff_mul_le h).2 (by omega)
     omega
    rw [hd] at this
    omega
 ·have hp:=zy2 g (t - g.2)
  rw [Int.sub_add_cancel] at hp
  rw [hp,hr.cv.iff (t - g.2) (by omega) (by omega)]
  constructor
  ·rintro ⟨p,hp,h4,h5⟩
   obtain ⟨k,hk,hk2⟩:=yG hp
   obtain ⟨e1,e2⟩:=lo k hk
   rw [hk2] at e1 e2
   simp only [Option.getD_some] at e1 e2
   obtain ⟨a1,a2⟩:=zrO g h k
   exact ⟨k+L.length,by omega,by omega,by omega⟩
  ·rintro ⟨q,hq,h4,h5⟩
   rcases Nat.lt_or_ge q L.length with h6 | h6
   ·have:=QN hr h q
    rw [Nat.div_eq_of_lt h6] at this
    omega
   ·obtain ⟨k,rfl⟩:∃k,q=k+L.length:=⟨q - L.length,by omega⟩
    have h7:k < L.length:=by omega
    obtain ⟨a1,a2⟩:=zrO g h k
    obtain ⟨e1,e2⟩:=lo k h7
    have hx:L[k]?=some L[k]:=List.getElem?_eq_getElem h7
    rw [hx] at e1 e2
    simp only [Option.getD_some] at e1 e2
    exact ⟨L[k],List.getElem_mem h7,by omega,by omega⟩
def mn (g:Gts) (L:List (Int×Int)) (lost:Int) (q:Nat):Int:=min (bY g L q - bX g L q) lost
def fr (g:Gts) (L:List (Int×Int)) (lost:Int) (i:Nat):Int:=bY g L i - mn g L lost i
def tt (g:Gts) (L:List (Int×Int)) (lost:Int) (j:Nat):Int:=bX g L j+mn g L lost j
def wg (g:Gts) (L:List (Int×Int)) (lost:Int) (q:Nat):Int:=max 0 (bY g L q - bX g L q - lost)
def jk (g:Gts) (L:List (Int×Int)) (lost:Int) (i:Nat):Nat→Int
 |0=>0
 |k+1=>jk g L lost i k+wg g L lost (i+1+k)
def snt (g:Gts) (L:List (Int×Int)) (lost:Int) (i j:Nat):Int:=jk g L lost i (j - i - 1)
def pcs (g:Gts) (L:List (Int×Int)) (lost:Int) (i j n:Nat):List (Int×Int):=(List.range n).map fun d=>(max (fr g L lost i) (bX g L (i+d)),min (tt g L lost j) (bY g L (i+d)))
theorem zEF {g:Gts} {L:List (Int×Int)} (hr:gn g L) (h:0 < L.length) {lost:Int} (hl:0 < lost) {i j:Nat} (hi:i < L.length) (hij:i≤j) (hj:j < 2*L.length) (hf:fr g L lost i < tt g L lost j):Cov (opT g) (fr g L lost i) (tt g L lost j) (pcs g L lost i j (j - i+1)):=by
 have xi:=QN hr h i;have xj:=QN hr h j
 rw [Nat.div_eq_of_lt hi] at xi
 have hdj:j / L.length≤1:=by
  have:j / L.length < 2:=Nat.div_lt_of_lt_mul (by omega)
  omega
 have hjm:((j / L.length:Nat):Int)*g.2≤g.2:=by
  have h1:j / L.length=0∨j / L.length=1:=Nat.le_one_iff_eq_zero_or_eq_one.1 hdj
  have hpos:0≤g.2:=by omega
  rcases h1 with h1 | h1<;>rw [h1]<;>simp<;>omega
 refine ⟨fun p hp=>?_,?_,fun t t1 t2=>?_⟩
 ·obtain ⟨d,hd,rfl⟩:=List.mem_map.1 hp
  have hd:=List.mem_range.1 hd
  have x:=QN hr h (i+d)
  have lo:bX g L (i+d) < tt g L lost j:=by
   rcases Nat.lt_or_ge (i+d) j with h1 | h1
   ·have:=zdx hr h h1
    unfold tt mn;omega
   ·have:i+d=j:=by omega
    rw [this];unfold tt mn;omega
  have hi:fr g L lost i < bY g L (i+d):=by
   rcases Nat.eq_zero_or_pos d with h1 | h1
   ·rw [h1,Nat.add_zero];unfold fr mn;omega
   ·have:=zdx hr h (show i < i+d by omega)
    unfold fr mn;omega
  simp only
  omega
 ·unfold pcs
  rw [List.pairwise_map]
  refine List.Pairwise.imp ?_ (List.pairwise_lt_range)
  intro d e hde
  have:=zdx hr h (show i+d < i+e by omega)
  simp only
  omega
 ·have f1:bX g L i≤fr g L lost i:=by unfold fr mn;omega
  have g1:tt g L lost j≤bY g L j:=by unfold tt mn;omega
  rw [zEE hr h (t:=t) (by omega) (by omega)]
  constructor
  ·rintro ⟨q,hq,h4,h5⟩
   have h6:i≤q:=by
    apply Classical.byContradiction
    intro hn
    have:=zdx hr h (show q < i by omega)
    omega
   have h7:q≤j:=by
    apply Classical.byContradiction
    intro hn
    have:=zdx hr h (show j < q by omega)
    omega
   refine ⟨_,List.mem_map.2 ⟨q - i,List.mem_range.2 (by omega),rfl⟩,?_,?_⟩
   ·rw [show i+(q - i)=q by omega];simp only;omega
   ·rw [show i+(q - i)=q by omega];simp only;omega
  ·rintro ⟨p,hp,h4,h5⟩
   obtain ⟨d,hd,rfl⟩:=List.mem_map.1 hp
   have hd:=List.mem_range.1 hd
   simp only at h4 h5
   exact ⟨i+d,by omega,by omega,by omega⟩
theorem zml (lost:Int) (l:List (Int×Int)) (p:Int×Int):qV lost (l++[p])=qV lost l+max 0 (p.2 - p.1 - lost):=by
 unfold qV;simp
theorem zDs {g:Gts} {L:List (Int×Int)} (hr:gn g L) (h:0 < L.length) {lost:Int} (hl:0 < lost) {i j:Nat} (hij:i≤j) (hf:fr g L lost i < tt g L lost j):qV lost (pcs g L lost i j (j - i+1))=snt g L lost i j:=by
 have xi:=QN hr h i;have xj:=QN hr h j
 have first:∀d,d=0→max 0 (min (tt g L lost j) (bY g L (i+d)) - max (fr g L lost i) (bX g L (i+d)) - lost)=0:=by
  rintro d rfl
  rw [Nat.add_zero]
  unfold fr mn;omega
 have last:∀d,i+d=j→max 0 (min (tt g L lost j) (bY g L (i+d)) - max (fr g L lost i) (bX g L (i+d)) - lost)=0:=by
  intro d hd
  rw [hd]
  unfold tt mn;omega
 have mid:∀d,0 < d→i+d < j→max 0 (min (tt g L lost j) (bY g L (i+d)) - max (fr g L lost i) (bX g L (i+d)) - lost)=wg g L lost (i+d):=by
  intro d h1 h2
  have a1:=zdx hr h (show i < i+d by omega)
  have a2:=zdx hr h h2
  have a3:=QN hr h (i+d)
  unfold wg fr tt mn
  omega
 have key:∀n,n < j - i→qV lost (pcs g L lost i j (n+1))=jk g L lost i n:=by
  intro n
  induction n with
  |zero=>
   intro _
   unfold pcs qV jk
   simp only [Nat.zero_add,List.range_one,List.map_cons,List.map_nil,List.sum_cons,List.sum_nil]
   have:=first 0 rfl
   omega
  |succ n ih=>
   intro hn
   have e:pcs g L lost i j (n+1+1)=pcs g L lost i j (n+1)++[(max (fr g L lost i) (bX g L (i+(n+1))),min (tt g L lost j) (bY g L (i+(n+1))))]:=by
    unfold pcs;rw [List.range_succ,List.map_append];rfl
   rw [e,zml,ih (by omega)]
   simp only
   rw [mid (n+1) (by omega) (by omega)]
   unfold jk
   rw [show i+1+n=i+(n+1) by omega]
   cases n<;>rfl
 unfold snt
 rcases Nat.eq_zero_or_pos (j - i) with h0 | h0
 ·have hj:i=j:=by omega
  rw [h0]
  unfold pcs qV jk
  simp only [Nat.zero_add,List.range_one,List.map_cons,List.map_nil,List.sum_cons,List.sum_nil,Nat.zero_sub]
  have:=first 0 rfl
  omega
 ·obtain ⟨n,hn⟩:∃n,j - i=n+1:=⟨j - i - 1,by omega⟩
  have e:pcs g L lost i j (n+1+1)=pcs g L lost i j (n+1)++[(max (fr g L lost i) (bX g L (i+(n+1))),min (tt g L lost j) (bY g L (i+(n+1))))]:=by
   unfold pcs;rw [List.range_succ,List.map_append];rfl
  rw [hn,e,zml,key n (by omega)]
  simp only
  rw [last (n+1) (by omega)]
  rw [Nat.add_sub_cancel];omega
theorem zmm {g:Gts} (hg:qz g) {L:List (Int×Int)} (hr:gn g L) (h:0 < L.length) {q:Nat} (hq:q < 2*L.length):0≤bX g L q∧bY g L q≤30000000:=by
 have x:=QN hr h q
 have h0b:=zmk hg;have hc:=hg.c1;have hp:=hg.pos
 have h1:q / L.length=0∨q / L.length=1:=by
  have:q / L.length < 2:=Nat.div_lt_of_lt_mul (by omega)
  exact Nat.le_one_iff_eq_zero_or_eq_one.1 (Nat.le_of_lt_succ this)
 rcases h1 with h1 | h1<;>rw [h1] at x<;>simp at x<;>omega
theorem zrP {g:Gts} (hg:qz g) (ha:¬Ym g.1) {L:List (Int×Int)} (hr:gn g L) (h:0 < L.length) {per most:Int} (p0:1≤per) (p1:per≤1000) (m0:84≤most) (m1:most≤1542) {i j:Nat} (hi:i < L.length) (hij:i≤j) (hj:j < 2*L.length) (hl:0 < most*per) (hl2:most*per≤1542000)
  (hf:fr g L (most*per) i < tt g L (most*per) j):Xp (g,per,most,fr g L (most*per) i,tt g L (most*per) j - fr g L (most*per) i,())=some (snt g L (most*per) i j - 127*per,()):=by
 have bi:=zmm hg hr h (show i < 2*L.length by omega);have bj:=zmm hg hr h hj
 have xi:=QN hr h i;have xj:=QN hr h j
 have f1:bX g L i≤fr g L (most*per) i:=by unfold fr mn;omega
 have g1:tt g L (most*per) j≤bY g L j:=by unfold tt mn;omega
 obtain ⟨l,e,hc⟩:=zcI hg (a:=fr g L (most*per) i) (b:=tt g L (most*per) j) (by omega) (by omega) (by omega)
 have hcv:=zEF hr h hl hi hij hj hf
 have hgn:=zDs hr h hl hij hf
 have:=zpI hc hcv
 subst this
 have hb:=XC (lost:=most*per) (by omega) (a:=fr g L (most*per) i) (b:=tt g L (most*per) j) (by omega) hc.bd hc.pw
 rw [zpk];unfold zdf
 simp only [QM hg,zD,qu ha,cond_false]
 rw [show wrF .i64 (fr g L (most*per) i+(tt g L (most*per) j - fr g L (most*per) i))=tt g L (most*per) j from by rw [zy]<;>omega,e,zD,show wrF .i64 (most*per)=most*per from zy (by omega) (by omega),zjT (by omega) (by omega) (a:=fr g L (most*per) i) (b:=tt g L (most*per) j) (by omega) hc.bd hc.pw (by omega) (by omega),zD]
 rw [show wrF .i64 (127*per)=127*per from zy (by omega) (by omega),hgn]
 rw [hgn] at hb
 rw [zy (by omega) (by omega)]
def mxK (c:Nat→Bool) (V:Nat→Int):Nat→Int→Int
 |0,a=>a
 |k+1,a=>bif c k then max (mxK c V k a) (V k) else mxK c V k a
def mxN (c:Nat→Nat→Bool) (V:Nat→Nat→Int) (K:Nat):Nat→Int→Int
 |0,a=>a
 |n+1,a=>mxK (c n) (V n) K (mxN c V K n a)
theorem zBR (c:Nat→Bool) (V:Nat→Int):∀(k:Nat) (a:Int),a≤mxK c V k a∧∀q,q < k→c q=true→V q≤mxK c V k a
 |0,a=>⟨Int.le_refl _,fun q hq=>by omega⟩
 |k+1,a=>by
  obtain ⟨h1,h2⟩:=zBR c V k a
  unfold mxK
  cases hc:c k with
  |true=>
   rw [cond_true]
   refine ⟨by omega,fun q hq hcq=>?_⟩
   rcases Nat.lt_or_ge q k with h | h
   ·have:=h2 q h hcq;omega
   ·have:q=k:=by omega
    subst this;omega
  |false=>
   rw [cond_false]
   refine ⟨h1,fun q hq hcq=>?_⟩
   rcases Nat.lt_or_ge q k with h | h
   ·exact h2 q h hcq
   ·have:q=k:=by omega
    subst this;rw [hc] at hcq;cases hcq
theorem zBS (c:Nat→Bool) (V:Nat→Int):∀(k:Nat) (a:Int),mxK c V k a=a∨∃q,q < k∧c q=true∧mxK c V k a=V q
 |0,a=>.inl rfl
 |k+1,a=>by
  have ih:=zBS c V k a
  unfold mxK
  cases hc:c k with
  |true=>
   rw [cond_true]
   rcases Int.le_total (V k) (mxK c V k a) with h | h
   ·rw [show max (mxK c V k a) (V k)=mxK c V k a by omega]
    rcases ih with h1 | ⟨q,h1,h2,h3⟩
    ·exact .inl h1
    ·exact .inr ⟨q,by omega,h2,h3⟩
   ·exact .inr ⟨k,by omega,hc,by omega⟩
  |false=>
   rw [cond_false]
   rcases ih with h1 | ⟨q,h1,h2,h3⟩
   ·exact .inl h1
   ·exact .inr ⟨q,by omega,h2,h3⟩
theorem zmn (c:Nat→Nat→Bool) (V:Nat→Nat→Int) (K:Nat):∀(n:Nat) (a:Int),a≤mxN c V K n a∧∀i q,i < n→q < K→c i q=true→V i q≤mxN c V K n a
 |0,a=>⟨Int.le_refl _,fun i q hi=>by omega⟩
 |n+1,a=>by
  obtain ⟨h1,h2⟩:=zmn c V K n a
  obtain ⟨h3,h4⟩:=zBR (c n) (V n) K (mxN c V K n a)
  unfold mxN
  refine ⟨by omega,fun i q hi hq hc=>?_⟩
  rcases Nat.lt_or_ge i n with h | h
  ·have:=h2 i q h hq hc;omega
  ·have:i=n:=by omega
   subst this;exact h4 q hq hc
theorem zmo (c:Nat→Nat→Bool) (V:Nat→Nat→Int) (K:Nat):∀(n:Nat) (a:Int),mxN c V K n a=a∨∃i q,i < n∧q < K∧c i q=true∧mxN c V K n a=V i q
 |0,a=>.inl rfl
 |n+1,a=>by
  unfold mxN
  rcases zBS (c n) (V n) K (mxN c V K n a) with h | ⟨q,h1,h2,h3⟩
  ·rw [h]
   rcases zmo c V K n a with h | ⟨i,q,h1,h2,h3,h4⟩
   ·exact .inl h
   ·exact .inr ⟨i,q,by omega,h2,h3,h4⟩
  ·exact .inr ⟨n,q,by omega,h1,h2,h3⟩
section
variable {g:Gts} {L:List (Int×Int)} {lost:Int}
theorem zBT (h:0 < L.length) (q:Nat):wg g L lost (q+L.length)=wg g L lost q:=by
 obtain ⟨a1,a2⟩:=zrO g h q
 unfold wg;rw [a1,a2];congr 1;omega
theorem zgr (i a:Nat):∀b,jk g L lost i (a+b)=jk g L lost i a+jk g L lost (i+a) b
 |0=>by rw [Nat.add_zero];show _=_+0;omega
 |b+1=>by
  show jk g L lost i (a+b)+wg g L lost (i+1+(a+b))=_+(jk g L lost (i+a) b+wg g L lost (i+a+1+b))
  rw [zgr i a b,show i+1+(a+b)=i+a+1+b by omega];omega
theorem zBU (i:Nat):jk g L lost i 1=wg g L lost (i+1):=by show 0+wg g L lost (i+1+0)=_;rw [Nat.add_zero];omega
theorem zAw (h:0 < L.length) (i:Nat):jk g L lost (i+1) L.length=jk g L lost i L.length:=by
 have e1:=zgr (g:=g) (L:=L) (lost:=lost) i 1 L.length
 have e2:=zgr (g:=g) (L:=L) (lost:=lost) i L.length 1
 rw [Nat.add_comm 1] at e1
 rw [zBU] at e1 e2
 have:=zBT (g:=g) (L:=L) (lost:=lost) h (i+1)
 rw [show i+1+L.length=i+L.length+1 by omega] at this
 omega
theorem zBV (h:0 < L.length):∀i,jk g L lost i L.length=qV lost L:=by
 have base:jk g L lost (L.length - 1) L.length=qV lost L:=by
  have key:∀n,n≤L.length→jk g L lost (L.length - 1) n=qV lost (L.take n):=by
   intro n
   induction n with
   |zero=>intro _;rfl
   |succ n ih=>
    intro hn
    have hx:L[n]?=some L[n]:=List.getElem?_eq_getElem (by omega)
    have e:L.take (n+1)=L.take n++[L[n]]:=by rw [List.take_add_one,hx];rfl
    rw [e,zml,←ih (by omega)]
    show jk g L lost (L.length - 1) n+wg g L lost (L.length - 1+1+n)=_
    rw [show L.length - 1+1+n=n+L.length by omega,zBT h]
    unfold wg bX bY
    rw [Nat.mod_eq_of_lt (show n < L.length by omega),hx]
    simp only [Option.getD_some]
    congr 1;congr 1;omega
  rw [key _ (Nat.le_refl _),List.take_length]
 have z:∀i,jk g L lost i L.length=jk g L lost 0 L.length:=by
  intro i
  induction i with
  |zero=>rfl
  |succ i ih=>rw [zAw h,ih]
 intro i
 rw [z,←base,z (L.length - 1)]
theorem zi5 (hr:gn g L) (h:0 < L.length) (hl:0≤lost) (i:Nat):∀k,0≤jk g L lost i k∧jk g L lost i k≤bX g L (i+1+k) - bX g L (i+1)
 |0=>by rw [Nat.add_zero];show (0:Int)≤0∧(0:Int)≤_;omega
 |k+1=>by
  have ih:=zi5 hr h hl i k
  have x:=QN hr h (i+1+k)
  have s:=zAv hr h (i+1+k)
  rw [show i+1+(k+1)=i+1+k+1 from rfl]
  show 0≤jk g L lost i k+wg g L lost (i+1+k)∧jk g L lost i k+wg g L lost (i+1+k)≤_
  unfold wg
  omega
theorem zEG (hr:gn g L) (h:0 < L.length) {q r:Nat} (hq:q≤r):bX g L q≤bX g L r:=by
 rcases Nat.lt_or_ge q r with h1 | h1
 ·have:=zdx hr h h1;have:=QN hr h q;omega
 ·have:q=r:=by omega
  rw [this];exact Int.le_refl _
theorem ztz (hr:gn g L) (h:0 < L.length) (hl:0≤lost) (i:Nat) {k:Nat} (hk:k≤L.length):0≤jk g L lost i k∧jk g L lost i k≤g.2:=by
 have:=zi5 hr h hl i k
 have:=zEG hr h (show i+1+k≤i+1+L.length by omega)
 have:=(zrO g h (i+1)).1
 omega
end
theorem Xg {a b:Int} (h1:0 < b) (h2:b≤1000000000000) (h3 : -1000000000000000000≤a) (h4:a≤1000000000000000000):xS (a,b,())=some (a / b,()):=by
 have a1 : -b < Int.tmod a b:=Int.lt_tmod_of_pos a h1
 have a2:Int.tmod a b < b:=Int.tmod_lt_of_pos a h1
 have m1:=Int.emod_nonneg a (show b≠0 by omega)
 have m2:=Int.emod_lt_of_pos a h1
 have em:Int.tmod (wrF .i64 (Int.tmod a b+b)) b=a % b:=by
  rw [zy (by omega) (by omega),Int.tmod_eq_emod_of_nonneg (by omega),Int.add_emod_right]
  have:=Int.tmod_add_mul_tdiv a b
  calc Int.tmod a b % b=(Int.tmod a b+b*Int.tdiv a b) % b:=by rw [Int.add_mul_emod_self_left]
   _=a % b:=by rw [this]
 have e:Jq (a,b,())=some (a % b,()):=by
  rw [zo8];unfold zc7
  rw [jS (show b≠0 by omega),em];rfl
 rw [zhB];unfold Vu
 rw [e,zD,jS (show b≠0 by omega),cond_false]
 have hq:=Int.emod_add_mul_ediv a b
 have hd:a - a % b=b*(a / b):=by omega
 rw [zy (z:=a - a % b) (by omega) (by omega),hd,Int.mul_tdiv_cancel_left _ (by omega)]
 have : -1000000000000000001≤a / b:=by
  have:(-1000000000000000001)*b≤a:=by
   have:(-1000000000000000001)*b≤(-1000000000000000001)*1:=Int.mul_le_mul_of_nonpos_left (by omega) (by omega)
   omega
  exact Int.le_ediv_of_mul_le h1 this
 have:a / b≤1000000000000000000:=by
  rcases Int.le_total 0 a with h | h
  ·exact Int.le_trans (Int.ediv_le_self b h) h4
  ·have:a / b≤0:=Int.ediv_nonpos_of_nonpos_of_neg h h1
   omega
 rw [zy (by omega) (by omega)]
def cl (d w:Int):Int:=(w+d - 1) / d
theorem zhR {d a b:Int} (hd:0 < d) (h:a≤b):cl d a≤cl d b:=Int.ediv_le_ediv hd (by omega)
theorem zBW {d l z:Int} (hd:0 < d):cl d (l*d - z)=l - z / d:=by
 unfold cl
 have h:=Int.emod_add_mul_ediv z d
 have h1:=Int.emod_nonneg z (show d≠0 by omega)
 have h2:=Int.emod_lt_of_pos z hd
 have e:l*d - z+d - 1=(d - 1 - z % d)+(l - z / d)*d:=by
  rw [Int.sub_mul,Int.mul_comm (z / d) d];omega
 rw [e,Int.add_mul_ediv_right _ _ (by omega),Int.ediv_eq_zero_of_lt (by omega) (by omega)];omega
end Go.Proofs.YtplhphmbkmpocaaGreat.ad
end
