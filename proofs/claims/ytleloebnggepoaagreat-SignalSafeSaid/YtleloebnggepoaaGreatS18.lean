/- Parts of a proof, joined. -/
import Derived.Test.YtleloebnggepoaaGreatS17
set_option linter.unusedSectionVars false
set_option linter.unusedVariables false
set_option linter.unusedSimpArgs false
set_option maxHeartbeats 0
set_option maxRecDepth 100000
noncomputable section
namespace Go.Proofs.YtleloebnggepoaaGreat.sg
open Go Go.Fz Go.Fz.Sy
abbrev rT:T zY:=(4,([true,false,false,true],[(0,(1,(8,5))),(1,(2,(8,5))),(2,(3,(8,5)))]))
abbrev rF:T qL:=(rT,((100,(2,(10,8000))),([([(127,100)],100),([(127,100)],100),([(127,100)],100),([(127,100)],100),([(127,100)],100),([(127,100)],100)],200)))
def zyv (x:T zE):Bool:=bif eqT (.list (.list I)) x.2.2.2.2.2.2.2.2 [[0,2,4]] then true else eqT (.list (.list I)) x.2.2.2.2.2.2.2.2 [[5,3,1]]
def ZO:za→(zz×Unit)→Option (za×((List Int)×Unit)):=fun s a=>bif eqT qL s.1 rF then bif zyv a.1 then some (s,(N4,())) else none else none
theorem zCM {P:Program} {f:FuncId} {ty:Ty} {a b:List VT} {F G:T ty→T (ql a)→Option (T ty×T (ql b))} (h:yJ.Ok P f ⟨ty,a,b,F⟩) (hg:∀s x r,G s x=some r→F s x=some r):yJ.Ok P f ⟨ty,a,b,G⟩:=⟨h.1,fun x y z e=>h.2 x y z (hg x y z e)⟩
theorem zA6 (s:za) (a:zz×Unit) (r:za×((List Int)×Unit)) (h:ZO s a=some r):yz s a=some r:=by
 obtain ⟨x,⟨⟩⟩:=a
 unfold ZO at h
 cases h1:eqT qL s.1 rF with
 |false=>rw [h1] at h;cases h
 |true=>
  rw [h1] at h
  cases h2:zyv x with
  |false=>rw [cond_true,show zyv ((x,()):zz×Unit).1=false from h2] at h;cases h
  |true=>
   rw [cond_true,show zyv ((x,()):zz×Unit).1=true from h2] at h
   have hr:zaU x:=by
    unfold zyv at h2
    cases h3:eqT (.list (.list I)) x.2.2.2.2.2.2.2.2 [[0,2,4]] with
    |true=>exact .inl (zgn (.list (.list I)) _ _ h3)
    |false=>rw [h3] at h2;exact .inr (zgn (.list (.list I)) _ _ h2)
   rw [znN (zgn qL _ _ h1) hr]
   exact h
def zpx:(Unit)→Option (jI×Unit):=sF Tryz.prog [] (fun _ _ _ _=>none) (fun _ _=>false) 100 15 YL YM
theorem zuk:Con.Ok Tryz.prog 15 ⟨YL,YM,zpx⟩:=zy zi zm (by kernel_rfl)
def zpy:(qi×Int×Unit)→Option (Bool×Unit):=sF Tryz.prog [] (fun _ _ _ _=>none) (fun _ _=>false) 100 93 Kv Kw
theorem zul:Con.Ok Tryz.prog 93 ⟨Kv,Kw,zpy⟩:=zy zi zm (by kernel_rfl)
def znO:(qi×Unit)→Option (Bool×Unit):=sF Tryz.prog [(93,⟨Kv,Kw,zpy⟩)] (fun _ _ _ _=>none) (fun _ _=>false) 100 59 Xr Xt
theorem zsw:Con.Ok Tryz.prog 59 ⟨Xr,Xt,znO⟩:=zy (zf zul zi) zm (by kernel_rfl)
def znP:(qi×Int×(Bool×(Bool×(Bool×(Bool×(Bool×(Bool×(Bool×(Bool×(Bool×(Bool×(Bool×(Bool×(Bool×(Bool×(Bool×(Bool×(Bool×(Bool×(Bool×(Bool×(Bool×(Bool×(Bool×Bool)))))))))))))))))))))))×Unit)→Option ((List Bool)×Unit):=sF Tryz.prog [] (fun _ _ _ _=>none) (fun _ _=>false) 100 61 Xv Xw
theorem zsx:Con.Ok Tryz.prog 61 ⟨Xv,Xw,znP⟩:=zy zi zm (by kernel_rfl)
def Kq:((List Bool)×Bool×Unit)→Option (Int×Unit):=sF Tryz.prog [] (fun _ _ _ _=>none) (fun _ _=>false) 100 97 xn xp
theorem zcD:Con.Ok Tryz.prog 97 ⟨xn,xp,Kq⟩:=zy zi zm (by kernel_rfl)
def YW:((List Bool)×Bool×Unit)→Option (Bool×Unit):=sF Tryz.prog [(97,⟨xn,xp,Kq⟩)] (fun _ _ _ _=>none) (fun _ _=>false) 100 60 yD yE
theorem zaV:Con.Ok Tryz.prog 60 ⟨yD,yE,YW⟩:=zy (zf zcD zi) zm (by kernel_rfl)
def zyw:(qi×Unit)→Option (Int×Unit):=sF Tryz.prog [(59,⟨Xr,Xt,znO⟩),(61,⟨Xv,Xw,znP⟩),(60,⟨yD,yE,YW⟩)] (fun _ _ _ _=>none) (fun _ _=>false) 100 41 wL wM
theorem zsy:Con.Ok Tryz.prog 41 ⟨wL,wM,zyw⟩:=zy (zf zsw (zf zsx (zf zaV zi))) zm (by kernel_rfl)
def Wu:T (ql wL)→Option (T (ql wM)):=Ux [((rT,()),(0,()))]
theorem Jf:Con.Ok Tryz.prog 41 ⟨wL,wM,Wu⟩:=Uy zsy (QC (by kernel_rfl) zaB)
def Kd:(Int×Int×Int×Unit)→Option (Bool×Unit):=sF Tryz.prog [] (fun _ _ _ _=>none) (fun _ _=>false) 100 63 xP xQ
theorem KQ:Con.Ok Tryz.prog 63 ⟨xP,xQ,Kd⟩:=zy zi zm (by kernel_rfl)
def zcO:(zfK×Unit)→Option (Int×Unit):=sF Tryz.prog [(63,⟨xP,xQ,Kd⟩)] (fun _ _ _ _=>none) (fun _ _=>false) 100 45 ka ke
theorem ziK:Con.Ok Tryz.prog 45 ⟨ka,ke,zcO⟩:=zy (zf KQ zi) zm (by kernel_rfl)
def zan:(jf×Unit)→Option (Int×Unit):=sF Tryz.prog [] (fun _ _ _ _=>none) (fun _ _=>false) 100 46 uE uF
theorem zaW:Con.Ok Tryz.prog 46 ⟨uE,uF,zan⟩:=zy zi zm (by kernel_rfl)
def zl4:(jI×Unit)→Option (Int×Unit):=sF Tryz.prog [(41,⟨wL,wM,Wu⟩),(45,⟨ka,ke,zcO⟩),(46,⟨uE,uF,zan⟩)] (fun _ _ _ _=>none) (fun _ _=>false) 100 29 yq yr
theorem ziL:Con.Ok Tryz.prog 29 ⟨yq,yr,zl4⟩:=zy (zf Jf (zf ziK (zf zaW zi))) zm (by kernel_rfl)
def KR:T (ql yq)→Option (T (ql yr)):=Ux [((rF,()),(0,()))]
theorem zab:Con.Ok Tryz.prog 29 ⟨yq,yr,KR⟩:=Uy ziL (QC (by kernel_rfl) zaB)
def znQ:(jI×Unit)→Option (qj×Int×Unit):=sF Tryz.prog [(29,⟨yq,yr,KR⟩)] (fun _ _ _ _=>none) (fun _ _=>false) 100 14 Wb Wc
theorem zsz:Con.Ok Tryz.prog 14 ⟨Wb,Wc,znQ⟩:=zy (zf zab zi) zm (by kernel_rfl)
def zh9:(Unit)→Option (zz×Unit):=sF Tryz.prog [] (fun _ _ _ _=>none) (fun _ _=>false) 100 17 zbK zbL
theorem znR:Con.Ok Tryz.prog 17 ⟨zbK,zbL,zh9⟩:=zy zi zm (by kernel_rfl)
def zia:(Int×Unit)→Option (Bool×Unit):=sF Tryz.prog [] (fun _ _ _ _=>none) (fun _ _=>false) 100 55 QS QT
theorem znS:Con.Ok Tryz.prog 55 ⟨QS,QT,zia⟩:=zy zi zm (by kernel_rfl)
def Xi:(Int×Int×Unit)→Option (Int×Unit):=sF Tryz.prog [(55,⟨QS,QT,zia⟩)] (fun _ _ _ _=>none) (fun _ _=>false) 100 37 wu wv
theorem Ke:Con.Ok Tryz.prog 37 ⟨wu,wv,Xi⟩:=zy (zf znS zi) zm (by kernel_rfl)
def kr:za→(Int×Unit)→Option (za×(Int×qE×Bool×Unit)):=sP Tryz.prog ⟨[],[]⟩ [(37,⟨wu,wv,Xi⟩)] (fun _ _ _ _=>none) (fun _ _=>false) 100 24 ze qI qJ
theorem gq:yJ.Ok Tryz.prog 24 ⟨ze,qI,qJ,kr⟩:=xk ⟨qy,js⟩ (zf Ke zi) zm (by kernel_rfl)
def Jg:((List qE)×Int×Bool×qE×Unit)→Option ((List qE)×Unit):=sF Tryz.prog [] (fun _ _ _ _=>none) (fun _ _=>false) 100 75 jb jc
theorem Wv:Con.Ok Tryz.prog 75 ⟨jb,jc,Jg⟩:=zy zi zm (by kernel_rfl)
def vQ:za→(zJ×Unit)→Option (za×(Unit)):=sP Tryz.prog ⟨[],[]⟩ [] (fun _ _ _ _=>none) (fun _ _=>false) 100 52 ze qe qf
theorem vZ:yJ.Ok Tryz.prog 52 ⟨ze,qe,qf,vQ⟩:=xk ⟨qy,js⟩ zi zm (by kernel_rfl)
def gr:za→(qE×Unit)→Option (za×(Unit)):=sP Tryz.prog ⟨[],[(52,⟨ze,qe,qf,vQ⟩)]⟩ [] (fun _ _ _ _=>none) (fun _ _=>false) 100 33 ze qA qB
theorem Qp:yJ.Ok Tryz.prog 33 ⟨ze,qA,qB,gr⟩:=xk ⟨qy,(zV vZ js)⟩ zi zm (by kernel_rfl)
def zbg:za→(zz×Unit)→Option (za×(Int×Unit)):=sP Tryz.prog ⟨[],[(24,⟨ze,qI,qJ,kr⟩),(33,⟨ze,qA,qB,gr⟩)]⟩ [(75,⟨jb,jc,Jg⟩)] (fun _ _ _ _=>none) (fun _ _=>false) 100 43 ze yZ xa
theorem zhe:yJ.Ok Tryz.prog 43 ⟨ze,yZ,xa,zbg⟩:=xk ⟨qy,(zV gq (zV Qp js))⟩ (zf Wv zi) zm (by kernel_rfl)
def UN:za→(Int×Unit)→Option (za×(Int×Unit)):=sP Tryz.prog ⟨[],[(24,⟨ze,qI,qJ,kr⟩),(33,⟨ze,qA,qB,gr⟩)]⟩ [(75,⟨jb,jc,Jg⟩)] (fun _ _ _ _=>none) (fun _ _=>false) 100 44 ze wZ ya
theorem zet:yJ.Ok Tryz.prog 44 ⟨ze,wZ,ya,UN⟩:=xk ⟨qy,(zV gq (zV Qp js))⟩ (zf Wv zi) zm (by kernel_rfl)
def VA:((List zJ)×Int×Unit)→Option ((List zJ)×Unit):=sF Tryz.prog [] (fun _ _ _ _=>none) (fun _ _=>false) 100 53 yb yc
theorem zco:Con.Ok Tryz.prog 53 ⟨yb,yc,VA⟩:=zy zi zm (by kernel_rfl)
def Ww:za→(Int×Unit)→Option (za×(Int×qw×Bool×Unit)):=sP Tryz.prog ⟨[],[]⟩ [(37,⟨wu,wv,Xi⟩)] (fun _ _ _ _=>none) (fun _ _=>false) 100 107 ze jj jk
theorem VB:yJ.Ok Tryz.prog 107 ⟨ze,jj,jk,Ww⟩:=xk ⟨qy,js⟩ (zf Ke zi) zm (by kernel_rfl)
def Wx:za→(qw×Unit)→Option (za×(Unit)):=sP Tryz.prog ⟨[],[(52,⟨ze,qe,qf,vQ⟩)]⟩ [] (fun _ _ _ _=>none) (fun _ _=>false) 100 108 ze jl jm
theorem VC:yJ.Ok Tryz.prog 108 ⟨ze,jl,jm,Wx⟩:=xk ⟨qy,(zV vZ js)⟩ zi zm (by kernel_rfl)
def zhf:(qi×Int×Unit)→Option (Bool×Unit):=sF Tryz.prog [(63,⟨xP,xQ,Kd⟩)] (fun _ _ _ _=>none) (fun _ _=>false) 100 65 ZW ZX
theorem zl5:Con.Ok Tryz.prog 65 ⟨ZW,ZX,zhf⟩:=zy (zf KQ zi) zm (by kernel_rfl)
def zcP:(Int×Int×Int×Unit)→Option (Bool×Unit):=sF Tryz.prog [] (fun _ _ _ _=>none) (fun _ _=>false) 100 98 kh kj
theorem ziM:Con.Ok Tryz.prog 98 ⟨kh,kj,zcP⟩:=zy zi zm (by kernel_rfl)
def Ve:(jP×Unit)→Option (Int×Unit):=sF Tryz.prog [(98,⟨kh,kj,zcP⟩)] (fun _ _ _ _=>none) (fun _ _=>false) 100 69 xt xu
theorem Xj:Con.Ok Tryz.prog 69 ⟨xt,xu,Ve⟩:=zy (zf ziM zi) zm (by kernel_rfl)
def UO:(Qv×(List Int)×Unit)→Option ((List Int)×Unit):=sF Tryz.prog [] (fun _ _ _ _=>none) (fun _ _=>false) 100 78 vr vu
theorem zbh:Con.Ok Tryz.prog 78 ⟨vr,vu,UO⟩:=zy zi zm (by kernel_rfl)
def UP:(Qv×(List Int)×Unit)→Option (Bool×Unit):=sF Tryz.prog [] (fun _ _ _ _=>none) (fun _ _=>false) 100 102 vv vy
theorem zbi:Con.Ok Tryz.prog 102 ⟨vv,vy,UP⟩:=zy zi zm (by kernel_rfl)
def ze3:(qi×(List Int)×Unit)→Option (Int×Unit):=sF Tryz.prog [(41,⟨wL,wM,Wu⟩),(102,⟨vv,vy,UP⟩)] (fun _ _ _ _=>none) (fun _ _=>false) 100 105 ZA ZB
theorem zhg:Con.Ok Tryz.prog 105 ⟨ZA,ZB,ze3⟩:=zy (zf Jf (zf zbi zi)) zm (by kernel_rfl)
def zlv:(qi×(List Int)×Unit)→Option ((List Int)×Int×Unit):=sF Tryz.prog [(78,⟨vr,vu,UO⟩),(105,⟨ZA,ZB,ze3⟩)] (fun _ _ _ _=>none) (fun _ _=>false) 100 49 kz kA
theorem zqQ:Con.Ok Tryz.prog 49 ⟨kz,kA,zlv⟩:=zy (zf zbh (zf zhg zi)) zm (by kernel_rfl)
def znT:(qi×(List Int)×Unit)→Option (Int×Int×Int×Unit):=sF Tryz.prog [(49,⟨kz,kA,zlv⟩)] (fun _ _ _ _=>none) (fun _ _=>false) 100 99 XA XB
theorem zsA:Con.Ok Tryz.prog 99 ⟨XA,XB,znT⟩:=zy (zf zqQ zi) zm (by kernel_rfl)
def zjQ:(qi×(List Int)×Int×Int×Unit)→Option (Bool×Unit):=sF Tryz.prog [(99,⟨XA,XB,znT⟩)] (fun _ _ _ _=>none) (fun _ _=>false) 100 72 JF JG
theorem zo4:Con.Ok Tryz.prog 72 ⟨JF,JG,zjQ⟩:=zy (zf zsA zi) zm (by kernel_rfl)
def zjR:((List Int)×(List Int)×Unit)→Option (Bool×Unit):=sF Tryz.prog [] (fun _ _ _ _=>none) (fun _ _=>false) 100 103 JH JI
theorem zo5:Con.Ok Tryz.prog 103 ⟨JH,JI,zjR⟩:=zy zi zm (by kernel_rfl)
def Wy:((List Int)×Int×Unit)→Option (Int×Unit):=sF Tryz.prog [] (fun _ _ _ _=>none) (fun _ _=>false) 100 114 wi wj
theorem VD:Con.Ok Tryz.prog 114 ⟨wi,wj,Wy⟩:=zy zi zm (by kernel_rfl)
def VE:((List Int)×Int×Unit)→Option (Bool×Unit):=sF Tryz.prog [(114,⟨wi,wj,Wy⟩)] (fun _ _ _ _=>none) (fun _ _=>false) 100 136 xb xc
theorem zcp:Con.Ok Tryz.prog 136 ⟨xb,xc,VE⟩:=zy (zf VD zi) zm (by kernel_rfl)
def zeu:(Qv×(List Int)×(List Int)×Unit)→Option (Bool×Unit):=sF Tryz.prog [(78,⟨vr,vu,UO⟩),(136,⟨xb,xc,VE⟩)] (fun _ _ _ _=>none) (fun _ _=>false) 100 104 kW kX
theorem zjS:Con.Ok Tryz.prog 104 ⟨kW,kX,zeu⟩:=zy (zf zbh (zf zcp zi)) zm (by kernel_rfl)
def zlw:(qi×(List Int)×(List Int)×Unit)→Option (Bool×Int×Unit):=sF Tryz.prog [(102,⟨vv,vy,UP⟩),(103,⟨JH,JI,zjR⟩),(104,⟨kW,kX,zeu⟩),(105,⟨ZA,ZB,ze3⟩)] (fun _ _ _ _=>none) (fun _ _=>false) 100 74 WS WT
theorem zqR:Con.Ok Tryz.prog 74 ⟨WS,WT,zlw⟩:=zy (zf zbi (zf zo5 (zf zjS (zf zhg zi)))) zm (by kernel_rfl)
def zdA:(qi×zz×Unit)→Option (Bool×Unit):=sF Tryz.prog [(63,⟨xP,xQ,Kd⟩),(65,⟨ZW,ZX,zhf⟩),(69,⟨xt,xu,Ve⟩),(72,⟨JF,JG,zjQ⟩),(74,⟨WS,WT,zlw⟩)] (fun _ _ _ _=>none) (fun _ _=>false) 100 42 kZ gb
theorem zfj:Con.Ok Tryz.prog 42 ⟨kZ,gb,zdA⟩:=zy (zf KQ (zf zl5 (zf Xj (zf zo4 (zf zqR zi))))) zm (by kernel_rfl)
def zfk:(qi×(List zz)×Unit)→Option (Int×Unit):=sF Tryz.prog [(41,⟨wL,wM,Wu⟩),(42,⟨kZ,gb,zdA⟩)] (fun _ _ _ _=>none) (fun _ _=>false) 100 56 gX gY
theorem zk5:Con.Ok Tryz.prog 56 ⟨gX,gY,zfk⟩:=zy (zf Jf (zf zfj zi)) zm (by kernel_rfl)
def Vf:((List Int)×Int×Unit)→Option (Int×Unit):=sF Tryz.prog [] (fun _ _ _ _=>none) (fun _ _=>false) 100 145 yO yP
theorem zbq:Con.Ok Tryz.prog 145 ⟨yO,yP,Vf⟩:=zy zi zm (by kernel_rfl)
def WG:((List Int)×Int×Unit)→Option (Bool×Unit):=sF Tryz.prog [(145,⟨yO,yP,Vf⟩)] (fun _ _ _ _=>none) (fun _ _=>false) 100 119 wX wY
theorem GK:Con.Ok Tryz.prog 119 ⟨wX,wY,WG⟩:=zy (zf zbq zi) zm (by kernel_rfl)
def zjT:(za7×Unit)→Option (Int×Unit):=sF Tryz.prog [] (fun _ _ _ _=>none) (fun _ _=>false) 100 121 JL JM
theorem zo6:Con.Ok Tryz.prog 121 ⟨JL,JM,zjT⟩:=zy zi zm (by kernel_rfl)
def zsB:(qi×Int×Unit)→Option (Int×Int×Unit):=sF Tryz.prog [(41,⟨wL,wM,Wu⟩),(121,⟨JL,JM,zjT⟩)] (fun _ _ _ _=>none) (fun _ _=>false) 100 85 Gj Gk
theorem zvK:Con.Ok Tryz.prog 85 ⟨Gj,Gk,zsB⟩:=zy (zf Jf (zf zo6 zi)) zm (by kernel_rfl)
def zib:(jf×Int×Int×Unit)→Option (Int×Unit):=sF Tryz.prog [(46,⟨uE,uF,zan⟩)] (fun _ _ _ _=>none) (fun _ _=>false) 100 122 QU QV
theorem znU:Con.Ok Tryz.prog 122 ⟨QU,QV,zib⟩:=zy (zf zaW zi) zm (by kernel_rfl)
def zlx:(jf×Int×Int×Int×Unit)→Option (Int×Unit):=sF Tryz.prog [(46,⟨uE,uF,zan⟩)] (fun _ _ _ _=>none) (fun _ _=>false) 100 177 WU WV
theorem zqS:Con.Ok Tryz.prog 177 ⟨WU,WV,zlx⟩:=zy (zf zaW zi) zm (by kernel_rfl)
def znV:(jf×Int×Unit)→Option (Int×Int×Unit):=sF Tryz.prog [] (fun _ _ _ _=>none) (fun _ _=>false) 100 188 XF XG
theorem zsC:Con.Ok Tryz.prog 188 ⟨XF,XG,znV⟩:=zy zi zm (by kernel_rfl)
def znW:(jf×Int×Int×Unit)→Option (Int×Unit):=sF Tryz.prog [(188,⟨XF,XG,znV⟩)] (fun _ _ _ _=>none) (fun _ _=>false) 100 178 XI XJ
theorem zsD:Con.Ok Tryz.prog 178 ⟨XI,XJ,znW⟩:=zy (zf zsC zi) zm (by kernel_rfl)
def znX:(jf×Int×Int×Unit)→Option (Int×Int×Unit):=sF Tryz.prog [(177,⟨WU,WV,zlx⟩),(178,⟨XI,XJ,znW⟩)] (fun _ _ _ _=>none) (fun _ _=>false) 100 157 XL XM
theorem zsE:Con.Ok Tryz.prog 157 ⟨XL,XM,znX⟩:=zy (zf zqS (zf zsD zi)) zm (by kernel_rfl)
def zhh:(jf×Unit)→Option (Bool×Unit):=sF Tryz.prog [(157,⟨XL,XM,znX⟩)] (fun _ _ _ _=>none) (fun _ _=>false) 100 147 Qb Qc
theorem zl6:Con.Ok Tryz.prog 147 ⟨Qb,Qc,zhh⟩:=zy (zf zsE zi) zm (by kernel_rfl)
def zaX:(zfL×Unit)→Option (Bool×Unit):=sF Tryz.prog [] (fun _ _ _ _=>none) (fun _ _=>false) 100 159 ux uz
theorem zcQ:Con.Ok Tryz.prog 159 ⟨ux,uz,zaX⟩:=zy zi zm (by kernel_rfl)
def zfl:(jf×Int×Unit)→Option (Int×Unit):=sF Tryz.prog [(147,⟨Qb,Qc,zhh⟩),(159,⟨ux,uz,zaX⟩)] (fun _ _ _ _=>none) (fun _ _=>false) 100 123 Za Zb
theorem zk6:Con.Ok Tryz.prog 123 ⟨Za,Zb,zfl⟩:=zy (zf zl6 (zf zcQ zi)) zm (by kernel_rfl)
def zly:(Int×Int×Unit)→Option (Int×Unit):=sF Tryz.prog [] (fun _ _ _ _=>none) (fun _ _=>false) 100 149 WX WY
theorem zqT:Con.Ok Tryz.prog 149 ⟨WX,WY,zly⟩:=zy zi zm (by kernel_rfl)
def zev:(Int×Int×Unit)→Option (Int×Unit):=sF Tryz.prog [(149,⟨WX,WY,zly⟩)] (fun _ _ _ _=>none) (fun _ _=>false) 100 125 gf gg
theorem zjU:Con.Ok Tryz.prog 125 ⟨gf,gg,zev⟩:=zy (zf zqT zi) zm (by kernel_rfl)
def zyx:(jf×Int×Int×Unit)→Option (vD×Int×Unit):=sF Tryz.prog [(122,⟨QU,QV,zib⟩),(123,⟨Za,Zb,zfl⟩),(125,⟨gf,gg,zev⟩),(159,⟨ux,uz,zaX⟩)] (fun _ _ _ _=>none) (fun _ _=>false) 100 86 QG QH
theorem zsF:Con.Ok Tryz.prog 86 ⟨QG,QH,zyx⟩:=zy (zf znU (zf zk6 (zf zjU (zf zcQ zi)))) zm (by kernel_rfl)
def znY:T (ql QG)→Option (T (ql QH)):=Ux [((([(127,100)],100),8,200,()),((131072,1016),0,()))]
theorem zsG:Con.Ok Tryz.prog 86 ⟨QG,QH,znY⟩:=Uy zsF (QC (by kernel_rfl) zaB)
def znZ:((List jP)×Unit)→Option (jP×Int×Unit):=sF Tryz.prog [(69,⟨xt,xu,Ve⟩)] (fun _ _ _ _=>none) (fun _ _=>false) 100 87 XO XP
theorem zsH:Con.Ok Tryz.prog 87 ⟨XO,XP,znZ⟩:=zy (zf Xj zi) zm (by kernel_rfl)
def ze4:(vD×Unit)→Option (Int×Unit):=sF Tryz.prog [] (fun _ _ _ _=>none) (fun _ _=>false) 100 132 ZD ZE
theorem zhi:Con.Ok Tryz.prog 132 ⟨ZD,ZE,ze4⟩:=zy zi zm (by kernel_rfl)
def ze5:((List Int)×Unit)→Option (Bool×Unit):=sF Tryz.prog [] (fun _ _ _ _=>none) (fun _ _=>false) 100 161 ZF ZG
theorem zhj:Con.Ok Tryz.prog 161 ⟨ZF,ZG,ze5⟩:=zy zi zm (by kernel_rfl)
def zic:(Int×Unit)→Option (Int×Unit):=sF Tryz.prog [] (fun _ _ _ _=>none) (fun _ _=>false) 100 163 QX QY
theorem zn0:Con.Ok Tryz.prog 163 ⟨QX,QY,zic⟩:=zy zi zm (by kernel_rfl)
def zfm:(Int×Int×Unit)→Option (Int×Int×Unit):=sF Tryz.prog [] (fun _ _ _ _=>none) (fun _ _=>false) 100 162 Zc Zd
theorem zk7:Con.Ok Tryz.prog 162 ⟨Zc,Zd,zfm⟩:=zy zi zm (by kernel_rfl)
def zfn:(Int×Unit)→Option (Int×Unit):=sF Tryz.prog [] (fun _ _ _ _=>none) (fun _ _=>false) 100 176 Zf Zg
theorem zk8:Con.Ok Tryz.prog 176 ⟨Zf,Zg,zfn⟩:=zy zi zm (by kernel_rfl)
def Kr:(Int×Unit)→Option (Int×Unit):=sF Tryz.prog [(176,⟨Zf,Zg,zfn⟩)] (fun _ _ _ _=>none) (fun _ _=>false) 100 179 xw xx
theorem zcE:Con.Ok Tryz.prog 179 ⟨xw,xx,Kr⟩:=zy (zf zk8 zi) zm (by kernel_rfl)
def zfo:(Int×Int×Int×Unit)→Option (Int×Int×Unit):=sF Tryz.prog [(179,⟨xw,xx,Kr⟩)] (fun _ _ _ _=>none) (fun _ _=>false) 100 164 Zh Zi
theorem zk9:Con.Ok Tryz.prog 164 ⟨Zh,Zi,zfo⟩:=zy (zf zcE zi) zm (by kernel_rfl)
def zlz:(Int×Unit)→Option (Int×Bool×Unit):=sF Tryz.prog [(161,⟨ZF,ZG,ze5⟩)] (fun _ _ _ _=>none) (fun _ _=>false) 100 165 Yc Yd
theorem zqU:Con.Ok Tryz.prog 165 ⟨Yc,Yd,zlz⟩:=zy (zf zhj zi) zm (by kernel_rfl)
def zn1:(Int×Int×Int×Unit)→Option (Int×Bool×Unit):=sF Tryz.prog [(161,⟨ZF,ZG,ze5⟩),(163,⟨QX,QY,zic⟩),(162,⟨Zc,Zd,zfm⟩),(164,⟨Zh,Zi,zfo⟩),(165,⟨Yc,Yd,zlz⟩)] (fun _ _ _ _=>none) (fun _ _=>false) 100 154 XQ XR
theorem zsI:Con.Ok Tryz.prog 154 ⟨XQ,XR,zn1⟩:=zy (zf zhj (zf zn0 (zf zk7 (zf zk9 (zf zqU zi))))) zm (by kernel_rfl)
def zhk:(Int×Int×Int×Unit)→Option (Int×Unit):=sF Tryz.prog [(154,⟨XQ,XR,zn1⟩)] (fun _ _ _ _=>none) (fun _ _=>false) 100 135 QI QJ
theorem zid:Con.Ok Tryz.prog 135 ⟨QI,QJ,zhk⟩:=zy (zf zsI zi) zm (by kernel_rfl)
def zhl:((List jP)×Int×Unit)→Option (Int×Bool×Unit):=sF Tryz.prog [(135,⟨QI,QJ,zhk⟩)] (fun _ _ _ _=>none) (fun _ _=>false) 100 133 Qf Qg
theorem zl7:Con.Ok Tryz.prog 133 ⟨Qf,Qg,zhl⟩:=zy (zf zid zi) zm (by kernel_rfl)
def zlA:((List jP)×vD×Unit)→Option (Int×Int×Unit):=sF Tryz.prog [(69,⟨xt,xu,Ve⟩),(132,⟨ZD,ZE,ze4⟩),(133,⟨Qf,Qg,zhl⟩)] (fun _ _ _ _=>none) (fun _ _=>false) 100 88 Yf Yg
theorem zqV:Con.Ok Tryz.prog 88 ⟨Yf,Yg,zlA⟩:=zy (zf Xj (zf zhi (zf zl7 zi))) zm (by kernel_rfl)
def zfp:(jP×vD×Unit)→Option (Int×Unit):=sF Tryz.prog [(69,⟨xt,xu,Ve⟩),(132,⟨ZD,ZE,ze4⟩)] (fun _ _ _ _=>none) (fun _ _=>false) 100 134 Zk Zl
theorem zla:Con.Ok Tryz.prog 134 ⟨Zk,Zl,zfp⟩:=zy (zf Xj (zf zhi zi)) zm (by kernel_rfl)
def zie:(jP×vD×Unit)→Option (Int×Int×Unit):=sF Tryz.prog [(134,⟨Zk,Zl,zfp⟩),(135,⟨QI,QJ,zhk⟩)] (fun _ _ _ _=>none) (fun _ _=>false) 100 89 QZ Ja
theorem zn2:Con.Ok Tryz.prog 89 ⟨QZ,Ja,zie⟩:=zy (zf zla (zf zid zi)) zm (by kernel_rfl)
def zhm:(za7×Unit)→Option (Int×Unit):=sF Tryz.prog [] (fun _ _ _ _=>none) (fun _ _=>false) 100 91 Qi Qj
theorem zl8:Con.Ok Tryz.prog 91 ⟨Qi,Qj,zhm⟩:=zy zi zm (by kernel_rfl)
def zn3:(qi×Int×Unit)→Option (Int×Int×Unit):=sF Tryz.prog [(41,⟨wL,wM,Wu⟩),(91,⟨Qi,Qj,zhm⟩)] (fun _ _ _ _=>none) (fun _ _=>false) 100 58 XU XV
theorem zsJ:Con.Ok Tryz.prog 58 ⟨XU,XV,zn3⟩:=zy (zf Jf (zf zl8 zi)) zm (by kernel_rfl)
def zvL:(jI×(List zz)×Unit)→Option (Int×Unit):=sF Tryz.prog [(29,⟨yq,yr,KR⟩),(56,⟨gX,gY,zfk⟩),(119,⟨wX,wY,WG⟩),(85,⟨Gj,Gk,zsB⟩),(86,⟨QG,QH,znY⟩),(87,⟨XO,XP,znZ⟩),(88,⟨Yf,Yg,zlA⟩),(89,⟨QZ,Ja,zie⟩),(58,⟨XU,XV,zn3⟩)] (fun _ _ _ _=>none) (fun _ _=>false) 100 25 vJ vK
theorem zqW:Con.Ok Tryz.prog 25 ⟨vJ,vK,zvL⟩:=zy (zf zab (zf zk5 (zf GK (zf zvK (zf zsG (zf zsH (zf zqV (zf zn2 (zf zsJ zi))))))))) zm (by kernel_rfl)
def ze6:T (ql vJ)→Option (T (ql vK)):=Ux [((rF,[],()),(0,())),((rF,[(1,0,3,6,100,0,(200,16384),9000,[[0,2,4]])],()),(0,())),((rF,[(1,0,3,6,100,0,(200,16384),1,[[0,2,4]])],()),(412,()))]
theorem zhn:Con.Ok Tryz.prog 25 ⟨vJ,vK,ze6⟩:=Uy zqW (QC (by kernel_rfl) (QC (by kernel_rfl) (QC (by kernel_rfl) zaB)))
def zum:(qi×zz×Unit)→Option (Int×Unit):=sF Tryz.prog [(41,⟨wL,wM,Wu⟩),(42,⟨kZ,gb,zdA⟩)] (fun _ _ _ _=>none) (fun _ _=>false) 100 26 gi gk
theorem zo7:Con.Ok Tryz.prog 26 ⟨gi,gk,zum⟩:=zy (zf Jf (zf zfj zi)) zm (by kernel_rfl)
def zjV:T (ql gi)→Option (T (ql gk)):=Ux [((rT,(1,0,3,6,100,0,(200,16384),9000,[[0,2,4]]),()),(0,())),((rT,(1,0,3,6,100,0,(200,16384),1,[[0,2,4]]),()),(0,()))]
theorem zo8:Con.Ok Tryz.prog 26 ⟨gi,gk,zjV⟩:=Uy zo7 (QC (by kernel_rfl) (QC (by kernel_rfl) zaB))
def zvM:(jI×(List zz)×zz×Unit)→Option ((List zz)×Int×Unit):=sF Tryz.prog [(25,⟨vJ,vK,ze6⟩),(26,⟨gi,gk,zjV⟩)] (fun _ _ _ _=>none) (fun _ _=>false) 100 11 kF kG
theorem zqX:Con.Ok Tryz.prog 11 ⟨kF,kG,zvM⟩:=zy (zf zhn (zf zo8 zi)) zm (by kernel_rfl)
def zlB:T (ql kF)→Option (T (ql kG)):=Ux [((rF,[],(1,0,3,6,100,0,(200,16384),9000,[[0,2,4]]),()),([(1,0,3,6,100,0,(200,16384),9000,[[0,2,4]])],0,())),((rF,[],(1,0,3,6,100,0,(200,16384),1,[[0,2,4]]),()),([],412,()))]
theorem zqY:Con.Ok Tryz.prog 11 ⟨kF,kG,zlB⟩:=Uy zqX (QC (by kernel_rfl) (QC (by kernel_rfl) zaB))
theorem ze7:yJ.Ok Tryz.prog 109 ⟨ze,xl,xm,ZO⟩:=zCM Kj zA6
def zdB:((List zz)×Int×Unit)→Option (Int×Int×Unit):=sF Tryz.prog [] (fun _ _ _ _=>none) (fun _ _=>false) 100 110 uK uL
theorem zfq:Con.Ok Tryz.prog 110 ⟨uK,uL,zdB⟩:=zy zi zm (by kernel_rfl)
def Vg:((List qw)×Int×Bool×qw×Unit)→Option ((List qw)×Unit):=sF Tryz.prog [] (fun _ _ _ _=>none) (fun _ _=>false) 100 111 wD wF
theorem UQ:Con.Ok Tryz.prog 111 ⟨wD,wF,Vg⟩:=zy zi zm (by kernel_rfl)
def Jv:za→(qw×Unit)→Option (za×(Unit)):=sP Tryz.prog ⟨[],[(52,⟨ze,qe,qf,vQ⟩)]⟩ [] (fun _ _ _ _=>none) (fun _ _=>false) 100 34 ze qW qX
theorem YX:yJ.Ok Tryz.prog 34 ⟨ze,qW,qX,Jv⟩:=xk ⟨qy,(zV vZ js)⟩ zi zm (by kernel_rfl)
def Gt:za→(zJ×Unit)→Option (za×(Unit)):=sP Tryz.prog ⟨[],[(107,⟨ze,jj,jk,Ww⟩),(108,⟨ze,jl,jm,Wx⟩),(109,⟨ze,xl,xm,ZO⟩),(34,⟨ze,qW,qX,Jv⟩)]⟩ [(11,⟨kF,kG,zlB⟩),(110,⟨uK,uL,zdB⟩),(111,⟨wD,wF,Vg⟩)] (fun _ _ _ _=>none) (fun _ _=>false) 100 80 ze yA yB
theorem ze8:yJ.Ok Tryz.prog 80 ⟨ze,yA,yB,Gt⟩:=xk ⟨qy,(zV VB (zV VC (zV ze7 (zV YX js))))⟩ (zf zqY (zf zfq (zf UQ zi))) zm (by kernel_rfl)
def zn4:((List Int)×Unit)→Option (Int×Unit):=sF Tryz.prog [] (fun _ _ _ _=>none) (fun _ _=>false) 100 144 Wk Wl
theorem zsK:Con.Ok Tryz.prog 144 ⟨Wk,Wl,zn4⟩:=zy zi zm (by kernel_rfl)
def UR:za→(Int×Int×Unit)→Option (za×(Int×xF×Bool×Unit)):=sP Tryz.prog ⟨[],[]⟩ [(37,⟨wu,wv,Xi⟩),(144,⟨Wk,Wl,zn4⟩)] (fun _ _ _ _=>none) (fun _ _=>false) 100 112 ze ye yf
theorem zew:yJ.Ok Tryz.prog 112 ⟨ze,ye,yf,UR⟩:=xk ⟨qy,js⟩ (zf Ke (zf zsK zi)) zm (by kernel_rfl)
def zbj:((List xF)×Int×Bool×xF×Unit)→Option ((List xF)×Unit):=sF Tryz.prog [] (fun _ _ _ _=>none) (fun _ _=>false) 100 113 vf vg
theorem zho:Con.Ok Tryz.prog 113 ⟨vf,vg,zbj⟩:=zy zi zm (by kernel_rfl)
def WH:za→(zJ×Unit)→Option (za×(Unit)):=sP Tryz.prog ⟨[],[(112,⟨ze,ye,yf,UR⟩),(52,⟨ze,qe,qf,vQ⟩)]⟩ [(113,⟨vf,vg,zbj⟩)] (fun _ _ _ _=>none) (fun _ _=>false) 100 81 ze jy jz
theorem GL:yJ.Ok Tryz.prog 81 ⟨ze,jy,jz,WH⟩:=xk ⟨qy,(zV zew (zV vZ js))⟩ (zf zho zi) zm (by kernel_rfl)
def zcq:((List Int)×Int×Unit)→Option ((List Int)×Unit):=sF Tryz.prog [] (fun _ _ _ _=>none) (fun _ _=>false) 100 115 vF vG
theorem zhx:Con.Ok Tryz.prog 115 ⟨vF,vG,zcq⟩:=zy zi zm (by kernel_rfl)
def zsL:(jI×(List zz)×Int×Unit)→Option ((List zz)×Int×Unit):=sF Tryz.prog [(25,⟨vJ,vK,ze6⟩),(110,⟨uK,uL,zdB⟩)] (fun _ _ _ _=>none) (fun _ _=>false) 100 116 vX vY
theorem zn5:Con.Ok Tryz.prog 116 ⟨vX,vY,zsL⟩:=zy (zf zhn (zf zfq zi)) zm (by kernel_rfl)
def zif:T (ql vX)→Option (T (ql vY)):=Ux [((rF,[(1,0,3,6,100,0,(200,16384),9000,[[0,2,4]])],1,()),([],0,()))]
theorem zn6:Con.Ok Tryz.prog 116 ⟨vX,vY,zif⟩:=Uy zn5 (QC (by kernel_rfl) zaB)
def US:za→(zJ×Unit)→Option (za×(Unit)):=sP Tryz.prog ⟨[],[(107,⟨ze,jj,jk,Ww⟩),(108,⟨ze,jl,jm,Wx⟩)]⟩ [(114,⟨wi,wj,Wy⟩),(115,⟨vF,vG,zcq⟩),(116,⟨vX,vY,zif⟩),(111,⟨wD,wF,Vg⟩)] (fun _ _ _ _=>none) (fun _ _=>false) 100 82 ze yg yh
theorem zex:yJ.Ok Tryz.prog 82 ⟨ze,yg,yh,US⟩:=xk ⟨qy,(zV VB (zV VC js))⟩ (zf VD (zf zhx (zf zn6 (zf UQ zi)))) zm (by kernel_rfl)
def Ks:za→(zJ×Unit)→Option (za×(Unit)):=sP Tryz.prog ⟨[],[(24,⟨ze,qI,qJ,kr⟩)]⟩ [(75,⟨jb,jc,Jg⟩)] (fun _ _ _ _=>none) (fun _ _=>false) 100 83 ze wA wB
theorem zcF:yJ.Ok Tryz.prog 83 ⟨ze,wA,wB,Ks⟩:=xk ⟨qy,(zV gq js)⟩ (zf Wv zi) zm (by kernel_rfl)
def UT:za→(zJ×Unit)→Option (za×(Unit)):=sP Tryz.prog ⟨[],[(80,⟨ze,yA,yB,Gt⟩),(81,⟨ze,jy,jz,WH⟩),(82,⟨ze,yg,yh,US⟩),(83,⟨ze,wA,wB,Ks⟩)]⟩ [] (fun _ _ _ _=>none) (fun _ _=>false) 100 54 ze yi yj
theorem zey:yJ.Ok Tryz.prog 54 ⟨ze,yi,yj,UT⟩:=xk ⟨qy,(zV ze8 (zV GL (zV zex (zV zcF js))))⟩ zi zm (by kernel_rfl)
def QN:za→(Int×Int×Unit)→Option (za×(Int×Unit)):=sP Tryz.prog ⟨[],[(52,⟨ze,qe,qf,vQ⟩),(54,⟨ze,yi,yj,UT⟩)]⟩ [(53,⟨yb,yc,VA⟩)] (fun _ _ _ _=>none) (fun _ _=>false) 100 32 ze jD jE
theorem YF:yJ.Ok Tryz.prog 32 ⟨ze,jD,jE,QN⟩:=xk ⟨qy,(zV vZ (zV zey js))⟩ (zf zco zi) zm (by kernel_rfl)
def YS:za→(Unit)→Option (za×(Unit)):=sP Tryz.prog ⟨[],[(33,⟨ze,qA,qB,gr⟩),(34,⟨ze,qW,qX,Jv⟩)]⟩ [] (fun _ _ _ _=>none) (fun _ _=>false) 100 23 ze wU wW
theorem Ug:yJ.Ok Tryz.prog 23 ⟨ze,wU,wW,YS⟩:=xk ⟨qy,(zV Qp (zV YX js))⟩ zi zm (by kernel_rfl)
def zbk:za→(yL×Unit)→Option (za×(Int×Unit)):=sP Tryz.prog ⟨[],[(43,⟨ze,yZ,xa,zbg⟩),(44,⟨ze,wZ,ya,UN⟩),(32,⟨ze,jD,jE,QN⟩),(23,⟨ze,wU,wW,YS⟩)]⟩ [] (fun _ _ _ _=>none) (fun _ _=>false) 100 27 ze xe xf
theorem zhp:yJ.Ok Tryz.prog 27 ⟨ze,xe,xf,zbk⟩:=xk ⟨qy,(zV zhe (zV zet (zV YF (zV Ug js))))⟩ zi zm (by kernel_rfl)
def ziN:(qj×yL×Unit)→Option (qj×Int×Unit):=sFl Tryz.prog ⟨[],[(27,⟨ze,xe,xf,zbk⟩)]⟩ [] (fun _ _ _ _=>none) (fun _ _=>false) 100 12 Qw Qx
theorem zjW:Con.Ok Tryz.prog 12 ⟨Qw,Qx,ziN⟩:=zmY ⟨qy,(zV zhp js)⟩ zi zm (by kernel_rfl)
def zn7:(qj×(List yL)×Unit)→Option (qj×(List Int)×Unit):=sF Tryz.prog [(12,⟨Qw,Qx,ziN⟩)] (fun _ _ _ _=>none) (fun _ _=>false) 100 18 zg1 zg2
theorem zsM:Con.Ok Tryz.prog 18 ⟨zg1,zg2,zn7⟩:=zy (zf zjW zi) zm (by kernel_rfl)
def zjX:(qj×Int×Unit)→Option (Int×Int×Unit):=sFl Tryz.prog ⟨[],[(24,⟨ze,qI,qJ,kr⟩)]⟩ [] (fun _ _ _ _=>none) (fun _ _=>false) 100 10 zdo zdp
theorem zo9:Con.Ok Tryz.prog 10 ⟨zdo,zdp,zjX⟩:=zmY ⟨qy,(zV gq js)⟩ zi zm (by kernel_rfl)
def zsN:(qj×Int×Unit)→Option (Bool×Unit):=sF Tryz.prog [(10,⟨zdo,zdp,zjX⟩)] (fun _ _ _ _=>none) (fun _ _=>false) 100 20 zkR zkS
theorem zvN:Con.Ok Tryz.prog 20 ⟨zkR,zkS,zsN⟩:=zy (zf zo9 zi) zm (by kernel_rfl)
def zlC:(qj×Unit)→Option (Bool×Unit):=sF Tryz.prog [] (fun _ _ _ _=>none) (fun _ _=>false) 100 16 zeT zeU
theorem zqZ:Con.Ok Tryz.prog 16 ⟨zeT,zeU,zlC⟩:=zy zi zm (by kernel_rfl)
def Vh:za→(Unit)→Option (za×(Unit)):=sP Tryz.prog ⟨[],[(32,⟨ze,jD,jE,QN⟩)]⟩ [] (fun _ _ _ _=>none) (fun _ _=>false) 100 22 ze Qk Ql
theorem zbr:yJ.Ok Tryz.prog 22 ⟨ze,Qk,Ql,Vh⟩:=xk ⟨qy,(zV YF js)⟩ zi zm (by kernel_rfl)
def zig:(qj×Unit)→Option (qj×Unit):=sFl Tryz.prog ⟨[],[(22,⟨ze,Qk,Ql,Vh⟩),(23,⟨ze,wU,wW,YS⟩)]⟩ [] (fun _ _ _ _=>none) (fun _ _=>false) 100 8 zb8 zb9
theorem zn8:Con.Ok Tryz.prog 8 ⟨zb8,zb9,zig⟩:=zmY ⟨qy,(zV zbr (zV Ug js))⟩ zi zm (by kernel_rfl)
def zlD:(Unit)→Option (Bool×Unit):=sF Tryz.prog [(15,⟨YL,YM,zpx⟩),(14,⟨Wb,Wc,znQ⟩),(17,⟨zbK,zbL,zh9⟩),(18,⟨zg1,zg2,zn7⟩),(20,⟨zkR,zkS,zsN⟩),(12,⟨Qw,Qx,ziN⟩),(16,⟨zeT,zeU,zlC⟩),(8,⟨zb8,zb9,zig⟩)] (fun _ _ _ _=>none) (fun _ _=>false) 100 6 Kk Kl
theorem zhq:Con.Ok Tryz.prog 6 ⟨Kk,Kl,zlD⟩:=zy (zf zuk (zf zsz (zf znR (zf zsM (zf zvN (zf zjW (zf zqZ (zf zn8 zi)))))))) zm (by kernel_rfl)
theorem zCN:zlD ()=some (true,()):=by kernel_rfl
def zoB:Unit→Option (Bool×Unit):=fun _=>some (true,())
theorem zCO:Con.Ok Tryz.prog 6 ⟨Kk,Kl,zoB⟩:=⟨zhq.1,fun x r h=>zhq.2 x r (by cases x;rw [←h];exact zCN)⟩
noncomputable def zhr:T (ql QM)→Option (T (ql YD)):=sF Tryz.prog [(6,⟨Kk,Kl,zoB⟩),(7,⟨Km,Kn,Ju⟩)] zcM (zL []) 30 3 QM YD
theorem zsO:Con.Ok Tryz.prog 3 ⟨QM,YD,zhr⟩:=zy (zf zCO (zf zqE zi)) zm (by kernel_rfl)
theorem zsP (l:List qN):zhr (l,())=YE zoB Ju l:=znD zoB Ju l
theorem u8w {n:Int} (h:wfT (.int .u8) n):0≤n∧n≤255:=h
theorem zHa {m:qN} (h:wfT xG m):moP m:=⟨u8w h.1,u8w h.2.1,u8w h.2.2.1⟩
abbrev A3:=QM
abbrev K3_ok:=zsO
theorem good3 (x:T (ql A3)) (h:wfT (ql A3) x):zhr x=some (true,()):=by
 obtain ⟨l,⟨⟩⟩:=x
 rw [zsP]
 have h2:List.length (α:=qN) l*10≤reachBytes:=h.1.1.2
 have h3:reachBytes≤1000000000000000000:=by decide
 exact zEA (l:=l) rfl (fun m hm=>zHa (h.1.2 m hm)) (by omega)
end Go.Proofs.YtleloebnggepoaaGreat.sg
end
