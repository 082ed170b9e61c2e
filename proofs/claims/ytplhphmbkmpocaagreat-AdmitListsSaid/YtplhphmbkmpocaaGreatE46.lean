/- Parts of a proof, joined. -/
import Derived.Test.YtplhphmbkmpocaaGreatE45
set_option linter.unusedSectionVars false
set_option linter.unusedVariables false
set_option linter.unusedSimpArgs false
set_option maxHeartbeats 0
set_option maxRecDepth 100000
noncomputable section
namespace Go.Proofs.YtplhphmbkmpocaaGreat.ad
open Go Go.Fz Go.Fz.Sy
abbrev Vc:List VT:=[⟨true,qt⟩,⟨false,(.list zI)⟩,⟨false,I⟩]
abbrev Vd:List VT:=[⟨true,WJ⟩,⟨false,I⟩]
abbrev GI:List VT:=[⟨true,zw⟩,⟨false,(.list zI)⟩]
abbrev GJ:List VT:=[⟨false,I⟩]
def zox:zT:=zM [cdF zI,cdF zw,cdF zO,cdF zu] [] [] [] [40,83]
def GK (yj:JG) (yh:JE) (a0:zJ) (a1:(List qn)):Option (Int×Unit):=
 opt (yj (a0,())) fun x0=>
 bif !x0.1 then some (260,())
 else bif (zj 12 ((a1.length:Nat):Int)) then some (3,())
  else opt (zC (fun s1:((Int×(Int×Unit))×Unit)=>
    bif (zj s1.1.2.1 ((a1.length:Nat):Int)) then opt (atI a1 s1.1.2.1) fun x2=>
     opt (yh (a0,(x2,()))) fun x3=>
     bif !x3.1 then some (.inl (1,((321,(s1.1.2.1,())),())))
     else some (.inr ((s1.1.1,((wrF .i64 (s1.1.2.1+1)),())),()))
    else some (.inl (0,((s1.1.1,(s1.1.2.1,())),())))) zK ((0,(0,())),())) fun x4=>
   bif Nat.beq x4.1 0 then opt (zC (fun s5:((Int×(Int×Unit))×Unit)=>
     bif (zj s5.1.2.1 ((a1.length:Nat):Int)) then opt (zC (fun s6:((Int×(Int×Unit))×Unit)=>
       bif zj s6.1.2.1 s5.1.2.1 then opt (atI a1 s6.1.2.1) fun x7=>
        opt (atI a1 s5.1.2.1) fun x8=>
        bif zm x7.1 x8.1 then some (.inl (1,((322,(s6.1.2.1,())),())))
        else some (.inr ((s6.1.1,((wrF .i64 (s6.1.2.1+1)),())),()))
       else some (.inl (0,((s6.1.1,(s6.1.2.1,())),())))) zK ((s5.1.1,(0,())),())) fun x9=>
      bif Nat.beq x9.1 0 then some (.inr ((x9.2.1.1,((wrF .i64 (s5.1.2.1+1)),())),()))
      else some (.inl (1,((x9.2.1.1,(s5.1.2.1,())),())))
     else some (.inl (0,((s5.1.1,(s5.1.2.1,())),())))) zK ((x4.2.1.1,(0,())),())) fun x10=>
    bif Nat.beq x10.1 0 then some (0,())
    else some (x10.2.1.1,())
   else some (x4.2.1.1,())
abbrev XE:Type:=(zJ×(List qn)×Unit)→Option (Int×Unit)
def zgb:JG→JE→XE:=fun yj yh=>sF Tryz.prog [(40,⟨UM,UN,yj⟩),(83,⟨UJ,UK,yh⟩)] zox (zN []) 30 74 GI GJ
theorem zqu (yj) (yh) (a0) (a1):zgb yj yh (a0,a1,())=GK yj yh a0 a1:=by kernel_rfl
def Zb:XE:=zgb uq um
theorem zlm:Con.Ok Tryz.prog 74 ⟨GI,GJ,Zb⟩:=zv (zd zfU (zd zfN zi)) zo (by kernel_rfl)
theorem zln (a0) (a1):Zb (a0,a1,())=GK uq um a0 a1:=zqu uq um a0 a1
abbrev zgc:List VT:=[⟨true,qt⟩,⟨false,(.list zI)⟩]
abbrev zgd:List VT:=[⟨false,I⟩]
def zwy:zT:=zM [cdF qt,cdF zI,cdF zw,cdF zO,cdF zL,cdF qh] [] [] [] [14,74]
def zge (vY:Jn) (Zh:XE) (a0:qN) (a1:(List qn)):Option (Int×Unit):=
 opt (vY (a0,())) fun x0=>
 opt (bif zm x0.1 0 then opt (Zh (a0.1,(a1,()))) fun x1=>
   some (0,((x1.1,()),()))
  else some (0,((x0.1,()),()))) fun x2=>
 bif !(zm x2.2.1.1 0) then some (x2.2.1.1,())
 else opt (zC (fun s3:((Int×(Int×Unit))×Unit)=>
   bif (zj s3.1.2.1 ((a1.length:Nat):Int)) then opt (opt (atI a1 s3.1.2.1) fun x4=>
     bif !(zm x4.2.2.2.1 6) then some (1,((2,()),()))
     else opt (atI a1 s3.1.2.1) fun x5=>
      bif zj a0.2.2.2 x5.2.2.2.2.1 then some (1,((2,()),()))
      else some (0,((s3.1.1,()),()))) fun x6=>
    bif Nat.beq x6.1 0 then some (.inr ((x6.2.1.1,((wrF .i64 (s3.1.2.1+1)),())),()))
    else some (.inl (1,((x6.2.1.1,(s3.1.2.1,())),())))
   else some (.inl (0,((s3.1.1,(s3.1.2.1,())),())))) zK ((0,(0,())),())) fun x7=>
  bif Nat.beq x7.1 0 then some (0,())
  else some (x7.2.1.1,())
abbrev zbk:Type:=(qN×(List qn)×Unit)→Option (Int×Unit)
def zm9:Jn→XE→zbk:=fun vY Zh=>sF Tryz.prog [(14,⟨Vr,Vs,vY⟩),(74,⟨GI,GJ,Zh⟩)] zwy (zN []) 30 45 zgc zgd
theorem zyV (vY) (Zh) (a0) (a1):zm9 vY Zh (a0,a1,())=zge vY Zh a0 a1:=by kernel_rfl
def YD:zbk:=zm9 vU Zb
theorem zsx:Con.Ok Tryz.prog 45 ⟨zgc,zgd,YD⟩:=zv (zd zhS (zd zlm zi)) zo (by kernel_rfl)
theorem zsy (a0) (a1):YD (a0,a1,())=zge vU Zb a0 a1:=zyV vU Zb a0 a1
abbrev zcD:List VT:=[⟨true,zI⟩,⟨false,I⟩]
abbrev zcE:List VT:=[⟨false,.bool⟩]
def zsz:zT:=zM [cdF zI,cdF zu] [] [] [] []
def zcF (a0:qn) (a1:Int):Option (Bool×Unit):=
 opt (zC (fun s0:((Bool×(Int×Unit))×Unit)=>
  bif (zj s0.1.2.1 ((a0.2.2.2.2.2.2.2.2.length:Nat):Int)) then opt (zC (fun s1:((Bool×(Int×Unit))×Unit)=>
    opt (atI a0.2.2.2.2.2.2.2.2 s0.1.2.1) fun x2=>
    bif (zj s1.1.2.1 ((x2.length:Nat):Int)) then opt (atI a0.2.2.2.2.2.2.2.2 s0.1.2.1) fun x3=>
     opt (atI x3 s1.1.2.1) fun x4=>
     bif zm x4 a1 then some (.inl (1,((true,(s1.1.2.1,())),())))
     else some (.inr ((s1.1.1,((wrF .i64 (s1.1.2.1+1)),())),()))
    else some (.inl (0,((s1.1.1,(s1.1.2.1,())),())))) zK ((s0.1.1,(0,())),())) fun x5=>
   bif Nat.beq x5.1 0 then some (.inr ((x5.2.1.1,((wrF .i64 (s0.1.2.1+1)),())),()))
   else some (.inl (1,((x5.2.1.1,(s0.1.2.1,())),())))
  else some (.inl (0,((s0.1.1,(s0.1.2.1,())),())))) zK ((false,(0,())),())) fun x6=>
 bif Nat.beq x6.1 0 then some (false,())
 else some (x6.2.1.1,())
abbrev KM:Type:=(qn×Int×Unit)→Option (Bool×Unit)
def ziM:KM:=sF Tryz.prog [] zsz (zN []) 30 27 zcD zcE
theorem zum (a0) (a1):ziM (a0,a1,())=zcF a0 a1:=by kernel_rfl
def Qs:KM:=ziM
theorem zoy:Con.Ok Tryz.prog 27 ⟨zcD,zcE,Qs⟩:=zv zi zo (by kernel_rfl)
theorem zoz (a0) (a1):Qs (a0,a1,())=zcF  a0 a1:=zum  a0 a1
abbrev zhW:List VT:=[⟨true,zw⟩,⟨false,I⟩]
abbrev zhX:List VT:=[⟨false,I⟩]
def zyW:zT:=zM [cdF zw,cdF zO] [] [] [] []
def zhY (a0:zJ) (a1:Int):Option (Int×Unit):=
 opt (atI a0.2.2 (wrF .i64 (Int.tdiv a1 2))) fun x0=>
 some (x0.2.2.1,())
abbrev zcX:Type:=(zJ×Int×Unit)→Option (Int×Unit)
def zo7:zcX:=sF Tryz.prog [] zyW (zN []) 30 76 zhW zhX
theorem zzQ (a0) (a1):zo7 (a0,a1,())=zhY a0 a1:=by kernel_rfl
def Ve:zcX:=zo7
theorem zun:Con.Ok Tryz.prog 76 ⟨zhW,zhX,Ve⟩:=zv zi zo (by kernel_rfl)
theorem zuo (a0) (a1):Ve (a0,a1,())=zhY  a0 a1:=zzQ  a0 a1
abbrev zgf:List VT:=[⟨true,zL⟩,⟨false,I⟩,⟨false,I⟩]
abbrev zgg:List VT:=[⟨false,I⟩]
def zwz:zT:=zM [cdF zL,cdF qh] [] [] [] [42]
def zgh (yk:JI) (a0:ql) (a1:Int) (a2:Int):Option (Int×Unit):=
 opt (yk (a0,())) fun x0=>
 bif !x0.1 then some (370,())
 else opt (bif zj a1 1 then some (1,((2,()),()))
   else bif zj 1000 a1 then some (1,((2,()),()))
    else bif zj a2 84 then some (1,((2,()),()))
     else bif zj 1542 a2 then some (1,((2,()),()))
      else some (0,((0,()),()))) fun x1=>
  bif Nat.beq x1.1 0 then some (0,())
  else some (x1.2.1.1,())
abbrev zbl:Type:=(ql×Int×Int×Unit)→Option (Int×Unit)
def zna:JI→zbl:=fun yk=>sF Tryz.prog [(42,⟨UP,UQ,yk⟩)] zwz (zN []) 30 105 zgf zgg
theorem zyX (yk) (a0) (a1) (a2):zna yk (a0,a1,a2,())=zgh yk a0 a1 a2:=by kernel_rfl
def YE:zbl:=zna ur
theorem zsA:Con.Ok Tryz.prog 105 ⟨zgf,zgg,YE⟩:=zv (zd zfV zi) zo (by kernel_rfl)
theorem zsB (a0) (a1) (a2):YE (a0,a1,a2,())=zgh ur a0 a1 a2:=zyX ur a0 a1 a2
abbrev Ur:List VT:=[⟨false,I⟩,⟨false,I⟩]
abbrev Us:List VT:=[⟨false,.bool⟩]
def zyY:zT:=zM [] [] [] [] []
def zhZ (a0:Int) (a1:Int):Option (Bool×Unit):=
 bif zj (wrF .u64 a1) 0 then none
 else some ((zm (Int.tmod (jX .i64 a0 (wrF .u64 a1)) 2) 1),())
abbrev Qp:Type:=(Int×Int×Unit)→Option (Bool×Unit)
def zo8:Qp:=sF Tryz.prog [] zyY (zN []) 30 152 Ur Us
theorem zzR (a0) (a1):zo8 (a0,a1,())=zhZ a0 a1:=by kernel_rfl
def vo:Qp:=zo8
theorem zcG:Con.Ok Tryz.prog 152 ⟨Ur,Us,vo⟩:=zv zi zo (by kernel_rfl)
theorem zup (a0) (a1):vo (a0,a1,())=zhZ  a0 a1:=zzR  a0 a1
abbrev YF:List VT:=[⟨true,zL⟩]
abbrev YG:List VT:=[⟨false,.bool⟩]
def zsC:zT:=zM [cdF zL,cdF qh] [] [] [] [152]
def zcH (jy:Qp) (a0:ql):Option (Bool×Unit):=
 opt (zC (fun s0:((Bool×(Int×Unit))×Unit)=>
  bif (zj s0.1.2.1 ((a0.1.length:Nat):Int)) then opt (atI a0.1 s0.1.2.1) fun x1=>
   opt (jy (x1.1,(6,()))) fun x2=>
   bif !x2.1 then some (.inl (1,((false,(s0.1.2.1,())),())))
   else some (.inr ((s0.1.1,((wrF .i64 (s0.1.2.1+1)),())),()))
  else some (.inl (0,((s0.1.1,(s0.1.2.1,())),())))) zK ((false,(0,())),())) fun x3=>
 bif Nat.beq x3.1 0 then some (true,())
 else some (x3.2.1.1,())
abbrev kn:Type:=(ql×Unit)→Option (Bool×Unit)
def ziN:Qp→kn:=fun jy=>sF Tryz.prog [(152,⟨Ur,Us,jy⟩)] zsC (zN []) 30 107 YF YG
theorem zuq (jy) (a0):ziN jy (a0,())=zcH jy a0:=by kernel_rfl
def yf:kn:=ziN vo
theorem Uf:Con.Ok Tryz.prog 107 ⟨YF,YG,yf⟩:=zv (zd zcG zi) zo (by kernel_rfl)
theorem zoA (a0):yf (a0,())=zcH vo a0:=zuq vo a0
abbrev zj7:List VT:=[⟨true,zL⟩,⟨false,I⟩]
abbrev zj8:List VT:=[⟨false,I⟩,⟨false,I⟩]
def zzS:zT:=zM [cdF zL,cdF qh] [] [] [] []
def zj9 (a0:ql) (a1:Int):Option (Int×Int×Unit):=
 bif zm a0.2 0 then none
 else opt (bif zj (Int.tmod a1 a0.2) 0 then some (0,(((wrF .i64 ((Int.tmod a1 a0.2)+a0.2)),()),()))
   else some (0,(((Int.tmod a1 a0.2),()),()))) fun x0=>
  opt (zC (fun s1:((Int×(Int×Unit))×Unit)=>
   opt (atI a0.1 s1.1.2.1) fun x2=>
   bif !(zj s1.1.1 x2.2) then opt (atI a0.1 s1.1.2.1) fun x3=>
    some (.inr (((wrF .i64 (s1.1.1 - x3.2)),((wrF .i64 (s1.1.2.1+1)),())),()))
   else some (.inl (0,((s1.1.1,(s1.1.2.1,())),())))) zK ((x0.2.1.1,(0,())),())) fun x4=>
  some (x4.2.1.2.1,(x4.2.1.1,()))
abbrev ze2:Type:=(ql×Int×Unit)→Option (Int×Int×Unit)
def zsD:ze2:=sF Tryz.prog [] zzS (zN []) 30 172 zj7 zj8
theorem zBN (a0) (a1):zsD (a0,a1,())=zj9 a0 a1:=by kernel_rfl
def XF:ze2:=zsD
theorem zwA:Con.Ok Tryz.prog 172 ⟨zj7,zj8,XF⟩:=zv zi zo (by kernel_rfl)
theorem zwB (a0) (a1):XF (a0,a1,())=zj9  a0 a1:=zBN  a0 a1
abbrev XG:List VT:=[⟨true,zL⟩,⟨false,I⟩,⟨false,I⟩]
abbrev XH:List VT:=[⟨false,(.list qQ)⟩]
def zoB:zT:=zM [cdF zL,cdF qh] [] [⟨4,68,some 6,qQ,false⟩,⟨4,68,some 7,qQ,true⟩,⟨8,68,some 6,qQ,false⟩,⟨8,68,some 7,qQ,true⟩,⟨10,68,some 6,qQ,false⟩,⟨10,68,some 7,qQ,true⟩] [] [172,152]
def GL (KS:ze2) (jy:Qp) (a0:ql) (a1:Int) (a2:Int):Option ((List xB)×Unit):=
 opt (zC (fun s0:((Bool×(Int×Unit))×((List (Int×Int))×Unit))=>
  bif zj s0.1.2.1 a2 then opt (KS (a0,(s0.1.2.1,()))) fun x1=>
   opt (atI a0.1 x1.1) fun x2=>
   opt (atI a0.1 x1.1) fun x3=>
   opt (jy (x3.1,(6,()))) fun x4=>
   opt (bif x4.1 then bif s0.1.1 then opt (atI s0.2.1 (wrF .i64 (((s0.2.1.length:Nat):Int) - 1))) fun x5=>
      opt (gl s0.2.1 (Int.toNat (wrF .i64 (((s0.2.1.length:Nat):Int) - 1)))) fun x6=>
      some (0,((),((s0.2.1.set (Int.toNat (wrF .i64 (((s0.2.1.length:Nat):Int) - 1))) (x6.1,(jl (wrF .i64 ((wrF .i64 (s0.1.2.1 - x1.2.1))+x2.2)) a2))),())))
     else some (0,((),(s0.2.1,())))
    else some (0,((),(s0.2.1,())))) fun x7=>
   opt (bif x4.1 then bif !s0.1.1 then bif (qS x7.2.2.1.length (((s0.1.2.1,(jl (wrF .i64 ((wrF .i64 (s0.1.2.1 - x1.2.1))+x2.2)) a2))::[]).length) 16) then some (0,((),((x7.2.2.1++((s0.1.2.1,(jl (wrF .i64 ((wrF .i64 (s0.1.2.1 - x1.2.1))+x2.2)) a2))::[])),())))
      else none
     else some (0,((),(x7.2.2.1,())))
    else some (0,((),(x7.2.2.1,())))) fun x8=>
   some (.inr ((x4.1,((jl (wrF .i64 ((wrF .i64 (s0.1.2.1 - x1.2.1))+x2.2)) a2),())),(x8.2.2.1,())))
  else some (.inl (0,((s0.1.1,(s0.1.2.1,())),(s0.2.1,()))))) zK ((false,(a1,())),([],()))) fun x9=>
 some (x9.2.2.1,())
abbrev Zc:Type:=(ql×Int×Int×Unit)→Option ((List xB)×Unit)
def zgi:ze2→Qp→Zc:=fun KS jy=>sF Tryz.prog [(172,⟨zj7,zj8,KS⟩),(152,⟨Ur,Us,jy⟩)] zoB (zN []) 30 153 XG XH
theorem zqv (KS) (jy) (a0) (a1) (a2):zgi KS jy (a0,a1,a2,())=GL KS jy a0 a1 a2:=by kernel_rfl
def yH:Zc:=zgi XF vo
theorem zb0:Con.Ok Tryz.prog 153 ⟨XG,XH,yH⟩:=zv (zd zwA (zd zcG zi)) zo (by kernel_rfl)
theorem zlo (a0) (a1) (a2):yH (a0,a1,a2,())=GL XF vo a0 a1 a2:=zqv XF vo a0 a1 a2
abbrev UY:List VT:=[⟨true,zL⟩]
abbrev UZ:List VT:=[⟨false,(.list qQ)⟩]
def zur:zT:=zM [cdF zL,cdF qh] [] [⟨3,36,some 2,qQ,false⟩] [] [152]
def zd4 (jy:Qp) (jN:Zc) (a0:ql):Option ((List xB)×Unit):=
 opt (zC (fun s0:((Int×(Int×Unit))×Unit)=>
  bif (zj s0.1.2.1 ((a0.1.length:Nat):Int)) then opt (atI a0.1 s0.1.2.1) fun x1=>
   opt (jy (x1.1,(6,()))) fun x2=>
   bif x2.1 then opt (atI a0.1 s0.1.2.1) fun x3=>
    some (.inr (((wrF .i64 (s0.1.1+x3.2)),((wrF .i64 (s0.1.2.1+1)),())),()))
   else some (.inl (0,((s0.1.1,(s0.1.2.1,())),())))
  else some (.inl (0,((s0.1.1,(s0.1.2.1,())),())))) zK ((0,(0,())),())) fun x4=>
 opt (jN (a0,(x4.2.1.1,((wrF .i64 (x4.2.1.1+a0.2)),())))) fun x5=>
 some (x5.1,())
abbrev JQ:Type:=(ql×Unit)→Option ((List xB)×Unit)
def zkM:Qp→Zc→JQ:=fun jy jN=>sF Tryz.prog [(152,⟨Ur,Us,jy⟩),(153,⟨XG,XH,jN⟩)] zur (zN []) 30 108 UY UZ
theorem zwC (jy) (jN) (a0):zkM jy jN (a0,())=zd4 jy jN a0:=by kernel_rfl
def xt:JQ:=zkM vo yH
theorem zgj:Con.Ok Tryz.prog 108 ⟨UY,UZ,xt⟩:=zv (zd zcG (zd zb0 zi)) zo (by kernel_rfl)
theorem zqw (a0):xt (a0,())=zd4 vo yH a0:=zwC vo yH a0
abbrev zcY:List VT:=[⟨false,(.list qQ)⟩,⟨false,I⟩]
abbrev zcZ:List VT:=[⟨false,I⟩]
def zyZ:zT:=zM [cdF qQ] [] [] [] []
def zh0 (a0:(List xB)) (a1:Int):Option (Int×Unit):=
 opt (zC (fun s0:((Int×(Int×Unit))×Unit)=>
  bif (zj s0.1.2.1 ((a0.length:Nat):Int)) then opt (atI a0 s0.1.2.1) fun x1=>
   opt (atI a0 s0.1.2.1) fun x2=>
   some (.inr (((wrF .i64 (s0.1.1+(ud 0 (wrF .i64 ((wrF .i64 (x1.2 - x2.1)) - a1))))),((wrF .i64 (s0.1.2.1+1)),())),()))
  else some (.inl (0,((s0.1.1,(s0.1.2.1,())),())))) zK ((0,(0,())),())) fun x3=>
 some (x3.2.1.1,())
abbrev Vf:Type:=((List xB)×Int×Unit)→Option (Int×Unit)
def zo9:Vf:=sF Tryz.prog [] zyZ (zN []) 30 151 zcY zcZ
theorem zzT (a0) (a1):zo9 (a0,a1,())=zh0 a0 a1:=by kernel_rfl
def Zo:Vf:=zo9
theorem ziO:Con.Ok Tryz.prog 151 ⟨zcY,zcZ,Zo⟩:=zv zi zo (by kernel_rfl)
theorem zus (a0) (a1):Zo (a0,a1,())=zh0  a0 a1:=zzT  a0 a1
abbrev zd5:List VT:=[⟨true,zL⟩,⟨false,I⟩,⟨false,I⟩]
abbrev zd6:List VT:=[⟨false,I⟩]
def zut:zT:=zM [cdF zL,cdF qh] [] [] [] [107,151]
def Ga (qJ:kn) (yp:JQ) (xD:Vf) (a0:ql) (a1:Int) (a2:Int):Option (Int×Unit):=
 opt (qJ (a0,())) fun x0=>
 bif x0.1 then some (a0.2,())
 else opt (yp (a0,())) fun x1=>
  opt (xD (x1.1,((wrF .i64 (a2*a1)),()))) fun x2=>
  some (x2.1,())
abbrev Gb:Type:=(ql×Int×Int×Unit)→Option (Int×Unit)
def zkN:kn→JQ→Vf→Gb:=fun qJ yp xD=>sF Tryz.prog [(107,⟨YF,YG,qJ⟩),(108,⟨UY,UZ,yp⟩),(151,⟨zcY,zcZ,xD⟩)] zut (zN []) 30 106 zd5 zd6
theorem zwD (qJ) (yp) (xD) (a0) (a1) (a2):zkN qJ yp xD (a0,a1,a2,())=Ga qJ yp xD a0 a1 a2:=by kernel_rfl
def Qb:Gb:=zkN yf xt Zo
theorem zqx:Con.Ok Tryz.prog 106 ⟨zd5,zd6,Qb⟩:=zv (zd Uf (zd zgj (zd ziO zi))) zo (by kernel_rfl)
theorem zgk (a0) (a1) (a2):Qb (a0,a1,a2,())=Ga yf xt Zo a0 a1 a2:=zwD yf xt Zo a0 a1 a2
abbrev zd7:List VT:=[⟨true,zL⟩,⟨false,I⟩,⟨false,I⟩,⟨false,I⟩,⟨false,I⟩]
abbrev zd8:List VT:=[⟨false,I⟩]
def zuu:zT:=zM [cdF zL,cdF qh] [] [] [] [107,151]
def zd9 (qJ:kn) (jN:Zc) (xD:Vf) (a0:ql) (a1:Int) (a2:Int) (a3:Int) (a4:Int):Option (Int×Unit):=
 opt (qJ (a0,())) fun x0=>
 bif x0.1 then some ((wrF .i64 (a4 - (wrF .i64 (127*a1)))),())
 else opt (jN (a0,(a3,((wrF .i64 (a3+a4)),())))) fun x1=>
  opt (xD (x1.1,((wrF .i64 (a2*a1)),()))) fun x2=>
  some ((wrF .i64 (x2.1 - (wrF .i64 (127*a1)))),())
abbrev Gc:Type:=(ql×Int×Int×Int×Int×Unit)→Option (Int×Unit)
def zkO:kn→Zc→Vf→Gc:=fun qJ jN xD=>sF Tryz.prog [(107,⟨YF,YG,qJ⟩),(153,⟨XG,XH,jN⟩),(151,⟨zcY,zcZ,xD⟩)] zuu (zN []) 30 109 zd7 zd8
theorem zwE (qJ) (jN) (xD) (a0) (a1) (a2) (a3) (a4):zkO qJ jN xD (a0,a1,a2,a3,a4,())=zd9 qJ jN xD a0 a1 a2 a3 a4:=by kernel_rfl
def JR:Gc:=zkO yf yH Zo
theorem zqy:Con.Ok Tryz.prog 109 ⟨zd7,zd8,JR⟩:=zv (zd Uf (zd zb0 (zd ziO zi))) zo (by kernel_rfl)
theorem zqz (a0) (a1) (a2) (a3) (a4):JR (a0,a1,a2,a3,a4,())=zd9 yf yH Zo a0 a1 a2 a3 a4:=zwE yf yH Zo a0 a1 a2 a3 a4
abbrev zka:List VT:=[⟨true,zL⟩,⟨false,I⟩,⟨false,I⟩]
abbrev zkb:List VT:=[⟨true,yX⟩,⟨false,I⟩]
def zzU:zT:=zM [cdF zL,cdF qh] [] [] [] [105,106,107,109]
def zbm (Xc:zbl) (Wf:Gb) (qJ:kn) (yp:JQ) (Wg:Gc) (a0:ql) (a1:Int) (a2:Int):Option (wB×Int×Unit):=
 opt (Xc (a0,(a1,(a2,())))) fun x0=>
 bif !(zm x0.1 0) then some ((0,0),(x0.1,()))
 else opt (Wf (a0,(a1,(a2,())))) fun x1=>
  bif (zm (wrF .i64 (a0.2*a1)) 0) then none
  else bif (zj (wrF .i64 (Int.tdiv (wrF .i64 (x1.1*1048576)) (wrF .i64 (a0.2*a1)))) 1) then some ((0,0),(4,()))
   else opt (opt (qJ (a0,())) fun x2=>
     bif !x2.1 then opt (yp (a0,())) fun x3=>
      opt (zC (fun s4:((Int×(Int×Unit))×Unit)=>
       bif (zj s4.1.2.1 ((x3.1.length:Nat):Int)) then opt (atI x3.1 s4.1.2.1) fun x5=>
        opt (atI x3.1 s4.1.2.1) fun x6=>
        opt (atI x3.1 s4.1.2.1) fun x7=>
        opt (zC (fun s8:((Int×(Int×Unit))×Unit)=>
         bif (zj s8.1.2.1 (wrF .i64 (2*((x3.1.length:Nat):Int)))) then bif (zm ((x3.1.length:Nat):Int) 0) then none
          else opt (atI x3.1 (Int.tmod s8.1.2.1 ((x3.1.length:Nat):Int))) fun x9=>
           bif (zm ((x3.1.length:Nat):Int) 0) then none
           else opt (bif (zj (wrF .i64 (x5.2 - (jl (wrF .i64 (x6.2 - x7.1)) (wrF .i64 (a2*a1))))) (wrF .i64 ((wrF .i64 (x9.1+(jl (wrF .i64 (x9.2 - x9.1)) (wrF .i64 (a2*a1)))))+(wrF .i64 ((wrF .i64 (Int.tdiv s8.1.2.1 ((x3.1.length:Nat):Int)))*a0.2))))) then opt (Wg (a0,(a1,(a2,((wrF .i64 (x5.2 - (jl (wrF .i64 (x6.2 - x7.1)) (wrF .i64 (a2*a1))))),((wrF .i64 ((wrF .i64 ((wrF .i64 (x9.1+(jl (wrF .i64 (x9.2 - x9.1)) (wrF .i64 (a2*a1)))))+(wrF .i64 ((wrF .i64 (Int.tdiv s8.1.2.1 ((x3.1.length:Nat):Int)))*a0.2)))) - (wrF .i64 (x5.2 - (jl (wrF .i64 (x6.2 - x7.1)) (wrF .i64 (a2*a1))))))),())))))) fun x10=>
              some (0,(((ud s8.1.1 (wrF .i64 ((wrF .i64 ((wrF .i64 ((wrF .i64 ((wrF .i64 ((wrF .i64 (x9.1+(jl (wrF .i64 (x9.2 - x9.1)) (wrF .i64 (a2*a1)))))+(wrF .i64 ((wrF .i64 (Int.tdiv s8.1.2.1 ((x3.1.length:Nat):Int)))*a0.2)))) - (wrF .i64 (x5.2 - (jl (wrF .i64 (x6.2 - x7.1)) (wrF .i64 (a2*a1)))))))*(wrF .i64 (Int.tdiv (wrF .i64 (x1.1*1048576)) (wrF .i64 (a0.2*a1))))))*a1)) - (wrF .i64 (x10.1*1048576))))),()),()))
             else some (0,((s8.1.1,()),()))) fun x11=>
            some (.inr ((x11.2.1.1,((wrF .i64 (s8.1.2.1+1)),())),()))
         else some (.inl (0,((s8.1.1,(s8.1.2.1,())),())))) zK ((s4.1.1,(0,())),())) fun x12=>
        some (.inr ((x12.2.1.1,((wrF .i64 (s4.1.2.1+1)),())),()))
       else some (.inl (0,((s4.1.1,(s4.1.2.1,())),())))) zK (((wrF .i64 ((wrF .i64 (127*a1))*1048576)),(0,())),())) fun x13=>
      some (0,((a0,(x13.2.1.1,())),()))
     else some (0,((a0,((wrF .i64 ((wrF .i64 (127*a1))*1048576)),())),()))) fun x14=>
    bif (zm (wrF .i64 ((wrF .i64 (Int.tdiv (wrF .i64 (x1.1*1048576)) (wrF .i64 (a0.2*a1))))*a1)) 0) then none
    else some (((wrF .i64 (Int.tdiv (wrF .i64 (x1.1*1048576)) (wrF .i64 (a0.2*a1)))),(wrF .i64 (Int.tdiv (wrF .i64 ((wrF .i64 (x14.2.1.2.1+(wrF .i64 ((wrF .i64 (Int.tdiv (wrF .i64 (x1.1*1048576)) (wrF .i64 (a0.2*a1))))*a1)))) - 1)) (wrF .i64 ((wrF .i64 (Int.tdiv (wrF .i64 (x1.1*1048576)) (wrF .i64 (a0.2*a1))))*a1))))),(0,()))
abbrev ze3:Type:=(ql×Int×Int×Unit)→Option (wB×Int×Unit)
def zsE:zbl→Gb→kn→JQ→Gc→ze3:=fun Xc Wf qJ yp Wg=>sF Tryz.prog [(105,⟨zgf,zgg,Xc⟩),(106,⟨zd5,zd6,Wf⟩),(107,⟨YF,YG,qJ⟩),(108,⟨UY,UZ,yp⟩),(109,⟨zd7,zd8,Wg⟩)] zzU (zN []) 30 75 zka zkb
theorem zBO (Xc) (Wf) (qJ) (yp) (Wg) (a0) (a1) (a2):zsE Xc Wf qJ yp Wg (a0,a1,a2,())=zbm Xc Wf qJ yp Wg a0 a1 a2:=by kernel_rfl
def Qk:ze3:=zsE YE Qb yf xt JR
theorem zwF:Con.Ok Tryz.prog 75 ⟨zka,zkb,Qk⟩:=zv (zd zsA (zd zqx (zd Uf (zd zgj (zd zqy zi))))) zo (by kernel_rfl)
theorem zea (a0) (a1) (a2):Qk (a0,a1,a2,())=zbm YE Qb yf xt JR a0 a1 a2:=zBO YE Qb yf xt JR a0 a1 a2
abbrev Gd:List VT:=[⟨true,zu⟩]
abbrev Ge:List VT:=[⟨false,.bool⟩]
def zuv:zT:=zM [cdF zu] [] [] [] []
def zeb (a0:qx):Option (Bool×Unit):=
 bif !(zj a0.1 1) then bif !(zj 1048576 a0.1) then bif !(zj a0.2 1) then some ((!(zj 2097152 a0.2)),())
   else some (false,())
  else some (false,())
 else some (false,())
abbrev JS:Type:=(qx×Unit)→Option (Bool×Unit)
def zkP:JS:=sF Tryz.prog [] zuv (zN []) 30 110 Gd Ge
theorem zwG (a0):zkP (a0,())=zeb a0:=by kernel_rfl
def uH:JS:=zkP
theorem zgl:Con.Ok Tryz.prog 110 ⟨Gd,Ge,uH⟩:=zv zi zo (by kernel_rfl)
theorem zqA (a0):uH (a0,())=zeb  a0:=zwG  a0
abbrev zh1:List VT:=[⟨false,(.list zu)⟩]
abbrev zh2:List VT:=[⟨true,zu⟩,⟨false,I⟩]
def zy0:zT:=zM [cdF zu] [] [] [] [110]
def zh3 (wN:JS) (a0:(List qx)):Option (qx×Int×Unit):=
 bif (zm ((a0.length:Nat):Int) 0) then some ((0,0),(2,()))
 else bif (zj 12 ((a0.length:Nat):Int)) then some ((0,0),(3,()))
  else opt (zC (fun s0:(((Int×Int)×((Int×Int)×(Int×(Int×Unit))))×Unit)=>
    bif (zj s0.1.2.2.2.1 ((a0.length:Nat):Int)) then opt (atI a0 s0.1.2.2.2.1) fun x1=>
     opt (wN (x1,())) fun x2=>
     bif !x2.1 then some (.inl (1,(((0,0),(s0.1.2.1,(130,(s0.1.2.2.2.1,())))),())))
     else opt (atI a0 s0.1.2.2.2.1) fun x3=>
      opt (atI a0 s0.1.2.2.2.1) fun x4=>
      some (.inr ((s0.1.1,(((wrF .i64 (s0.1.2.1.1+x3.1)),(wrF .i64 (s0.1.2.1.2+x4.2))),(s0.1.2.2.1,((wrF .i64 (s0.1.2.2.2.1+1)),())))),()))
    else some (.inl (0,((s0.1.1,(s0.1.2.1,(s0.1.2.2.1,(s0.1.2.2.2.1,())))),())))) zK (((0,0),((0,0),(0,(0,())))),())) fun x5=>
   bif Nat.beq x5.1 0 then opt (wN (x5.2.1.2.1,())) fun x6=>
    bif !x6.1 then some ((0,0),(6,()))
    else some (x5.2.1.2.1,(0,()))
   else some (x5.2.1.1,(x5.2.1.2.2.1,()))
abbrev zc0:Type:=((List qx)×Unit)→Option (qx×Int×Unit)
def zpa:JS→zc0:=fun wN=>sF Tryz.prog [(110,⟨Gd,Ge,wN⟩)] zy0 (zN []) 30 77 zh1 zh2
theorem zzV (wN) (a0):zpa wN (a0,())=zh3 wN a0:=by kernel_rfl
def Vg:zc0:=zpa uH
theorem zuw:Con.Ok Tryz.prog 77 ⟨zh1,zh2,Vg⟩:=zv (zd zgl zi) zo (by kernel_rfl)
theorem zux (a0):Vg (a0,())=zh3 uH a0:=zzV uH a0
abbrev zec:List VT:=[⟨true,yX⟩]
abbrev zed:List VT:=[⟨false,.bool⟩]
def zuy:zT:=zM [cdF yX] [] [] [] []
def zee (a0:wB):Option (Bool×Unit):=
 bif !(zj a0.1 1) then bif !(zj 2097152 a0.1) then bif !(zj a0.2 0) then some ((!(zj 268435456 a0.2)),())
   else some (false,())
  else some (false,())
 else some (false,())
abbrev Gf:Type:=(wB×Unit)→Option (Bool×Unit)
def zkQ:Gf:=sF Tryz.prog [] zuy (zN []) 30 111 zec zed
theorem zwH (a0):zkQ (a0,())=zee a0:=by kernel_rfl
def JT:Gf:=zkQ
theorem zqB:Con.Ok Tryz.prog 111 ⟨zec,zed,JT⟩:=zv zi zo (by kernel_rfl)
theorem zqC (a0):JT (a0,())=zee  a0:=zwH  a0
abbrev zgm:List VT:=[⟨false,(.list zu)⟩,⟨false,I⟩]
abbrev zgn:List VT:=[⟨false,.bool⟩]
def zwI:zT:=zM [cdF zu] [] [] [] []
def zgo (a0:(List qx)) (a1:Int):Option (Bool×Unit):=
 opt (zC (fun s0:((Bool×(Int×Unit))×Unit)=>
  bif (zj s0.1.2.1 ((a0.length:Nat):Int)) then opt (atI a0 s0.1.2.1) fun x1=>
   bif !(zj a1 x1.2) then some (.inl (1,((true,(s0.1.2.1,())),())))
   else some (.inr ((s0.1.1,((wrF .i64 (s0.1.2.1+1)),())),()))
  else some (.inl (0,((s0.1.1,(s0.1.2.1,())),())))) zK ((false,(0,())),())) fun x2=>
 bif Nat.beq x2.1 0 then some (false,())
 else some (x2.2.1.1,())
abbrev zbn:Type:=((List qx)×Int×Unit)→Option (Bool×Unit)
def znb:zbn:=sF Tryz.prog [] zwI (zN []) 30 112 zgm zgn
theorem zy1 (a0) (a1):znb (a0,a1,())=zgo a0 a1:=by kernel_rfl
def YH:zbn:=znb
theorem zsF:Con.Ok Tryz.prog 112 ⟨zgm,zgn,YH⟩:=zv zi zo (by kernel_rfl)
theorem zsG (a0) (a1):YH (a0,a1,())=zgo  a0 a1:=zy1  a0 a1
abbrev zbo:List VT:=[⟨false,I⟩,⟨false,I⟩]
abbrev zbp:List VT:=[⟨false,I⟩]
def zwJ:zT:=zM [] [] [] [] []
def zgp (a0:Int) (a1:Int):Option (Int×Unit):=
 bif zm a1 0 then none
 else opt (bif (zj (wrF .i64 ((wrF .i64 (Int.tdiv a0 a1))*a1)) a0) then some (0,(((wrF .i64 ((wrF .i64 (Int.tdiv a0 a1))+1)),()),()))
   else some (0,(((wrF .i64 (Int.tdiv a0 a1)),()),()))) fun x0=>
  some (x0.2.1.1,())
abbrev YI:Type:=(Int×Int×Unit)→Option (Int×Unit)
def znc:YI:=sF Tryz.prog [] zwJ (zN []) 30 114 zbo zbp
theorem zy2 (a0) (a1):znc (a0,a1,())=zgp a0 a1:=by kernel_rfl
def kR:YI:=znc
theorem zhj:Con.Ok Tryz.prog 114 ⟨zbo,zbp,kR⟩:=zv zi zo (by kernel_rfl)
theorem zsH (a0) (a1):kR (a0,a1,())=zgp  a0 a1:=zy2  a0 a1
abbrev GM:List VT:=[⟨false,(.list zu)⟩,⟨false,I⟩]
abbrev GN:List VT:=[⟨false,I⟩]
def zoC:zT:=zM [cdF zu] [] [] [] [114]
def GO (yF:YI) (a0:(List qx)) (a1:Int):Option (Int×Unit):=
 opt (zC (fun s0:((Int×(Int×Unit))×Unit)=>
  bif (zj s0.1.2.1 ((a0.length:Nat):Int)) then opt (atI a0 s0.1.2.1) fun x1=>
   bif zj a1 x1.2 then some (.inr ((s0.1.1,((wrF .i64 (s0.1.2.1+1)),())),()))
   else opt (yF ((wrF .i64 (x1.1*1048576)),(a1,()))) fun x2=>
    opt (bif zj s0.1.1 0 then some (0,((x2.1,()),()))
     else bif zj x2.1 s0.1.1 then some (0,((x2.1,()),()))
      else some (0,((s0.1.1,()),()))) fun x3=>
    opt (zC (fun s4:((Int×(Int×Unit))×Unit)=>
     bif (zj s4.1.2.1 ((a0.length:Nat):Int)) then opt (atI a0 s4.1.2.1) fun x5=>
      opt (bif zj a1 x5.2 then bif zj x5.1 x1.1 then opt (yF ((wrF .i64 ((wrF .i64 ((wrF .i64 ((wrF .i64 (x5.2 - a1))*x1.1))+(wrF .i64 ((wrF .i64 (a1 - x1.2))*x5.1))))*1048576)),((wrF .i64 (a1*(wrF .i64 (x5.2 - x1.2)))),()))) fun x6=>
         some (0,(((jl s4.1.1 x6.1),()),()))
        else some (0,((s4.1.1,()),()))
       else some (0,((s4.1.1,()),()))) fun x7=>
      some (.inr ((x7.2.1.1,((wrF .i64 (s4.1.2.1+1)),())),()))
     else some (.inl (0,((s4.1.1,(s4.1.2.1,())),())))) zK ((x3.2.1.1,(0,())),())) fun x8=>
    some (.inr ((x8.2.1.1,((wrF .i64 (s0.1.2.1+1)),())),()))
  else some (.inl (0,((s0.1.1,(s0.1.2.1,())),())))) zK (((-1),(0,())),())) fun x9=>
 some (x9.2.1.1,())
abbrev XI:Type:=((List qx)×Int×Unit)→Option (Int×Unit)
def zgq:YI→XI:=fun yF=>sF Tryz.prog [(114,⟨zbo,zbp,yF⟩)] zoC (zN []) 30 113 GM GN
theorem zqD (yF) (a0) (a1):zgq yF (a0,a1,())=GO yF a0 a1:=by kernel_rfl
def Zd:XI:=zgq kR
theorem zlp:Con.Ok Tryz.prog 113 ⟨GM,GN,Zd⟩:=zv (zd zhj zi) zo (by kernel_rfl)
theorem zlq (a0) (a1):Zd (a0,a1,())=GO kR a0 a1:=zqD kR a0 a1
abbrev Gg:List VT:=[⟨false,(.list zu)⟩,⟨true,yX⟩]
abbrev Gh:List VT:=[⟨false,I⟩,⟨false,I⟩]
def zuz:zT:=zM [cdF yX] [] [] [] [110,111,112,113]
def zef (wN:JS) (Wh:Gf) (Xd:zbn) (Zi:XI) (a0:(List qx)) (a1:wB):Option (Int×Int×Unit):=
 bif (zm ((a0.length:Nat):Int) 0) then some (0,(2,()))
 else bif (zj 12 ((a0.length:Nat):Int)) then some (0,(3,()))
  else opt (zC (fun s0:((Int×(Int×(Int×Unit)))×Unit)=>
    bif (zj s0.1.2.2.1 ((a0.length:Nat):Int)) then opt (atI a0 s0.1.2.2.1) fun x1=>
     opt (wN (x1,())) fun x2=>
     bif !x2.1 then some (.inl (1,((0,(130,(s0.1.2.2.1,()))),())))
     else some (.inr ((s0.1.1,(s0.1.2.1,((wrF .i64 (s0.1.2.2.1+1)),()))),()))
    else some (.inl (0,((s0.1.1,(s0.1.2.1,(s0.1.2.2.1,()))),())))) zK ((0,(0,(0,()))),())) fun x3=>
   bif Nat.beq x3.1 0 then opt (Wh (a1,())) fun x4=>
    bif !x4.1 then some (0,(140,()))
    else opt (Xd (a0,(a1.1,()))) fun x5=>
     bif !x5.1 then some (0,(141,()))
     else opt (Zi (a0,(a1.1,()))) fun x6=>
      some ((wrF .i64 (a1.2+x6.1)),(0,()))
   else some (x3.2.1.1,(x3.2.1.2.1,()))
abbrev JU:Type:=((List qx)×wB×Unit)→Option (Int×Int×Unit)
def zkR:JS→Gf→zbn→XI→JU:=fun wN Wh Xd Zi=>sF Tryz.prog [(110,⟨Gd,Ge,wN⟩),(111,⟨zec,zed,Wh⟩),(112,⟨zgm,zgn,Xd⟩),(113,⟨GM,GN,Zi⟩)] zuz (zN []) 30 78 Gg Gh
theorem zwK (wN) (Wh) (Xd) (Zi) (a0) (a1):zkR wN Wh Xd Zi (a0,a1,())=zef wN Wh Xd Zi a0 a1:=by kernel_rfl
def uI:JU:=zkR uH JT YH Zd
theorem zgr:Con.Ok Tryz.prog 78 ⟨Gg,Gh,uI⟩:=zv (zd zgl (zd zqB (zd zsF (zd zlp zi)))) zo (by kernel_rfl)
theorem zqE (a0) (a1):uI (a0,a1,())=zef uH JT YH Zd a0 a1:=zwK uH JT YH Zd a0 a1
abbrev zbq:List VT:=[⟨true,zu⟩,⟨true,yX⟩]
abbrev zbr:List VT:=[⟨false,I⟩,⟨false,I⟩]
def zqF:zT:=zM [cdF zu] [] [] [] [78,114]
def zbt (yq:JU) (yF:YI) (a0:qx) (a1:wB):Option (Int×Int×Unit):=
 opt (yq ((a0::[]),(a1,()))) fun x0=>
 bif !(zm x0.2.1 0) then some (0,(x0.2.1,()))
 else opt (yF ((wrF .i64 (a0.2*a1.2)),(1048576,()))) fun x1=>
  some ((wrF .i64 (a0.1+x1.1)),(0,()))
abbrev VG:Type:=(qx×wB×Unit)→Option (Int×Int×Unit)
def zhk:JU→YI→VG:=fun yq yF=>sF Tryz.prog [(78,⟨Gg,Gh,yq⟩),(114,⟨zbo,zbp,yF⟩)] zqF (zN []) 30 79 zbq zbr
theorem zsI (yq) (yF) (a0) (a1):zhk yq yF (a0,a1,())=zbt yq yF a0 a1:=by kernel_rfl
def ZG:VG:=zhk uI kR
theorem znd:Con.Ok Tryz.prog 79 ⟨zbq,zbr,ZG⟩:=zv (zd zgr (zd zhj zi)) zo (by kernel_rfl)
theorem zne (a0) (a1):ZG (a0,a1,())=zbt uI kR a0 a1:=zsI uI kR a0 a1
abbrev zc1:List VT:=[⟨true,qt⟩,⟨false,(.list zI)⟩,⟨false,I⟩]
abbrev zc2:List VT:=[⟨true,WJ⟩,⟨false,I⟩]
def zy3:zT:=zM [cdF qt,cdF zI,cdF WJ,cdF zw,cdF zO,cdF zL,cdF qh] [] [⟨3,87,some 8,zu,true⟩,⟨5,87,some 8,zu,true⟩,⟨7,87,some 8,zu,true⟩,⟨10,87,some 8,zu,true⟩,⟨13,87,some 8,zu,true⟩,⟨16,87,some 8,zu,true⟩] [] [27,76,75,77,78,79]
def zh4 (QA:KM) (Vk:zcX) (KT:ze3) (Vl:zc0) (yq:JU) (ZK:VG) (a0:qN) (a1:(List qn)) (a2:Int):Option (zrN×Int×Unit):=
 opt (zC (fun s0:((Int×Unit)×((List (Int×Int))×Unit))=>
  bif (zj s0.1.1 ((a1.length:Nat):Int)) then opt (opt (atI a1 s0.1.1) fun x1=>
    opt (QA (x1,(a2,()))) fun x2=>
    bif x2.1 then opt (atI a1 s0.1.1) fun x3=>
     bif (qS s0.2.1.length ((x3.2.2.2.2.2.2.1::[]).length) 16) then some (0,((),((s0.2.1++(x3.2.2.2.2.2.2.1::[])),())))
     else none
    else some (0,((),(s0.2.1,())))) fun x4=>
   some (.inr (((wrF .i64 (s0.1.1+1)),()),(x4.2.2.1,())))
  else some (.inl (0,((s0.1.1,()),(s0.2.1,()))))) zK ((0,()),([],()))) fun x5=>
 bif (zm ((x5.2.2.1.length:Nat):Int) 0) then some (((0,0),((0,0),(0,0))),(4,()))
 else opt (atI a0.2.2.1 a2) fun x6=>
  opt (Vk (a0.1,(a2,()))) fun x7=>
  opt (KT (x6,(x7.1,(a0.2.2.2,())))) fun x8=>
  bif !(zm x8.2.1 0) then some (((0,0),((0,0),(0,0))),(411,()))
  else opt (Vl (x5.2.2.1,())) fun x9=>
   bif !(zm x9.2.1 0) then some (((0,0),((0,0),(0,0))),(6,()))
   else opt (yq ((x9.1::[]),(x8.1,()))) fun x10=>
    bif !(zm x10.2.1 0) then some (((0,0),((0,0),(0,0))),(141,()))
    else opt (ZK (x9.1,(x8.1,()))) fun x11=>
     some ((x9.1,(x8.1,(x10.1,x11.1))),(0,()))
abbrev Vh:Type:=(qN×(List qn)×Int×Unit)→Option (zrN×Int×Unit)
def zpb:KM→zcX→ze3→zc0→JU→VG→Vh:=fun QA Vk KT Vl yq ZK=>sF Tryz.prog [(27,⟨zcD,zcE,QA⟩),(76,⟨zhW,zhX,Vk⟩),(75,⟨zka,zkb,KT⟩),(77,⟨zh1,zh2,Vl⟩),(78,⟨Gg,Gh,yq⟩),(79,⟨zbq,zbr,ZK⟩)] zy3 (zN []) 30 46 zc1 zc2
theorem zzW (QA) (Vk) (KT) (Vl) (yq) (ZK) (a0) (a1) (a2):zpb QA Vk KT Vl yq ZK (a0,a1,a2,())=zh4 QA Vk KT Vl yq ZK a0 a1 a2:=by kernel_rfl
def Zp:Vh:=zpb Qs Ve Qk Vg uI ZG
theorem ziP:Con.Ok Tryz.prog 46 ⟨zc1,zc2,Zp⟩:=zv (zd zoy (zd zun (zd zwF (zd zuw (zd zgr (zd znd zi)))))) zo (by kernel_rfl)
theorem zuA (a0) (a1) (a2):Zp (a0,a1,a2,())=zh4 Qs Ve Qk Vg uI ZG a0 a1 a2:=zzW Qs Ve Qk Vg uI ZG a0 a1 a2
abbrev KN:List VT:=[⟨false,(.list zI)⟩,⟨false,I⟩]
abbrev KP:List VT:=[⟨false,I⟩,⟨false,I⟩]
abbrev uW:List VT:=[⟨true,KD⟩]
abbrev uX:List VT:=[⟨false,I⟩]
def zoD:zT:=zM [cdF KD,cdF zO] [] [] [] []
def GP (a0:zg9):Option (Int×Unit):=
 some (a0.1.2.2.2,())
abbrev XJ:Type:=(zg9×Unit)→Option (Int×Unit)
def zgs:XJ:=sF Tryz.prog [] zoD (zN []) 30 116 uW uX
theorem zqG (a0):zgs (a0,())=GP a0:=by kernel_rfl
def QZ:XJ:=zgs
theorem zlr:Con.Ok Tryz.prog 116 ⟨uW,uX,QZ⟩:=zv zi zo (by kernel_rfl)
theorem zls (a0):QZ (a0,())=GP  a0:=zqG  a0
abbrev Zu:List VT:=[⟨true,zw⟩,⟨false,I⟩]
abbrev Zv:List VT:=[⟨false,I⟩,⟨false,I⟩]
def zwL:zT:=zM [cdF zw,cdF KD,cdF zO] [] [] [] [37,116]
def zgt (qg:xm) (Zj:XJ) (a0:zJ) (a1:Int):Option (Int×Int×Unit):=
 opt (qg (a0,())) fun x0=>
 bif !(zm x0.1 0) then some (0,(x0.1,()))
 else opt (bif zj a1 0 then some (1,((0,(2,())),()))
   else bif (!(zj a1 (wrF .i64 (2*((a0.2.2.length:Nat):Int))))) then some (1,((0,(2,())),()))
    else some (0,((0,(0,())),()))) fun x1=>
  bif Nat.beq x1.1 0 then opt (atI a0.2.2 (wrF .i64 (Int.tdiv a1 2))) fun x2=>
   opt (Zj ((x2,a1),())) fun x3=>
   some (x3.1,(0,()))
  else some (x1.2.1.1,(x1.2.1.2.1,()))
abbrev zbu:Type:=(zJ×Int×Unit)→Option (Int×Int×Unit)
def znf:xm→XJ→zbu:=fun qg Zj=>sF Tryz.prog [(37,⟨jA,jB,qg⟩),(116,⟨uW,uX,Zj⟩)] zwL (zN []) 30 80 Zu Zv
theorem zy4 (qg) (Zj) (a0) (a1):znf qg Zj (a0,a1,())=zgt qg Zj a0 a1:=by kernel_rfl
def Ja:zbu:=znf jC QZ
theorem zsJ:Con.Ok Tryz.prog 80 ⟨Zu,Zv,Ja⟩:=zv (zd Wx (zd zlr zi)) zo (by kernel_rfl)
theorem zsK (a0) (a1):Ja (a0,a1,())=zgt jC QZ a0 a1:=zy4 jC QZ a0 a1
abbrev YJ:List VT:=[⟨true,qt⟩,⟨false,(.list zI)⟩,⟨false,I⟩,⟨false,I⟩]
abbrev YK:List VT:=[⟨false,I⟩,⟨false,I⟩]
abbrev zeg:List VT:=[⟨true,zw⟩,⟨false,I⟩]
abbrev zeh:List VT:=[⟨false,I⟩]
def zuB:zT:=zM [cdF zw,cdF zO] [] [] [] []
def zei (a0:zJ) (a1:Int):Option (Int×Unit):=
 opt (atI a0.2.2 (wrF .i64 (Int.tdiv a1 2))) fun x0=>
 some (x0.2.2.2,())
abbrev Gi:Type:=(zJ×Int×Unit)→Option (Int×Unit)
def zkS:Gi:=sF Tryz.prog [] zuB (zN []) 30 81 zeg zeh
theorem zwM (a0) (a1):zkS (a0,a1,())=zei a0 a1:=by kernel_rfl
def JV:Gi:=zkS
theorem zqH:Con.Ok Tryz.prog 81 ⟨zeg,zeh,JV⟩:=zv zi zo (by kernel_rfl)
theorem zqI (a0) (a1):JV (a0,a1,())=zei  a0 a1:=zwM  a0 a1
abbrev zgu:List VT:=[⟨true,qt⟩,⟨false,(.list zI)⟩,⟨false,(.list I)⟩]
abbrev zgv:List VT:=[⟨false,I⟩,⟨false,I⟩]
def zwN:zT:=zM [cdF qt,cdF WJ,cdF zw,cdF zO,cdF zL,cdF qh] [] [] [] [46,81]
def zgw (xE:Vh) (Wi:Gi) (a0:qN) (a1:(List qn)) (a2:(List Int)):Option (Int×Int×Unit):=
 opt (zC (fun s0:((Int×(Int×(Int×(Int×Unit))))×Unit)=>
  bif (zj s0.1.2.2.2.1 ((a2.length:Nat):Int)) then opt (atI a2 s0.1.2.2.2.1) fun x1=>
   opt (xE (a0,(a1,(x1,())))) fun x2=>
   bif !(zm x2.2.1 0) then some (.inl (1,((0,(x2.2.1,(s0.1.2.2.1,(s0.1.2.2.2.1,())))),())))
   else opt (atI a2 s0.1.2.2.2.1) fun x3=>
    opt (Wi (a0.1,(x3,()))) fun x4=>
    some (.inr ((s0.1.1,(s0.1.2.1,((wrF .i64 ((wrF .i64 ((wrF .i64 (s0.1.2.2.1+x2.1.2.2.1))+x4.1))+a0.2.1.2.2.1)),((wrF .i64 (s0.1.2.2.2.1+1)),())))),()))
  else some (.inl (0,((s0.1.1,(s0.1.2.1,(s0.1.2.2.1,(s0.1.2.2.2.1,())))),())))) zK ((0,(0,(0,(0,())))),())) fun x5=>
 bif Nat.beq x5.1 0 then some (x5.2.1.2.2.1,(0,()))
 else some (x5.2.1.1,(x5.2.1.2.1,()))
abbrev zbv:Type:=(qN×(List qn)×(List Int)×Unit)→Option (Int×Int×Unit)
def zng:Vh→Gi→zbv:=fun xE Wi=>sF Tryz.prog [(46,⟨zc1,zc2,xE⟩),(81,⟨zeg,zeh,Wi⟩)] zwN (zN []) 30 50 zgu zgv
theorem zy5 (xE) (Wi) (a0) (a1) (a2):zng xE Wi (a0,a1,a2,())=zgw xE Wi a0 a1 a2:=by kernel_rfl
def YL:zbv:=zng Zp JV
theorem zsL:Con.Ok Tryz.prog 50 ⟨zgu,zgv,YL⟩:=zv (zd ziP (zd zqH zi)) zo (by kernel_rfl)
theorem zsM (a0) (a1) (a2):YL (a0,a1,a2,())=zgw Zp JV a0 a1 a2:=zy5 Zp JV a0 a1 a2
abbrev zc3:List VT:=[]
abbrev zc4:List VT:=[⟨true,qt⟩]
abbrev XK:List VT:=[⟨false,I⟩,⟨false,I⟩,⟨false,I⟩,⟨false,I⟩,⟨false,I⟩]
abbrev XL:List VT:=[⟨true,zI⟩]
abbrev xu:List VT:=[⟨true,qt⟩,⟨false,(.list zI)⟩]
abbrev xw:List VT:=[⟨false,I⟩]
def zuC:zT:=zM [cdF qt,cdF zI,cdF ztU,cdF WJ,cdF zw,cdF zO,cdF zL,cdF qh] [] [⟨8,44,some 4,.unit,true⟩,⟨10,44,some 4,.unit,true⟩,⟨5,98,none,zu,true⟩,⟨8,98,none,zu,true⟩,⟨12,98,none,zu,true⟩,⟨15,98,none,zu,true⟩,⟨18,98,none,zu,true⟩,⟨21,98,none,zu,true⟩,⟨5,98,some 6,zu,false⟩,⟨8,98,some 6,zu,false⟩,⟨12,98,some 6,zu,false⟩,⟨15,98,some 6,zu,false⟩,⟨18,98,some 6,zu,false⟩,⟨21,98,some 6,zu,false⟩,⟨2,90,none,zu,true⟩,⟨6,90,none,zu,true⟩,⟨9,90,none,zu,true⟩,⟨10,90,none,zu,true⟩,⟨12,90,none,zu,true⟩,⟨15,90,none,zu,true⟩,⟨18,90,none,zu,true⟩,⟨21,90,none,zu,true⟩,⟨24,90,none,zu,true⟩,⟨26,90,none,zu,true⟩,⟨5,90,none,zu,true⟩,⟨2,44,none,zu,true⟩,⟨5,44,none,zu,true⟩,⟨8,44,none,zu,true⟩,⟨10,44,none,zu,true⟩,⟨2,37,none,zu,true⟩,⟨1,28,none,zu,true⟩,⟨4,28,none,zu,true⟩,⟨2,19,none,zu,true⟩,⟨4,19,none,zu,true⟩,⟨3,55,none,zu,true⟩,⟨6,55,none,zu,true⟩,⟨9,55,none,zu,true⟩] [] [13,72,136,100,101,102,103,104,80]
def zej (vZ:Jm) (gm:WV) (ji:xx) (Ql:ze1) (kW:zbf) (kX:zbh) (uM:UX) (xN:VF) (Xe:zbu) (a0:qN) (a1:(List qn)):Option (Int×Unit):=
 opt (vZ (a0,())) fun x0=>
 bif !(zm x0.1 0) then bif !(zm x0.1 0) then some (x0.1,())
  else none
 else opt (gm (a0.1,(a1,()))) fun x1=>
  bif !(zm x1.1 0) then bif !(zm x1.1 0) then some (x1.1,())
   else none
  else opt (zC (fun s2:((Unit×(Int×(Int×Unit)))×Unit)=>
    bif (zj s2.1.2.2.1 ((a1.length:Nat):Int)) then opt (atI a1 s2.1.2.2.1) fun x3=>
     opt (bif !(zm x3.2.2.2.1 6) then some (1,(((),(2,())),()))
      else bif zj a0.2.2.2 x3.2.2.2.2.1 then some (1,(((),(2,())),()))
       else some (0,(((),(s2.1.2.1,())),()))) fun x4=>
     bif Nat.beq x4.1 0 then some (.inr (((),(x4.2.1.2.1,((wrF .i64 (s2.1.2.2.1+1)),()))),()))
     else some (.inl (1,(((),(x4.2.1.2.1,(s2.1.2.2.1,()))),())))
    else some (.inl (0,(((),(s2.1.2.1,(s2.1.2.2.1,()))),())))) zK (((),(0,(0,()))),())) fun x5=>
   bif Nat.beq x5.1 0 then opt (zC (fun s6:((Int×(Int×Unit))×((List (Int×(((Int×Int)×((Int×Int)×(Int×Int)))×Int)))×Unit))=>
     bif (zj s6.1.2.1 ((a0.2.2.1.length:Nat):Int)) then opt (bif (!(mpH (α:=(((Int×Int)×((Int×Int)×(Int×Int)))×Int)) s6.2.1 s6.1.2.1)) then opt (zC (fun s7:((Int×Unit)×(((List (Int×Int))×Unit)×(Unit×(Unit×Unit))))=>
         bif (zj s7.1.1 ((a1.length:Nat):Int)) then opt (atI a1 s7.1.1) fun x8=>
          opt (zC (fun s9:((Int×(Int×Unit))×(((List (Int×Int))×Unit)×(Unit×(Unit×Unit))))=>
           bif (zj s9.1.2.1 ((x8.2.2.2.2.2.2.2.2.length:Nat):Int)) then opt (atI x8.2.2.2.2.2.2.2.2 s9.1.2.1) fun x10=>
            opt (ji (x10,(s6.1.2.1,()))) fun x11=>
            bif x11.1 then some (.inl (1,((s9.1.2.1,(s9.1.2.1,())),((s9.2.1.1,()),((),((),()))))))
            else some (.inr ((s9.1.1,((wrF .i64 (s9.1.2.1+1)),())),((s9.2.1.1,()),((),((),())))))
           else some (.inl (0,((s9.1.1,(s9.1.2.1,())),((s9.2.1.1,()),((),((),()))))))) zK ((0,(0,())),((s7.2.1.1,()),((),((),()))))) fun x12=>
          bif Nat.beq x12.1 0 then some (.inr (((wrF .i64 (s7.1.1+1)),()),((x12.2.2.1.1,()),((),((),())))))
          else bif !(zj x12.2.1.1 0) then bif (qS x12.2.2.1.1.length ((x8.2.2.2.2.2.2.1::[]).length) 16) then some (.inr (((wrF .i64 (s7.1.1+1)),()),(((x12.2.2.1.1++(x8.2.2.2.2.2.2.1::[])),()),((),((),())))))
            else none
           else some (.inr (((wrF .i64 (s7.1.1+1)),()),((x12.2.2.1.1,()),((),((),())))))
         else some (.inl (0,((s7.1.1,()),((s7.2.1.1,()),((),((),()))))))) zK ((0,()),(([],()),((),((),()))))) fun x13=>
        bif Nat.beq x13.1 0 then bif (zm ((x13.2.2.1.1.length:Nat):Int) 0) then some (0,(((((0,0),((0,0),(0,0))),4),()),((mpP (α:=(((Int×Int)×((Int×Int)×(Int×Int)))×Int)) s6.2.1 s6.1.2.1 (((0,0),((0,0),(0,0))),4)),())))
         else opt (Ql (a0.1,(s6.1.2.1,()))) fun x14=>
          bif !(zm x14.2.1 0) then some (0,(((((0,0),((0,0),(0,0))),x14.2.1),()),((mpP (α:=(((Int×Int)×((Int×Int)×(Int×Int)))×Int)) s6.2.1 s6.1.2.1 (((0,0),((0,0),(0,0))),x14.2.1)),())))
          else opt (atI a0.2.2.1 s6.1.2.1) fun x15=>
           opt (kW (x15,(x14.1,(a0.2.2.2,())))) fun x16=>
           bif !(zm x16.2.1 0) then some (0,(((((0,0),((0,0),(0,0))),411),()),((mpP (α:=(((Int×Int)×((Int×Int)×(Int×Int)))×Int)) s6.2.1 s6.1.2.1 (((0,0),((0,0),(0,0))),411)),())))
           else opt (kX (x13.2.2.1.1,())) fun x17=>
            bif !(zm x17.2.1 0) then some (0,(((((0,0),((0,0),(0,0))),x17.2.1),()),((mpP (α:=(((Int×Int)×((Int×Int)×(Int×Int)))×Int)) s6.2.1 s6.1.2.1 (((0,0),((0,0),(0,0))),x17.2.1)),())))
            else opt (uM ((x17.1::[]),(x16.1,()))) fun x18=>
             bif !(zm x18.2.1 0) then some (0,(((((0,0),((0,0),(0,0))),x18.2.1),()),((mpP (α:=(((Int×Int)×((Int×Int)×(Int×Int)))×Int)) s6.2.1 s6.1.2.1 (((0,0),((0,0),(0,0))),x18.2.1)),())))
             else opt (xN (x17.1,(x16.1,()))) fun x19=>
              bif !(zm x19.2.1 0) then some (0,(((((0,0),((0,0),(0,0))),x19.2.1),()),((mpP (α:=(((Int×Int)×((Int×Int)×(Int×Int)))×Int)) s6.2.1 s6.1.2.1 (((0,0),((0,0),(0,0))),x19.2.1)),())))
              else some (0,((((x17.1,(x16.1,(x18.1,x19.1))),0),()),((mpP (α:=(((Int×Int)×((Int×Int)×(Int×Int)))×Int)) s6.2.1 s6.1.2.1 ((x17.1,(x16.1,(x18.1,x19.1))),0)),())))
        else bif (zm ((x13.2.2.1.1.length:Nat):Int) 0) then some (0,(((((0,0),((0,0),(0,0))),4),()),((mpP (α:=(((Int×Int)×((Int×Int)×(Int×Int)))×Int)) s6.2.1 s6.1.2.1 (((0,0),((0,0),(0,0))),4)),())))
         else opt (Ql (a0.1,(s6.1.2.1,()))) fun x20=>
          bif !(zm x20.2.1 0) then some (0,(((((0,0),((0,0),(0,0))),x20.2.1),()),((mpP (α:=(((Int×Int)×((Int×Int)×(Int×Int)))×Int)) s6.2.1 s6.1.2.1 (((0,0),((0,0),(0,0))),x20.2.1)),())))
          else opt (atI a0.2.2.1 s6.1.2.1) fun x21=>
           opt (kW (x21,(x20.1,(a0.2.2.2,())))) fun x22=>
           bif !(zm x22.2.1 0) then some (0,(((((0,0),((0,0),(0,0))),411),()),((mpP (α:=(((Int×Int)×((Int×Int)×(Int×Int)))×Int)) s6.2.1 s6.1.2.1 (((0,0),((0,0),(0,0))),411)),())))
           else opt (kX (x13.2.2.1.1,())) fun x23=>
            bif !(zm x23.2.1 0) then some (0,(((((0,0),((0,0),(0,0))),x23.2.1),()),((mpP (α:=(((Int×Int)×((Int×Int)×(Int×Int)))×Int)) s6.2.1 s6.1.2.1 (((0,0),((0,0),(0,0))),x23.2.1)),())))
            else opt (uM ((x23.1::[]),(x22.1,()))) fun x24=>
             bif !(zm x24.2.1 0) then some (0,(((((0,0),((0,0),(0,0))),x24.2.1),()),((mpP (α:=(((Int×Int)×((Int×Int)×(Int×Int)))×Int)) s6.2.1 s6.1.2.1 (((0,0),((0,0),(0,0))),x24.2.1)),())))
             else opt (xN (x23.1,(x22.1,()))) fun x25=>
              bif !(zm x25.2.1 0) then some (0,(((((0,0),((0,0),(0,0))),x25.2.1),()),((mpP (α:=(((Int×Int)×((Int×Int)×(Int×Int)))×Int)) s6.2.1 s6.1.2.1 (((0,0),((0,0),(0,0))),x25.2.1)),())))
              else some (0,((((x23.1,(x22.1,(x24.1,x25.1))),0),()),((mpP (α:=(((Int×Int)×((Int×Int)×(Int×Int)))×Int)) s6.2.1 s6.1.2.1 ((x23.1,(x22.1,(x24.1,x25.1))),0)),())))
       else some (0,(((mpD (α:=(((Int×Int)×((Int×Int)×(Int×Int)))×Int)) s6.2.1 s6.1.2.1 (((0,0),((0,0),(0,0))),0)),()),(s6.2.1,())))) fun x26=>
      bif zm x26.2.1.1.2 4 then some (.inr ((s6.1.1,((wrF .i64 (s6.1.2.1+1)),())),(x26.2.2.1,())))
      else bif !(zm x26.2.1.1.2 0) then some (.inl (0,((x26.2.1.1.2,(s6.1.2.1,())),(x26.2.2.1,()))))
       else bif zj a0.2.1.2.2.2 x26.2.1.1.1.2.2.2 then some (.inl (0,((7,(s6.1.2.1,())),(x26.2.2.1,()))))
        else some (.inr ((s6.1.1,((wrF .i64 (s6.1.2.1+1)),())),(x26.2.2.1,())))
     else some (.inl (0,((s6.1.1,(s6.1.2.1,())),(s6.2.1,()))))) zK ((0,(0,())),([],()))) fun x27=>
    bif !(zm x27.2.1.1 0) then some (x27.2.1.1,())
    else opt (zC (fun s28:((Int×(Int×Unit))×((List (Int×(((Int×Int)×((Int×Int)×(Int×Int)))×Int)))×Unit))=>
      bif (zj s28.1.2.1 ((a1.length:Nat):Int)) then opt (atI a1 s28.1.2.1) fun x29=>
       opt (zC (fun s30:((Int×(Int×Unit))×((List (Int×(((Int×Int)×((Int×Int)×(Int×Int)))×Int)))×Unit))=>
        bif (zj s30.1.2.1 ((x29.2.2.2.2.2.2.2.2.length:Nat):Int)) then opt (atI x29.2.2.2.2.2.2.2.2 s30.1.2.1) fun x31=>
         opt (zC (fun s32:((Int×(Int×(Int×(Int×Unit))))×((List (Int×(((Int×Int)×((Int×Int)×(Int×Int)))×Int)))×Unit))=>
          bif (zj s32.1.2.2.2.1 ((x31.length:Nat):Int)) then opt (atI x31 s32.1.2.2.2.1) fun x33=>
           opt (bif (!(mpH (α:=(((Int×Int)×((Int×Int)×(Int×Int)))×Int)) s32.2.1 x33)) then opt (zC (fun s34:((Int×Unit)×(((List (Int×Int))×Unit)×(Unit×(Unit×Unit))))=>
              bif (zj s34.1.1 ((a1.length:Nat):Int)) then opt (atI a1 s34.1.1) fun x35=>
               opt (zC (fun s36:((Int×(Int×Unit))×(((List (Int×Int))×Unit)×(Unit×(Unit×Unit))))=>
                bif (zj s36.1.2.1 ((x35.2.2.2.2.2.2.2.2.length:Nat):Int)) then opt (atI x35.2.2.2.2.2.2.2.2 s36.1.2.1) fun x37=>
                 opt (ji (x37,(x33,()))) fun x38=>
                 bif x38.1 then some (.inl (1,((s36.1.2.1,(s36.1.2.1,())),((s36.2.1.1,()),((),((),()))))))
                 else some (.inr ((s36.1.1,((wrF .i64 (s36.1.2.1+1)),())),((s36.2.1.1,()),((),((),())))))
                else some (.inl (0,((s36.1.1,(s36.1.2.1,())),((s36.2.1.1,()),((),((),()))))))) zK ((0,(0,())),((s34.2.1.1,()),((),((),()))))) fun x39=>
               bif Nat.beq x39.1 0 then some (.inr (((wrF .i64 (s34.1.1+1)),()),((x39.2.2.1.1,()),((),((),())))))
               else bif !(zj x39.2.1.1 0) then bif (qS x39.2.2.1.1.length ((x35.2.2.2.2.2.2.1::[]).length) 16) then some (.inr (((wrF .i64 (s34.1.1+1)),()),(((x39.2.2.1.1++(x35.2.2.2.2.2.2.1::[])),()),((),((),())))))
                 else none
                else some (.inr (((wrF .i64 (s34.1.1+1)),()),((x39.2.2.1.1,()),((),((),())))))
              else some (.inl (0,((s34.1.1,()),((s34.2.1.1,()),((),((),()))))))) zK ((0,()),(([],()),((),((),()))))) fun x40=>
             bif Nat.beq x40.1 0 then bif (zm ((x40.2.2.1.1.length:Nat):Int) 0) then some (0,(((((0,0),((0,0),(0,0))),4),()),((mpP (α:=(((Int×Int)×((Int×Int)×(Int×Int)))×Int)) s32.2.1 x33 (((0,0),((0,0),(0,0))),4)),())))
              else opt (Ql (a0.1,(x33,()))) fun x41=>
               bif !(zm x41.2.1 0) then some (0,(((((0,0),((0,0),(0,0))),x41.2.1),()),((mpP (α:=(((Int×Int)×((Int×Int)×(Int×Int)))×Int)) s32.2.1 x33 (((0,0),((0,0),(0,0))),x41.2.1)),())))
               else opt (atI a0.2.2.1 x33) fun x42=>
                opt (kW (x42,(x41.1,(a0.2.2.2,())))) fun x43=>
                bif !(zm x43.2.1 0) then some (0,(((((0,0),((0,0),(0,0))),411),()),((mpP (α:=(((Int×Int)×((Int×Int)×(Int×Int)))×Int)) s32.2.1 x33 (((0,0),((0,0),(0,0))),411)),())))
                else opt (kX (x40.2.2.1.1,())) fun x44=>
                 bif !(zm x44.2.1 0) then some (0,(((((0,0),((0,0),(0,0))),x44.2.1),()),((mpP (α:=(((Int×Int)×((Int×Int)×(Int×Int)))×Int)) s32.2.1 x33 (((0,0),((0,0),(0,0))),x44.2.1)),())))
                 else opt (uM ((x44.1::[]),(x43.1,()))) fun x45=>
                  bif !(zm x45.2.1 0) then some (0,(((((0,0),((0,0),(0,0))),x45.2.1),()),((mpP (α:=(((Int×Int)×((Int×Int)×(Int×Int)))×Int)) s32.2.1 x33 (((0,0),((0,0),(0,0))),x45.2.1)),())))
                  else opt (xN (x44.1,(x43.1,()))) fun x46=>
                   bif !(zm x46.2.1 0) then some (0,(((((0,0),((0,0),(0,0))),x46.2.1),()),((mpP (α:=(((Int×Int)×((Int×Int)×(Int×Int)))×Int)) s32.2.1 x33 (((0,0),((0,0),(0,0))),x46.2.1)),())))
                   else some (0,((((x44.1,(x43.1,(x45.1,x46.1))),0),()),((mpP (α:=(((Int×Int)×((Int×Int)×(Int×Int)))×Int)) s32.2.1 x33 ((x44.1,(x43.1,(x45.1,x46.1))),0)),())))
             else bif (zm ((x40.2.2.1.1.length:Nat):Int) 0) then some (0,(((((0,0),((0,0),(0,0))),4),()),((mpP (α:=(((Int×Int)×((Int×Int)×(Int×Int)))×Int)) s32.2.1 x33 (((0,0),((0,0),(0,0))),4)),())))
              else opt (Ql (a0.1,(x33,()))) fun x47=>
               bif !(zm x47.2.1 0) then some (0,(((((0,0),((0,0),(0,0))),x47.2.1),()),((mpP (α:=(((Int×Int)×((Int×Int)×(Int×Int)))×Int)) s32.2.1 x33 (((0,0),((0,0),(0,0))),x47.2.1)),())))
               else opt (atI a0.2.2.1 x33) fun x48=>
                opt (kW (x48,(x47.1,(a0.2.2.2,())))) fun x49=>
                bif !(zm x49.2.1 0) then some (0,(((((0,0),((0,0),(0,0))),411),()),((mpP (α:=(((Int×Int)×((Int×Int)×(Int×Int)))×Int)) s32.2.1 x33 (((0,0),((0,0),(0,0))),411)),())))
                else opt (kX (x40.2.2.1.1,())) fun x50=>
                 bif !(zm x50.2.1 0) then some (0,(((((0,0),((0,0),(0,0))),x50.2.1),()),((mpP (α:=(((Int×Int)×((Int×Int)×(Int×Int)))×Int)) s32.2.1 x33 (((0,0),((0,0),(0,0))),x50.2.1)),())))
                 else opt (uM ((x50.1::[]),(x49.1,()))) fun x51=>
                  bif !(zm x51.2.1 0) then some (0,(((((0,0),((0,0),(0,0))),x51.2.1),()),((mpP (α:=(((Int×Int)×((Int×Int)×(Int×Int)))×Int)) s32.2.1 x33 (((0,0),((0,0),(0,0))),x51.2.1)),())))
                  else opt (xN (x50.1,(x49.1,()))) fun x52=>
                   bif !(zm x52.2.1 0) then some (0,(((((0,0),((0,0),(0,0))),x52.2.1),()),((mpP (α:=(((Int×Int)×((Int×Int)×(Int×Int)))×Int)) s32.2.1 x33 (((0,0),((0,0),(0,0))),x52.2.1)),())))
                   else some (0,((((x50.1,(x49.1,(x51.1,x52.1))),0),()),((mpP (α:=(((Int×Int)×((Int×Int)×(Int×Int)))×Int)) s32.2.1 x33 ((x50.1,(x49.1,(x51.1,x52.1))),0)),())))
            else some (0,(((mpD (α:=(((Int×Int)×((Int×Int)×(Int×Int)))×Int)) s32.2.1 x33 (((0,0),((0,0),(0,0))),0)),()),(s32.2.1,())))) fun x53=>
           bif !(zm x53.2.1.1.2 0) then some (.inl (1,((0,(x53.2.1.1.2,(s32.1.2.2.1,(s32.1.2.2.2.1,())))),(x53.2.2.1,()))))
           else opt (Xe (a0.1,(x33,()))) fun x54=>
            bif !(zm x54.2.1 0) then some (.inl (1,((0,(x54.2.1,(s32.1.2.2.1,(s32.1.2.2.2.1,())))),(x53.2.2.1,()))))
            else some (.inr ((s32.1.1,(s32.1.2.1,((wrF .i64 (s32.1.2.2.1+(wrF .i64 ((wrF .i64 (x53.2.1.1.1.2.2.1+x54.1))+a0.2.1.2.2.1)))),((wrF .i64 (s32.1.2.2.2.1+1)),())))),(x53.2.2.1,())))
          else some (.inl (0,((s32.1.1,(s32.1.2.1,(s32.1.2.2.1,(s32.1.2.2.2.1,())))),(s32.2.1,()))))) zK ((0,(0,(0,(0,())))),(s30.2.1,()))) fun x55=>
         bif Nat.beq x55.1 0 then bif zj x29.2.2.2.2.2.2.2.1 x55.2.1.2.2.1 then some (.inl (1,((412,(s30.1.2.1,())),(x55.2.2.1,()))))
          else some (.inr ((s30.1.1,((wrF .i64 (s30.1.2.1+1)),())),(x55.2.2.1,())))
         else bif !(zm x55.2.1.2.1 0) then some (.inl (1,((x55.2.1.2.1,(s30.1.2.1,())),(x55.2.2.1,()))))
          else bif zj x29.2.2.2.2.2.2.2.1 x55.2.1.1 then some (.inl (1,((412,(s30.1.2.1,())),(x55.2.2.1,()))))
           else some (.inr ((s30.1.1,((wrF .i64 (s30.1.2.1+1)),())),(x55.2.2.1,())))
        else some (.inl (0,((s30.1.1,(s30.1.2.1,())),(s30.2.1,()))))) zK ((s28.1.1,(0,())),(s28.2.1,()))) fun x56=>
       bif Nat.beq x56.1 0 then some (.inr ((x56.2.1.1,((wrF .i64 (s28.1.2.1+1)),())),(x56.2.2.1,())))
       else some (.inl (1,((x56.2.1.1,(s28.1.2.1,())),(x56.2.2.1,()))))
      else some (.inl (0,((s28.1.1,(s28.1.2.1,())),(s28.2.1,()))))) zK ((0,(0,())),(x27.2.2.1,()))) fun x57=>
     bif Nat.beq x57.1 0 then some (0,())
     else some (x57.2.1.1,())
   else bif !(zm x5.2.1.2.1 0) then some (x5.2.1.2.1,())
    else none
abbrev zek:Type:=(qN×(List qn)×Unit)→Option (Int×Unit)
def zkT:Jm→WV→xx→ze1→zbf→zbh→UX→VF→zbu→zek:=fun vZ gm ji Ql kW kX uM xN Xe=>sF Tryz.prog [(13,⟨jD,jE,vZ⟩),(72,⟨yK,yL,gm⟩),(136,⟨qF,qG,ji⟩),(100,⟨Qi,Qj,Ql⟩),(101,⟨vg,vh,kW⟩),(102,⟨kK,kL,kX⟩),(103,⟨uF,uG,uM⟩),(104,⟨xL,xM,xN⟩),(80,⟨Zu,Zv,Xe⟩)] zuC (zN []) 30 20 xu xw
theorem zwO (vZ) (gm) (ji) (Ql) (kW) (kX) (uM) (xN) (Xe) (a0) (a1):zkT vZ gm ji Ql kW kX uM xN Xe (a0,a1,())=zej vZ gm ji Ql kW kX uM xN Xe a0 a1:=by kernel_rfl
def gv:zek:=zkT vT kY qP kG yU vi xr yB Ja
theorem zqJ:Con.Ok Tryz.prog 20 ⟨xu,xw,gv⟩:=zv (zd zhQ (zd zjW (zd Ua (zd zwj (zd zsp (zd zsq (zd zqr (zd zm7 (zd zsJ zi))))))))) zo (by kernel_rfl)
theorem zqK (a0) (a1):gv (a0,a1,())=zej vT kY qP kG yU vi xr yB Ja a0 a1:=zwO vT kY qP kG yU vi xr yB Ja a0 a1
abbrev Qt:List VT:=[⟨true,zw⟩,⟨true,zI⟩]
abbrev Qu:List VT:=[⟨false,I⟩]
abbrev JW:List VT:=[⟨true,qt⟩,⟨false,(.list zI)⟩,⟨true,zI⟩]
abbrev JX:List VT:=[⟨false,(.list zI)⟩,⟨false,I⟩]
abbrev zbw:List VT:=[⟨false,(.list zI)⟩,⟨false,(.list zI)⟩]
abbrev zbx:List VT:=[⟨false,.bool⟩]
abbrev Qc:List VT:=[]
abbrev Qd:List VT:=[⟨false,.bool⟩]
abbrev nT:T zw:=(3,([true,false,true],[(0,(1,(8,5))),(1,(2,(8,5)))]))
abbrev nF:T qt:=(nT,((100,(2,(10,8000))),([([(127,100)],100),([(127,100)],100),([(127,100)],100),([(127,100)],100)],200)))
def zpc:T (zp zc3)→Option (T (zp zc4)):=sF Tryz.prog [] (fun _ _ _ _=>none) (fun _ _=>false) 100 28 zc3 zc4
theorem zuD:Con.Ok Tryz.prog 28 ⟨zc3,zc4,zpc⟩:=zv zi zo (by kernel_rfl)
def zgx:T (zp XK)→Option (T (zp XL)):=sF Tryz.prog [] (fun _ _ _ _=>none) (fun _ _=>false) 100 29 XK XL
theorem zlt:Con.Ok Tryz.prog 29 ⟨XK,XL,zgx⟩:=zv zi zo (by kernel_rfl)
def zpd:T (zp WK)→Option (T (zp WL)):=sF Tryz.prog [] (fun _ _ _ _=>none) (fun _ _=>false) 100 92 WK WL
theorem zuE:Con.Ok Tryz.prog 92 ⟨WK,WL,zpd⟩:=zv zi zo (by kernel_rfl)
def znh:T (zp QJ)→Option (T (zp QK)):=sF Tryz.prog [(92,⟨WK,WL,zpd⟩)] (fun _ _ _ _=>none) (fun _ _=>false) 100 64 QJ QK
theorem zsN:Con.Ok Tryz.prog 64 ⟨QJ,QK,znh⟩:=zv (zd zuE zi) zo (by kernel_rfl)
def zni:T (zp QL)→Option (T (zp QM)):=sF Tryz.prog [] (fun _ _ _ _=>none) (fun _ _=>false) 100 66 QL QM
theorem zsO:Con.Ok Tryz.prog 66 ⟨QL,QM,zni⟩:=zv zi zo (by kernel_rfl)
def XW:T (zp wc)→Option (T (zp we)):=sF Tryz.prog [] (fun _ _ _ _=>none) (fun _ _=>false) 100 96 wc we
theorem zbR:Con.Ok Tryz.prog 96 ⟨wc,we,XW⟩:=zv zi zo (by kernel_rfl)
def WR:T (zp ju)→Option (T (zp jv)):=sF Tryz.prog [(96,⟨wc,we,XW⟩)] (fun _ _ _ _=>none) (fun _ _=>false) 100 65 ju jv
theorem GQ:Con.Ok Tryz.prog 65 ⟨ju,jv,WR⟩:=zv (zd zbR zi) zo (by kernel_rfl)
def zy6:T (zp jA)→Option (T (zp jB)):=sF Tryz.prog [(64,⟨QJ,QK,znh⟩),(66,⟨QL,QM,zni⟩),(65,⟨ju,jv,WR⟩)] (fun _ _ _ _=>none) (fun _ _=>false) 100 37 jA jB
theorem zsP:Con.Ok Tryz.prog 37 ⟨jA,jB,zy6⟩:=zv (zd zsN (zd zsO (zd GQ zi))) zo (by kernel_rfl)
def Jb:T (zp jA)→Option (T (zp jB)):=XU [((nT,()),(0,()))]
theorem ZH:Con.Ok Tryz.prog 37 ⟨jA,jB,Jb⟩:=Xi zsP (yu (by kernel_rfl) VZ)
def XM:T (zp wP)→Option (T (zp wQ)):=sF Tryz.prog [] (fun _ _ _ _=>none) (fun _ _=>false) 100 67 wP wQ
theorem Vv:Con.Ok Tryz.prog 67 ⟨wP,wQ,XM⟩:=zv zi zo (by kernel_rfl)
def zb1:T (zp xG)→Option (T (zp xH)):=sF Tryz.prog [(67,⟨wP,wQ,XM⟩)] (fun _ _ _ _=>none) (fun _ _=>false) 100 38 xG xH
theorem zh5:Con.Ok Tryz.prog 38 ⟨xG,xH,zb1⟩:=zv (zd Vv zi) zo (by kernel_rfl)
def Gj:T (zp xn)→Option (T (zp xp)):=sF Tryz.prog [] (fun _ _ _ _=>none) (fun _ _=>false) 100 39 xn xp
theorem GR:Con.Ok Tryz.prog 39 ⟨xn,xp,Gj⟩:=zv zi zo (by kernel_rfl)
def zlu:T (zp jD)→Option (T (zp jE)):=sF Tryz.prog [(37,⟨jA,jB,Jb⟩),(38,⟨xG,xH,zb1⟩),(39,⟨xn,xp,Gj⟩)] (fun _ _ _ _=>none) (fun _ _=>false) 100 13 jD jE
theorem zh6:Con.Ok Tryz.prog 13 ⟨jD,jE,zlu⟩:=zv (zd ZH (zd zh5 (zd GR zi))) zo (by kernel_rfl)
def Jp:T (zp jD)→Option (T (zp jE)):=XU [((nF,()),(0,()))]
theorem WM:Con.Ok Tryz.prog 13 ⟨jD,jE,Jp⟩:=Xi zh6 (yu (by kernel_rfl) VZ)
def zgy:T (zp uQ)→Option (T (zp uR)):=sF Tryz.prog [(67,⟨wP,wQ,XM⟩)] (fun _ _ _ _=>none) (fun _ _=>false) 100 119 uQ uR
theorem zlv:Con.Ok Tryz.prog 119 ⟨uQ,uR,zgy⟩:=zv (zd Vv zi) zo (by kernel_rfl)
def zb2:T (zp xI)→Option (T (zp xJ)):=sF Tryz.prog [] (fun _ _ _ _=>none) (fun _ _=>false) 100 86 xI xJ
theorem zh7:Con.Ok Tryz.prog 86 ⟨xI,xJ,zb2⟩:=zv zi zo (by kernel_rfl)
def YM:T (zp wH)→Option (T (zp wI)):=sF Tryz.prog [(86,⟨xI,xJ,zb2⟩)] (fun _ _ _ _=>none) (fun _ _=>false) 100 84 wH wI
theorem Yb:Con.Ok Tryz.prog 84 ⟨wH,wI,YM⟩:=zv (zd zh7 zi) zo (by kernel_rfl)
def Kh:T (zp yv)→Option (T (zp yw)):=sF Tryz.prog [] (fun _ _ _ _=>none) (fun _ _=>false) 100 176 yv yw
theorem zan:Con.Ok Tryz.prog 176 ⟨yv,yw,Kh⟩:=zv zi zo (by kernel_rfl)
def Ki:T (zp yy)→Option (T (zp yz)):=sF Tryz.prog [] (fun _ _ _ _=>none) (fun _ _=>false) 100 157 yy yz
theorem zao:Con.Ok Tryz.prog 157 ⟨yy,yz,Ki⟩:=zv zi zo (by kernel_rfl)
def zel:T (zp uu)→Option (T (zp uv)):=sF Tryz.prog [(37,⟨jA,jB,Jb⟩),(157,⟨yy,yz,Ki⟩)] (fun _ _ _ _=>none) (fun _ _=>false) 100 174 uu uv
theorem zgz:Con.Ok Tryz.prog 174 ⟨uu,uv,zel⟩:=zv (zd ZH (zd zao zi)) zo (by kernel_rfl)
def zkU:T (zp ZR)→Option (T (zp ZS)):=sF Tryz.prog [(176,⟨yv,yw,Kh⟩),(174,⟨uu,uv,zel⟩)] (fun _ _ _ _=>none) (fun _ _=>false) 100 173 ZR ZS
theorem zqL:Con.Ok Tryz.prog 173 ⟨ZR,ZS,zkU⟩:=zv (zd zan (zd zgz zi)) zo (by kernel_rfl)
def znj:T (zp QO)→Option (T (zp QP)):=sF Tryz.prog [(173,⟨ZR,ZS,zkU⟩)] (fun _ _ _ _=>none) (fun _ _=>false) 100 154 QO QP
theorem zsQ:Con.Ok Tryz.prog 154 ⟨QO,QP,znj⟩:=zv (zd zqL zi) zo (by kernel_rfl)
def ziQ:T (zp gQ)→Option (T (zp gR)):=sF Tryz.prog [(154,⟨QO,QP,znj⟩)] (fun _ _ _ _=>none) (fun _ _=>false) 100 125 gQ gR
theorem zoE:Con.Ok Tryz.prog 125 ⟨gQ,gR,ziQ⟩:=zv (zd zsQ zi) zo (by kernel_rfl)
def ziR:T (zp gT)→Option (T (zp gU)):=sF Tryz.prog [] (fun _ _ _ _=>none) (fun _ _=>false) 100 158 gT gU
theorem zoF:Con.Ok Tryz.prog 158 ⟨gT,gU,ziR⟩:=zv zi zo (by kernel_rfl)
def Kj:T (zp wR)→Option (T (zp wS)):=sF Tryz.prog [] (fun _ _ _ _=>none) (fun _ _=>false) 100 190 wR wS
theorem zds:Con.Ok Tryz.prog 190 ⟨wR,wS,Kj⟩:=zv zi zo (by kernel_rfl)
def Xk:T (zp jS)→Option (T (zp jT)):=sF Tryz.prog [(190,⟨wR,wS,Kj⟩)] (fun _ _ _ _=>none) (fun _ _=>false) 100 177 jS jT
theorem zby:Con.Ok Tryz.prog 177 ⟨jS,jT,Xk⟩:=zv (zd zds zi) zo (by kernel_rfl)
def zdt:T (zp xX)→Option (T (zp xY)):=sF Tryz.prog [(176,⟨yv,yw,Kh⟩),(177,⟨jS,jT,Xk⟩)] (fun _ _ _ _=>none) (fun _ _=>false) 100 159 xX xY
theorem ziS:Con.Ok Tryz.prog 159 ⟨xX,xY,zdt⟩:=zv (zd zan (zd zby zi)) zo (by kernel_rfl)
def zkV:T (zp ZT)→Option (T (zp ZU)):=sF Tryz.prog [(157,⟨yy,yz,Ki⟩),(158,⟨gT,gU,ziR⟩),(159,⟨xX,xY,zdt⟩),(174,⟨uu,uv,zel⟩)] (fun _ _ _ _=>none) (fun _ _=>false) 100 127 ZT ZU
theorem zqM:Con.Ok Tryz.prog 127 ⟨ZT,ZU,zkV⟩:=zv (zd zao (zd zoF (zd ziS (zd zgz zi)))) zo (by kernel_rfl)
def zcI:T (zp kj)→Option (T (zp km)):=sF Tryz.prog [(67,⟨wP,wQ,XM⟩),(119,⟨uQ,uR,zgy⟩),(84,⟨wH,wI,YM⟩),(125,⟨gQ,gR,ziQ⟩),(127,⟨ZT,ZU,zkV⟩)] (fun _ _ _ _=>none) (fun _ _=>false) 100 82 kj km
theorem zeB:Con.Ok Tryz.prog 82 ⟨kj,km,zcI⟩:=zv (zd Vv (zd zlv (zd Yb (zd zoE (zd zqM zi))))) zo (by kernel_rfl)
def Yc:T (zp yK)→Option (T (zp yL)):=sF Tryz.prog [(37,⟨jA,jB,Jb⟩),(82,⟨kj,km,zcI⟩)] (fun _ _ _ _=>none) (fun _ _=>false) 100 72 yK yL
theorem XN:Con.Ok Tryz.prog 72 ⟨yK,yL,Yc⟩:=zv (zd ZH (zd zeB zi)) zo (by kernel_rfl)
def YN:T (zp jK)→Option (T (zp jL)):=sF Tryz.prog [] (fun _ _ _ _=>none) (fun _ _=>false) 100 162 jK jL
theorem zat:Con.Ok Tryz.prog 162 ⟨jK,jL,YN⟩:=zv zi zo (by kernel_rfl)
def xy:T (zp qF)→Option (T (zp qG)):=sF Tryz.prog [(162,⟨jK,jL,YN⟩)] (fun _ _ _ _=>none) (fun _ _=>false) 100 136 qF qG
theorem vN:Con.Ok Tryz.prog 136 ⟨qF,qG,xy⟩:=zv (zd zat zi) zo (by kernel_rfl)
def ziT:T (zp gW)→Option (T (zp gX)):=sF Tryz.prog [] (fun _ _ _ _=>none) (fun _ _=>false) 100 138 gW gX
theorem zoG:Con.Ok Tryz.prog 138 ⟨gW,gX,ziT⟩:=zv zi zo (by kernel_rfl)
def ze4:T (zp Qi)→Option (T (zp Qj)):=sF Tryz.prog [(37,⟨jA,jB,Jb⟩),(138,⟨gW,gX,ziT⟩)] (fun _ _ _ _=>none) (fun _ _=>false) 100 100 Qi Qj
theorem zem:Con.Ok Tryz.prog 100 ⟨Qi,Qj,ze4⟩:=zv (zd ZH (zd zoG zi)) zo (by kernel_rfl)
def zhl:T (zp kI)→Option (T (zp kJ)):=sF Tryz.prog [(39,⟨xn,xp,Gj⟩)] (fun _ _ _ _=>none) (fun _ _=>false) 100 139 kI kJ
theorem znk:Con.Ok Tryz.prog 139 ⟨kI,kJ,zhl⟩:=zv (zd GR zi) zo (by kernel_rfl)
def zkW:T (zp ZV)→Option (T (zp ZW)):=sF Tryz.prog [(39,⟨xn,xp,Gj⟩)] (fun _ _ _ _=>none) (fun _ _=>false) 100 191 ZV ZW
theorem zqN:Con.Ok Tryz.prog 191 ⟨ZV,ZW,zkW⟩:=zv (zd GR zi) zo (by kernel_rfl)
def znl:T (zp QR)→Option (T (zp QS)):=sF Tryz.prog [] (fun _ _ _ _=>none) (fun _ _=>false) 100 197 QR QS
theorem zsR:Con.Ok Tryz.prog 197 ⟨QR,QS,znl⟩:=zv zi zo (by kernel_rfl)
def znm:T (zp QT)→Option (T (zp QU)):=sF Tryz.prog [(197,⟨QR,QS,znl⟩)] (fun _ _ _ _=>none) (fun _ _=>false) 100 192 QT QU
theorem zsS:Con.Ok Tryz.prog 192 ⟨QT,QU,znm⟩:=zv (zd zsR zi) zo (by kernel_rfl)
def znn:T (zp QV)→Option (T (zp QW)):=sF Tryz.prog [(191,⟨ZV,ZW,zkW⟩),(192,⟨QT,QU,znm⟩)] (fun _ _ _ _=>none) (fun _ _=>false) 100 178 QV QW
theorem zsT:Con.Ok Tryz.prog 178 ⟨QV,QW,znn⟩:=zv (zd zqN (zd zsS zi)) zo (by kernel_rfl)
def zgA:T (zp uS)→Option (T (zp uT)):=sF Tryz.prog [(178,⟨QV,QW,znn⟩)] (fun _ _ _ _=>none) (fun _ _=>false) 100 164 uS uT
theorem zlw:Con.Ok Tryz.prog 164 ⟨uS,uT,zgA⟩:=zv (zd zsT zi) zo (by kernel_rfl)
def GS:T (zp xf)→Option (T (zp xg)):=sF Tryz.prog [] (fun _ _ _ _=>none) (fun _ _=>false) 100 180 xf xg
theorem zb3:Con.Ok Tryz.prog 180 ⟨xf,xg,GS⟩:=zv zi zo (by kernel_rfl)
def zeC:T (zp vC)→Option (T (zp vD)):=sF Tryz.prog [(164,⟨uS,uT,zgA⟩),(180,⟨xf,xg,GS⟩)] (fun _ _ _ _=>none) (fun _ _=>false) 100 140 vC vD
theorem zkc:Con.Ok Tryz.prog 140 ⟨vC,vD,zeC⟩:=zv (zd zlw (zd zb3 zi)) zo (by kernel_rfl)
def zkX:T (zp ZX)→Option (T (zp ZY)):=sF Tryz.prog [] (fun _ _ _ _=>none) (fun _ _=>false) 100 166 ZX ZY
theorem zqO:Con.Ok Tryz.prog 166 ⟨ZX,ZY,zkX⟩:=zv zi zo (by kernel_rfl)
def zdu:T (zp xZ)→Option (T (zp ve)):=sF Tryz.prog [(166,⟨ZX,ZY,zkX⟩)] (fun _ _ _ _=>none) (fun _ _=>false) 100 142 xZ ve
theorem ziU:Con.Ok Tryz.prog 142 ⟨xZ,ve,zdu⟩:=zv (zd zqO zi) zo (by kernel_rfl)
def zy7:T (zp vg)→Option (T (zp vh)):=sF Tryz.prog [(139,⟨kI,kJ,zhl⟩),(140,⟨vC,vD,zeC⟩),(142,⟨xZ,ve,zdu⟩),(180,⟨xf,xg,GS⟩)] (fun _ _ _ _=>none) (fun _ _=>false) 100 101 vg vh
theorem zsU:Con.Ok Tryz.prog 101 ⟨vg,vh,zy7⟩:=zv (zd znk (zd zkc (zd ziU (zd zb3 zi)))) zo (by kernel_rfl)
def zbz:T (zp vg)→Option (T (zp vh)):=XU [((([(127,100)],100),8,200,()),((131072,1016),0,()))]
theorem zbA:Con.Ok Tryz.prog 101 ⟨vg,vh,zbz⟩:=Xi zsU (yu (by kernel_rfl) VZ)
def zbB:T (zp kK)→Option (T (zp kL)):=sF Tryz.prog [(84,⟨wH,wI,YM⟩)] (fun _ _ _ _=>none) (fun _ _=>false) 100 102 kK kL
theorem zbC:Con.Ok Tryz.prog 102 ⟨kK,kL,zbB⟩:=zv (zd Yb zi) zo (by kernel_rfl)
def zen:T (zp ux)→Option (T (zp uz)):=sF Tryz.prog [] (fun _ _ _ _=>none) (fun _ _=>false) 100 59 ux uz
theorem zgB:Con.Ok Tryz.prog 59 ⟨ux,uz,zen⟩:=zv zi zo (by kernel_rfl)
def zeo:T (zp uB)→Option (T (zp uC)):=sF Tryz.prog [] (fun _ _ _ _=>none) (fun _ _=>false) 100 182 uB uC
theorem zgC:Con.Ok Tryz.prog 182 ⟨uB,uC,zeo⟩:=zv zi zo (by kernel_rfl)
def zhm:T (zp kM)→Option (T (zp kN)):=sF Tryz.prog [] (fun _ _ _ _=>none) (fun _ _=>false) 100 184 kM kN
theorem zno:Con.Ok Tryz.prog 184 ⟨kM,kN,zhm⟩:=zv zi zo (by kernel_rfl)
def zeD:T (zp vF)→Option (T (zp vG)):=sF Tryz.prog [] (fun _ _ _ _=>none) (fun _ _=>false) 100 183 vF vG
theorem zkd:Con.Ok Tryz.prog 183 ⟨vF,vG,zeD⟩:=zv zi zo (by kernel_rfl)
def zeE:T (zp vH)→Option (T (zp vI)):=sF Tryz.prog [] (fun _ _ _ _=>none) (fun _ _=>false) 100 196 vH vI
theorem zke:Con.Ok Tryz.prog 196 ⟨vH,vI,zeE⟩:=zv zi zo (by kernel_rfl)
def XX:T (zp wi)→Option (T (zp wj)):=sF Tryz.prog [(196,⟨vH,vI,zeE⟩)] (fun _ _ _ _=>none) (fun _ _=>false) 100 193 wi wj
theorem zbS:Con.Ok Tryz.prog 193 ⟨wi,wj,XX⟩:=zv (zd zke zi) zo (by kernel_rfl)
def zeF:T (zp vJ)→Option (T (zp vK)):=sF Tryz.prog [(193,⟨wi,wj,XX⟩)] (fun _ _ _ _=>none) (fun _ _=>false) 100 185 vJ vK
theorem zkf:Con.Ok Tryz.prog 185 ⟨vJ,vK,zeF⟩:=zv (zd zbS zi) zo (by kernel_rfl)
def zkY:T (zp ZZ)→Option (T (zp Qa)):=sF Tryz.prog [(182,⟨uB,uC,zeo⟩)] (fun _ _ _ _=>none) (fun _ _=>false) 100 186 ZZ Qa
theorem zqP:Con.Ok Tryz.prog 186 ⟨ZZ,Qa,zkY⟩:=zv (zd zgC zi) zo (by kernel_rfl)
def znp:T (zp QX)→Option (T (zp QY)):=sF Tryz.prog [(182,⟨uB,uC,zeo⟩),(184,⟨kM,kN,zhm⟩),(183,⟨vF,vG,zeD⟩),(185,⟨vJ,vK,zeF⟩),(186,⟨ZZ,Qa,zkY⟩)] (fun _ _ _ _=>none) (fun _ _=>false) 100 171 QX QY
theorem zsV:Con.Ok Tryz.prog 171 ⟨QX,QY,znp⟩:=zv (zd zgC (zd zno (zd zkd (zd zkf (zd zqP zi))))) zo (by kernel_rfl)
def zgD:T (zp kP)→Option (T (zp kQ)):=sF Tryz.prog [(171,⟨QX,QY,znp⟩)] (fun _ _ _ _=>none) (fun _ _=>false) 100 150 kP kQ
theorem zhn:Con.Ok Tryz.prog 150 ⟨kP,kQ,zgD⟩:=zv (zd zsV zi) zo (by kernel_rfl)
def zgE:T (zp uU)→Option (T (zp uV)):=sF Tryz.prog [(150,⟨kP,kQ,zgD⟩)] (fun _ _ _ _=>none) (fun _ _=>false) 100 148 uU uV
theorem zlx:Con.Ok Tryz.prog 148 ⟨uU,uV,zgE⟩:=zv (zd zhn zi) zo (by kernel_rfl)
def Gk:T (zp uF)→Option (T (zp uG)):=sF Tryz.prog [(84,⟨wH,wI,YM⟩),(59,⟨ux,uz,zen⟩),(148,⟨uU,uV,zgE⟩)] (fun _ _ _ _=>none) (fun _ _=>false) 100 103 uF uG
theorem GU:Con.Ok Tryz.prog 103 ⟨uF,uG,Gk⟩:=zv (zd Yb (zd zgB (zd zlx zi))) zo (by kernel_rfl)
def zeG:T (zp vL)→Option (T (zp vM)):=sF Tryz.prog [(84,⟨wH,wI,YM⟩),(59,⟨ux,uz,zen⟩)] (fun _ _ _ _=>none) (fun _ _=>false) 100 149 vL vM
theorem zkg:Con.Ok Tryz.prog 149 ⟨vL,vM,zeG⟩:=zv (zd Yb (zd zgB zi)) zo (by kernel_rfl)
def VH:T (zp xL)→Option (T (zp xM)):=sF Tryz.prog [(149,⟨vL,vM,zeG⟩),(150,⟨kP,kQ,zgD⟩)] (fun _ _ _ _=>none) (fun _ _=>false) 100 104 xL xM
theorem Kk:Con.Ok Tryz.prog 104 ⟨xL,xM,VH⟩:=zv (zd zkg (zd zhn zi)) zo (by kernel_rfl)
def zzX:T (zp Vc)→Option (T (zp Vd)):=sF Tryz.prog [(13,⟨jD,jE,Jp⟩),(72,⟨yK,yL,Yc⟩),(136,⟨qF,qG,xy⟩),(100,⟨Qi,Qj,ze4⟩),(101,⟨vg,vh,zbz⟩),(102,⟨kK,kL,zbB⟩),(103,⟨uF,uG,Gk⟩),(104,⟨xL,xM,VH⟩)] (fun _ _ _ _=>none) (fun _ _=>false) 100 15 Vc Vd
theorem zuF:Con.Ok Tryz.prog 15 ⟨Vc,Vd,zzX⟩:=zv (zd WM (zd XN (zd vN (zd zem (zd zbA (zd zbC (zd GU (zd Kk zi)))))))) zo (by kernel_rfl)
def zpe:T (zp Vc)→Option (T (zp Vd)):=XU [((nF,[(1,0,2,6,100,0,(200,16384),6000,[[0,2]])],0,()),(((200,16384),(131072,1016),2616,216),0,())),((nF,[(1,0,2,6,100,0,(200,16384),6000,[[0,2]])],1,()),(((0,0),(0,0),0,0),4,())),((nF,[(1,0,2,6,100,0,(200,131073),6000,[[0,2]])],0,()),(((0,0),(0,0),0,0),141,())),((nF,[(1,0,2,6,201,0,(300,16384),6000,[[0,2]])],0,()),(((0,0),(0,0),0,0),2,()))]
theorem zuG:Con.Ok Tryz.prog 15 ⟨Vc,Vd,zpe⟩:=Xi zuF (yu (by kernel_rfl) (yu (by kernel_rfl) (yu (by kernel_rfl) (yu (by kernel_rfl) VZ))))
def ziV:T (zp KN)→Option (T (zp KP)):=sF Tryz.prog [] (fun _ _ _ _=>none) (fun _ _=>false) 100 47 KN KP
theorem zoH:Con.Ok Tryz.prog 47 ⟨KN,KP,ziV⟩:=zv zi zo (by kernel_rfl)
def zgF:T (zp uW)→Option (T (zp uX)):=sF Tryz.prog [] (fun _ _ _ _=>none) (fun _ _=>false) 100 116 uW uX
theorem zly:Con.Ok Tryz.prog 116 ⟨uW,uX,zgF⟩:=zv zi zo (by kernel_rfl)
def zgG:T (zp Zu)→Option (T (zp Zv)):=sF Tryz.prog [(37,⟨jA,jB,Jb⟩),(116,⟨uW,uX,zgF⟩)] (fun _ _ _ _=>none) (fun _ _=>false) 100 80 Zu Zv
theorem zho:Con.Ok Tryz.prog 80 ⟨Zu,Zv,zgG⟩:=zv (zd ZH (zd zly zi)) zo (by kernel_rfl)
def zy8:T (zp YJ)→Option (T (zp YK)):=sF Tryz.prog [(13,⟨jD,jE,Jp⟩),(72,⟨yK,yL,Yc⟩),(47,⟨KN,KP,ziV⟩),(136,⟨qF,qG,xy⟩),(100,⟨Qi,Qj,ze4⟩),(101,⟨vg,vh,zbz⟩),(102,⟨kK,kL,zbB⟩),(103,⟨uF,uG,Gk⟩),(104,⟨xL,xM,VH⟩),(80,⟨Zu,Zv,zgG⟩)] (fun _ _ _ _=>none) (fun _ _=>false) 100 17 YJ YK
theorem zsW:Con.Ok Tryz.prog 17 ⟨YJ,YK,zy8⟩:=zv (zd WM (zd XN (zd zoH (zd vN (zd zem (zd zbA (zd zbC (zd GU (zd Kk (zd zho zi)))))))))) zo (by kernel_rfl)
def znq:T (zp YJ)→Option (T (zp YK)):=XU [((nF,[(1,0,2,6,100,0,(200,16384),6000,[[0,2]])],1,0,()),(5262,0,()))]
theorem zsX:Con.Ok Tryz.prog 17 ⟨YJ,YK,znq⟩:=Xi zsW (yu (by kernel_rfl) VZ)
def zwP:T (zp xu)→Option (T (zp xw)):=sF Tryz.prog [(13,⟨jD,jE,Jp⟩),(72,⟨yK,yL,Yc⟩),(136,⟨qF,qG,xy⟩),(100,⟨Qi,Qj,ze4⟩),(101,⟨vg,vh,zbz⟩),(102,⟨kK,kL,zbB⟩),(103,⟨uF,uG,Gk⟩),(104,⟨xL,xM,VH⟩),(80,⟨Zu,Zv,zgG⟩)] (fun _ _ _ _=>none) (fun _ _=>false) 100 20 xu xw
theorem zqQ:Con.Ok Tryz.prog 20 ⟨xu,xw,zwP⟩:=zv (zd WM (zd XN (zd vN (zd zem (zd zbA (zd zbC (zd GU (zd Kk (zd zho zi))))))))) zo (by kernel_rfl)
def zep:T (zp xu)→Option (T (zp xw)):=XU [((nF,[],()),(0,())),((nF,[(1,0,2,6,100,0,(200,16384),6000,[[0,2]])],()),(0,())),((nF,[(1,0,2,6,100,0,(200,16384),6000,[[0,2]]),(2,0,2,6,100,0,(200,16384),6000,[[0,2]])],()),(412,())),((nF,[(1,0,2,6,100,0,(7985,16384),1099511627776,[[0,2]])],()),(7,()))]
theorem zgH:Con.Ok Tryz.prog 20 ⟨xu,xw,zep⟩:=Xi zqQ (yu (by kernel_rfl) (yu (by kernel_rfl) (yu (by kernel_rfl) (yu (by kernel_rfl) VZ))))
def zuH:T (zp Qt)→Option (T (zp Qu)):=sF Tryz.prog [(37,⟨jA,jB,Jb⟩),(82,⟨kj,km,zcI⟩)] (fun _ _ _ _=>none) (fun _ _=>false) 100 51 Qt Qu
theorem zoI:Con.Ok Tryz.prog 51 ⟨Qt,Qu,zuH⟩:=zv (zd ZH (zd zeB zi)) zo (by kernel_rfl)
def ziW:T (zp Qt)→Option (T (zp Qu)):=XU [((nT,(1,0,2,6,100,0,(200,16384),6000,[[0,2]]),()),(0,())),((nT,(2,0,2,6,100,0,(200,16384),6000,[[0,2]]),()),(0,())),((nT,(1,0,2,6,100,0,(200,131073),6000,[[0,2]]),()),(0,())),((nT,(1,0,2,6,201,0,(300,16384),6000,[[0,2]]),()),(0,())),((nT,(1,0,2,6,100,0,(7985,16384),1099511627776,[[0,2]]),()),(0,()))]
theorem zoJ:Con.Ok Tryz.prog 51 ⟨Qt,Qu,ziW⟩:=Xi zoI (yu (by kernel_rfl) (yu (by kernel_rfl) (yu (by kernel_rfl) (yu (by kernel_rfl) (yu (by kernel_rfl) VZ)))))
def zwQ:T (zp JW)→Option (T (zp JX)):=sF Tryz.prog [(20,⟨xu,xw,zep⟩),(51,⟨Qt,Qu,ziW⟩)] (fun _ _ _ _=>none) (fun _ _=>false) 100 22 JW JX
theorem zqR:Con.Ok Tryz.prog 22 ⟨JW,JX,zwQ⟩:=zv (zd zgH (zd zoJ zi)) zo (by kernel_rfl)
def zkZ:T (zp JW)→Option (T (zp JX)):=XU [((nF,[],(1,0,2,6,100,0,(200,16384),6000,[[0,2]]),()),([(1,0,2,6,100,0,(200,16384),6000,[[0,2]])],0,())),((nF,[(1,0,2,6,100,0,(200,16384),6000,[[0,2]])],(2,0,2,6,100,0,(200,16384),6000,[[0,2]]),()),([],412,()))]
theorem zqS:Con.Ok Tryz.prog 22 ⟨JW,JX,zkZ⟩:=Xi zqR (yu (by kernel_rfl) (yu (by kernel_rfl) VZ))
def znr:T (zp zbw)→Option (T (zp zbx)):=sF Tryz.prog [] (fun _ _ _ _=>none) (fun _ _=>false) 100 24 zbw zbx
theorem zsY:Con.Ok Tryz.prog 24 ⟨zbw,zbx,znr⟩:=zv zi zo (by kernel_rfl)
def zk0:T (zp Qc)→Option (T (zp Qd)):=sF Tryz.prog [(28,⟨zc3,zc4,zpc⟩),(29,⟨XK,XL,zgx⟩),(15,⟨Vc,Vd,zpe⟩),(17,⟨YJ,YK,znq⟩),(22,⟨JW,JX,zkZ⟩),(24,⟨zbw,zbx,znr⟩),(20,⟨xu,xw,zep⟩)] (fun _ _ _ _=>none) (fun _ _=>false) 100 19 Qc Qd
theorem zgI:Con.Ok Tryz.prog 19 ⟨Qc,Qd,zk0⟩:=zv (zd zuD (zd zlt (zd zuG (zd zsX (zd zqS (zd zsY (zd zgH zi))))))) zo (by kernel_rfl)
theorem zC0:zk0 ()=some (true,()):=by kernel_rfl
theorem zC1:Con.Ok Tryz.prog 19 ⟨Qc,Qd,fun _=>some (true,())⟩:=⟨zgI.1,fun x r h=>zgI.2 x r (by cases x;rw [←h];exact zC0)⟩
def Qe:(Unit)→Option (Bool×Unit):=fun _=>some (true,())
theorem zqT:Con.Ok Tryz.prog 19 ⟨Qc,Qd,Qe⟩:=zC1
theorem zqU:Qe ()=some (true,()):=rfl
abbrev Gl:List VT:=[⟨true,qt⟩,⟨false,(.list zI)⟩]
abbrev Gm:List VT:=[⟨false,I⟩]
def zuI:zT:=zM [cdF qt,cdF zI,cdF WJ,cdF zw,cdF zO,cdF zL,cdF qh] [] [] [] [45,46,50]
def zeq (Xf:zbk) (xE:Vh) (Xg:zbv) (a0:qN) (a1:(List qn)):Option (Int×Unit):=
 opt (Xf (a0,(a1,()))) fun x0=>
 bif !(zm x0.1 0) then some (x0.1,())
 else opt (zC (fun s1:((Int×(Int×Unit))×Unit)=>
   bif (zj s1.1.2.1 ((a0.2.2.1.length:Nat):Int)) then opt (xE (a0,(a1,(s1.1.2.1,())))) fun x2=>
    bif zm x2.2.1 4 then some (.inr ((s1.1.1,((wrF .i64 (s1.1.2.1+1)),())),()))
    else bif !(zm x2.2.1 0) then some (.inl (1,((x2.2.1,(s1.1.2.1,())),())))
     else bif zj a0.2.1.2.2.2 x2.1.2.2.2 then some (.inl (1,((7,(s1.1.2.1,())),())))
      else some (.inr ((s1.1.1,((wrF .i64 (s1.1.2.1+1)),())),()))
   else some (.inl (0,((s1.1.1,(s1.1.2.1,())),())))) zK ((0,(0,())),())) fun x3=>
  bif Nat.beq x3.1 0 then opt (zC (fun s4:((Int×(Int×Unit))×Unit)=>
    bif (zj s4.1.2.1 ((a1.length:Nat):Int)) then opt (zC (fun s5:((Int×(Int×Unit))×Unit)=>
      opt (atI a1 s4.1.2.1) fun x6=>
      bif (zj s5.1.2.1 ((x6.2.2.2.2.2.2.2.2.length:Nat):Int)) then opt (atI a1 s4.1.2.1) fun x7=>
       opt (atI x7.2.2.2.2.2.2.2.2 s5.1.2.1) fun x8=>
       opt (Xg (a0,(a1,(x8,())))) fun x9=>
       bif !(zm x9.2.1 0) then some (.inl (1,((x9.2.1,(s5.1.2.1,())),())))
       else opt (atI a1 s4.1.2.1) fun x10=>
        bif zj x10.2.2.2.2.2.2.2.1 x9.1 then some (.inl (1,((412,(s5.1.2.1,())),())))
        else some (.inr ((s5.1.1,((wrF .i64 (s5.1.2.1+1)),())),()))
      else some (.inl (0,((s5.1.1,(s5.1.2.1,())),())))) zK ((s4.1.1,(0,())),())) fun x11=>
     bif Nat.beq x11.1 0 then some (.inr ((x11.2.1.1,((wrF .i64 (s4.1.2.1+1)),())),()))
     else some (.inl (1,((x11.2.1.1,(s4.1.2.1,())),())))
    else some (.inl (0,((s4.1.1,(s4.1.2.1,())),())))) zK ((x3.2.1.1,(0,())),())) fun x12=>
   bif Nat.beq x12.1 0 then some (0,())
   else some (x12.2.1.1,())
  else some (x3.2.1.1,())
abbrev zer:Type:=(qN×(List qn)×Unit)→Option (Int×Unit)
def zk1:zbk→Vh→zbv→zer:=fun Xf xE Xg=>sF Tryz.prog [(45,⟨zgc,zgd,Xf⟩),(46,⟨zc1,zc2,xE⟩),(50,⟨zgu,zgv,Xg⟩)] zuI (zN []) 30 21 Gl Gm
theorem zwR (Xf) (xE) (Xg) (a0) (a1):zk1 Xf xE Xg (a0,a1,())=zeq Xf xE Xg a0 a1:=by kernel_rfl
def gw:zer:=zk1 YD Zp YL
theorem zqV:Con.Ok Tryz.prog 21 ⟨Gl,Gm,gw⟩:=zv (zd zsx (zd ziP (zd zsL zi))) zo (by kernel_rfl)
theorem zqW (a0) (a1):gw (a0,a1,())=zeq YD Zp YL a0 a1:=zwR YD Zp YL a0 a1
abbrev WA:List VT:=[⟨true,yR⟩,⟨true,kB⟩]
abbrev Kl:List VT:=[⟨false,.bool⟩]
def zb4:zT:=zM [⟨(.pair qt qt),Ws (.pair qt qt),[]⟩,cdF yR,cdF kB,cdF qt,cdF zI,cdF wa,cdF xQ,cdF zw,cdF zO,⟨(.pair (.int .u8) (.pair (.int .u8) (.int .u8))),Ws (.pair (.int .u8) (.pair (.int .u8) (.int .u8))),[]⟩,cdF zL,cdF Zz,cdF qh] [] [] [] [20,21,19]
def Km (Yd:KY) (ZL:Yt) (VJ:za3) (Qf:zek) (Qg:zer) (Gq:(Unit)→Option (Bool×Unit)) (a0:jQ) (a1:xF):Option (Bool×Unit):=
 opt (Yd (a0,())) fun x0=>
 opt (ZL (a0,())) fun x1=>
 opt (VJ (a1,(x0.1,(x1.1,())))) fun x2=>
 opt (zC (fun s3:((Bool×(Int×Unit))×Unit)=>
  bif zj s3.1.2.1 2 then bif zm s3.1.2.1 0 then opt (zC (fun s4:((Bool×(Int×Unit))×Unit)=>
     bif (!(zj ((x1.1.length:Nat):Int) s4.1.2.1)) then opt (opt (kz x1.1 none (some s4.1.2.1) none) fun x5=>
       opt (Qf (x0.1,(x5,()))) fun x6=>
       opt (kz x1.1 none (some s4.1.2.1) none) fun x7=>
       opt (Qg (x0.1,(x7,()))) fun x8=>
       bif !(zm x6.1 x8.1) then some (1,((false,()),()))
       else opt (kz x2.2.1 none (some s4.1.2.1) none) fun x9=>
        opt (Qf (x0.1,(x9,()))) fun x10=>
        opt (kz x2.2.1 none (some s4.1.2.1) none) fun x11=>
        opt (Qg (x0.1,(x11,()))) fun x12=>
        bif !(zm x10.1 x12.1) then some (1,((false,()),()))
        else some (0,((s4.1.1,()),()))) fun x13=>
      bif Nat.beq x13.1 0 then some (.inr ((x13.2.1.1,((wrF .i64 (s4.1.2.1+1)),())),()))
      else some (.inl (1,((x13.2.1.1,(s4.1.2.1,())),())))
     else some (.inl (0,((s4.1.1,(s4.1.2.1,())),())))) zK ((s3.1.1,(0,())),())) fun x14=>
    bif Nat.beq x14.1 0 then some (.inr ((x14.2.1.1,((wrF .i64 (s3.1.2.1+1)),())),()))
    else some (.inl (1,((x14.2.1.1,(s3.1.2.1,())),())))
   else bif zm s3.1.2.1 1 then opt (zC (fun s15:((Bool×(Int×Unit))×Unit)=>
      bif (!(zj ((x1.1.length:Nat):Int) s15.1.2.1)) then opt (opt (kz x1.1 none (some s15.1.2.1) none) fun x16=>
        opt (Qf (x2.1,(x16,()))) fun x17=>
        opt (kz x1.1 none (some s15.1.2.1) none) fun x18=>
        opt (Qg (x2.1,(x18,()))) fun x19=>
        bif !(zm x17.1 x19.1) then some (1,((false,()),()))
        else opt (kz x2.2.1 none (some s15.1.2.1) none) fun x20=>
         opt (Qf (x2.1,(x20,()))) fun x21=>
         opt (kz x2.2.1 none (some s15.1.2.1) none) fun x22=>
         opt (Qg (x2.1,(x22,()))) fun x23=>
         bif !(zm x21.1 x23.1) then some (1,((false,()),()))
         else some (0,((s15.1.1,()),()))) fun x24=>
       bif Nat.beq x24.1 0 then some (.inr ((x24.2.1.1,((wrF .i64 (s15.1.2.1+1)),())),()))
       else some (.inl (1,((x24.2.1.1,(s15.1.2.1,())),())))
      else some (.inl (0,((s15.1.1,(s15.1.2.1,())),())))) zK ((s3.1.1,(0,())),())) fun x25=>
     bif Nat.beq x25.1 0 then some (.inr ((x25.2.1.1,((wrF .i64 (s3.1.2.1+1)),())),()))
     else some (.inl (1,((x25.2.1.1,(s3.1.2.1,())),())))
    else none
  else some (.inl (0,((s3.1.1,(s3.1.2.1,())),())))) zK ((false,(0,())),())) fun x26=>
 bif Nat.beq x26.1 0 then opt (Gq ()) fun x27=>
  some (x27.1,())
 else some (x26.2.1.1,())
theorem zns (Yd:(jQ×Unit)→Option (qN×Unit)) (ZL:(jQ×Unit)→Option ((List qn)×Unit)) (VJ:(xF×qN×(List qn)×Unit)→Option (qN×(List qn)×Unit)) (Qf:(qN×(List qn)×Unit)→Option (Int×Unit)) (Qg:(qN×(List qn)×Unit)→Option (Int×Unit)) (Gq:(Unit)→Option (Bool×Unit)) (a0:jQ) (a1:xF):sF Tryz.prog [(10,⟨WS,WT,Yd⟩),(11,⟨ZD,ZE,ZL⟩),(12,⟨VA,VB,VJ⟩),(20,⟨xu,xw,Qf⟩),(21,⟨Gl,Gm,Qg⟩),(19,⟨Qc,Qd,Gq⟩)] zb4 (zN []) 30 4 WA Kl (a0,a1,())=Km Yd ZL VJ Qf Qg Gq a0 a1:=by kernel_rfl
def WB:(jQ×xF×Unit)→Option (Bool×Unit):=sF Tryz.prog [(10,⟨WS,WT,vB⟩),(11,⟨ZD,ZE,yS⟩),(12,⟨VA,VB,kD⟩),(20,⟨xu,xw,gv⟩),(21,⟨Gl,Gm,gw⟩),(19,⟨Qc,Qd,Qe⟩)] zb4 (zN []) 30 4 WA Kl
theorem ziX:Con.Ok Tryz.prog 4 ⟨WA,Kl,WB⟩:=zv (zd zjM (zd zfO (zd zmH (zd zqJ (zd zqV (zd zqT zi)))))) zo (by kernel_rfl)
theorem ziY (a0:jQ) (a1:xF):WB (a0,a1,())=Km vB yS kD gv gw Qe a0 a1:=zns vB yS kD gv gw Qe a0 a1
abbrev wT:=Int×Int×Int×Int
abbrev qi:=Int×List Bool×List wT
def jb (t:qi) (n:Int):Prop:=0≤n∧n < t.1
def stn (t:qi) (n:Int):Bool:=(t.2.1[n.toNat]?).getD false
def zcJ (t:qi) (l:wT):Prop:=jb t l.1∧jb t l.2.1∧l.1≠l.2.1∧¬(stn t l.1=true∧stn t l.2.1=true)∧1≤l.2.2.1∧l.2.2.1≤1000∧0≤l.2.2.2∧l.2.2.2≤10000
def uJ (o:wT) (a b:Int):Prop:=(o.1=a∧o.2.1=b)∨(o.1=b∧o.2.1=a)
structure szP (t:qi):Prop where
 n0:2≤t.1
 n1:t.1≤12
 st:(t.2.1.length:Int)=t.1
 ls:t.2.2.length≤24
def zc5 (t:qi):Prop:=∀(i:Nat) l,t.2.2[i]?=some l→zcJ t l∧∀(k:Nat) o,k < i→t.2.2[k]?=some o→¬uJ o l.1 l.2.1
def one (a:Int) (n:Nat):Int:=if a=(n:Int) then 1 else 0
def cnt (ls:List wT) (n:Nat):Int:=(ls.map fun l=>one l.1 n+one l.2.1 n).sum
def stp (r:List Bool) (l:wT):List Bool:=bif (r[l.1.toNat]?).getD false||(r[l.2.1.toNat]?).getD false then (r.set l.1.toNat true).set l.2.1.toNat true else r
def Ug (ls:List wT):Nat→List Bool→List Bool
 |0,r=>r
 |n+1,r=>Ug ls n (ls.foldl stp r)
def reachS (t:qi) (a:Nat):List Bool:=Ug t.2.2 t.1.toNat ((List.replicate t.1.toNat false).set a true)
structure jG (t:qi):Prop where
 sz:szP t
 ls:zc5 t
 re:∀(n:Nat),(n:Int) < t.1→(reachS t 0)[n]?=some true
 ct:∀(n:Nat),(n:Int) < t.1→stn t n=true→1≤cnt t.2.2 n∧cnt t.2.2 n≤2
theorem zC2 {t:qi} {n:Nat} {b:Bool} (h:t.2.1[n]?=some b):stn t n=b:=by unfold stn;simp [h]
theorem ziZ {t:qi} {n:Int} {b:Bool} (h:t.2.1[n.toNat]?=some b):stn t n=b:=by unfold stn;simp [h]
theorem zuJ (t:qi) (n:Int):Yp (t,n,())=some (tv (jb t n),()):=by
 rw [zrR];unfold zfA jb
 refine jR ?_
 refine zh (fun h=>?_) (fun h=>?_)<;>refine za ?_<;>simp only [xb] at *<;>grind
theorem zk2 (t:qi) (n:Int):Vb (t,n,())=some (tv (jb t n),()):=by
 rw [zt2];unfold zhN jb
 refine jR ?_
 refine zh (fun h=>?_) (fun h=>?_)<;>refine za ?_<;>simp only [xb] at *<;>grind
theorem zbD (l:wT) (a b:Int):xk (l,a,b,())=some (tv (uJ l a b),()):=by
 rw [zpP];unfold zdC uJ
 refine jR ?_
 repeat' first | refine zh (fun h=>?_) (fun h=>?_) | refine za ?_
 all_goals simp only [jw] at *
 all_goals grind
theorem jb.lt {t:qi} {n:Int} (h:jb t n) (hs:szP t):n.toNat < t.2.1.length:=by
 have:=hs.st;have:=h.1;have:=h.2;omega
theorem jb.lt' {t:qi} {n:Int} (h:jb t n) (hs:szP t):n < (t.2.1.length:Int):=by
 have:=hs.st;have:=h.1;have:=h.2;omega
theorem zi0 {t:qi} (hs:szP t) (l:wT):uf (t,l,())=some (tv (zcJ t l),()):=by
 rw [zrS];unfold zfB
 simp only [zuJ,zz]
 refine jR (zk (J:=fun x=>(x.1=0∧jb t l.1∧jb t l.2.1∧l.1≠l.2.1∧¬(stn t l.1=true∧stn t l.2.1=true))∨(x.1=1∧x.2.1.1=false∧¬(jb t l.1∧jb t l.2.1∧l.1≠l.2.1∧¬(stn t l.1=true∧stn t l.2.1=true)))) ?_ ?_)
 ·refine zh (fun h=>?_) (fun h=>?_)
  ·have:¬jb t l.1:=by intro hn;rw [zS hn] at h;cases h
   exact za (.inr ⟨rfl,rfl,by grind⟩)
  have h1:jb t l.1:=yQ h
  refine zh (fun h=>?_) (fun h=>?_)
  ·have:¬jb t l.2.1:=by intro hn;rw [zS hn] at h;cases h
   exact za (.inr ⟨rfl,rfl,by grind⟩)
  have h2:jb t l.2.1:=yQ h
  refine zh (fun h=>?_) (fun h=>?_)
  ·have:=qO h
   exact za (.inr ⟨rfl,rfl,by grind⟩)
  have h3:=jx h
  refine zg (qC h1.1 (h1.lt' hs) fun x hx=>?_)
  have e1:=ziZ hx
  refine zh (fun h=>?_) (fun h=>?_)
  ·refine zg (qC h2.1 (h2.lt' hs) fun y hy=>?_)
   have e2:=ziZ hy
   refine zh (fun h=>?_) (fun h=>?_)
   ·exact za (.inr ⟨rfl,rfl,by grind⟩)
   ·exact za (.inl ⟨rfl,by grind⟩)
  ·exact za (.inl ⟨rfl,by grind⟩)
 ·rintro ⟨j,⟨v,⟨⟩⟩,⟨⟩⟩ (⟨rfl,hp⟩ | ⟨rfl,rfl,hp⟩)
  ·rw [show (Nat.beq 0 0)=true from rfl,cond_true]
   unfold zcJ
   repeat' first | refine zh (fun h=>?_) (fun h=>?_) | refine za ?_
   all_goals simp only [xb] at *
   all_goals grind
  ·rw [show (Nat.beq 1 0)=false from rfl,cond_false]
   unfold zcJ
   exact za (by grind)
theorem zbE {l:List Int} (hn:l.length≤1000000000000000000) (x:Int):yJ (l,x,())=some (tv (x∈l),()):=by
 rw [zvZ];unfold zjP
 refine jR (zk (J:=fun r=>(r.1=0∧¬x∈l)∨(r.1=1∧r.2.1.1=true∧x∈l)) (qB l.length (fun i=>l[i]?≠some x) hn ?_ ?_) ?_)
 ·intro i hi hp
  have hx:l[i]?=some l[i]:=List.getElem?_eq_getElem hi
  refine ze (zQ (show (i:Int) < _ by omega)) (zg (zx (n:=i) hx (zh (fun h=>?_) (fun h=>?_))))
  ·have:=qO h
   exact za (zq (.inr ⟨rfl,rfl,by rw [←this];exact List.getElem_mem hi⟩))
  ·have:=jx h
   exact za (jj (by omega) (by grind))
 ·intro hp
  refine zf (zG (show ¬(l.length:Int) < _ by omega)) (za (zq (.inl ⟨rfl,fun hm=>?_⟩)))
  obtain ⟨k,hk⟩:=List.getElem?_of_mem hm
  exact hp k (by grind) hk
 ·rintro ⟨j,⟨v,w,⟨⟩⟩,⟨⟩⟩ (⟨rfl,hp⟩ | ⟨rfl,rfl,hp⟩)
  ·exact za (by simp [hp])
  ·exact za (by simp [hp])
theorem zFP (r:List Bool) (l:wT):(stp r l).length=r.length:=by
 unfold stp
 cases (r[l.1.toNat]?).getD false||(r[l.2.1.toNat]?).getD false<;>simp
theorem zgJ (ls:List wT):∀r:List Bool,(ls.foldl stp r).length=r.length:=by
 induction ls with
 |nil=>intro r;rfl
 |cons l ls ih=>intro r;rw [List.foldl_cons,ih,zFP]
theorem zgK (ls:List wT):∀(n:Nat) (r:List Bool),(Ug ls n r).length=r.length
 |0,r=>rfl
 |n+1,r=>by rw [Ug,zgK ls n,zgJ]
theorem znt (ls:List wT):∀(n:Nat) (r:List Bool),Ug ls (n+1) r=ls.foldl stp (Ug ls n r)
 |0,r=>rfl
 |n+1,r=>by rw [Ug,znt ls n,Ug]
theorem zsZ {t:qi} (hs:szP t) (hl:∀(i:Nat) l,t.2.2[i]?=some l→jb t l.1∧jb t l.2.1) {a:Nat} (ha:(a:Int) < t.1):JF (t,(a:Int),[],())=some (reachS t a,()):=by
 have h0:=hs.n0;have h1:=hs.n1;have h3:=hs.ls;have h4:=hs.st
 have e1:t.1.toNat=t.2.1.length:=by omega
 rw [zp3];unfold zdP
 simp only [zbE (l:=[]) (by simp),zz]
 refine wO ?_
 refine ze (by unfold zhF;rw [zG (by omega),zG (by omega),zG (by omega)];rfl) ?_
 refine zg (qC (by omega) (by simp;omega) fun _ _=>zg (jo (by simp;omega) fun _ _=>?_))
 refine zk (J:=fun x=>x.2.2.1=reachS t a) (zV t.1.toNat (fun i s=>s=(((i:Int),()),(Ug t.2.2 i ((List.replicate t.1.toNat false).set a true),()))) (by omega) rfl ?_ ?_) ?_
 ·rintro i _ hi rfl
  refine ze (zQ (show (i:Int) < _ by omega)) ?_
  generalize hr:Ug t.2.2 i ((List.replicate t.1.toNat false).set a true)=r
  have hrl:r.length=t.1.toNat:=by rw [←hr,zgK];simp
  refine zk (J:=fun x=>x.2.2.1=t.2.2.foldl stp r) (zV t.2.2.length (fun i s=>s=(((i:Int),()),((t.2.2.take i).foldl stp r,()))) (by omega) rfl ?_ ?_) ?_
  ·rintro k _ hk rfl
   refine ze (zQ (show (k:Int) < _ by omega)) ?_
   have hx:t.2.2[k]?=some t.2.2[k]:=List.getElem?_eq_getElem hk
   obtain ⟨⟨a0,a1⟩,⟨b0,b1⟩⟩:=hl k _ hx
   have hnx:(t.2.2.take (k+1)).foldl stp r=stp ((t.2.2.take k).foldl stp r) t.2.2[k]:=by
    rw [List.take_add_one,hx,List.foldl_append];rfl
   have hlen:((t.2.2.take k).foldl stp r).length=t.1.toNat:=by rw [zgJ,hrl]
   generalize (t.2.2.take k).foldl stp r=q at hnx hlen
   refine zg (zx (n:=k) hx ?_)
   refine zk (J:=fun x=>x.2.2.1=stp q t.2.2[k]) ?_ ?_
   ·refine ze (by rw [qd (by simp)];rfl) ?_
    refine zg (qC a0 (by show _ < ((q.length:Nat):Int);omega) fun x hx=>zg (jo (by show _ < q.length;omega) fun x' hx'=>?_))
    have ex:x'=x:=Option.some.inj (hx'.symm.trans hx)
    subst ex
    refine zh (fun h=>?_) (fun h=>?_)
    ·subst h
     refine zg (qC a0 (by show _ < ((q.length:Nat):Int);omega) fun _ _=>zg (jo (by show _ < q.length;omega) fun _ _=>?_))
     refine zg (qC b0 (by show _ < (((q.set _ _).length:Nat):Int);simp;omega) fun _ _=>zg (jo (by show _ < (q.set _ _).length;simp;omega) fun _ _=>?_))
     refine za ?_
     show _=stp q _
     unfold stp
     simp only at hx'
     rw [hx'];rfl
    ·subst h
     refine zg (qC b0 (by show _ < ((q.length:Nat):Int);omega) fun y hy=>zg (jo (by show _ < q.length;omega) fun y' hy'=>?_))
     have ey:y'=y:=Option.some.inj (hy'.symm.trans hy)
     subst ey
     refine zh (fun h=>?_) (fun h=>?_)
     ·subst h
      refine zg (qC a0 (by show _ < ((q.length:Nat):Int);omega) fun _ _=>zg (jo (by show _ < q.length;omega) fun _ _=>?_))
      refine zg (qC b0 (by show _ < (((q.set _ _).length:Nat):Int);simp;omega) fun _ _=>zg (jo (by show _ < (q.set _ _).length;simp;omega) fun _ _=>?_))
      refine za ?_
      show _=stp q _
      unfold stp
      simp only at hx' hy'
      rw [hx',hy'];rfl
     ·subst h
      refine za ?_
      show q=stp q _
      unfold stp
      simp only at hx' hy'
      rw [hx',hy'];rfl
   ·rintro ⟨j,⟨⟩,q',⟨⟩⟩ hq
    refine za (qj ?_)
    simp only at hq
    rw [hnx,←hq]
    exact congrArg (fun z=>(((z,()),(q',())):(Int×Unit)×(List Bool×Unit))) (qp (by omega))
  ·rintro _ rfl
   refine zf (zG (show ¬(t.2.2.length:Int) < _ by omega)) (za (zq ?_))
   simp
  ·rintro ⟨j,⟨z,⟨⟩⟩,q',⟨⟩⟩ hq
   refine za (qj ?_)
   simp only at hq
   rw [znt,hr,←hq]
   exact congrArg (fun z=>(((z,()),(q',())):(Int×Unit)×(List Bool×Unit))) (qp (by omega))
 ·rintro _ rfl
  exact zf (zG (show ¬((t.1.toNat:Nat):Int) < _ by omega)) (za (zq rfl))
 ·rintro ⟨j,⟨z,⟨⟩⟩,q',⟨⟩⟩ hq
  exact za hq
def xP (t:qi) (i:Nat):List Int:=(List.range t.1.toNat).map (cnt (t.2.2.take i))
theorem zC3 (a:Int) (n:Nat):0≤one a n∧one a n≤1:=by unfold one;split<;>omega
theorem zC4 (ls:List wT) (n:Nat):0≤cnt ls n∧cnt ls n≤2*ls.length:=by
 unfold cnt
 induction ls with
 |nil=>simp
 |cons l ls ih=>
  have:=zC3 l.1 n;have:=zC3 l.2.1 n
  simp only [List.map_cons,List.sum_cons,List.length_cons]
  omega
theorem zy9 {ls:List wT} {i:Nat} {l:wT} (h:ls[i]?=some l) (n:Nat):cnt (ls.take (i+1)) n=cnt (ls.take i) n+(one l.1 n+one l.2.1 n):=by
 unfold cnt
 rw [List.take_add_one,h];simp
theorem WN (t:qi) (i:Nat):(xP t i).length=t.1.toNat:=by simp [xP]
theorem zcK {t:qi} {i n:Nat} (h:n < t.1.toNat):(xP t i)[n]?=some (cnt (t.2.2.take i) n):=by simp [xP,h]
theorem zvB {t:qi} {i:Nat} {l:wT} (h:t.2.2[i]?=some l) (hl:t.2.2.length≤24) (ha:jb t l.1) (hb:jb t l.2.1) (hab:l.1≠l.2.1) {u v:Int}
  (hu:(xP t i)[l.1.toNat]?=some u) (hv:((xP t i).set l.1.toNat (wrF .i64 (u+1)))[l.2.1.toNat]?=some v) :
  ((xP t i).set l.1.toNat (wrF .i64 (u+1))).set l.2.1.toNat (wrF .i64 (v+1))=xP t (i+1):=by
 obtain ⟨a0,a1⟩:=ha;obtain ⟨b0,b1⟩:=hb
 have hne:l.1.toNat≠l.2.1.toNat:=by omega
 rw [zcK (by omega)] at hu
 rw [List.getElem?_set_ne hne,zcK (by omega)] at hv
 have hu:=Option.some.inj hu;have hv:=Option.some.inj hv
 have k1:=zC4 (t.2.2.take i) l.1.toNat;have k2:=zC4 (t.2.2.take i) l.2.1.toNat
 have k3:(t.2.2.take i).length≤24:=by simp;omega
 rw [zE (by omega) (by omega),zE (by omega) (by omega)]
 apply List.ext_getElem?
 intro n
 by_cases hn:n < t.1.toNat
 ·rw [zcK hn,zy9 h,List.getElem?_set,List.getElem?_set,zcK hn]
  unfold one
  simp only [List.length_set,WN]
  grind
 ·rw [List.getElem?_eq_none (by simp [WN];omega),List.getElem?_eq_none (by simp [WN];omega)]
theorem zC5 (t:qi):List.replicate t.1.toNat (0:Int)=xP t 0:=by
 apply List.ext_getElem?
 intro n
 by_cases hn:n < t.1.toNat
 ·rw [zcK hn];simp [hn,cnt]
 ·rw [List.getElem?_eq_none (by simp;omega),List.getElem?_eq_none (by simp [WN];omega)]
theorem zza (t:qi) {n:Nat} (h:n < t.1.toNat):(xP t t.2.2.length)[n]?=some (cnt t.2.2 n):=by rw [zcK h,List.take_length]
theorem zcJ.nodes {t:qi} {l:wT} (h:zcJ t l):jb t l.1∧jb t l.2.1:=⟨h.1,h.2.1⟩
theorem zpf {t:qi} (h:¬szP t):¬jG t:=fun h'=>h h'.sz
theorem zpg {t:qi} (h:¬zc5 t):¬jG t:=fun h'=>h h'.ls
theorem zhp (t:qi):uq (t,())=some (tv (jG t),()):=by
 rw [zp4];unfold zdQ
 refine jR (zk (J:=fun x=>(x.1=0∧x.2.1.1=false∧szP t)∨(x.1=1∧x.2.1.1=false∧¬szP t)) ?_ ?_)
 ·refine zh (fun h=>za (.inr ⟨rfl,rfl,fun hs=>?_⟩)) (fun h1=>zh (fun h=>za (.inr ⟨rfl,rfl,fun hs=>?_⟩)) (fun h2=>zh (fun h=>za (.inr ⟨rfl,rfl,fun hs=>?_⟩)) (fun h3=>zh (fun h=>za (.inr ⟨rfl,rfl,fun hs=>?_⟩)) (fun h4=>za (.inl ⟨rfl,rfl,?_⟩)))))
  ·have:=qq h;have:=hs.n0;omega
  ·have:=qq h;have:=hs.n1;omega
  ·have:=hs.st;rw [vu this] at h;cases h
  ·have:=qq h;have:=hs.ls;omega
  ·have h1:=qA h1;have h2:=qA h2;have h4:=qA h4
   have h3:=qO (by simpa using h3)
   exact ⟨h1,h2,h3,by omega⟩
 rintro ⟨j,⟨v,⟨⟩⟩,⟨⟩⟩ (⟨rfl,rfl,hs⟩ | ⟨rfl,rfl,hs⟩)
 rotate_left
 ·exact zf rfl (za ⟨fun h=>(by cases h),fun h=>absurd h (zpf hs)⟩)
 have n0:=hs.n0;have n1:=hs.n1;have h3:=hs.ls;have h4:=hs.st
 refine ze rfl (ze (zn7 (by omega) (by omega) (by omega)) ?_)
 refine zk (J:=fun x=>(x.1=0∧x.2.1.1=false∧x.2.2.1=xP t t.2.2.length∧zc5 t)∨(x.1=1∧x.2.1.1=false∧¬zc5 t))
  (zV t.2.2.length (fun i s=>s=((false,((i:Int),())),(xP t i,()))∧∀(k:Nat),k < i→∀l,t.2.2[k]?=some l→zcJ t l∧∀(k':Nat) o,k' < k→t.2.2[k']?=some o→¬uJ o l.1 l.2.1) (by omega) ⟨by rw [zC5];rfl,fun k hk=>by omega⟩ ?_ ?_) ?_
 ·rintro i _ hi ⟨rfl,hp⟩
  have hx:t.2.2[i]?=some t.2.2[i]:=List.getElem?_eq_getElem hi
  refine ze (zQ (show (i:Int) < _ by omega)) (zg (zx (n:=i) hx ?_))
  rw [zi0 hs]
  generalize hgl:t.2.2[i]=l at hx
  refine zh (fun h=>?_) (fun h=>?_)
  ·have hn:=wY h
   exact za (zq (.inr ⟨rfl,rfl,fun hq=>hn (hq i l hx).1⟩))
  have hl:=yQ h
  refine zk (J:=fun x=>(x.1=0∧x.2.1.1=false∧∀(k':Nat) o,k' < i→t.2.2[k']?=some o→¬uJ o l.1 l.2.1)∨(x.1=1∧x.2.1.1=false∧∃(k':Nat) (o:wT),k' < i∧t.2.2[k']?=some o∧uJ o l.1 l.2.1))
   (qB i (fun k=>∀o,t.2.2[k]?=some o→¬uJ o l.1 l.2.1) (by omega) ?_ ?_) ?_
  ·intro k hk hpk
   have hy:t.2.2[k]?=some t.2.2[k]:=List.getElem?_eq_getElem (by omega)
   refine ze (zQ (show (k:Int) < (i:Int) by omega)) (zg (zx (n:=k) hy ?_))
   rw [zbD]
   refine zh (fun h=>?_) (fun h=>?_)
   ·exact za (zq (.inr ⟨rfl,rfl,k,_,hk,hy,Zl h⟩))
   ·exact za (jj (by omega) fun o ho=>by rw [hy] at ho;cases ho;exact gJ h)
  ·intro hpk
   exact zf (zG (show ¬(i:Int) < (i:Int) by omega)) (za (zq (.inl ⟨rfl,rfl,fun k' o hk'=>hpk k' hk' o⟩)))
  ·rintro ⟨j,⟨v,w,⟨⟩⟩,⟨⟩⟩ (⟨rfl,rfl,hpk⟩ | ⟨rfl,rfl,k',o,hk',ho,hj⟩)
   ·refine ze rfl ?_
    obtain ⟨⟨a0,a1⟩,⟨b0,b1⟩⟩:=hl.nodes
    have lc:=WN t i
    refine zg (qC a0 (by show _ < (((xP t i).length:Nat):Int);omega) fun _ _=>zg (jo (by show _ < (xP t i).length;omega) fun u hu=>zg (qC a0 (by show _ < (((xP t i).length:Nat):Int);omega) fun _ _=>zg (jo (by show _ < (xP t i).length;omega) fun _ _=>?_))))
    refine zg (qC b0 (by show _ < ((((xP t i).set _ _).length:Nat):Int);simp;omega) fun _ _=>zg (jo (by show _ < ((xP t i).set _ _).length;simp;omega) fun w hw=>zg (qC b0 (by show _ < ((((xP t i).set _ _).length:Nat):Int);simp;omega) fun _ _=>zg (jo (by show _ < ((xP t i).set _ _).length;simp;omega) fun _ _=>?_))))
    refine za (qj ⟨?_,?_⟩)
    ·have e:=zvB hx hs.ls hl.1 hl.2.1 hl.2.2.1 hu hw
     show ((false,(wrF .i64 ((i:Int)+1),())),((((xP t i).set l.1.toNat (wrF .i64 (u+1))).set l.2.1.toNat (wrF .i64 (w+1))),()))=_
     rw [e,qp (by omega)]
    ·intro k hk l' hl'
     rcases Nat.lt_or_ge k i with hki | hki
     ·exact hp k hki l' hl'
     ·have:k=i:=by omega
      subst this
      rw [hx] at hl';cases hl'
      exact ⟨hl,fun k' o hk'=>hpk k' o hk'⟩
   ·exact zf rfl (za (zq (.inr ⟨rfl,rfl,fun hq=>(hq i l hx).2 k' o hk' ho hj⟩)))
 ·rintro _ ⟨rfl,hp⟩
  exact zf (zG (show ¬(t.2.2.length:Int) < _ by omega)) (za (zq (.inl ⟨rfl,rfl,rfl,fun i l hl=>hp i (by grind) l hl⟩)))
 rintro ⟨j,⟨v,w,⟨⟩⟩,c,⟨⟩⟩ (⟨rfl,rfl,rfl,hls⟩ | ⟨rfl,rfl,hls⟩)
 rotate_left
 ·exact zf rfl (za ⟨fun h=>(by cases h),fun h=>absurd h (zpg hls)⟩)
 refine ze rfl ?_
 have hre:=zsZ (a:=0) hs (fun i l hl=>(hls i l hl).1.nodes) (by omega)
 simp only [Int.natCast_zero] at hre
 rw [hre,zz]
 have hrl:(reachS t 0).length=t.1.toNat:=by unfold reachS;rw [zgK];simp
 refine zk (J:=fun x=>(x.1=0∧jG t)∨(x.1=1∧x.2.1.1=false∧¬jG t)) (qB t.1.toNat (fun n=>(reachS t 0)[n]?=some true∧(stn t n=true→1≤cnt t.2.2 n∧cnt t.2.2 n≤2)) (by omega) ?_ ?_) ?_
 ·intro n hn hp
  refine ze (zQ (show (n:Int) < _ by omega)) ?_
  have hr:(reachS t 0)[n]?=some (reachS t 0)[n]:=List.getElem?_eq_getElem (by omega)
  have hst:t.2.1[n]?=some t.2.1[n]:=List.getElem?_eq_getElem (by omega)
  have e1:=zC2 hst
  have e2:=zza t hn
  refine zk (J:=fun x=>(x.1=0∧x.2.1.1=false∧(reachS t 0)[n]?=some true∧(stn t n=true→1≤cnt t.2.2 n∧cnt t.2.2 n≤2))∨(x.1=1∧x.2.1.1=false∧¬jG t)) ?_ ?_
  ·refine zg (zx (n:=n) hr ?_)
   refine zh (fun h=>?_) (fun h=>?_)
   ·exact za (.inr ⟨rfl,rfl,fun ht=>by have:=ht.re n (by omega);grind⟩)
   refine zg (zx (n:=n) hst (zh (fun h5=>?_) (fun h5=>?_)))
   ·refine zg (zx (n:=n) e2 (zg (jo (by show n < _;rw [WN];exact hn) fun u hu=>?_)))
    have hu:u=cnt t.2.2 n:=by have hu:(xP t t.2.2.length)[n]?=some u:=hu;rw [e2] at hu;exact (Option.some.inj hu).symm
    subst hu
    refine zh (fun h6=>?_) (fun h6=>?_)
    ·have:=qq h6
     exact za (.inr ⟨rfl,rfl,fun ht=>by have:=ht.ct n (by omega) (by grind);omega⟩)
    refine zg (zx (n:=n) e2 (zg (jo (by show n < _;rw [WN];exact hn) fun u hu=>?_)))
    have hu:u=cnt t.2.2 n:=by have hu:(xP t t.2.2.length)[n]?=some u:=hu;rw [e2] at hu;exact (Option.some.inj hu).symm
    subst hu
    refine zh (fun h7=>?_) (fun h7=>?_)
    ·have:=qq h7
     exact za (.inr ⟨rfl,rfl,fun ht=>by have:=ht.ct n (by omega) (by grind);omega⟩)
    ·have:=qA h6;have:=qA h7
     exact za (.inl ⟨rfl,rfl,by grind,fun _=>⟨by omega,by omega⟩⟩)
   ·exact za (.inl ⟨rfl,rfl,by grind,fun hc=>by grind⟩)
  ·rintro ⟨j,⟨v,⟨⟩⟩,⟨⟩⟩ (⟨rfl,rfl,hq⟩ | ⟨rfl,rfl,hq⟩)
   ·exact ze rfl (za (jj (by omega) hq))
   ·exact zf rfl (za (zq (.inr ⟨rfl,rfl,hq⟩)))
 ·intro hp
  exact zf (zG (show ¬((t.1.toNat:Nat):Int) < _ by omega)) (za (zq (.inl ⟨rfl,⟨hs,hls,fun n hn=>(hp n (by omega)).1,fun n hn=>(hp n (by omega)).2⟩⟩)))
 ·rintro ⟨j,⟨v,w,⟨⟩⟩,⟨⟩⟩ (⟨rfl,hq⟩ | ⟨rfl,rfl,hq⟩)
  ·exact ze rfl (za ⟨fun _=>hq,fun _=>rfl⟩)
  ·exact zf rfl (za ⟨fun h=>(by cases h),fun h=>absurd h hq⟩)
def chk (t:qi) (i:Nat) (l:wT) (c:Nat):Prop:=match c with
 |0=>jb t l.1∧jb t l.2.1∧l.1≠l.2.1
 |1=>¬(stn t l.1=true∧stn t l.2.1=true)
 |2=>∀(k:Nat) o,k < i→t.2.2[k]?=some o→¬uJ o l.1 l.2.1
 |_=>1≤l.2.2.1∧l.2.2.1≤1000∧0≤l.2.2.2∧l.2.2.2≤10000
theorem zuK {t:qi} (hs:szP t):Yu (t,())=some (tv (zc5 t),()):=by
 have n0:=hs.n0;have n1:=hs.n1;have h3:=hs.ls;have h4:=hs.st
 rw [zr6];unfold zfQ
 refine jR (zk (J:=fun x=>(x.1=0∧zc5 t)∨(x.1=1∧x.2.1.1=false∧¬zc5 t))
  (qB t.2.2.length (fun i=>∀l,t.2.2[i]?=some l→zcJ t l∧∀(k:Nat) o,k < i→t.2.2[k]?=some o→¬uJ o l.1 l.2.1) (by omega) ?_ ?_) ?_)
 ·intro i hi hp
  have hx:t.2.2[i]?=some t.2.2[i]:=List.getElem?_eq_getElem hi
  generalize hgl:t.2.2[i]=l at hx
  refine ze (zQ (show (i:Int) < (t.2.2.length:Int) by omega)) ?_
  refine zk (J:=fun x=>(x.1=0∧x.2.1.1=false∧∀c,c < 4→chk t i l c)∨(x.1=1∧x.2.1.1=false∧∃c,¬chk t i l c)) (qB 4 (chk t i l) (by omega) ?_ ?_) ?_
  ·intro c hc hpc
   refine ze (zQ (show (c:Int) < 4 by omega)) ?_
   have:c=0∨c=1∨c=2∨c=3:=by omega
   rcases this with rfl | rfl | rfl | rfl
   ·refine ze (vu rfl) (zg (zx (n:=i) hx ?_))
    rw [zk2]
    refine zh (fun h1=>?_) (fun h1=>?_)
    ·rw [zk2]
     refine zh (fun h2=>?_) (fun h2=>?_)
     ·refine zh (fun h=>?_) (fun h=>?_)
      ·have:=qO (show zm l.1 l.2.1=true by simpa using h)
       exact za (zq (.inr ⟨rfl,rfl,0,fun hq=>hq.2.2 this⟩))
      ·have:=jx (show zm l.1 l.2.1=false by simpa using h)
       exact za (jj (by omega) ⟨Zl h1,Zl h2,this⟩)
     ·exact za (zq (.inr ⟨rfl,rfl,0,fun hq=>gJ h2 hq.2.1⟩))
    ·exact za (zq (.inr ⟨rfl,rfl,0,fun hq=>gJ h1 hq.1⟩))
   ·obtain ⟨⟨a0,a1⟩,⟨b0,b1⟩,hab⟩:=hpc 0 (by omega)
    refine zf rfl (ze (vu rfl) (zg (zx (n:=i) hx ?_)))
    refine zg (qC a0 (by show l.1 < _;omega) fun x hx1=>?_)
    have e1:=ziZ hx1
    refine zh (fun h1=>?_) (fun h1=>?_)
    ·exact za (jj (by omega) (by show ¬_;grind))
    ·refine zg (qC b0 (by show l.2.1 < _;omega) fun y hy1=>?_)
     have e2:=ziZ hy1
     refine zh (fun h2=>?_) (fun h2=>?_)
     ·exact za (zq (.inr ⟨rfl,rfl,1,fun hq=>hq (by grind)⟩))
     ·exact za (jj (by omega) (by show ¬_;grind))
   ·refine zf rfl (zf rfl (ze (vu rfl) (zg (zx (n:=i) hx ?_))))
    refine zg (qf (zcv t.2.2 i (by omega)) ?_)
    have lt:(t.2.2.take i).length=i:=by simp;omega
    refine zk (J:=fun x=>(x.1=0∧∀(k:Nat) o,k < i→t.2.2[k]?=some o→¬uJ o l.1 l.2.1)∨(x.1=1∧x.2.1.1=false∧∃(k:Nat) (o:wT),k < i∧t.2.2[k]?=some o∧uJ o l.1 l.2.1))
     (qB i (fun k=>∀o,t.2.2[k]?=some o→¬uJ o l.1 l.2.1) (by omega) ?_ ?_) ?_
    ·intro k hk hpk
     have hy:t.2.2[k]?=some t.2.2[k]:=List.getElem?_eq_getElem (by omega)
     have hy':(t.2.2.take i)[k]?=some t.2.2[k]:=by rw [List.getElem?_take];simp [hk,hy]
     generalize hgo:t.2.2[k]=o at hy hy'
     refine ze (zQ (show (k:Int) < (((t.2.2.take i).length:Nat):Int) by omega)) (zg (zx (n:=k) hy' ?_))
     refine zk (J:=fun x=>(x.1=0∧x.2.1.1=false∧¬uJ o l.1 l.2.1)∨(x.1=1∧x.2.1.1=false∧uJ o l.1 l.2.1)) ?_ ?_
     ·unfold uJ
      repeat' first | refine zh (fun h=>?_) (fun h=>?_) | refine za ?_
      all_goals simp only [jw] at *
      all_goals grind
     ·rintro ⟨j,⟨v,⟨⟩⟩,⟨⟩⟩ (⟨rfl,rfl,hq⟩ | ⟨rfl,rfl,hq⟩)
      ·exact ze rfl (za (jj (by omega) fun o' ho=>by rw [hy] at ho;cases ho;exact hq))
      ·exact zf rfl (za (zq (.inr ⟨rfl,rfl,k,o,hk,hy,hq⟩)))
    ·intro hpk
     exact zf (zG (show ¬(i:Int) < (((t.2.2.take i).length:Nat):Int) by omega)) (za (zq (.inl ⟨rfl,fun k' o hk'=>hpk k' hk' o⟩)))
    ·rintro ⟨j,⟨v,w,⟨⟩⟩,⟨⟩⟩ (⟨rfl,hq⟩ | ⟨rfl,rfl,k,o,hk,ho,hj⟩)
     ·exact ze rfl (za (jj (by omega) hq))
     ·exact zf rfl (ze rfl (za (zq (.inr ⟨rfl,rfl,2,fun hq=>hq k o hk ho hj⟩))))
   ·refine zf rfl (zf rfl (zf rfl (ze (vu rfl) (zg (zx (n:=i) hx ?_)))))
    refine zh (fun h1=>?_) (fun h1=>?_)
    ·refine zh (fun h2=>?_) (fun h2=>?_)
     ·refine zh (fun h3=>?_) (fun h3=>?_)
      ·refine zh (fun h4=>?_) (fun h4=>?_)
       ·have:=qq (show zj 10000 l.2.2.2=true by simpa using h4)
        exact za (zq (.inr ⟨rfl,rfl,3,fun hq=>by have:=hq.2.2.2;omega⟩))
       ·have:=qA (show zj l.2.2.1 1=false by simpa using h1)
        have:=qA (show zj 1000 l.2.2.1=false by simpa using h2)
        have:=qA (show zj l.2.2.2 0=false by simpa using h3)
        have:=qA (show zj 10000 l.2.2.2=false by simpa using h4)
        exact za (jj (by omega) ⟨by omega,by omega,by omega,by omega⟩)
      ·have:=qq (show zj l.2.2.2 0=true by simpa using h3)
       exact za (zq (.inr ⟨rfl,rfl,3,fun hq=>by have:=hq.2.2.1;omega⟩))
     ·have:=qq (show zj 1000 l.2.2.1=true by simpa using h2)
      exact za (zq (.inr ⟨rfl,rfl,3,fun hq=>by have:=hq.2.1;omega⟩))
    ·have:=qq (show zj l.2.2.1 1=true by simpa using h1)
     exact za (zq (.inr ⟨rfl,rfl,3,fun hq=>by have:=hq.1;omega⟩))
  ·intro hpc
   exact zf (zG (show ¬((4:Nat):Int) < 4 by omega)) (za (zq (.inl ⟨rfl,rfl,hpc⟩)))
  ·rintro ⟨j,⟨v,w,⟨⟩⟩,⟨⟩⟩ (⟨rfl,rfl,hq⟩ | ⟨rfl,rfl,c,hq⟩)
   ·obtain ⟨c0,c0',c0''⟩:=hq 0 (by omega)
    have c1:=hq 1 (by omega);have c2:=hq 2 (by omega)
    obtain ⟨d1,d2,d3,d4⟩:=hq 3 (by omega)
    exact ze rfl (za (jj (by omega) fun l' hl'=>by rw [hx] at hl';cases hl';exact ⟨⟨c0,c0',c0'',c1,d1,d2,d3,d4⟩,c2⟩))
   ·refine zf rfl (za (zq (.inr ⟨rfl,rfl,fun ht=>hq ?_⟩)))
    obtain ⟨⟨c0,c0',c0'',c1,d1,d2,d3,d4⟩,c2⟩:=ht i l hx
    unfold chk
    split
    ·exact ⟨c0,c0',c0''⟩
    ·exact c1
    ·exact c2
    ·exact ⟨d1,d2,d3,d4⟩
 ·intro hp
  exact zf (zG (show ¬(t.2.2.length:Int) < (t.2.2.length:Int) by omega)) (za (zq (.inl ⟨rfl,fun i l hl=>hp i (by grind) l hl⟩)))
 ·rintro ⟨j,⟨v,w,⟨⟩⟩,⟨⟩⟩ (⟨rfl,hq⟩ | ⟨rfl,rfl,hq⟩)
  ·exact ze rfl (za ⟨fun _=>hq,fun _=>rfl⟩)
  ·exact zf rfl (za ⟨fun h=>(by cases h),fun h=>absurd h hq⟩)
abbrev zGV:Bool×Bool×Bool×Bool×Bool×Bool×Bool×Bool×Bool×Bool×Bool×Bool×Bool×Bool×Bool×Bool×Bool×Bool×Bool×Bool×Bool×Bool×Bool×Bool:=(false,(false,(false,(false,(false,(false,(false,(false,(false,(false,(false,(false,(false,(false,(false,(false,(false,(false,(false,(false,(false,(false,(false,false)))))))))))))))))))))))
noncomputable def zE8 (q:List Bool) (x4:wT):Option (Nat×(Unit×(List Bool×Unit))):=opt (atI q x4.1) fun x5=>
 opt (gl q (Int.toNat x4.1)) fun x6=>
 opt (atI q x4.2.1) fun x7=>
 opt (gl q (Int.toNat x4.2.1)) fun x8=>
 bif (!(x6 == x8)) then opt (atI q x4.1) fun x9=>
  opt (gl q (Int.toNat x4.1)) fun x10=>
  opt (atI (q.set (Int.toNat x4.1) true) x4.2.1) fun x11=>
  opt (gl (q.set (Int.toNat x4.1) true) (Int.toNat x4.2.1)) fun x12=>
  some (0,((),(((q.set (Int.toNat x4.1) true).set (Int.toNat x4.2.1) true),())))
 else some (0,((),(q,())))
theorem zFQ {q:List Bool} {l:wT} {n:Nat} (hq:q.length=n) (a0:0≤l.1) (a1:l.1 < n) (b0:0≤l.2.1) (b1:l.2.1 < n):qu (zE8 q l) fun x=>x.2.2.1=stp q l:=by
 unfold zE8
 refine zg (qC a0 (by omega) fun _ _=>zg (jo (by omega) fun x hx=>zg (qC b0 (by omega) fun _ _=>zg (jo (by omega) fun y hy=>?_))))
 refine zh (fun h=>?_) (fun h=>?_)
 ·refine zg (qC a0 (by omega) fun _ _=>zg (jo (by omega) fun _ _=>?_))
  refine zg (qC b0 (by simp;omega) fun _ _=>zg (jo (by simp;omega) fun _ _=>?_))
  refine za ?_
  show _=stp q l
  unfold stp
  rw [hx,hy]
  cases x<;>cases y<;>simp at h ⊢
 ·refine za ?_
  show q=stp q l
  unfold stp
  rw [hx,hy]
  cases x<;>cases y<;>simp at h ⊢
  apply List.ext_getElem?
  intro k
  simp only [List.getElem?_set]
  grind
theorem zuL {t:qi} (hs:szP t) (hl:∀(i:Nat) l,t.2.2[i]?=some l→jb t l.1∧jb t l.2.1):QN (t,0,zGV,())=some (reachS t 0,()):=by
 have h0:=hs.n0;have h1:=hs.n1;have h3:=hs.ls;have h4:=hs.st
 have e1:t.1.toNat=t.2.1.length:=by omega
 rw [zr8];unfold zfR
 refine wO ?_
 refine ze (zn7 (by omega) (by omega) (by omega)) ?_
 refine zg (qC (by omega) (by simp;omega) fun _ _=>zg (jo (by simp;omega) fun _ _=>?_))
 refine zk (J:=fun x=>x.2.2.1=reachS t 0) (zV t.1.toNat (fun i s=>s=(((i:Int),()),(Ug t.2.2 i ((List.replicate t.1.toNat false).set 0 true),()))) (by omega) rfl ?_ ?_) ?_
 ·rintro i _ hi rfl
  refine ze (zQ (show (i:Int) < _ by omega)) ?_
  generalize hr:Ug t.2.2 i ((List.replicate t.1.toNat false).set 0 true)=r
  have hrl:r.length=t.1.toNat:=by rw [←hr,zgK];simp
  refine zk (J:=fun x=>x.2.2.1=t.2.2.foldl stp r) (zV t.2.2.length (fun i s=>s=(((i:Int),()),((t.2.2.take i).foldl stp r,()))) (by omega) rfl ?_ ?_) ?_
  ·rintro k _ hk rfl
   refine ze (zQ (show (k:Int) < _ by omega)) ?_
   have hx:t.2.2[k]?=some t.2.2[k]:=List.getElem?_eq_getElem hk
   obtain ⟨⟨a0,a1⟩,⟨b0,b1⟩⟩:=hl k _ hx
   have hnx:(t.2.2.take (k+1)).foldl stp r=stp ((t.2.2.take k).foldl stp r) t.2.2[k]:=by
    rw [List.take_add_one,hx,List.foldl_append];rfl
   have hlen:((t.2.2.take k).foldl stp r).length=t.1.toNat:=by rw [zgJ,hrl]
   generalize (t.2.2.take k).foldl stp r=q at hnx hlen
   generalize t.2.2[k]=l at hx hnx a0 a1 b0 b1
   refine zg (zx (n:=k) hx ?_)
   have key:=zFQ hlen a0 (show l.1 < (t.1.toNat:Nat) by omega) b0 (show l.2.1 < (t.1.toNat:Nat) by omega)
   refine zk (J:=fun x=>x.2.2.1=stp q l) ?_ ?_
   ·rcases (by omega:k=0∨k=1∨k=2∨k=3∨k=4∨k=5∨k=6∨k=7∨k=8∨k=9∨k=10∨k=11∨k=12∨k=13∨k=14∨k=15∨k=16∨k=17∨k=18∨k=19∨k=20∨k=21∨k=22∨k=23) with rfl | rfl | rfl | rfl | rfl | rfl | rfl | rfl | rfl | rfl | rfl | rfl | rfl | rfl | rfl | rfl | rfl | rfl | rfl | rfl | rfl | rfl | rfl | rfl
    all_goals exact key
   ·rintro ⟨j,⟨⟩,q',⟨⟩⟩ hq
    refine za (qj ?_)
    simp only at hq
    rw [hnx,←hq]
    exact congrArg (fun z=>(((z,()),(q',())):(Int×Unit)×(List Bool×Unit))) (qp (by omega))
  ·rintro _ rfl
   refine zf (zG (show ¬(t.2.2.length:Int) < _ by omega)) (za (zq ?_))
   simp
  ·rintro ⟨j,⟨z,⟨⟩⟩,q',⟨⟩⟩ hq
   refine za (qj ?_)
   simp only at hq
   rw [znt,hr,←hq]
   exact congrArg (fun z=>(((z,()),(q',())):(Int×Unit)×(List Bool×Unit))) (qp (by omega))
 ·rintro _ rfl
  exact zf (zG (show ¬((t.1.toNat:Nat):Int) < _ by omega)) (za (zq rfl))
 ·rintro ⟨j,⟨z,⟨⟩⟩,q',⟨⟩⟩ hq
  exact za hq
theorem zcL {l:List Bool} (hn:l.length≤1000000000000000000) (b:Bool):qu (ye (l,b,())) fun r=>(0≤r.1∧b∈l)∨(r.1 = -1∧¬b∈l):=by
 rw [zbN];unfold ZQ
 refine zk (J:=fun x=>(x.1=0∧¬b∈l)∨(x.1=1∧0≤x.2.1.1∧b∈l)) (qB l.length (fun i=>l[i]?≠some b) hn ?_ ?_) ?_
 ·intro i hi hp
  have hx:l[i]?=some l[i]:=List.getElem?_eq_getElem hi
  refine ze (zQ (show (i:Int) < (l.length:Int) by omega)) (zg (zx (n:=i) hx (zh (fun h=>?_) (fun h=>?_))))
  ·have:b=l[i]:=eq_of_beq h
   exact za (zq (.inr ⟨rfl,by show (0:Int)≤(i:Int);omega,by rw [this];exact List.getElem_mem hi⟩))
  ·exact za (jj (by omega) (by rw [hx];intro e;cases e;simp at h))
 ·intro hp
  refine zf (zG (show ¬(l.length:Int) < (l.length:Int) by omega)) (za (zq (.inl ⟨rfl,fun hm=>?_⟩)))
  obtain ⟨k,hk⟩:=List.getElem?_of_mem hm
  exact hp k (by grind) hk
 ·rintro ⟨j,⟨v,w,⟨⟩⟩,⟨⟩⟩ (⟨rfl,hp⟩ | ⟨rfl,h0,hp⟩)
  ·exact ze rfl (za (.inr ⟨rfl,hp⟩))
  ·exact zf rfl (za (.inl ⟨h0,hp⟩))
theorem zau {l:List Bool} (hn:l.length≤1000000000000000000) (b:Bool):wu (l,b,())=some (tv (b∈l),()):=by
 rw [GA];unfold gy
 refine jR (zk (zcL hn b) ?_)
 rintro ⟨v,⟨⟩⟩ (⟨h,hm⟩ | ⟨rfl,hm⟩)
 ·refine za ⟨fun _=>hm,fun _=>?_⟩
  show (!zj v 0)=true
  rw [zG (by simp only at h;omega)];rfl
 ·exact za ⟨fun h=>(by cases h),fun h=>absurd h hm⟩
theorem YO (t:qi):jC (t,())=some (bif tv (jG t) then 0 else 260,()):=by
 have good:∀{v:Int},jG t→v=0→v=bif tv (jG t) then 0 else 260:=fun h e=>by rw [zS h,e];rfl
 have bad:∀{v:Int},¬jG t→v=260→v=bif tv (jG t) then 0 else 260:=fun h e=>by rw [qd h,e];rfl
 rw [zr9];unfold zfS
 refine wO (zk (J:=fun x=>(x.1=0∧x.2.1.1=0∧2≤t.1∧t.1≤12∧(t.2.1.length:Int)=t.1)∨(x.1=1∧x.2.1.1=260∧¬szP t)) ?_ ?_)
 ·refine zh (fun h=>za (.inr ⟨rfl,rfl,fun hs=>?_⟩)) (fun h1=>zh (fun h=>za (.inr ⟨rfl,rfl,fun hs=>?_⟩)) (fun h2=>zh (fun h=>za (.inr ⟨rfl,rfl,fun hs=>?_⟩)) (fun h3=>za (.inl ⟨rfl,rfl,?_⟩))))
  ·have:=qq h;have:=hs.n0;omega
  ·have:=qq h;have:=hs.n1;omega
  ·have:=hs.st;rw [vu this] at h;cases h
  ·have h1:=qA h1;have h2:=qA h2
   exact ⟨h1,h2,qO (by simpa using h3)⟩
 rintro ⟨j,⟨v,⟨⟩⟩,⟨⟩⟩ (⟨rfl,rfl,h1,h2,h3⟩ | ⟨rfl,rfl,hs⟩)
 rotate_left
 ·exact zf rfl (za (bad (zpf hs) rfl))
 refine ze rfl (zk (J:=fun x=>(x.1=0∧x.2.1.1=0∧szP t∧zc5 t)∨(x.1=1∧x.2.1.1=260∧¬jG t)) ?_ ?_)
 ·refine zh (fun h=>za (.inr ⟨rfl,rfl,fun hs=>?_⟩)) (fun h4=>?_)
  ·have:=qq h;have:=hs.sz.ls;omega
  have h4:=qA h4
  have hs:szP t:=⟨h1,h2,h3,by omega⟩
  rw [zuK hs]
  refine zh (fun h=>?_) (fun h=>?_)
  ·exact za (.inr ⟨rfl,rfl,zpg (wY h)⟩)
  ·exact za (.inl ⟨rfl,rfl,hs,yQ h⟩)
 rintro ⟨j,⟨v,⟨⟩⟩,⟨⟩⟩ (⟨rfl,rfl,hs,hls⟩ | ⟨rfl,rfl,ht⟩)
 rotate_left
 ·exact zf rfl (za (bad ht rfl))
 have h5:=hs.ls
 refine ze rfl (ze (zn7 (by omega) (by omega) (by omega)) ?_)
 refine zk (J:=fun x=>x.2.2.1=xP t t.2.2.length) (zV t.2.2.length (fun i s=>s=(((i:Int),()),(xP t i,()))) (by omega) (by rw [zC5];rfl) ?_ ?_) ?_
 ·rintro i _ hi rfl
  have hx:t.2.2[i]?=some t.2.2[i]:=List.getElem?_eq_getElem hi
  refine ze (zQ (show (i:Int) < (t.2.2.length:Int) by omega)) (zg (zx (n:=i) hx ?_))
  generalize t.2.2[i]=l at hx
  have hl:=(hls i l hx).1
  obtain ⟨⟨a0,a1⟩,⟨b0,b1⟩⟩:=hl.nodes
  have lc:=WN t i
  refine zg (qC a0 (by show _ < (((xP t i).length:Nat):Int);omega) fun _ _=>zg (jo (by show _ < (xP t i).length;omega) fun u hu=>zg (qC a0 (by show _ < (((xP t i).length:Nat):Int);omega) fun _ _=>zg (jo (by show _ < (xP t i).length;omega) fun _ _=>?_))))
  refine zg (qC b0 (by show _ < ((((xP t i).set _ _).length:Nat):Int);simp;omega) fun _ _=>zg (jo (by show _ < ((xP t i).set _ _).length;simp;omega) fun w hw=>zg (qC b0 (by show _ < ((((xP t i).set _ _).length:Nat):Int);simp;omega) fun _ _=>zg (jo (by show _ < ((xP t i).set _ _).length;simp;omega) fun _ _=>?_))))
  refine za (qj ?_)
  have e:=zvB hx hs.ls hl.1 hl.2.1 hl.2.2.1 hu hw
  show (((wrF .i64 ((i:Int)+1)),()),((((xP t i).set l.1.toNat (wrF .i64 (u+1))).set l.2.1.toNat (wrF .i64 (w+1))),()))=_
  rw [e,qp (by omega)]
 ·rintro _ rfl
  exact zf (zG (show ¬(t.2.2.length:Int) < (t.2.2.length:Int) by omega)) (za (zq rfl))
 rintro ⟨j,⟨z,⟨⟩⟩,c,⟨⟩⟩ hc
 simp only at hc
 subst hc
 refine zk (J:=fun x=>(x.1=0∧∀(n:Nat),(n:Int) < t.1→stn t n=true→1≤cnt t.2.2 n∧cnt t.2.2 n≤2)∨(x.1=1∧x.2.1.1=260∧¬jG t)) (qB t.2.1.length (fun n=>stn t n=true→1≤cnt t.2.2 n∧cnt t.2.2 n≤2) (by omega) ?_ ?_) ?_
 ·intro n hn hp
  have hst:t.2.1[n]?=some t.2.1[n]:=List.getElem?_eq_getElem (by omega)
  have e1:=zC2 hst
  have hn':n < t.1.toNat:=by omega
  have e2:=zza t hn'
  refine ze (zQ (show (n:Int) < (t.2.1.length:Int) by omega)) (zg (zx (n:=n) hst ?_))
  refine zk (J:=fun x=>(x.1=0∧x.2.1.1=0∧(stn t n=true→1≤cnt t.2.2 n∧cnt t.2.2 n≤2))∨(x.1=1∧x.2.1.1=260∧¬jG t)) (zh (fun h5=>?_) (fun h5=>?_)) ?_
  ·refine zg (zx (n:=n) e2 (zg (jo (by show n < _;rw [WN];exact hn') fun u hu=>?_)))
   have hu:u=cnt t.2.2 n:=by have hu:(xP t t.2.2.length)[n]?=some u:=hu;rw [e2] at hu;exact (Option.some.inj hu).symm
   subst hu
   refine zh (fun h6=>?_) (fun h6=>?_)
   ·have:=qq h6
    exact za (.inr ⟨rfl,rfl,fun ht=>by have:=ht.ct n (by omega) (by grind);omega⟩)
   refine zg (zx (n:=n) e2 (zg (jo (by show n < _;rw [WN];exact hn') fun u hu=>?_)))
   have hu:u=cnt t.2.2 n:=by have hu:(xP t t.2.2.length)[n]?=some u:=hu;rw [e2] at hu;exact (Option.some.inj hu).symm
   subst hu
   refine zh (fun h7=>?_) (fun h7=>?_)
   ·have:=qq h7
    exact za (.inr ⟨rfl,rfl,fun ht=>by have:=ht.ct n (by omega) (by grind);omega⟩)
   ·have:=qA h6;have:=qA h7
    exact za (.inl ⟨rfl,rfl,fun _=>⟨by omega,by omega⟩⟩)
  ·exact za (.inl ⟨rfl,rfl,fun hc=>by grind⟩)
  ·rintro ⟨j,⟨v,⟨⟩⟩,⟨⟩⟩ (⟨rfl,rfl,hq⟩ | ⟨rfl,rfl,hq⟩)
   ·exact ze rfl (za (jj (by omega) hq))
   ·exact zf rfl (za (zq (.inr ⟨rfl,rfl,hq⟩)))
 ·intro hp
  exact zf (zG (show ¬(t.2.1.length:Int) < (t.2.1.length:Int) by omega)) (za (zq (.inl ⟨rfl,fun n hn=>hp n (by omega)⟩)))
 rintro ⟨j,⟨v,w,⟨⟩⟩,⟨⟩⟩ (⟨rfl,hct⟩ | ⟨rfl,rfl,hq⟩)
 rotate_left
 ·exact zf rfl (za (bad hq rfl))
 have hrl:(reachS t 0).length=t.1.toNat:=by unfold reachS;rw [zgK];simp
 refine ze rfl ?_
 rw [show QN (t,0,_,())=some (reachS t 0,()) from zuL hs (fun i l hl=>(hls i l hl).1.nodes),zz]
 rw [zau (by show (reachS t 0).length≤_;omega),zz]
 refine zh (fun h=>?_) (fun h=>?_)
 ·refine za (bad (fun ht=>?_) rfl)
  obtain ⟨k,hk⟩:=List.getElem?_of_mem (Zl h)
  have:=ht.re k (by grind)
  rw [this] at hk;cases hk
 ·refine za (good ⟨hs,hls,fun n hn=>?_,hct⟩ rfl)
  have hr:(reachS t 0)[n]?=some (reachS t 0)[n]:=List.getElem?_eq_getElem (by omega)
  rw [hr]
  cases e:(reachS t 0)[n] with
  |true=>rfl
  |false=>exact absurd (by rw [←e];exact List.getElem_mem _) (gJ h)
def wC (t:qi) (p:Int):Prop:=0≤p∧p < 2*(t.2.2.length:Int)
def lnk (t:qi) (p:Int):wT:=(t.2.2[p.toNat / 2]?).getD (0,0,0,0)
def frm (t:qi) (p:Int):Int:=if p % 2=1 then (lnk t p).2.1 else (lnk t p).1
def too (t:qi) (p:Int):Int:=if p % 2=1 then (lnk t p).1 else (lnk t p).2.1
theorem znu {p:Int} (h:0≤p) (h2:p≤1000000000000000000):wrF .i64 (Int.tdiv p 2)=((p.toNat / 2:Nat):Int):=by
 rw [Int.tdiv_eq_ediv_of_nonneg h,zE (by omega) (by omega)];omega
theorem par {p:Int} (h:0≤p):Int.tmod p 2=p % 2:=Int.tmod_eq_emod_of_nonneg h
theorem YP {t:qi} {p:Int} (h:wC t p):t.2.2[p.toNat / 2]?=some (lnk t p):=by
 have:=h.1;have:=h.2
 have hx:t.2.2[p.toNat / 2]?=some (t.2.2[p.toNat / 2]'(by omega)):=List.getElem?_eq_getElem (by omega)
 unfold lnk;rw [hx];rfl
theorem tw (t:qi) (h:t.2.2.length≤1000000000000000):wrF .i64 (2*(t.2.2.length:Int))=2*(t.2.2.length:Int):=zE (by omega) (by omega)
theorem GV {t:qi} (hl:zc5 t) {p:Int} (h:wC t p):jb t (frm t p)∧jb t (too t p)∧frm t p≠too t p:=by
 have:=(hl _ _ (YP h)).1
 have h1:=this.1;have h2:=this.2.1;have h3:=this.2.2.1
 unfold frm too
 split
 ·exact ⟨h2,h1,fun e=>h3 e.symm⟩
 ·exact ⟨h1,h2,h3⟩
theorem zuM {t:qi} (h:t.2.2.length≤1000000000000000) (p:Int):Yr (t,p,())=some (tv (wC t p),()):=by
 rw [zr0];unfold zfJ wC
 refine jR (zh (fun h=>?_) (fun h=>?_))<;>refine za ?_<;>simp only [xb] at *
 ·have:=tw t ‹_›;grind
 ·grind
theorem Qv {t:qi} (h:t.2.2.length≤1000000000000000) {p:Int} (hp:wC t p):jm (t,p,())=some (frm t p,()):=by
 have:=hp.1;have:=hp.2
 rw [zrU];unfold zfD
 simp only [znu hp.1 (by omega),par hp.1,wG (YP hp),zz,jw]
 unfold frm
 by_cases e:p % 2=1
 ·simp [e]
 ·have e2:(p % 2 == 1)=false:=by simpa using e
  rw [e2,if_neg e];rfl
theorem Jc {t:qi} (h:t.2.2.length≤1000000000000000) {p:Int} (hp:wC t p):wW (t,p,())=some (too t p,()):=by
 have:=hp.1;have:=hp.2
 rw [zvY];unfold zjO
 simp only [znu hp.1 (by omega),par hp.1,wG (YP hp),zz,jw]
 unfold too
 by_cases e:p % 2=1
 ·simp [e]
 ·have e2:(p % 2 == 1)=false:=by simpa using e
  rw [e2,if_neg e];rfl
theorem zwS {t:qi} (h:t.2.2.length≤1000000000000000) {p:Int} (hp:wC t p):Ve (t,p,())=some ((lnk t p).2.2.1,()):=by
 have:=hp.1;have:=hp.2
 rw [zuo];unfold zhY
 simp only [znu hp.1 (by omega),wG (YP hp),zz]
theorem zs0 {t:qi} (h:t.2.2.length≤1000000000000000) {p:Int} (hp:wC t p):JV (t,p,())=some ((lnk t p).2.2.2,()):=by
 have:=hp.1;have:=hp.2
 rw [zqI];unfold zei
 simp only [znu hp.1 (by omega),wG (YP hp),zz]
theorem zkh {t:qi} (h:t.2.2.length≤1000000000000000) {p:Int} (hp:wC t p):zj p 0=false∧(!zj p (wrF .i64 (2*(t.2.2.length:Int))))=false:=by
 have:=hp.1;have:=hp.2
 rw [tw t h,zG (by omega),zQ (by omega)];simp
theorem zzb {t:qi} (ht:jG t) {p:Int} (hp:wC t p):kG (t,p,())=some ((lnk t p).2.2.1,0,()):=by
 have hl:t.2.2.length≤1000000000000000:=by have:=ht.sz.ls;omega
 have:=hp.1;have:=hp.2
 obtain ⟨e1,e2⟩:=zkh hl hp
 rw [zwk];unfold zjY
 simp only [YO,zz,zS ht,cond_true,vu,Bool.not_true,cond_false,e1,e2,znu hp.1 (show p≤1000000000000000000 by omega),wG (YP hp),zop,zcC]
 rfl
theorem zuN {t:qi} (ht:jG t) {p:Int} (hp:wC t p):Ja (t,p,())=some ((lnk t p).2.2.2,0,()):=by
 have hl:t.2.2.length≤1000000000000000:=by have:=ht.sz.ls;omega
 have:=hp.1;have:=hp.2
 obtain ⟨e1,e2⟩:=zkh hl hp
 rw [zsK];unfold zgt
 simp only [YO,zz,zS ht,cond_true,vu,Bool.not_true,cond_false,e1,e2,znu hp.1 (show p≤1000000000000000000 by omega),wG (YP hp),zls,GP]
 rfl
def zU (t:qi) (r:List Int):List Int:=match r with
 |[]=>[]
 |p::_=>frm t p::r.map (too t)
theorem Zw (t:qi) {r:List Int} (h:r≠[]):(zU t r).length=r.length+1:=by
 cases r with
 |nil=>exact absurd rfl h
 |cons p r=>simp [zU]
theorem zuO (t:qi) {r:List Int} {p:Int} (h:r[0]?=some p):(zU t r)[0]?=some (frm t p):=by
 cases r with
 |nil=>cases h
 |cons q r=>simp at h;subst h;rfl
theorem WC (t:qi) {r:List Int} {i:Nat} {p:Int} (h:r[i]?=some p):(zU t r)[i+1]?=some (too t p):=by
 cases r with
 |nil=>cases h
 |cons q r=>simp only [zU,List.getElem?_cons_succ,List.getElem?_map,h,Option.map_some]
theorem zbF {t:qi} (h:t.2.2.length≤1000000000000000) {r:List Int} (h0:r≠[]) (h8:r.length≤8) (hp:∀p∈r,wC t p):ui (t,r,())=some (zU t r,()):=by
 have hl:0 < r.length:=List.length_pos_iff.2 h0
 have hx0:r[0]?=some r[0]:=List.getElem?_eq_getElem hl
 rw [zpT];unfold zdG
 refine wO (zg (zx (n:=0) hx0 ?_))
 rw [Qv h (hp _ (List.getElem_mem hl)),zz]
 refine zk (J:=fun x=>x.2.2.1=zU t r) (zV r.length (fun i s=>s=(((i:Int),()),((zU t r).take (i+1),()))) (by omega) ?_ ?_ ?_) ?_
 ·have:=zuO t hx0
  have e:(zU t r).take 1=[frm t r[0]]:=by
   rw [show (1:Nat)=0+1 from rfl,List.take_add_one,this];simp
  rw [show (0:Nat)+1=1 from rfl,e];rfl
 ·rintro i _ hi rfl
  have hx:r[i]?=some r[i]:=List.getElem?_eq_getElem hi
  refine ze (zQ (show (i:Int) < (r.length:Int) by omega)) (zg (zx (n:=i) hx ?_))
  rw [Jc h (hp _ (List.getElem_mem hi)),zz]
  have hl:=Zw t h0
  refine ze (yd (by show (((zU t r).take (i+1)).length+1)*8≤_;simp;omega) (by show ((zU t r).take (i+1)).length+1≤_;simp;omega)) ?_
  refine za (qj ?_)
  have e:(zU t r).take (i+1+1)=(zU t r).take (i+1)++[too t r[i]]:=by
   rw [List.take_add_one,WC t hx];rfl
  rw [e,←qp (by omega)]
 ·rintro _ rfl
  refine zf (zG (show ¬(r.length:Int) < (r.length:Int) by omega)) (za (zq ?_))
  show (zU t r).take (r.length+1)=_
  rw [List.take_of_length_le (by rw [Zw t h0];omega)]
 ·rintro ⟨j,⟨z,⟨⟩⟩,c,⟨⟩⟩ hc
  exact za hc
theorem XO {t:qi} (h:t.2.2.length≤1000000000000000) {r:List Int} (h0:r≠[]) (h8:r.length≤8) (hp:∀p∈r,wC t p):yx (t,r,())=some (zU t r,()):=by
 rw [ziC];unfold Kb
 rw [show wrF .i64 ((r.length:Int)+1)=(r.length:Int)+1 from zE (by omega) (by omega)]
 refine wO (ze (zn7 (by omega) (by omega) (by omega)) ?_)
 refine zk (J:=fun x=>x.2.2.1.1=zU t r) (zV r.length (fun i s=>s=(((i:Int),()),((((zU t r).take (if i=0 then 0 else i+1)),()),((),((),()))))) (by omega) rfl ?_ ?_) ?_
 ·rintro i _ hi rfl
  have hx:r[i]?=some r[i]:=List.getElem?_eq_getElem hi
  have hpi:=hp _ (List.getElem_mem hi)
  generalize r[i]=p at hx hpi
  have:=hpi.1;have:=hpi.2
  refine ze (zQ (show (i:Int) < (r.length:Int) by omega)) (zg (zx (n:=i) hx ?_))
  obtain ⟨e1,e2⟩:=zkh h hpi
  refine zf e1 (zf e2 ?_)
  rw [znu hpi.1 (by omega),wG (YP hpi),zz]
  refine zk (J:=fun x=>x.2.1.1.2.1=frm t p∧x.2.1.1.2.2=too t p) ?_ ?_
  ·rw [par hpi.1]
   unfold frm too
   refine zh (fun h=>?_) (fun h=>?_)
   ·have:=qO h
    exact za (by simp [this])
   ·have:=jx h
    exact za (by simp [this])
  rintro ⟨j,⟨⟨u,v,w⟩,⟨⟩⟩,⟨⟩,⟨⟩,⟨⟩⟩ ⟨rfl,rfl⟩
  have hl:=Zw t h0
  refine zk (J:=fun x=>x.2.2.1.1=(zU t r).take (i+1)) (zh (fun h=>?_) (fun h=>?_)) ?_
  ·have:=qO h
   have hi0:i=0:=by simp only at this;omega
   subst hi0
   refine ze (yd (by simp) (by simp)) (za ?_)
   show List.take 0 (zU t r)++[frm t p]=_
   rw [List.take_add_one,zuO t hx];rfl
  ·have:=jx h
   have hi0:i≠0:=by intro e;apply this;simp only [e];rfl
   exact za (by show (zU t r).take (if i=0 then 0 else i+1)=_;rw [if_neg hi0])
  ·rintro ⟨j,⟨⟩,⟨⟨c,⟨⟩⟩,⟨⟩,⟨⟩⟩⟩ hc
   simp only at hc
   subst hc
   refine ze (yd (by show (((zU t r).take (i+1)).length+1)*8≤_;simp;omega) (by show ((zU t r).take (i+1)).length+1≤_;simp;omega)) (za (qj ?_))
   have e:(zU t r).take (i+1+1)=(zU t r).take (i+1)++[too t p]:=by
    rw [List.take_add_one,WC t hx];rfl
   have e2:(if i+1=0 then 0 else i+1+1)=i+1+1:=if_neg (by omega)
   rw [e2,e,←qp (by omega)]
 ·rintro _ rfl
  refine zf (zG (show ¬(r.length:Int) < (r.length:Int) by omega)) (za (zq ?_))
  have:r.length≠0:=fun e=>h0 (List.length_eq_zero_iff.1 e)
  show (zU t r).take (if r.length=0 then 0 else r.length+1)=_
  rw [if_neg this,List.take_of_length_le (by rw [Zw t h0];omega)]
 ·rintro ⟨j,⟨z,⟨⟩⟩,⟨c,⟨⟩⟩,⟨⟩,⟨⟩,⟨⟩⟩ hc
  exact za hc
def zE9 (t:qi) (r:List Int) (i:Nat) (p:Int):Prop:=¬too t p∈(zU t r).take (i+1)∧(0 < i→∀n,(zU t r)[i]?=some n→stn t n=false∧frm t p=n)
structure qR (t:qi) (r:List Int):Prop where
 n0:1≤r.length
 n1:r.length≤8
 pt:∀p∈r,wC t p
 st:∀(i:Nat) p,r[i]?=some p→zE9 t r i p
theorem qR.ne {t:qi} {r:List Int} (h:qR t r):r≠[]:=by
 intro e;have:=h.n0;rw [e] at this;simp at this
theorem jG.ll {t:qi} (h:jG t):t.2.2.length≤1000000000000000:=by have:=h.sz.ls;omega
theorem zFR {t:qi} (ht:jG t) {r:List Int} (hp:∀p∈r,wC t p):∀n∈zU t r,jb t n:=by
 intro n hn
 cases r with
 |nil=>cases hn
 |cons q r=>
  simp only [zU,List.mem_cons,List.mem_map] at hn
  rcases hn with rfl | ⟨p,hp',rfl⟩
  ·exact (GV ht.ls (hp q (by simp))).1
  ·exact (GV ht.ls (hp p (by simpa using hp'))).2.1
theorem jb.get {t:qi} (hs:szP t) {n:Int} (h:jb t n):t.2.1[n.toNat]?=some (stn t n):=by
 have hx:t.2.1[n.toNat]?=some (t.2.1[n.toNat]'(h.lt hs)):=List.getElem?_eq_getElem (h.lt hs)
 rw [hx,ziZ hx]
theorem zhq {t:qi} (ht:jG t) (r:List Int):vl (t,r,())=some (tv (qR t r),()):=by
 have hll:=ht.ll
 rw [zpU];unfold zdH
 refine jR (zk (J:=fun x=>(x.1=0∧x.2.1.1=false∧1≤r.length∧r.length≤8)∨(x.1=1∧x.2.1.1=false∧¬qR t r)) ?_ ?_)
 ·refine zh (fun h=>za (.inr ⟨rfl,rfl,fun hs=>?_⟩)) (fun h1=>zh (fun h=>za (.inr ⟨rfl,rfl,fun hs=>?_⟩)) (fun h2=>za (.inl ⟨rfl,rfl,?_⟩)))
  ·have:=qq h;have:=hs.n0;omega
  ·have:=qq h;have:=hs.n1;omega
  ·have h1:=qA h1;have h2:=qA h2;omega
 rintro ⟨j,⟨v,⟨⟩⟩,⟨⟩⟩ (⟨rfl,rfl,h1,h8⟩ | ⟨rfl,rfl,hq⟩)
 rotate_left
 ·exact zf rfl (za ⟨fun h=>(by cases h),fun h=>absurd h hq⟩)
 refine ze rfl (zk (J:=fun x=>(x.1=0∧x.2.1.1=false∧∀p∈r,wC t p)∨(x.1=1∧x.2.1.1=false∧¬qR t r)) (qB r.length (fun i=>∀p,r[i]?=some p→wC t p) (by omega) ?_ ?_) ?_)
 ·intro i hi hp
  have hx:r[i]?=some r[i]:=List.getElem?_eq_getElem hi
  refine ze (zQ (show (i:Int) < (r.length:Int) by omega)) (zg (zx (n:=i) hx ?_))
  rw [zuM hll]
  refine zh (fun h=>?_) (fun h=>?_)
  ·exact za (zq (.inr ⟨rfl,rfl,fun hr=>wY h (hr.pt _ (List.getElem_mem hi))⟩))
  ·exact za (jj (by omega) fun p hp=>by rw [hx] at hp;cases hp;exact yQ h)
 ·intro hp
  refine zf (zG (show ¬(r.length:Int) < (r.length:Int) by omega)) (za (zq (.inl ⟨rfl,rfl,fun p hm=>?_⟩)))
  obtain ⟨k,hk⟩:=List.getElem?_of_mem hm
  exact hp k (by grind) p hk
 rintro ⟨j,⟨v,w,⟨⟩⟩,⟨⟩⟩ (⟨rfl,rfl,hpt⟩ | ⟨rfl,rfl,hq⟩)
 rotate_left
 ·exact zf rfl (za ⟨fun h=>(by cases h),fun h=>absurd h hq⟩)
 have hne:r≠[]:=by intro e;rw [e] at h1;simp at h1
 have hnl:=Zw t hne
 have hnP:=zFR ht hpt
 refine ze rfl ?_
 rw [zbF hll hne h8 hpt,zz]
 refine zk (J:=fun x=>(x.1=0∧qR t r)∨(x.1=1∧x.2.1.1=false∧¬qR t r)) (qB (zU t r).length (fun i=>(∀n,(zU t r)[i]?=some n→¬n∈(zU t r).take i)∧∀p,r[i]?=some p→0 < i→∀n,(zU t r)[i]?=some n→stn t n=false∧frm t p=n) (by omega) ?_ ?_) ?_
 ·intro i hi hp
  have hx:(zU t r)[i]?=some (zU t r)[i]:=List.getElem?_eq_getElem hi
  have hn:=hnP _ (List.getElem_mem hi)
  generalize (zU t r)[i]=n at hx hn
  refine ze (zQ (show (i:Int) < ((zU t r).length:Int) by omega)) (zg (qf (zcv (zU t r) i (by omega)) (zg (zx (n:=i) hx ?_))))
  rw [zbE (by simp;omega)]
  refine zh (fun h=>?_) (fun h=>?_)
  ·refine za (zq (.inr ⟨rfl,rfl,fun hr=>?_⟩))
   have hm:=Zl h
   cases i with
   |zero=>simp at hm
   |succ i=>
    have hy:r[i]?=some r[i]:=List.getElem?_eq_getElem (by omega)
    have e:=WC t hy
    rw [hx] at e
    have:=(hr.st i _ hy).1
    rw [←Option.some.inj e] at this
    exact this hm
  have hin:=gJ h
  refine zk (J:=fun x=>(x.1=0∧x.2.1.1=false∧∀p,r[i]?=some p→0 < i→stn t n=false∧frm t p=n)∨(x.1=1∧x.2.1.1=false∧¬qR t r)) ?_ ?_
  ·refine zh (fun h2=>?_) (fun h2=>?_)
   ·have h2:=qq (show zj 0 (i:Int)=true from h2)
    refine zh (fun h3=>?_) (fun h3=>?_)
    ·have h3:=qq (show zj (i:Int) (r.length:Int)=true from h3)
     have hy:r[i]?=some r[i]:=List.getElem?_eq_getElem (by omega)
     have hpy:=hpt _ (List.getElem_mem (show i < r.length by omega))
     generalize r[i]=p at hy hpy
     refine zg (zx (n:=i) hx (zg (qf (a:=stn t n) (by rw [show n=((n.toNat:Nat):Int) from (by have:=hn.1;omega),wG (n:=n.toNat)];exact hn.get ht.sz) ?_)))
     refine zh (fun h4=>?_) (fun h4=>?_)
     ·refine za (.inr ⟨rfl,rfl,fun hr=>?_⟩)
      have:=((hr.st i p hy).2 (by omega) n hx).1
      rw [this] at h4;cases h4
     ·refine zg (zx (n:=i) hy ?_)
      rw [Qv hll hpy,zz]
      refine zg (zx (n:=i) hx (zh (fun h5=>?_) (fun h5=>?_)))
      ·refine za (.inr ⟨rfl,rfl,fun hr=>?_⟩)
       have:=((hr.st i p hy).2 (by omega) n hx).2
       rw [vu this] at h5;cases h5
      ·have:=qO (show zm (frm t p) n=true by simpa using h5)
       exact za (.inl ⟨rfl,rfl,fun p' hp' _=>by rw [hy] at hp';cases hp';exact ⟨h4,this⟩⟩)
    ·have h3:=qA (show zj (i:Int) (r.length:Int)=false from h3)
     exact za (.inl ⟨rfl,rfl,fun p hp=>by rw [List.getElem?_eq_none (by omega)] at hp;cases hp⟩)
   ·have h2:=qA (show zj 0 (i:Int)=false from h2)
    exact za (.inl ⟨rfl,rfl,fun p hp h0=>by omega⟩)
  ·rintro ⟨j,⟨v,⟨⟩⟩,⟨⟩⟩ (⟨rfl,rfl,hq⟩ | ⟨rfl,rfl,hq⟩)
   ·exact ze rfl (za (jj (by omega) ⟨fun m hm=>by rw [hx] at hm;cases hm;exact hin,fun p hp h0 m hm=>by rw [hx] at hm;cases hm;exact hq p hp h0⟩))
   ·exact zf rfl (za (zq (.inr ⟨rfl,rfl,hq⟩)))
 ·intro hp
  refine zf (zG (show ¬((zU t r).length:Int) < ((zU t r).length:Int) by omega)) (za (zq (.inl ⟨rfl,h1,h8,hpt,fun i p hi=>⟨?_,fun h0 n hn=>?_⟩⟩)))
  ·have hil:i < r.length:=by grind
   exact (hp (i+1) (by omega)).1 _ (WC t hi)
  ·have hil:i < r.length:=by grind
   exact (hp i (by omega)).2 p hi h0 n hn
 ·rintro ⟨j,⟨v,w,⟨⟩⟩,⟨⟩⟩ (⟨rfl,hq⟩ | ⟨rfl,rfl,hq⟩)
  ·exact ze rfl (za ⟨fun _=>hq,fun _=>rfl⟩)
  ·exact zf rfl (za ⟨fun h=>(by cases h),fun h=>absurd h hq⟩)
def zbG (t:qi) (r:List Int) (i:Nat):List Bool:=(List.range 12).map fun n=>decide (((n:Nat):Int)∈(zU t r).take (if i=0 then 0 else i+1))
theorem zEJ (t:qi) (r:List Int) (i:Nat):(zbG t r i).length=12:=by simp [zbG]
def atS (t:qi) (r:List Int) (i:Nat):Int:=if i=0 then 0 else ((zU t r)[i]?).getD 0
theorem zvC {f g:Nat→Bool} (h:∀n,n < 12→f n=g n):(List.range 12).map f=(List.range 12).map g:=List.map_congr_left fun n hn=>h n (List.mem_range.1 hn)
theorem zvD {f:Nat→Bool} {k:Nat} (hk:k < 12):((List.range 12).map f).set k true=(List.range 12).map fun n=>(f n||n == k):=by
 apply List.ext_getElem?
 intro n
 rw [List.getElem?_set]
 by_cases h:n < 12
 ·by_cases e:k=n
  ·subst e;simp [h]
  ·have:(n == k)=false:=by simp;omega
   simp [h,e,this]
 ·rw [List.getElem?_eq_none (by simp;omega),List.getElem?_eq_none (by simp;omega)]
  split<;>simp<;>omega
theorem zbH {t:qi} (ht:jG t) (r:List Int):yA (t,r,())=some (tv (qR t r),()):=by
 have hll:=ht.ll
 have n1:=ht.sz.n1
 rw [ziD];unfold Kc
 refine jR (zk (J:=fun x=>(x.1=0∧x.2.1.1=false∧1≤r.length∧r.length≤8)∨(x.1=1∧x.2.1.1=false∧¬qR t r)) ?_ ?_)
 ·refine zh (fun h=>za (.inr ⟨rfl,rfl,fun hs=>?_⟩)) (fun h1=>zh (fun h=>za (.inr ⟨rfl,rfl,fun hs=>?_⟩)) (fun h2=>za (.inl ⟨rfl,rfl,?_⟩)))
  ·have:=qq h;have:=hs.n0;omega
  ·have:=qq h;have:=hs.n1;omega
  ·have h1:=qA h1;have h2:=qA h2;omega
 rintro ⟨j,⟨v,⟨⟩⟩,⟨⟩⟩ (⟨rfl,rfl,h1,h8⟩ | ⟨rfl,rfl,hq⟩)
 rotate_left
 ·exact zf rfl (za ⟨fun h=>(by cases h),fun h=>absurd h hq⟩)
 have hne:r≠[]:=by intro e;rw [e] at h1;simp at h1
 have hnl:=Zw t hne
 refine ze rfl (zk (J:=fun x=>(x.2.1.2.1=(r.length:Int)∧qR t r)∨(x.2.1.2.1 < (r.length:Int)∧¬qR t r))
  (zV r.length (fun i s=>s=((atS t r i,((i:Int),((i:Int),()))),(zbG t r i,((),((),()))))∧∀(k:Nat),k < i→∀p,r[k]?=some p→wC t p∧zE9 t r k p) (by omega) ⟨rfl,fun k hk=>by omega⟩ ?_ ?_) ?_)
 ·rintro i _ hi ⟨rfl,hp⟩
  have hx:r[i]?=some r[i]:=List.getElem?_eq_getElem hi
  have hmem:=List.getElem_mem hi
  generalize r[i]=p at hx hmem
  have bad:∀{x:Nat×((Int×(Int×(Int×Unit)))×(List Bool×(Unit×(Unit×Unit))))},x.2.1.2.1=(i:Int)→¬qR t r→(x.2.1.2.1=(r.length:Int)∧qR t r)∨(x.2.1.2.1 < (r.length:Int)∧¬qR t r):=fun e hq=>.inr ⟨by rw [e];omega,hq⟩
  refine ze (zQ (show (i:Int) < (r.length:Int) by omega)) (zg (zx (n:=i) hx ?_))
  refine zh (fun h=>za (zq (bad rfl fun hr=>?_))) (fun hp0=>zh (fun h=>za (zq (bad rfl fun hr=>?_))) (fun hp1=>?_))
  ·have:=qq h;have:=(hr.pt p hmem).1;omega
  ·have:=hr.pt p hmem
   rw [(zkh hll this).2] at h;cases h
  have hpi:wC t p:=by
   have:=qA hp0
   rw [tw t hll] at hp1
   have:=qq (show zj p (2*(t.2.2.length:Int))=true by simpa using hp1)
   exact ⟨by omega,by omega⟩
  have:=hpi.1;have:=hpi.2
  obtain ⟨⟨f0,f1⟩,⟨g0,g1⟩,hfg⟩:=GV ht.ls hpi
  rw [znu hpi.1 (by omega),wG (YP hpi),zz]
  refine zk (J:=fun x=>x.1=0∧x.2.1.1.2.1=frm t p∧x.2.1.1.2.2=too t p) ?_ ?_
  ·rw [par hpi.1]
   unfold frm too
   refine zh (fun h=>?_) (fun h=>?_)
   ·have:=qO h
    exact za (by simp [this])
   ·have:=jx h
    exact za (by simp [this])
  rintro ⟨j,⟨⟨u,v,w⟩,⟨⟩⟩,⟨⟩,⟨⟩,⟨⟩⟩ ⟨rfl,rfl,rfl⟩
  have hsl:=zEJ t r i
  have htk:(zU t r).take (i+1+1)=(zU t r).take (i+1)++[too t p]:=by
   rw [List.take_add_one,WC t hx];rfl
  refine ze rfl (zk (J:=fun x=>(x.1=0∧x.2.2.1=(List.range 12).map (fun n=>decide (((n:Nat):Int)∈(zU t r).take (i+1)))∧(0 < i→∀n,(zU t r)[i]?=some n→stn t n=false∧frm t p=n))∨(x.1=1∧¬qR t r)) (zh (fun h=>?_) (fun h=>?_)) ?_)
  ·have h0:=qO (show zm (i:Int) 0=true from h)
   have hi0:i=0:=by omega
   subst hi0
   refine ze (zQ (show frm t p < 12 by omega)) (zg (qC f0 (by show frm t p < (((zbG t r 0).length:Nat):Int);omega) fun _ _=>zg (jo (by show (frm t p).toNat < (zbG t r 0).length;omega) fun _ _=>?_)))
   refine za (.inl ⟨rfl,?_,fun h=>by omega⟩)
   show (zbG t r 0).set (frm t p).toNat true=_
   unfold zbG
   rw [zvD (by omega)]
   refine zvC fun n hn=>?_
   rw [List.take_add_one,zuO t hx]
   simp only [if_true,List.take_zero,List.nil_append,Option.toList,List.mem_singleton,List.not_mem_nil,decide_false,Bool.false_or]
   rw [Bool.eq_iff_iff];simp only [beq_iff_eq,decide_eq_true_eq];omega
  ·have h0:=jx (show zm (i:Int) 0=false from h)
   have hi0:i≠0:=fun e=>h0 (by rw [e];rfl)
   have hxn:(zU t r)[i]?=some (zU t r)[i]:=List.getElem?_eq_getElem (by omega)
   have hat:atS t r i=(zU t r)[i]:=by unfold atS;rw [if_neg hi0,hxn];rfl
   have hn:jb t (zU t r)[i]:=by
    obtain ⟨m,rfl⟩:∃m,i=m+1:=⟨i - 1,by omega⟩
    have hy:r[m]?=some r[m]:=List.getElem?_eq_getElem (by omega)
    have e:=WC t hy
    rw [hxn] at e
    rw [Option.some.inj e]
    exact (GV ht.ls (hp m (by omega) _ hy).1).2.1
   generalize (zU t r)[i]=n at hxn hat hn
   refine zh (fun h2=>?_) (fun h2=>?_)
   ·refine za (.inr ⟨rfl,fun hr=>?_⟩)
    have:=((hr.st i p hx).2 (by omega) n hxn).2
    have h2':(!zm (frm t p) (atS t r i))=true:=h2
    rw [hat,vu this] at h2';cases h2'
   ·have h2':(!zm (frm t p) (atS t r i))=false:=h2
    have e1:=qO (show zm (frm t p) (atS t r i)=true by simpa using h2')
    refine zg (qf (a:=stn t n) (by show atI t.2.1 (atS t r i)=_;rw [hat,show n=((n.toNat:Nat):Int) from (by have:=hn.1;omega),wG (n:=n.toNat)];exact hn.get ht.sz) ?_)
    refine zh (fun h4=>?_) (fun h4=>?_)
    ·refine za (.inr ⟨rfl,fun hr=>?_⟩)
     have:=((hr.st i p hx).2 (by omega) n hxn).1
     rw [this] at h4;cases h4
    ·refine za (.inl ⟨rfl,?_,fun _ m hm=>by rw [hxn] at hm;cases hm;exact ⟨h4,by rw [e1,hat]⟩⟩)
     show zbG t r i=_
     unfold zbG
     rw [if_neg hi0]
  ·rintro ⟨j,⟨⟩,c,⟨⟩,⟨⟩⟩ (⟨rfl,hc,hst⟩ | ⟨rfl,hq⟩)
   rotate_left
   ·exact zf rfl (za (zq (bad rfl hq)))
   simp only at hc
   have hcl:c.length=12:=by rw [hc];simp
   refine ze rfl (ze (zQ (show too t p < 12 by omega)) (zg (qC g0 (by show too t p < ((c.length:Nat):Int);omega) fun _ _=>zg (jo (by show (too t p).toNat < c.length;omega) fun x hx2=>?_))))
   have hx2':c[(too t p).toNat]?=some x:=hx2
   have hmt:(((too t p).toNat:Nat):Int)=too t p:=by omega
   have hxe:x=decide (too t p∈(zU t r).take (i+1)):=by
    rw [hc] at hx2'
    simp only [List.getElem?_map,List.getElem?_range (show (too t p).toNat < 12 by omega),Option.map_some,hmt] at hx2'
    exact (Option.some.inj hx2').symm
   refine zh (fun h6=>?_) (fun h6=>?_)
   ·subst h6
    refine za (zq (bad rfl fun hr=>(hr.st i p hx).1 ?_))
    exact of_decide_eq_true hxe.symm
   ·subst h6
    have hnm:¬too t p∈(zU t r).take (i+1):=of_decide_eq_false hxe.symm
    refine ze (zQ (show too t p < 12 by omega)) (zg (qC g0 (by show too t p < ((c.length:Nat):Int);omega) fun _ _=>zg (jo (by show (too t p).toNat < c.length;omega) fun _ _=>?_)))
    refine za (qj ⟨?_,fun k hk q hq=>?_⟩)
    ·have e1:atS t r (i+1)=too t p:=by unfold atS;rw [if_neg (by omega),WC t hx];rfl
     have e2:c.set (too t p).toNat true=zbG t r (i+1):=by
      rw [hc,zvD (by omega)]
      unfold zbG
      rw [if_neg (by omega),htk]
      refine zvC fun n hn=>?_
      rw [Bool.eq_iff_iff]
      simp only [Bool.or_eq_true,decide_eq_true_eq,beq_iff_eq,List.mem_append,List.mem_singleton]
      constructor
      ·rintro (h | h)
       ·exact .inl h
       ·right;omega
      ·rintro (h | h)
       ·exact .inl h
       ·right;omega
     rw [e1,←e2,←qp (by omega)]
    ·rcases Nat.lt_or_ge k i with hki | hki
     ·exact hp k hki q hq
     ·have:k=i:=by omega
      subst this
      rw [hx] at hq;cases hq
      exact ⟨hpi,hnm,hst⟩
 ·rintro _ ⟨rfl,hp⟩
  refine zf (zG (show ¬(r.length:Int) < (r.length:Int) by omega)) (za (zq (.inl ⟨rfl,h1,h8,fun p hm=>?_,fun i p hi=>(hp i (by grind) p hi).2⟩)))
  obtain ⟨k,hk⟩:=List.getElem?_of_mem hm
  exact (hp k (by grind) p hk).1
 ·rintro ⟨j,⟨v,w,z,⟨⟩⟩,c,⟨⟩,⟨⟩,⟨⟩⟩ (⟨hg,hr⟩ | ⟨hg,hr⟩)
  ·simp only at hg
   refine zh (fun _=>?_) (fun _=>?_)<;>exact za ⟨fun _=>hr,fun _=>vu hg⟩
  ·simp only at hg
   refine zh (fun _=>?_) (fun _=>?_)<;>exact za ⟨fun h=>by have:=qO h;simp only at this;omega,fun h=>absurd h hr⟩
def YQ (a b:List Int):Prop:=∃p∈a,∃q∈b,Int.tdiv p 2=Int.tdiv q 2
def XP (a:List Int):List Int:=(a.take (a.length - 1)).drop 1
def Jq (a b:List Int):Prop:=∃n∈XP a,n∈b
def znv (t:qi) (a b:List Int):Prop:=¬YQ a b∧¬Jq (zU t a) (zU t b)∧¬Jq (zU t b) (zU t a)
theorem zGI {p:Int} (h : -9223372036854775808≤p) (h2:p≤9223372036854775807):wrF .i64 (Int.tdiv p 2)=Int.tdiv p 2:=by
 rcases Int.le_total 0 p with h0 | h0
 ·rw [Int.tdiv_eq_ediv_of_nonneg h0];exact zE (by omega) (by omega)
 ·have e:Int.tdiv p 2 = -((-p) / 2):=by
   rw [←Int.tdiv_eq_ediv_of_nonneg (by omega),Int.neg_tdiv,Int.neg_neg]
  rw [e];exact zE (by omega) (by omega)
theorem zn8 {t:qi} (h:t.2.2.length≤1000000000000000) {p:Int} (hp:wC t p):wrF .i64 (Int.tdiv p 2)=Int.tdiv p 2:=zGI (by have:=hp.1;omega) (by have:=hp.2;omega)
theorem jM {α:Type} {l:List α} {x:α} (h:x∈l):∃i,i < l.length∧l[i]?=some x:=by
 obtain ⟨i,hi⟩:=List.getElem?_of_mem h
 exact ⟨i,by grind,hi⟩
theorem zqX {t:qi} (h:t.2.2.length≤1000000000000000) {a b:List Int} (ha:∀p∈a,wC t p) (hb:∀p∈b,wC t p) (la:a.length≤8) (lb:b.length≤8):Qq (a,b,())=some (tv (YQ a b),()):=by
 rw [zok];unfold zcy
 refine jR (zk (J:=fun x=>(x.1=0∧¬YQ a b)∨(x.1=1∧x.2.1.1=true∧YQ a b)) (qB a.length (fun i=>∀p,a[i]?=some p→¬∃q∈b,Int.tdiv p 2=Int.tdiv q 2) (by omega) ?_ ?_) ?_)
 ·intro i hi hp
  have hx:a[i]?=some a[i]:=List.getElem?_eq_getElem hi
  have hm:=List.getElem_mem hi
  generalize a[i]=p at hx hm
  refine ze (zQ (show (i:Int) < (a.length:Int) by omega)) (zg (zx (n:=i) hx ?_))
  refine zk (J:=fun x=>(x.1=0∧x.2.1.1=false∧¬∃q∈b,Int.tdiv p 2=Int.tdiv q 2)∨(x.1=1∧x.2.1.1=true∧∃q∈b,Int.tdiv p 2=Int.tdiv q 2)) (qB b.length (fun k=>∀q,b[k]?=some q→Int.tdiv p 2≠Int.tdiv q 2) (by omega) ?_ ?_) ?_
  ·intro k hk hq
   have hy:b[k]?=some b[k]:=List.getElem?_eq_getElem hk
   have hmk:=List.getElem_mem hk
   generalize b[k]=q at hy hmk
   refine ze (zQ (show (k:Int) < (b.length:Int) by omega)) (zg (zx (n:=k) hy ?_))
   rw [zn8 h (ha p hm),zn8 h (hb q hmk)]
   refine zh (fun h=>?_) (fun h=>?_)
   ·exact za (zq (.inr ⟨rfl,rfl,q,hmk,qO h⟩))
   ·exact za (jj (by omega) fun q' hq'=>by rw [hy] at hq';cases hq';exact jx h)
  ·intro hq
   refine zf (zG (show ¬(b.length:Int) < (b.length:Int) by omega)) (za (zq (.inl ⟨rfl,rfl,fun ⟨q,hq1,hq2⟩=>?_⟩)))
   obtain ⟨k,hk,hk2⟩:=jM hq1
   exact hq k hk q hk2 hq2
  ·rintro ⟨j,⟨v,w,⟨⟩⟩,⟨⟩⟩ (⟨rfl,rfl,hq⟩ | ⟨rfl,rfl,hq⟩)
   ·exact ze rfl (za (jj (by omega) fun p' hp'=>by rw [hx] at hp';cases hp';exact hq))
   ·exact zf rfl (za (zq (.inr ⟨rfl,rfl,p,hm,hq⟩)))
 ·intro hp
  refine zf (zG (show ¬(a.length:Int) < (a.length:Int) by omega)) (za (zq (.inl ⟨rfl,fun ⟨p,hp1,hp2⟩=>?_⟩)))
  obtain ⟨k,hk,hk2⟩:=jM hp1
  exact hp k hk p hk2 hp2
 ·rintro ⟨j,⟨v,w,⟨⟩⟩,⟨⟩⟩ (⟨rfl,hq⟩ | ⟨rfl,rfl,hq⟩)
  ·exact ze rfl (za ⟨fun h=>(by cases h),fun h=>absurd h hq⟩)
  ·exact zf rfl (za ⟨fun _=>hq,fun _=>rfl⟩)
theorem zvE {a:List Int} {i:Nat} (h:1≤i) (h2:i < a.length - 1):(XP a)[i - 1]?=a[i]?:=by
 unfold XP
 rw [List.getElem?_drop,List.getElem?_take]
 rw [if_pos (by omega)]
 congr 1;omega
theorem zvF (a:List Int):(XP a).length=a.length - 1 - 1:=by unfold XP;simp
theorem zvG {a:List Int} {n:Int}:n∈XP a↔∃i,1≤i∧i < a.length - 1∧a[i]?=some n:=by
 constructor
 ·intro h
  obtain ⟨k,hk,hk2⟩:=jM h
  rw [zvF] at hk
  refine ⟨k+1,by omega,by omega,?_⟩
  rw [←zvE (by omega) (by omega)];exact hk2
 ·rintro ⟨i,h1,h2,h3⟩
  rw [←zvE h1 h2] at h3
  exact List.mem_of_getElem? h3
theorem zeH {a b:List Int} (la:1≤a.length) (la2:a.length≤100) (lb:b.length≤100):ZB (a,b,())=some (tv (Jq a b),()):=by
 have e1:wrF .i64 ((a.length:Int) - 1)=(a.length:Int) - 1:=zE (by omega) (by omega)
 rw [zmE];unfold zaV
 rw [e1]
 refine jR (zk (J:=fun x=>(x.1=0∧¬Jq a b)∨(x.1=1∧x.2.1.1=true∧Jq a b))
  (zV (a.length - 1 - 1) (fun i s=>s=((false,(((i+1:Nat):Int),())),())∧∀k,1≤k→k < i+1→∀n,a[k]?=some n→¬n∈b) (by omega) ⟨rfl,fun k h1 h2=>by omega⟩ ?_ ?_) ?_)
 ·rintro i _ hi ⟨rfl,hp⟩
  have hx:a[i+1]?=some a[i+1]:=List.getElem?_eq_getElem (by omega)
  generalize a[i+1]=n at hx
  refine ze (zQ (show ((i+1:Nat):Int) < (a.length:Int) - 1 by omega)) (zg (zx (n:=i+1) hx ?_))
  rw [zbE (by show b.length≤_;omega)]
  refine zh (fun h=>?_) (fun h=>?_)
  ·exact za (zq (.inr ⟨rfl,rfl,n,zvG.2 ⟨i+1,by omega,by omega,hx⟩,Zl h⟩))
  ·refine za (qj ⟨congrArg (fun z=>((false,(z,())),())) (qp (i:=i+1) (by omega)),fun k h1 h2 m hm=>?_⟩)
   rcases Nat.lt_or_ge k (i+1) with hk | hk
   ·exact hp k h1 hk m hm
   ·have:k=i+1:=by omega
    subst this
    rw [hx] at hm;cases hm
    exact gJ h
 ·rintro _ ⟨rfl,hp⟩
  refine zf (zG (show ¬((a.length - 1 - 1+1:Nat):Int) < (a.length:Int) - 1 by omega)) (za (zq (.inl ⟨rfl,fun ⟨n,h1,h2⟩=>?_⟩)))
  obtain ⟨i,i1,i2,i3⟩:=zvG.1 h1
  exact hp i i1 (by omega) n i3 h2
 ·rintro ⟨j,⟨v,w,⟨⟩⟩,⟨⟩⟩ (⟨rfl,hq⟩ | ⟨rfl,rfl,hq⟩)
  ·exact ze rfl (za ⟨fun h=>(by cases h),fun h=>absurd h hq⟩)
  ·exact zf rfl (za ⟨fun _=>hq,fun _=>rfl⟩)
theorem zhr {t:qi} (ht:jG t) {a b:List Int} (ha:qR t a) (hb:qR t b):uj (t,a,b,())=some (tv (znv t a b),()):=by
 have hll:=ht.ll
 have na:=Zw t ha.ne;have nb:=Zw t hb.ne
 have a0:=ha.n0;have a8:=ha.n1;have b0:=hb.n0;have b8:=hb.n1
 rw [zpW];unfold zdI
 refine jR (zk (J:=fun x=>(x.1=0∧¬YQ a b)∨(x.1=1∧x.2.1.1=false∧YQ a b)) (qB a.length (fun i=>∀p,a[i]?=some p→¬∃q∈b,Int.tdiv p 2=Int.tdiv q 2) (by omega) ?_ ?_) ?_)
 ·intro i hi hp
  have hx:a[i]?=some a[i]:=List.getElem?_eq_getElem hi
  have hm:=List.getElem_mem hi
  generalize a[i]=p at hx hm
  refine ze (zQ (show (i:Int) < (a.length:Int) by omega)) ?_
  refine zk (J:=fun x=>(x.1=0∧x.2.1.1=false∧¬∃q∈b,Int.tdiv p 2=Int.tdiv q 2)∨(x.1=1∧x.2.1.1=false∧∃q∈b,Int.tdiv p 2=Int.tdiv q 2)) (qB b.length (fun k=>∀q,b[k]?=some q→Int.tdiv p 2≠Int.tdiv q 2) (by omega) ?_ ?_) ?_
  ·intro k hk hq
   have hy:b[k]?=some b[k]:=List.getElem?_eq_getElem hk
   have hmk:=List.getElem_mem hk
   generalize b[k]=q at hy hmk
   refine ze (zQ (show (k:Int) < (b.length:Int) by omega)) (zg (zx (n:=i) hx (zg (zx (n:=k) hy ?_))))
   rw [zn8 hll (ha.pt p hm),zn8 hll (hb.pt q hmk)]
   refine zh (fun h=>?_) (fun h=>?_)
   ·exact za (zq (.inr ⟨rfl,rfl,q,hmk,qO h⟩))
   ·exact za (jj (by omega) fun q' hq'=>by rw [hy] at hq';cases hq';exact jx h)
  ·intro hq
   refine zf (zG (show ¬(b.length:Int) < (b.length:Int) by omega)) (za (zq (.inl ⟨rfl,rfl,fun ⟨q,hq1,hq2⟩=>?_⟩)))
   obtain ⟨k,hk,hk2⟩:=jM hq1
   exact hq k hk q hk2 hq2
  ·rintro ⟨j,⟨v,w,⟨⟩⟩,⟨⟩⟩ (⟨rfl,rfl,hq⟩ | ⟨rfl,rfl,hq⟩)
   ·exact ze rfl (za (jj (by omega) fun p' hp'=>by rw [hx] at hp';cases hp';exact hq))
   ·exact zf rfl (za (zq (.inr ⟨rfl,rfl,p,hm,hq⟩)))
 ·intro hp
  refine zf (zG (show ¬(a.length:Int) < (a.length:Int) by omega)) (za (zq (.inl ⟨rfl,fun ⟨p,hp1,hp2⟩=>?_⟩)))
  obtain ⟨k,hk,hk2⟩:=jM hp1
  exact hp k hk p hk2 hp2
 ·rintro ⟨j,⟨v,w,⟨⟩⟩,⟨⟩⟩ (⟨rfl,hq⟩ | ⟨rfl,rfl,hq⟩)
  ·refine ze rfl ?_
   simp only [zbF hll ha.ne ha.n1 ha.pt,zbF hll hb.ne hb.n1 hb.pt,zz]
   rw [zeH (by omega) (by omega) (by omega)]
   refine zh (fun h=>?_) (fun h=>?_)
   ·rw [zeH (by omega) (by omega) (by omega)]
    refine za ⟨fun h2=>⟨hq,wY h,wY h2⟩,fun h2=>?_⟩
    show (!tv _)=true
    rw [qd h2.2.2];rfl
   ·exact za ⟨fun h2=>(by cases h2),fun h2=>absurd (yQ h) h2.2.1⟩
  ·exact zf rfl (za ⟨fun h=>(by cases h),fun h=>absurd hq h.1⟩)
theorem zes {l:List Int} (hn:l.length≤1000000000000000000) (b:Int):qu (yT (l,b,())) fun r=>(0≤r.1∧b∈l)∨(r.1 = -1∧¬b∈l):=by
 rw [zdm];unfold QQ
 refine zk (J:=fun x=>(x.1=0∧¬b∈l)∨(x.1=1∧0≤x.2.1.1∧b∈l)) (qB l.length (fun i=>l[i]?≠some b) hn ?_ ?_) ?_
 ·intro i hi hp
  have hx:l[i]?=some l[i]:=List.getElem?_eq_getElem hi
  refine ze (zQ (show (i:Int) < (l.length:Int) by omega)) (zg (zx (n:=i) hx (zh (fun h=>?_) (fun h=>?_))))
  ·have:b=l[i]:=qO h
   exact za (zq (.inr ⟨rfl,by show (0:Int)≤(i:Int);omega,by rw [this];exact List.getElem_mem hi⟩))
  ·have:=jx (show zm b l[i]=false from h)
   exact za (jj (by omega) (by rw [hx];intro e;cases e;exact this rfl))
 ·intro hp
  refine zf (zG (show ¬(l.length:Int) < (l.length:Int) by omega)) (za (zq (.inl ⟨rfl,fun hm=>?_⟩)))
  obtain ⟨k,hk,hk2⟩:=jM hm
  exact hp k hk hk2
 ·rintro ⟨j,⟨v,w,⟨⟩⟩,⟨⟩⟩ (⟨rfl,hp⟩ | ⟨rfl,h0,hp⟩)
  ·exact ze rfl (za (.inr ⟨rfl,hp⟩))
  ·exact zf rfl (za (.inl ⟨h0,hp⟩))
theorem zbT {l:List Int} (hn:l.length≤1000000000000000000) (b:Int):wZ (l,b,())=some (tv (b∈l),()):=by
 rw [za9];unfold Zt
 refine jR (zk (zes hn b) ?_)
 rintro ⟨v,⟨⟩⟩ (⟨h,hm⟩ | ⟨rfl,hm⟩)
 ·refine za ⟨fun _=>hm,fun _=>?_⟩
  show (!zj v 0)=true
  rw [zG (by simp only at h;omega)];rfl
 ·exact za ⟨fun h=>(by cases h),fun h=>absurd h hm⟩
theorem zbI {l:List Int} (hn:l.length≤1000000000000000000) (b:Int):qu (wJ (l,b,())) fun r=>(0≤r.1∧b∈l)∨(r.1 = -1∧¬b∈l):=by
 rw [zar];unfold gV
 refine zk (J:=fun x=>(x.1=0∧¬b∈l)∨(x.1=1∧0≤x.2.1.1∧b∈l)) (qB l.length (fun i=>l[i]?≠some b) hn ?_ ?_) ?_
 ·intro i hi hp
  have hx:l[i]?=some l[i]:=List.getElem?_eq_getElem hi
  refine ze (zQ (show (i:Int) < (l.length:Int) by omega)) (zg (zx (n:=i) hx (zh (fun h=>?_) (fun h=>?_))))
  ·have:b=l[i]:=qO h
   exact za (zq (.inr ⟨rfl,by show (0:Int)≤(i:Int);omega,by rw [this];exact List.getElem_mem hi⟩))
  ·have:=jx (show zm b l[i]=false from h)
   exact za (jj (by omega) (by rw [hx];intro e;cases e;exact this rfl))
 ·intro hp
  refine zf (zG (show ¬(l.length:Int) < (l.length:Int) by omega)) (za (zq (.inl ⟨rfl,fun hm=>?_⟩)))
  obtain ⟨k,hk,hk2⟩:=jM hm
  exact hp k hk hk2
 ·rintro ⟨j,⟨v,w,⟨⟩⟩,⟨⟩⟩ (⟨rfl,hp⟩ | ⟨rfl,h0,hp⟩)
  ·exact ze rfl (za (.inr ⟨rfl,hp⟩))
  ·exact zf rfl (za (.inl ⟨h0,hp⟩))
theorem Ut {l:List Int} (hn:l.length≤1000000000000000000) (b:Int):qP (l,b,())=some (tv (b∈l),()):=by
 rw [Ub];unfold kp
 refine jR (zk (zbI hn b) ?_)
 rintro ⟨v,⟨⟩⟩ (⟨h,hm⟩ | ⟨rfl,hm⟩)
 ·refine za ⟨fun _=>hm,fun _=>?_⟩
  show (!zj v 0)=true
  rw [zG (by simp only at h;omega)];rfl
 ·exact za ⟨fun h=>(by cases h),fun h=>absurd h hm⟩
theorem zbJ {t:qi} (ht:jG t) {a b:List Int} (ha:qR t a) (hb:qR t b):kh (t,a,b,())=some (tv (Jq (zU t a) (zU t b)),()):=by
 have hll:=ht.ll
 have na:=Zw t ha.ne;have nb:=Zw t hb.ne
 have a0:=ha.n0;have a8:=ha.n1;have b0:=hb.n0;have b8:=hb.n1
 rw [ziH];unfold Ke
 simp only [XO hll ha.ne ha.n1 ha.pt,XO hll hb.ne hb.n1 hb.pt,zz]
 generalize zU t a=A at na
 generalize zU t b=B at nb
 have e1:wrF .i64 ((A.length:Int) - 1)=((A.length - 1:Nat):Int):=by rw [zE]<;>omega
 have e2:kz A (some 1) (some (((A.length - 1:Nat):Int))) (some (((A.length - 1:Nat):Int)))=some (XP A):=zEI A 1 (A.length - 1) (by omega) (by omega)
 rw [e1,e2,zz]
 have il:=zvF A
 refine jR (zk (J:=fun x=>(x.1=0∧¬Jq A B)∨(x.1=1∧x.2.1.1=true∧Jq A B)) (qB (XP A).length (fun i=>∀n,(XP A)[i]?=some n→¬n∈B) (by omega) ?_ ?_) ?_)
 ·intro i hi hp
  have hx:(XP A)[i]?=some (XP A)[i]:=List.getElem?_eq_getElem hi
  have hm:=List.getElem_mem hi
  generalize (XP A)[i]=n at hx hm
  refine ze (zQ (show (i:Int) < ((XP A).length:Int) by omega)) (zg (zx (n:=i) hx ?_))
  rw [zbT (by omega)]
  refine zh (fun h=>?_) (fun h=>?_)
  ·exact za (zq (.inr ⟨rfl,rfl,n,hm,Zl h⟩))
  ·exact za (jj (by omega) fun m hm=>by rw [hx] at hm;cases hm;exact gJ h)
 ·intro hp
  refine zf (zG (show ¬((XP A).length:Int) < ((XP A).length:Int) by omega)) (za (zq (.inl ⟨rfl,fun ⟨n,h1,h2⟩=>?_⟩)))
  obtain ⟨k,hk,hk2⟩:=jM h1
  exact hp k hk n hk2 h2
 ·rintro ⟨j,⟨v,w,⟨⟩⟩,⟨⟩⟩ (⟨rfl,hq⟩ | ⟨rfl,rfl,hq⟩)
  ·exact ze rfl (za ⟨fun h=>(by cases h),fun h=>absurd h hq⟩)
  ·exact zf rfl (za ⟨fun _=>hq,fun _=>rfl⟩)
theorem zhs {t:qi} (ht:jG t) (r:List Int):uw (t,r,())=some (bif tv (qR t r) then 0 else 310,()):=by
 rw [zp9];unfold zdV
 simp only [YO,zz,zS ht,cond_true,zbH ht]
 rw [show (!zm 0 0)=false from rfl,cond_false]
 cases tv (qR t r)<;>rfl
theorem zs1 {t:qi} (ht:jG t) {a b:List Int} (ha:qR t a) (hb:qR t b):gu (t,a,b,())=some (tv (znv t a b),0,()):=by
 rw [zqd];unfold zdX
 simp only [zhs ht,zz,zS ha,zS hb,cond_true,zbH ht,zqX ht.ll ha.pt hb.pt ha.n1 hb.n1,zbJ ht ha hb,zbJ ht hb ha]
 rw [show (!zm 0 0)=false from rfl,cond_false]
 simp only [Bool.not_true,cond_false]
 unfold znv
 by_cases h1:YQ a b
 ·simp [zS h1,qd (show ¬(¬YQ a b∧¬Jq (zU t a) (zU t b)∧¬Jq (zU t b) (zU t a)) from fun h=>h.1 h1)]
 ·by_cases h2:Jq (zU t a) (zU t b)
  ·simp [qd h1,zS h2,qd (show ¬(¬YQ a b∧¬Jq (zU t a) (zU t b)∧¬Jq (zU t b) (zU t a)) from fun h=>h.2.1 h2)]
  ·by_cases h3:Jq (zU t b) (zU t a)
   ·simp [qd h1,qd h2,zS h3,qd (show ¬(¬YQ a b∧¬Jq (zU t a) (zU t b)∧¬Jq (zU t b) (zU t a)) from fun h=>h.2.2 h3)]
   ·simp [qd h1,qd h2,qd h3,zS (show ¬YQ a b∧¬Jq (zU t a) (zU t b)∧¬Jq (zU t b) (zU t a) from ⟨h1,h2,h3⟩)]
def XY (t:qi) (r:List Int):Int:=frm t ((r[0]?).getD 0)
def KQ (t:qi) (r:List Int):Int:=too t ((r[r.length - 1]?).getD 0)
theorem zs2 {t:qi} (ht:jG t) (r:List Int):JK (t,r,())=some (bif tv (qR t r) then (zU t r,0,()) else ([],310,())):=by
 rw [zqb];unfold zdW
 simp only [zhs ht,zz]
 by_cases h:qR t r
 ·simp only [zS h,cond_true,XO ht.ll h.ne h.n1 h.pt,zz];rfl
 ·simp only [qd h,cond_false];rfl
theorem zzY (t:qi) {r:List Int} (h:r≠[]):(zU t r)[0]?=some (XY t r):=by
 cases r with
 |nil=>exact absurd rfl h
 |cons p r=>rfl
theorem zBP (t:qi) {r:List Int} (h:r≠[]):(zU t r)[r.length]?=some (KQ t r):=by
 have hl:0 < r.length:=List.length_pos_iff.2 h
 have hx:r[r.length - 1]?=some (r[r.length - 1]'(by omega)):=List.getElem?_eq_getElem (by omega)
 have:=WC t hx
 rw [show r.length - 1+1=r.length by omega] at this
 rw [this];unfold KQ;rw [hx];rfl
theorem zuP {t:qi} (ht:jG t) (r:List Int):Yv (t,r,())=some (bif tv (qR t r) then (XY t r,KQ t r,0,()) else (0,0,310,())):=by
 rw [zsc];unfold zfY
 simp only [zs2 ht,zz]
 by_cases h:qR t r
 ·have hn:=Zw t h.ne
  have:=h.n1
  simp only [zS h,cond_true]
  rw [show (!zm 0 0)=false from rfl,cond_false]
  rw [show wrF .i64 (((zU t r).length:Int) - 1)=((r.length:Nat):Int) from by rw [zE]<;>omega]
  rw [show (0:Int)=((0:Nat):Int) from rfl,wG (zzY t h.ne),zz,wG (zBP t h.ne),zz]
 ·simp only [qd h,cond_false];rfl
theorem zqY {t:qi} (ht:jG t) (r:List Int) (a b:Int):gS (t,r,a,b,())=some (tv (qR t r∧XY t r=a∧KQ t r=b),()):=by
 rw [zoi];unfold zcx
 simp only [zuP ht,zz]
 by_cases h:qR t r
 ·simp only [zS h,cond_true]
  rw [show zm 0 0=true from rfl,cond_true]
  refine jR (zh (fun h1=>?_) (fun h1=>?_))
  ·exact za ⟨fun h2=>⟨h,qO h1,qO h2⟩,fun h2=>vu h2.2.2⟩
  ·exact za ⟨fun h2=>(by cases h2),fun h2=>absurd h2.2.1 (jx h1)⟩
 ·simp only [qd h,cond_false]
  rw [show zm 310 0=false from rfl,cond_false,qd fun h2=>h h2.1]
abbrev jU:=Int×Int×Int×Int×Int×Int×(Int×Int)×Int×List (List Int)
structure Ze (t:qi) (s:jU):Prop where
 id:1≤s.1∧s.1≤4095
 ta:jb t s.2.1∧stn t s.2.1=true
 li:jb t s.2.2.1∧stn t s.2.2.1=true
 tl:s.2.1≠s.2.2.1
 sz:84≤s.2.2.2.2.1∧s.2.2.2.2.1≤1542
 dl:1≤s.2.2.2.2.2.2.2.1∧s.2.2.2.2.2.2.2.1≤1099511627776
 cl:(s.2.2.2.1=7∧(1≤s.2.2.2.2.2.1∧s.2.2.2.2.2.1≤240)∧s.2.2.2.2.2.2.1=(0,0))∨(s.2.2.2.1=6∧s.2.2.2.2.2.1=0∧(s.2.2.2.2.1≤s.2.2.2.2.2.2.1.1∧s.2.2.2.2.2.2.1.1≤1048576)∧(1≤s.2.2.2.2.2.2.1.2∧s.2.2.2.2.2.2.1.2≤2097152))
 rn:1≤s.2.2.2.2.2.2.2.2.length∧s.2.2.2.2.2.2.2.2.length≤2
 rt:∀r∈s.2.2.2.2.2.2.2.2,qR t r∧XY t r=s.2.1∧KQ t r=s.2.2.1
 ap:∀a b,s.2.2.2.2.2.2.2.2[0]?=some a→s.2.2.2.2.2.2.2.2[1]?=some b→znv t a b
theorem zki {a b c:Int} {R:Int→Int→Int→Option (Bool×Unit)} (hR:R a b c=(bif (!(zj (a) (b))) then some ((!(zj (c) (a))),()) else some (false,()))):R a b c=some (tv (b≤a∧a≤c),()):=by
 rw [hR]
 refine jR (zh (fun h=>?_) (fun h=>?_))<;>refine za ?_<;>simp only [xb] at *<;>grind
theorem Kn (a b c:Int):wh (a,b,c,())=some (tv (b≤a∧a≤c),()):=by
 rw [zk7];exact zki (R:=GB) rfl
theorem zgL (a b c:Int):uk (a,b,c,())=some (tv (b≤a∧a≤c),()):=by
 rw [zv5];exact zki (R:=zjQ) rfl
theorem zi1 (a b c:Int):vW (a,b,c,())=some (tv (b≤a∧a≤c),()):=by
 rw [zhV];exact zki (R:=Vu) rfl
theorem zAq {n:Int} (h : -1000000≤n) (h2:n≤1000000):wrF .i64 (n - 1)=n - 1:=zE (by omega) (by omega)
theorem znw {t:qi} (hs:szP t) (n:Int):gP (t,n,())=some (tv (jb t n∧stn t n=true),()):=by
 have h0:=hs.n0;have h1:=hs.n1
 rw [zlc];unfold GD
 simp only [Kn,zz,zAq (show -1000000≤t.1 by omega) (by omega)]
 refine jR (zh (fun h=>?_) (fun h=>?_))
 ·obtain ⟨h2,h3⟩:=Zl h
  have hn:jb t n:=⟨h2,by omega⟩
  refine zg (qf (a:=stn t n) (by show atI t.2.1 n=_;rw [show n=((n.toNat:Nat):Int) from (by omega),wG (n:=n.toNat)];exact hn.get hs) ?_)
  exact za ⟨fun h=>⟨hn,h⟩,fun h=>h.2⟩
 ·have:=gJ h
  exact za ⟨fun h=>(by cases h),fun h=>absurd ⟨h.1.1,by have:=h.1.2;omega⟩ this⟩
theorem zoK {t:qi} (hs:szP t) (n:Int):ZC (t,n,())=some (tv (jb t n∧stn t n=true),()):=by
 have h0:=hs.n0;have h1:=hs.n1
 rw [zmG];unfold za0
 simp only [zgL,zz,zAq (show -1000000≤t.1 by omega) (by omega)]
 refine jR (zh (fun h=>?_) (fun h=>?_))
 ·obtain ⟨h2,h3⟩:=Zl h
  have hn:jb t n:=⟨h2,by omega⟩
  refine zg (qf (a:=stn t n) (by show atI t.2.1 n=_;rw [show n=((n.toNat:Nat):Int) from (by omega),wG (n:=n.toNat)];exact hn.get hs) ?_)
  exact za ⟨fun h=>⟨hn,h⟩,fun h=>h.2⟩
 ·have:=gJ h
  exact za ⟨fun h=>(by cases h),fun h=>absurd ⟨h.1.1,by have:=h.1.2;omega⟩ this⟩
def ya (b:Int×Int):Prop:=(1≤b.1∧b.1≤1048576)∧(1≤b.2∧b.2≤2097152)
theorem Jd (b:Int×Int):jJ (b,())=some (bif tv (ya b) then 0 else 130,()):=by
 rw [zog];unfold zcw ya
 simp only [zi1,zz]
 by_cases h1:1≤b.1∧b.1≤1048576
 ·by_cases h2:1≤b.2∧b.2≤2097152
  ·simp only [zS h1,zS h2,zS (And.intro h1 h2)];rfl
  ·simp only [zS h1,qd h2,qd (fun h:(1≤b.1∧b.1≤1048576)∧(1≤b.2∧b.2≤2097152)=>h2 h.2)];rfl
 ·simp only [qd h1,qd (fun h:(1≤b.1∧b.1≤1048576)∧(1≤b.2∧b.2≤2097152)=>h1 h.1)];rfl
theorem zC6 (b:Int×Int):((zm b.1 0)&&((zm b.2 0)&&true))=tv (b=(0,0)):=by
 obtain ⟨x,y⟩:=b
 rw [zGs,jw,jw]
 simp only [Bool.and_true]
 rw [Bool.eq_iff_iff]
 simp [Prod.ext_iff]
theorem zph {t:qi} (ht:jG t) {s:jU} {Q:Prop} (hn:1≤s.2.2.2.2.2.2.2.2.length∧s.2.2.2.2.2.2.2.2.length≤2) {B:((Bool×(Int×Unit))×Unit)→Option ((Nat×((Bool×(Int×Unit))×Unit)) ⊕ ((Bool×(Int×Unit))×Unit))}
  {K:(Nat×((Bool×(Int×Unit))×Unit))→Option (Bool×Unit)}
  (hB
    : B=fun s7=>bif (zj (s7.1.2.1) ((((s.2.2.2.2.2.2.2.2).length:Nat):Int))) then opt (atI (s.2.2.2.2.2.2.2.2) (s7.1.2.1)) fun x8=>
    opt (gS ((t,(x8,(s.2.1,(s.2.2.1,())))))) fun x9=>
    bif (!x9.1) then some (.inl (1,((false,(s7.1.2.1,())),())))
    else some (.inr ((s7.1.1,((wrF .i64 ((s7.1.2.1+1))),())),()))
   else some (.inl (0,((s7.1.1,(s7.1.2.1,())),()))))
  (hK :
     ∀x,K x=bif (Nat.beq x.1 0) then bif (zj ((((s.2.2.2.2.2.2.2.2).length:Nat):Int)) (2)) then some (true,())
     else opt (atI (s.2.2.2.2.2.2.2.2) (0)) fun x11=>opt (atI (s.2.2.2.2.2.2.2.2) (1)) fun x12=>opt (gu ((t,(x11,(x12,()))))) fun x13=>
      bif (zm (x13.2.1) (0)) then bif (!x13.1) then some (false,()) else some (true,()) else some (false,())
    else bif (!x.2.1.1) then some (false,())
     else bif (zj ((((s.2.2.2.2.2.2.2.2).length:Nat):Int)) (2)) then some (true,())
      else opt (atI (s.2.2.2.2.2.2.2.2) (0)) fun x14=>opt (atI (s.2.2.2.2.2.2.2.2) (1)) fun x15=>opt (gu ((t,(x14,(x15,()))))) fun x16=>
       bif (zm (x16.2.1) (0)) then bif (!x16.1) then some (false,()) else some (true,()) else some (false,()))
  (hQ:Q↔(∀r∈s.2.2.2.2.2.2.2.2,qR t r∧XY t r=s.2.1∧KQ t r=s.2.2.1)∧∀a b,s.2.2.2.2.2.2.2.2[0]?=some a→s.2.2.2.2.2.2.2.2[1]?=some b→znv t a b) :
  qu (opt (zC B zK ((false,(0,())),())) K) fun r=>(r.1=true↔Q):=by
 subst hB
 obtain ⟨n0,n2⟩:=hn
 refine zk (J:=fun x=>(x.1=0∧∀r∈s.2.2.2.2.2.2.2.2,qR t r∧XY t r=s.2.1∧KQ t r=s.2.2.1)∨(x.1=1∧x.2.1.1=false∧¬Q)) (qB s.2.2.2.2.2.2.2.2.length (fun i=>∀r,s.2.2.2.2.2.2.2.2[i]?=some r→qR t r∧XY t r=s.2.1∧KQ t r=s.2.2.1) (by omega) ?_ ?_) ?_
 ·intro i hi hp
  have hx:s.2.2.2.2.2.2.2.2[i]?=some s.2.2.2.2.2.2.2.2[i]:=List.getElem?_eq_getElem hi
  have hm:=List.getElem_mem hi
  generalize s.2.2.2.2.2.2.2.2[i]=r at hx hm
  refine ze (zQ (show (i:Int) < (s.2.2.2.2.2.2.2.2.length:Int) by omega)) (zg (zx (n:=i) hx ?_))
  rw [zqY ht]
  refine zh (fun h=>?_) (fun h=>?_)
  ·exact za (zq (.inr ⟨rfl,rfl,fun hq=>wY h ((hQ.1 hq).1 r hm)⟩))
  ·exact za (jj (by omega) fun r' hr'=>by rw [hx] at hr';cases hr';exact yQ h)
 ·intro hp
  refine zf (zG (show ¬(s.2.2.2.2.2.2.2.2.length:Int) < (s.2.2.2.2.2.2.2.2.length:Int) by omega)) (za (zq (.inl ⟨rfl,fun r hr=>?_⟩)))
  obtain ⟨k,hk,hk2⟩:=jM hr
  exact hp k hk r hk2
 ·rintro ⟨j,⟨v,w,⟨⟩⟩,⟨⟩⟩ (⟨rfl,hq⟩ | ⟨rfl,rfl,hq⟩)
  ·rw [hK]
   refine ze rfl (zh (fun h=>?_) (fun h=>?_))
   ·have h:=qq h
    have h:s.2.2.2.2.2.2.2.2.length < 2:=by omega
    exact za ⟨fun _=>hQ.2 ⟨hq,fun a b _ hb=>by rw [List.getElem?_eq_none (by omega)] at hb;cases hb⟩,fun _=>rfl⟩
   ·have h:=qA h
    have h:2≤s.2.2.2.2.2.2.2.2.length:=by omega
    have hx0:s.2.2.2.2.2.2.2.2[0]?=some s.2.2.2.2.2.2.2.2[0]:=List.getElem?_eq_getElem (by omega)
    have hx1:s.2.2.2.2.2.2.2.2[1]?=some s.2.2.2.2.2.2.2.2[1]:=List.getElem?_eq_getElem (by omega)
    have r0:=(hq _ (List.getElem_mem (show 0 < s.2.2.2.2.2.2.2.2.length by omega))).1
    have r1:=(hq _ (List.getElem_mem (show 1 < s.2.2.2.2.2.2.2.2.length by omega))).1
    generalize s.2.2.2.2.2.2.2.2[0]=a at hx0 r0
    generalize s.2.2.2.2.2.2.2.2[1]=b at hx1 r1
    refine zg (zx (n:=0) hx0 (zg (zx (n:=1) hx1 ?_)))
    rw [zs1 ht r0 r1]
    refine zh (fun h=>?_) (fun h=>?_)
    ·exact za ⟨fun h=>(by cases h),fun hq2=>absurd ((hQ.1 hq2).2 a b hx0 hx1) (wY h)⟩
    ·exact za ⟨fun _=>hQ.2 ⟨hq,fun a' b' ha hb=>by rw [hx0] at ha;rw [hx1] at hb;cases ha;cases hb;exact yQ h⟩,fun _=>rfl⟩
  ·rw [hK]
   exact zf rfl (ze rfl (za ⟨fun h=>(by cases h),fun h=>absurd h hq⟩))
theorem zqZ {t:qi} (ht:jG t) (s:jU):Qr (t,s,())=some (tv (Ze t s),()):=by
 have no:¬Ze t s→qu (some ((false,()):Bool×Unit)) fun r=>(r.1=true↔Ze t s):=fun h=>za ⟨fun h=>(by cases h),fun h2=>absurd h2 h⟩
 rw [zom];unfold zcA
 simp only [Kn,znw ht.sz,Jd,zz,zC6]
 refine jR (zh (fun h=>no fun hs=>wY h hs.id) fun h1=>zh (fun h2=>zh (fun h3=>zh (fun h=>no fun hs=>?_) fun h4=>zh (fun h=>no fun hs=>wY h hs.sz) fun h5=>zh (fun h=>no fun hs=>wY h hs.dl) fun h6=>?_) fun h=>no fun hs=>gJ h hs.li) fun h=>no fun hs=>gJ h hs.ta)
 ·exact hs.tl (qO (show zm s.2.1 s.2.2.1=true by simpa using h))
 have h1:=yQ h1;have h2:=Zl h2;have h3:=Zl h3;have h5:=yQ h5;have h6:=yQ h6
 have h4:=jx (show zm s.2.1 s.2.2.1=false by simpa using h4)
 refine zh (fun c7=>?_) (fun c7=>zh (fun c6=>?_) (fun c6=>no fun hs=>?_))
 ·have c7:=qO c7
  refine zh (fun h7=>zh (fun h=>no fun hs=>?_) fun h8=>zh (fun h=>no fun hs=>?_) fun h9=>?_) (fun h=>no fun hs=>?_)
  ·rcases hs.cl with ⟨_,_,hb⟩ | ⟨h6',_⟩
   ·exact wY h hb
   ·omega
  ·have:=wY h
   have:=hs.rn
   omega
  ·have h9:=yQ h9
   refine zph ht ⟨by omega,by omega⟩ rfl (fun _=>rfl) ⟨fun hs=>⟨hs.rt,hs.ap⟩,fun hr=>⟨h1,h2,h3,h4,h5,h6,.inl ⟨c7,Zl h7,yQ h8⟩,⟨by omega,by omega⟩,hr.1,hr.2⟩⟩
  ·rcases hs.cl with ⟨_,hb,_⟩ | ⟨h6',_⟩
   ·exact gJ h hb
   ·omega
 ·have c6:=qO c6
  refine zh (fun h7=>zh (fun h8=>zh (fun h=>no fun hs=>?_) fun h9=>zh (fun h=>no fun hs=>?_) fun h10=>?_) (fun h=>no fun hs=>?_)) (fun h=>no fun hs=>?_)
  ·rcases hs.cl with ⟨h7',_⟩ | ⟨_,_,hb,_⟩
   ·omega
   ·have:=qq (show zj s.2.2.2.2.2.2.1.1 s.2.2.2.2.1=true by simpa using h)
    omega
  ·have:=wY h
   have:=hs.rn
   omega
  ·have h10:=yQ h10
   have h7:=qO h7
   have h8:ya s.2.2.2.2.2.2.1:=by
    apply Classical.byContradiction
    intro hb
    rw [qd hb] at h8;cases h8
   have h9:=qA (show zj s.2.2.2.2.2.2.1.1 s.2.2.2.2.1=false by simpa using h9)
   refine zph ht ⟨by omega,by omega⟩ rfl (fun _=>rfl) ⟨fun hs=>⟨hs.rt,hs.ap⟩,fun hr=>⟨h1,h2,h3,h4,h5,h6,.inr ⟨c6,h7,⟨h9,h8.1.2⟩,h8.2⟩,⟨by omega,by omega⟩,hr.1,hr.2⟩⟩
  ·rcases hs.cl with ⟨h7',_⟩ | ⟨_,_,hb,hr⟩
   ·omega
   ·have:=hs.sz
    have hbp:ya s.2.2.2.2.2.2.1:=⟨⟨by omega,hb.2⟩,hr⟩
    rw [zS hbp] at h;cases h
  ·rcases hs.cl with ⟨h7',_⟩ | ⟨_,hp,_⟩
   ·omega
   ·exact jx h hp
 ·rcases hs.cl with ⟨h7,_⟩ | ⟨h6',_⟩
  ·exact jx c7 h7
  ·exact jx c6 h6'
theorem zht {t:qi} (ht:jG t) (s:jU):um (t,s,())=some (tv (Ze t s),()):=by
 have hll:=ht.ll
 rw [zpY];unfold zdK
 simp only [zgL,zoK ht.sz,zz,zC6]
 refine jR (zk (J:=fun x=>(x.1=0∧x.2.1.1=false∧(1≤s.1∧s.1≤4095)∧(jb t s.2.1∧stn t s.2.1=true)∧(jb t s.2.2.1∧stn t s.2.2.1=true)∧s.2.1≠s.2.2.1∧(84≤s.2.2.2.2.1∧s.2.2.2.2.1≤1542)∧(1≤s.2.2.2.2.2.2.2.1∧s.2.2.2.2.2.2.2.1≤1099511627776))∨(x.1=1∧x.2.1.1=false∧¬Ze t s)) ?_ ?_)
 ·refine zh (fun h=>za (.inr ⟨rfl,rfl,fun hs=>wY h hs.id⟩)) fun h1=>zh (fun h=>za (.inr ⟨rfl,rfl,fun hs=>wY h hs.ta⟩)) fun h2=>zh (fun h=>za (.inr ⟨rfl,rfl,fun hs=>wY h hs.li⟩)) fun h3=>zh (fun h=>za (.inr ⟨rfl,rfl,fun hs=>hs.tl (qO h)⟩)) fun h4=>zh (fun h=>za (.inr ⟨rfl,rfl,fun hs=>wY h hs.sz⟩)) fun h5=>zh (fun h=>za (.inr ⟨rfl,rfl,fun hs=>wY h hs.dl⟩)) fun h6=>?_
  exact za (.inl ⟨rfl,rfl,yQ h1,yQ h2,yQ h3,jx h4,yQ h5,yQ h6⟩)
 rintro ⟨j,⟨v,⟨⟩⟩,⟨⟩⟩ (⟨rfl,rfl,h1,h2,h3,h4,h5,h6⟩ | ⟨rfl,rfl,hq⟩)
 rotate_left
 ·exact zf rfl (za ⟨fun h=>(by cases h),fun h=>absurd h hq⟩)
 refine ze rfl (zk (J:=fun x=>(x.1=0∧x.2.1.1=false∧((s.2.2.2.1=7∧(1≤s.2.2.2.2.2.1∧s.2.2.2.2.2.1≤240)∧s.2.2.2.2.2.2.1=(0,0))∨(s.2.2.2.1=6∧s.2.2.2.2.2.1=0∧(s.2.2.2.2.1≤s.2.2.2.2.2.2.1.1∧s.2.2.2.2.2.2.1.1≤1048576)∧(1≤s.2.2.2.2.2.2.1.2∧s.2.2.2.2.2.2.1.2≤2097152))))∨(x.1=1∧x.2.1.1=false∧¬Ze t s)) ?_ ?_)
 ·refine zh (fun c7=>?_) (fun c7=>zh (fun c6=>?_) (fun c6=>za (.inr ⟨rfl,rfl,fun hs=>?_⟩)))
  ·have c7:=qO c7
   refine zk (J:=fun x=>(x.1=0∧x.2.1.1=false∧(1≤s.2.2.2.2.2.1∧s.2.2.2.2.2.1≤240)∧s.2.2.2.2.2.2.1=(0,0))∨(x.1=1∧x.2.1.1=false∧¬Ze t s)) ?_ ?_
   ·refine zh (fun h=>za (.inr ⟨rfl,rfl,fun hs=>?_⟩)) fun h7=>zh (fun h=>za (.inr ⟨rfl,rfl,fun hs=>?_⟩)) fun h8=>za (.inl ⟨rfl,rfl,yQ h7,yQ h8⟩)
    ·rcases hs.cl with ⟨_,hb,_⟩ | ⟨h6',_⟩
     ·exact wY h hb
     ·omega
    ·rcases hs.cl with ⟨_,_,hb⟩ | ⟨h6',_⟩
     ·exact wY h hb
     ·omega
   ·rintro ⟨j,⟨v,⟨⟩⟩,⟨⟩⟩ (⟨rfl,rfl,h7,h8⟩ | ⟨rfl,rfl,hq⟩)
    ·exact ze rfl (za (.inl ⟨rfl,rfl,.inl ⟨c7,h7,h8⟩⟩))
    ·exact zf rfl (za (.inr ⟨rfl,rfl,hq⟩))
  ·have c6:=qO c6
   refine zk (J:=fun x=>(x.1=0∧x.2.1.1=false∧s.2.2.2.2.2.1=0∧(s.2.2.2.2.1≤s.2.2.2.2.2.2.1.1∧s.2.2.2.2.2.2.1.1≤1048576)∧(1≤s.2.2.2.2.2.2.1.2∧s.2.2.2.2.2.2.1.2≤2097152))∨(x.1=1∧x.2.1.1=false∧¬Ze t s)) ?_ ?_
   ·refine zh (fun h=>za (.inr ⟨rfl,rfl,fun hs=>?_⟩)) fun h7=>zh (fun h=>za (.inr ⟨rfl,rfl,fun hs=>?_⟩)) fun h8=>zh (fun h=>za (.inr ⟨rfl,rfl,fun hs=>?_⟩)) fun h9=>za (.inl ⟨rfl,rfl,qO (by simpa using h7),yQ h8,yQ h9⟩)
    ·rcases hs.cl with ⟨h7',_⟩ | ⟨_,hp,_⟩
     ·omega
     ·rw [vu hp] at h;cases h
    ·rcases hs.cl with ⟨h7',_⟩ | ⟨_,_,hb,_⟩
     ·omega
     ·exact wY h hb
    ·rcases hs.cl with ⟨h7',_⟩ | ⟨_,_,_,hb⟩
     ·omega
     ·exact wY h hb
   ·rintro ⟨j,⟨v,⟨⟩⟩,⟨⟩⟩ (⟨rfl,rfl,h7,h8⟩ | ⟨rfl,rfl,hq⟩)
    ·exact ze rfl (za (.inl ⟨rfl,rfl,.inr ⟨c6,h7,h8⟩⟩))
    ·exact zf rfl (za (.inr ⟨rfl,rfl,hq⟩))
  ·rcases hs.cl with ⟨h7,_⟩ | ⟨h6',_⟩
   ·exact jx c7 h7
   ·exact jx c6 h6'
 rintro ⟨j,⟨v,⟨⟩⟩,⟨⟩⟩ (⟨rfl,rfl,hcl⟩ | ⟨rfl,rfl,hq⟩)
 rotate_left
 ·exact zf rfl (za ⟨fun h=>(by cases h),fun h=>absurd h hq⟩)
 refine ze rfl (zk (J:=fun x=>(x.1=0∧x.2.1.1=false∧1≤s.2.2.2.2.2.2.2.2.length∧s.2.2.2.2.2.2.2.2.length≤2)∨(x.1=1∧x.2.1.1=false∧¬Ze t s)) ?_ ?_)
 ·refine zh (fun h=>za (.inr ⟨rfl,rfl,fun hs=>?_⟩)) fun h7=>zh (fun h=>za (.inr ⟨rfl,rfl,fun hs=>?_⟩)) fun h8=>za (.inl ⟨rfl,rfl,?_⟩)
  ·have:=qq h;have:=hs.rn;omega
  ·have:=qq h;have:=hs.rn;omega
  ·have h7:=qA h7;have h8:=qA h8;omega
 rintro ⟨j,⟨v,⟨⟩⟩,⟨⟩⟩ (⟨rfl,rfl,n0,n2⟩ | ⟨rfl,rfl,hq⟩)
 rotate_left
 ·exact zf rfl (za ⟨fun h=>(by cases h),fun h=>absurd h hq⟩)
 refine ze rfl (zk (J:=fun x=>(x.1=0∧∀r∈s.2.2.2.2.2.2.2.2,qR t r∧XY t r=s.2.1∧KQ t r=s.2.2.1)∨(x.1=1∧x.2.1.1=false∧¬Ze t s)) (qB s.2.2.2.2.2.2.2.2.length (fun i=>∀r,s.2.2.2.2.2.2.2.2[i]?=some r→qR t r∧XY t r=s.2.1∧KQ t r=s.2.2.1) (by omega) ?_ ?_) ?_)
 ·intro i hi hp
  have hx:s.2.2.2.2.2.2.2.2[i]?=some s.2.2.2.2.2.2.2.2[i]:=List.getElem?_eq_getElem hi
  have hm:=List.getElem_mem hi
  generalize s.2.2.2.2.2.2.2.2[i]=r at hx hm
  refine ze (zQ (show (i:Int) < (s.2.2.2.2.2.2.2.2.length:Int) by omega)) (zg (zx (n:=i) hx ?_))
  rw [zhq ht]
  refine zk (J:=fun x=>(x.1=0∧x.2.1.1=false∧qR t r∧XY t r=s.2.1∧KQ t r=s.2.2.1)∨(x.1=1∧x.2.1.1=false∧¬Ze t s)) ?_ ?_
  ·refine zh (fun h=>za (.inr ⟨rfl,rfl,fun hs=>wY h (hs.rt r hm).1⟩)) fun h=>?_
   have hr:=yQ h
   have r0:=hr.n0;have r8:=hr.n1
   have hy0:r[0]?=some r[0]:=List.getElem?_eq_getElem (by omega)
   have hy1:r[r.length - 1]?=some (r[r.length - 1]'(by omega)):=List.getElem?_eq_getElem (by omega)
   have e0:XY t r=frm t r[0]:=by unfold XY;rw [hy0];rfl
   have e1:KQ t r=too t (r[r.length - 1]'(by omega)):=by unfold KQ;rw [hy1];rfl
   have p0:=hr.pt _ (List.getElem_mem (show 0 < r.length by omega))
   have p1:=hr.pt _ (List.getElem_mem (show r.length - 1 < r.length by omega))
   generalize r[0]=p at hy0 e0 p0
   generalize (r[r.length - 1]'(by omega))=q at hy1 e1 p1
   refine zg (zx (n:=0) hy0 ?_)
   rw [Qv hll p0,zz]
   refine zh (fun h=>za (.inr ⟨rfl,rfl,fun hs=>?_⟩)) fun h7=>?_
   ·rw [←e0,vu (hs.rt r hm).2.1] at h;cases h
   have h7:=qO (show zm (frm t p) s.2.1=true by simpa using h7)
   rw [show wrF .i64 ((r.length:Int) - 1)=((r.length - 1:Nat):Int) from by rw [zE]<;>omega]
   refine zg (zx (n:=r.length - 1) hy1 ?_)
   rw [Jc hll p1,zz]
   refine zh (fun h=>za (.inr ⟨rfl,rfl,fun hs=>?_⟩)) fun h8=>?_
   ·rw [←e1,vu (hs.rt r hm).2.2] at h;cases h
   have h8:=qO (show zm (too t q) s.2.2.1=true by simpa using h8)
   exact za (.inl ⟨rfl,rfl,hr,by rw [e0,h7],by rw [e1,h8]⟩)
  ·rintro ⟨j,⟨v,⟨⟩⟩,⟨⟩⟩ (⟨rfl,rfl,hq⟩ | ⟨rfl,rfl,hq⟩)
   ·exact ze rfl (za (jj (by omega) fun r' hr'=>by rw [hx] at hr';cases hr';exact hq))
   ·exact zf rfl (za (zq (.inr ⟨rfl,rfl,hq⟩)))
 ·intro hp
  refine zf (zG (show ¬(s.2.2.2.2.2.2.2.2.length:Int) < (s.2.2.2.2.2.2.2.2.length:Int) by omega)) (za (zq (.inl ⟨rfl,fun r hr=>?_⟩)))
  obtain ⟨k,hk,hk2⟩:=jM hr
  exact hp k hk r hk2
 ·rintro ⟨j,⟨v,w,⟨⟩⟩,⟨⟩⟩ (⟨rfl,hrt⟩ | ⟨rfl,rfl,hq⟩)
  rotate_left
  ·exact zf rfl (za ⟨fun h=>(by cases h),fun h=>absurd h hq⟩)
  refine ze rfl (zh (fun h=>?_) (fun h=>?_))
  ·have h:=qO h
   have h:s.2.2.2.2.2.2.2.2.length=1:=by omega
   exact za ⟨fun _=>⟨h1,h2,h3,h4,h5,h6,hcl,⟨n0,n2⟩,hrt,fun a b _ hb=>by rw [List.getElem?_eq_none (by omega)] at hb;cases hb⟩,fun _=>rfl⟩
  ·have h:=jx h
   have h:s.2.2.2.2.2.2.2.2.length=2:=by omega
   have hx0:s.2.2.2.2.2.2.2.2[0]?=some s.2.2.2.2.2.2.2.2[0]:=List.getElem?_eq_getElem (by omega)
   have hx1:s.2.2.2.2.2.2.2.2[1]?=some s.2.2.2.2.2.2.2.2[1]:=List.getElem?_eq_getElem (by omega)
   have r0:=(hrt _ (List.getElem_mem (show 0 < s.2.2.2.2.2.2.2.2.length by omega))).1
   have r1:=(hrt _ (List.getElem_mem (show 1 < s.2.2.2.2.2.2.2.2.length by omega))).1
   generalize s.2.2.2.2.2.2.2.2[0]=a at hx0 r0
   generalize s.2.2.2.2.2.2.2.2[1]=b at hx1 r1
   refine zg (zx (n:=0) hx0 (zg (zx (n:=1) hx1 ?_)))
   rw [zhr ht r0 r1,zz]
   exact za ⟨fun h=>⟨h1,h2,h3,h4,h5,h6,hcl,⟨n0,n2⟩,hrt,fun a' b' ha hb=>by rw [hx0] at ha;rw [hx1] at hb;cases ha;cases hb;exact Zl h⟩,fun hs=>zS (hs.ap a b hx0 hx1)⟩
def znx (t:qi) (l:List jU):Prop:=∀s∈l,Ze t s
def zkj (l:List jU):Prop:=∀(i k:Nat) a b,k < i→l[i]?=some a→l[k]?=some b→b.1≠a.1
noncomputable def Ko (t:qi) (l:List jU):Int:=bif tv (l.length≤12) then bif tv (znx t l) then bif tv (zkj l) then 0 else 322 else 321 else 3
theorem zAr {α:Type} (m:List (Int×α)) (a b:Int) (x z:α):mpD (mpP m a x) b z=if a=b then x else mpD m b z:=by
 induction m with
 |nil=>
  unfold mpP mpD
  rw [jw]
  by_cases h:a=b
  ·rw [if_pos h,h];simp
  ·rw [if_neg h,show (a == b)=false from by simpa using h];rfl
 |cons p m ih=>
  unfold mpP
  rw [jw]
  by_cases h:p.1=a
  ·rw [h];simp only [beq_self_eq_true,cond_true]
   unfold mpD
   rw [jw,jw]
   by_cases h2:a=b
   ·rw [if_pos h2,h2];simp
   ·rw [if_neg h2,h,show (a == b)=false from by simpa using h2];rfl
  ·rw [show (p.1 == a)=false from by simpa using h,cond_false]
   unfold mpD
   rw [ih,jw]
   by_cases h2:p.1=b
   ·rw [h2];simp only [beq_self_eq_true,cond_true]
    rw [if_neg (by rw [h2] at h;exact fun e=>h e.symm)]
   ·rw [show (p.1 == b)=false from by simpa using h2];rfl
theorem zFS {α:Type} (m:List (Int×α)) (a b:Int) (x:α):mpH (mpP m a x) b=(decide (a=b)||mpH m b):=by
 induction m with
 |nil=>
  unfold mpP mpH
  rw [jw]
  by_cases h:a=b
  ·rw [h];simp
  ·rw [show (a == b)=false from by simpa using h];simp [h,mpH]
 |cons p m ih=>
  unfold mpP
  rw [jw]
  by_cases h:p.1=a
  ·rw [h];simp only [beq_self_eq_true,cond_true]
   unfold mpH
   rw [jw,jw]
   by_cases h2:a=b
   ·rw [h2];simp
   ·rw [h,show (a == b)=false from by simpa using h2];simp [h2]
  ·rw [show (p.1 == a)=false from by simpa using h,cond_false]
   unfold mpH
   rw [ih,jw]
   by_cases h2:p.1=b
   ·rw [h2];simp
   ·rw [show (p.1 == b)=false from by simpa using h2];simp
theorem zlz {t:qi} (ht:jG t) (l:List jU):kY (t,l,())=some (Ko t l,()):=by
 rw [zjX];unfold KZ Ko
 simp only [YO,zz,zS ht,cond_true]
 rw [show (!zm 0 0)=false from rfl,cond_false]
 refine wO (zh (fun h=>?_) (fun h=>?_))
 ·have h:=qq h
  rw [qd (show ¬l.length≤12 by omega)];exact za rfl
 have h12:l.length≤12:=by have:=qA h;omega
 rw [zS h12,cond_true]
 refine zk (J:=fun x=>(x.1=0∧x.2.1.1=0∧znx t l)∨(x.1=1∧x.2.1.1=321∧¬znx t l)) (qB l.length (fun i=>∀s,l[i]?=some s→Ze t s) (by omega) ?_ ?_) ?_
 ·intro i hi hp
  have hx:l[i]?=some l[i]:=List.getElem?_eq_getElem hi
  have hm:=List.getElem_mem hi
  generalize l[i]=s at hx hm
  refine ze (zQ (show (i:Int) < (l.length:Int) by omega)) (zg (zx (n:=i) hx ?_))
  rw [zqZ ht]
  refine zh (fun h=>?_) (fun h=>?_)
  ·exact za (zq (.inr ⟨rfl,rfl,fun hq=>wY h (hq s hm)⟩))
  ·exact za (jj (by omega) fun r' hr'=>by rw [hx] at hr';cases hr';exact yQ h)
 ·intro hp
  refine zf (zG (show ¬(l.length:Int) < (l.length:Int) by omega)) (za (zq (.inl ⟨rfl,rfl,fun r hr=>?_⟩)))
  obtain ⟨k,hk,hk2⟩:=jM hr
  exact hp k hk r hk2
 rintro ⟨j,⟨v,w,⟨⟩⟩,⟨⟩⟩ (⟨rfl,rfl,hq⟩ | ⟨rfl,rfl,hq⟩)
 rotate_left
 ·rw [qd hq];exact zf rfl (za rfl)
 rw [zS hq,cond_true]
 refine ze rfl (zk (J:=fun x=>(x.1=0∧zkj l)∨(x.1=1∧x.2.1.1=322∧¬zkj l))
  (zV l.length (fun i s=>(∃m,s=((0,((i:Int),())),(m,()))∧∀z,mpD m z false=true↔∃(k:Nat) (b:jU),k < i∧l[k]?=some b∧b.1=z)∧∀(k' k:Nat) a b,k' < i→k < k'→l[k']?=some a→l[k]?=some b→b.1≠a.1) (by omega) ⟨⟨[],rfl,fun z=>⟨fun h=>(by cases h),fun ⟨k,b,hk,_⟩=>by omega⟩⟩,fun k' k a b hk=>by omega⟩ ?_ ?_) ?_)
 ·rintro i _ hi ⟨⟨m,rfl,hm⟩,hp⟩
  have hx:l[i]?=some l[i]:=List.getElem?_eq_getElem hi
  generalize l[i]=s at hx
  refine ze (zQ (show (i:Int) < (l.length:Int) by omega)) (zg (zx (n:=i) hx ?_))
  refine zh (fun h=>?_) (fun h=>?_)
  ·obtain ⟨k,b,hk,hb,e⟩:=(hm s.1).1 h
   exact za (zq (.inr ⟨rfl,rfl,fun hd=>hd i k s b hk hx hb e⟩))
  ·have hno:¬∃(k:Nat) (b:jU),k < i∧l[k]?=some b∧b.1=s.1:=fun he=>by
    have:=(hm s.1).2 he
    have h':mpD m s.1 false=false:=h
    rw [this] at h';cases h'
   refine za (qj ⟨⟨_,congrArg (fun z=>(((0:Int),(z,())),(_,()))) (qp (by omega)),fun z=>?_⟩,fun k' k a b hk' hk ha hb=>?_⟩)
   ·show mpD (mpP m s.1 true) z false=true↔_
    rw [zAr]
    split
    ·rename_i e
     exact ⟨fun _=>⟨i,s,by omega,hx,e⟩,fun _=>rfl⟩
    ·rename_i e
     rw [hm z]
     constructor
     ·rintro ⟨k,b,h1,h2,h3⟩;exact ⟨k,b,by omega,h2,h3⟩
     ·rintro ⟨k,b,h1,h2,h3⟩
      rcases Nat.lt_or_ge k i with hk | hk
      ·exact ⟨k,b,hk,h2,h3⟩
      ·have:k=i:=by omega
       subst this
       rw [hx] at h2;cases h2
       exact absurd h3 e
   ·rcases Nat.lt_or_ge k' i with hki | hki
    ·exact hp k' k a b hki hk ha hb
    ·have:k'=i:=by omega
     subst this
     rw [hx] at ha;cases ha
     exact fun e=>hno ⟨k,b,hk,hb,e⟩
 ·rintro _ ⟨⟨m,rfl,hm⟩,hp⟩
  exact zf (zG (show ¬(l.length:Int) < (l.length:Int) by omega)) (za (zq (.inl ⟨rfl,fun i k a b hk ha hb=>hp i k a b (by grind) hk ha hb⟩)))
 ·rintro ⟨j,⟨v,w,⟨⟩⟩,c,⟨⟩⟩ (⟨rfl,hd⟩ | ⟨rfl,rfl,hd⟩)
  ·rw [zS hd];exact ze rfl (za rfl)
  ·rw [qd hd];exact zf rfl (za rfl)
theorem zny {t:qi} (ht:jG t) (l:List jU):Zb (t,l,())=some (Ko t l,()):=by
 rw [zln];unfold GK Ko
 simp only [zhp,zz,zS ht,Bool.not_true,cond_false]
 refine wO (zh (fun h=>?_) (fun h=>?_))
 ·have h:=qq h
  rw [qd (show ¬l.length≤12 by omega)];exact za rfl
 have h12:l.length≤12:=by have:=qA h;omega
 rw [zS h12,cond_true]
 refine zk (J:=fun x=>(x.1=0∧x.2.1.1=0∧znx t l)∨(x.1=1∧x.2.1.1=321∧¬znx t l)) (qB l.length (fun i=>∀s,l[i]?=some s→Ze t s) (by omega) ?_ ?_) ?_
 ·intro i hi hp
  have hx:l[i]?=some l[i]:=List.getElem?_eq_getElem hi
  have hm:=List.getElem_mem hi
  generalize l[i]=s at hx hm
  refine ze (zQ (show (i:Int) < (l.length:Int) by omega)) (zg (zx (n:=i) hx ?_))
  rw [zht ht]
  refine zh (fun h=>?_) (fun h=>?_)
  ·exact za (zq (.inr ⟨rfl,rfl,fun hq=>wY h (hq s hm)⟩))
  ·exact za (jj (by omega) fun r' hr'=>by rw [hx] at hr';cases hr';exact yQ h)
 ·intro hp
  refine zf (zG (show ¬(l.length:Int) < (l.length:Int) by omega)) (za (zq (.inl ⟨rfl,rfl,fun r hr=>?_⟩)))
  obtain ⟨k,hk,hk2⟩:=jM hr
  exact hp k hk r hk2
 rintro ⟨j,⟨v,w,⟨⟩⟩,⟨⟩⟩ (⟨rfl,rfl,hq⟩ | ⟨rfl,rfl,hq⟩)
 rotate_left
 ·rw [qd hq];exact zf rfl (za rfl)
 rw [zS hq,cond_true]
 refine ze rfl (zk (J:=fun x=>(x.1=0∧zkj l)∨(x.1=1∧x.2.1.1=322∧¬zkj l)) (qB l.length (fun i=>∀a,l[i]?=some a→∀(k:Nat) b,k < i→l[k]?=some b→b.1≠a.1) (by omega) ?_ ?_) ?_)
 ·intro i hi hp
  have hx:l[i]?=some l[i]:=List.getElem?_eq_getElem hi
  generalize l[i]=s at hx
  refine ze (zQ (show (i:Int) < (l.length:Int) by omega)) ?_
  refine zk (J:=fun x=>(x.1=0∧x.2.1.1=0∧∀(k:Nat) b,k < i→l[k]?=some b→b.1≠s.1)∨(x.1=1∧x.2.1.1=322∧¬zkj l)) (qB i (fun k=>∀b,l[k]?=some b→b.1≠s.1) (by omega) ?_ ?_) ?_
  ·intro k hk hpk
   have hy:l[k]?=some l[k]:=List.getElem?_eq_getElem (by omega)
   generalize l[k]=b at hy
   refine ze (zQ (show (k:Int) < (i:Int) by omega)) (zg (zx (n:=k) hy (zg (zx (n:=i) hx ?_))))
   refine zh (fun h=>?_) (fun h=>?_)
   ·exact za (zq (.inr ⟨rfl,rfl,fun hd=>hd i k s b hk hx hy (qO h)⟩))
   ·exact za (jj (by omega) fun b' hb'=>by rw [hy] at hb';cases hb';exact jx h)
  ·intro hpk
   exact zf (zG (show ¬(i:Int) < (i:Int) by omega)) (za (zq (.inl ⟨rfl,rfl,fun k b hk=>hpk k hk b⟩)))
  ·rintro ⟨j,⟨v,w,⟨⟩⟩,⟨⟩⟩ (⟨rfl,rfl,hk⟩ | ⟨rfl,rfl,hk⟩)
   ·exact ze rfl (za (jj (by omega) fun a ha=>by rw [hx] at ha;cases ha;exact hk))
   ·exact zf rfl (za (zq (.inr ⟨rfl,rfl,hk⟩)))
 ·intro hp
  exact zf (zG (show ¬(l.length:Int) < (l.length:Int) by omega)) (za (zq (.inl ⟨rfl,fun i k a b hk ha hb=>hp i (by grind) a ha k b hk hb⟩)))
 ·rintro ⟨j,⟨v,w,⟨⟩⟩,⟨⟩⟩ (⟨rfl,hd⟩ | ⟨rfl,rfl,hd⟩)
  ·rw [zS hd];exact ze rfl (za rfl)
  ·rw [qd hd];exact zf rfl (za rfl)
def Je (u:Int×Int×Int×Int):Prop:=(1≤u.1∧u.1≤10000)∧(0≤u.2.1∧u.2.1≤1000)∧(0≤u.2.2.1∧u.2.2.1≤10000)∧(1542≤u.2.2.2∧u.2.2.2≤65536)
theorem zs3 (u:Int×Int×Int×Int):JH (u,())=some (tv (Je u),()):=by
 rw [zp6];unfold zdT
 simp only [zgL,zz]
 unfold Je
 refine jR (zh (fun h1=>zh (fun h2=>zh (fun h3=>?_) fun h=>?_) fun h=>?_) fun h=>?_)<;>refine za ?_
 ·exact ⟨fun h=>⟨Zl h1,Zl h2,Zl h3,Zl h⟩,fun h=>zS h.2.2.2⟩
 ·exact ⟨fun h=>(by cases h),fun h2=>absurd h2.2.2.1 (gJ h)⟩
 ·exact ⟨fun h=>(by cases h),fun h2=>absurd h2.2.1 (gJ h)⟩
 ·exact ⟨fun h=>(by cases h),fun h2=>absurd h2.1 (gJ h)⟩
theorem zi2 (u:Int×Int×Int×Int):vS (u,())=some (bif tv (Je u) then 0 else 320,()):=by
 rw [zhP];unfold Vp
 simp only [Kn,zz]
 by_cases h1:1≤u.1∧u.1≤10000
 ·by_cases h2:0≤u.2.1∧u.2.1≤1000
  ·by_cases h3:0≤u.2.2.1∧u.2.2.1≤10000
   ·by_cases h4:1542≤u.2.2.2∧u.2.2.2≤65536
    ·rw [zS h1,zS h2,zS h3,zS h4,zS (show Je u from ⟨h1,h2,h3,h4⟩)];rfl
    ·rw [zS h1,zS h2,zS h3,qd h4,qd (fun h:Je u=>h4 h.2.2.2)];rfl
   ·rw [zS h1,zS h2,qd h3,qd (fun h:Je u=>h3 h.2.2.1)];rfl
  ·rw [zS h1,qd h2,qd (fun h:Je u=>h2 h.2.1)];rfl
 ·rw [qd h1,qd (fun h:Je u=>h1 h.1)];rfl
abbrev Gts:=List (Int×Int)×Int
def zcM (e:Int×Int):Prop:=0≤e.1∧e.1≤255∧1≤e.2∧e.2≤9600000
def qD (l:List (Int×Int)):Int:=(l.map (·.2)).sum
structure qw (g:Gts):Prop where
 n0:1≤g.1.length
 n1:g.1.length≤128
 el:∀e∈g.1,zcM e
 cy:qD g.1=g.2
 c1:g.2≤9600000
theorem ko {l:List (Int×Int)} {n:Nat} {x:Int×Int} (h:l[n]?=some x):qD (l.take (n+1))=qD (l.take n)+x.2:=by
 unfold qD;rw [List.take_add_one,h];simp
theorem Qw {l:List (Int×Int)} (h:∀e∈l,zcM e):(l.length:Int)≤qD l∧qD l≤9600000*l.length:=by
 unfold qD
 induction l with
 |nil=>simp
 |cons a l ih=>
  obtain ⟨_,_,h1,h2⟩:=h a (by simp)
  have:=ih fun e he=>h e (by simp [he])
  simp only [List.map_cons,List.sum_cons,List.length_cons]
  omega
theorem zs4 {g:Gts} (n1:g.1.length≤128) {α:Type} {z bad:α} {B:((α×(Int×(Int×Unit)))×Unit)→Option ((Nat×((α×(Int×(Int×Unit)))×Unit)) ⊕ ((α×(Int×(Int×Unit)))×Unit))}
  (hB
    : B=fun s1=>bif (zj (s1.1.2.2.1) ((((g.1).length:Nat):Int))) then opt (atI (g.1) (s1.1.2.2.1)) fun x2=>
    opt (bif (zj (x2.1) (0)) then some (1,((bad,()),()))
     else bif (zj (255) (x2.1)) then some (1,((bad,()),()))
      else bif (zj (x2.2) (1)) then some (1,((bad,()),()))
       else bif (zj (9600000) (x2.2)) then some (1,((bad,()),()))
        else some (0,((s1.1.1,()),()))) fun x3=>
    bif (Nat.beq x3.1 0) then some (.inr ((x3.2.1.1,((wrF .i64 ((s1.1.2.1+x2.2))),((wrF .i64 ((s1.1.2.2.1+1))),()))),()))
    else some (.inl (1,((x3.2.1.1,(s1.1.2.1,(s1.1.2.2.1,()))),())))
   else some (.inl (0,((s1.1.1,(s1.1.2.1,(s1.1.2.2.1,()))),())))) :
  qu (zC B zK ((z,(0,(0,()))),())) fun x=>(x.1=0∧x.2.1.1=z∧x.2.1.2.1=qD g.1∧∀e∈g.1,zcM e)∨(x.1=1∧x.2.1.1=bad∧¬∀e∈g.1,zcM e):=by
 subst hB
 refine zV g.1.length (fun i s=>s=((z,(qD (g.1.take i),((i:Int),()))),())∧∀e∈g.1.take i,zcM e) (by omega) ⟨rfl,fun e he=>by simp at he⟩ ?_ ?_
 ·rintro i _ hi ⟨rfl,hp⟩
  have hx:g.1[i]?=some g.1[i]:=List.getElem?_eq_getElem hi
  have hm:=List.getElem_mem hi
  generalize g.1[i]=e at hx hm
  refine ze (zQ (show (i:Int) < (g.1.length:Int) by omega)) (zg (zx (n:=i) hx ?_))
  refine zk (J:=fun x=>(x.1=0∧x.2.1.1=z∧zcM e)∨(x.1=1∧x.2.1.1=bad∧¬zcM e)) ?_ ?_
  ·refine zh (fun h=>za (.inr ⟨rfl,rfl,fun hs=>?_⟩)) fun h1=>zh (fun h=>za (.inr ⟨rfl,rfl,fun hs=>?_⟩)) fun h2=>zh (fun h=>za (.inr ⟨rfl,rfl,fun hs=>?_⟩)) fun h3=>zh (fun h=>za (.inr ⟨rfl,rfl,fun hs=>?_⟩)) fun h4=>za (.inl ⟨rfl,rfl,?_⟩)
   ·have:=qq h;have:=hs.1;omega
   ·have:=qq h;have:=hs.2.1;omega
   ·have:=qq h;have:=hs.2.2.1;omega
   ·have:=qq h;have:=hs.2.2.2;omega
   ·exact ⟨qA h1,qA h2,qA h3,qA h4⟩
  ·rintro ⟨j,⟨v,⟨⟩⟩,⟨⟩⟩ (⟨rfl,rfl,he⟩ | ⟨rfl,rfl,he⟩)
   ·have hb:=Qw hp
    have hl:(g.1.take i).length=i:=by simp;omega
    have e1:wrF .i64 (qD (g.1.take i)+e.2)=qD (g.1.take (i+1)):=by
     rw [ko hx,zE]<;>(have:=he.2.2.1;have:=he.2.2.2;omega)
    refine ze rfl (za (qj ⟨?_,fun e' he'=>?_⟩))
    ·rw [←e1,←qp (by omega)]
    ·rw [List.take_add_one,hx] at he'
     simp only [Option.toList,List.mem_append,List.mem_singleton] at he'
     rcases he' with h | rfl
     ·exact hp e' h
     ·exact he
   ·exact zf rfl (za (zq (.inr ⟨rfl,rfl,fun h=>he (h e hm)⟩)))
 ·rintro _ ⟨rfl,hp⟩
  refine zf (zG (show ¬(g.1.length:Int) < (g.1.length:Int) by omega)) (za (zq (.inl ⟨rfl,rfl,?_,?_⟩)))
  ·show qD (g.1.take g.1.length)=_
   rw [List.take_length]
  ·rw [List.take_length] at hp;exact hp
theorem zbK (g:Gts):yM (g,())=some (bif tv (qw g) then 0 else 370,()):=by
 have bad:∀{v:Int},¬qw g→v=370→v=bif tv (qw g) then 0 else 370:=fun h e=>by rw [qd h,e];rfl
 rw [zp1];unfold zdM
 refine wO (zk (J:=fun x=>(x.1=0∧x.2.1.1=0∧1≤g.1.length∧g.1.length≤128)∨(x.1=1∧x.2.1.1=370∧¬qw g)) ?_ ?_)
 ·refine zh (fun h=>za (.inr ⟨rfl,rfl,fun hs=>?_⟩)) fun h1=>zh (fun h=>za (.inr ⟨rfl,rfl,fun hs=>?_⟩)) fun h2=>za (.inl ⟨rfl,rfl,?_⟩)
  ·have:=qq h;have:=hs.n0;omega
  ·have:=qq h;have:=hs.n1;omega
  ·have:=qA h1;have:=qA h2;omega
 rintro ⟨j,⟨v,⟨⟩⟩,⟨⟩⟩ (⟨rfl,rfl,n0,n1⟩ | ⟨rfl,rfl,hq⟩)
 rotate_left
 ·exact zf rfl (za (bad hq rfl))
 refine ze rfl (zk (zs4 n1 rfl) ?_)
 rintro ⟨j,⟨v,w,z,⟨⟩⟩,⟨⟩⟩ (⟨rfl,rfl,rfl,he⟩ | ⟨rfl,rfl,he⟩)
 rotate_left
 ·exact zf rfl (za (bad (fun h=>he h.el) rfl))
 refine ze rfl (zk (J:=fun x=>(x.1=0∧qw g)∨(x.1=1∧x.2.1.1=370∧¬qw g)) ?_ ?_)
 ·refine zh (fun h=>za (.inr ⟨rfl,rfl,fun hs=>?_⟩)) fun h1=>zh (fun h=>za (.inr ⟨rfl,rfl,fun hs=>?_⟩)) fun h2=>za (.inl ⟨rfl,n0,n1,he,qO (by simpa using h1),?_⟩)
  ·rw [vu hs.cy] at h;cases h
  ·have:=qq h;have:=hs.c1;have:=hs.cy;simp only at *;omega
  ·have:=qA h2
   have:qD g.1=g.2:=qO (by simpa using h1)
   simp only at *;omega
 ·rintro ⟨j,⟨v,⟨⟩⟩,⟨⟩⟩ (⟨rfl,hq⟩ | ⟨rfl,rfl,hq⟩)
  ·rw [zS hq];exact ze rfl (za rfl)
  ·exact zf rfl (za (bad hq rfl))
theorem zhu (g:Gts):ur (g,())=some (tv (qw g),()):=by
 rw [zp7];unfold zdU
 refine jR (zk (J:=fun x=>(x.1=0∧x.2.1.1=false∧1≤g.1.length∧g.1.length≤128)∨(x.1=1∧x.2.1.1=false∧¬qw g)) ?_ ?_)
 ·refine zh (fun h=>za (.inr ⟨rfl,rfl,fun hs=>?_⟩)) fun h1=>zh (fun h=>za (.inr ⟨rfl,rfl,fun hs=>?_⟩)) fun h2=>za (.inl ⟨rfl,rfl,?_⟩)
  ·have:=qq h;have:=hs.n0;omega
  ·have:=qq h;have:=hs.n1;omega
  ·have:=qA h1;have:=qA h2;omega
 rintro ⟨j,⟨v,⟨⟩⟩,⟨⟩⟩ (⟨rfl,rfl,n0,n1⟩ | ⟨rfl,rfl,hq⟩)
 rotate_left
 ·exact zf rfl (za ⟨fun h=>(by cases h),fun h=>absurd h hq⟩)
 refine ze rfl (zk (zs4 n1 rfl) ?_)
 rintro ⟨j,⟨v,w,z,⟨⟩⟩,⟨⟩⟩ (⟨rfl,rfl,rfl,he⟩ | ⟨rfl,rfl,he⟩)
 rotate_left
 ·exact zf rfl (za ⟨fun h=>(by cases h),fun h=>absurd h.el he⟩)
 refine ze rfl (zh (fun h1=>?_) (fun h1=>?_))
 ·have h1:qD g.1=g.2:=qO h1
  refine za ⟨fun h2=>⟨n0,n1,he,h1,?_⟩,fun hs=>?_⟩
  ·have h2:(!zj 9600000 (qD g.1))=true:=h2
   have:=qA (show zj 9600000 (qD g.1)=false by simpa using h2)
   omega
  ·show (!zj 9600000 (qD g.1))=true
   rw [zG (by have:=hs.c1;omega)];rfl
 ·exact za ⟨fun h=>(by cases h),fun h=>absurd h.cy (jx h1)⟩
abbrev Fab:=qi×(Int×Int×Int×Int)×List Gts×Int
def zkk (n:Fab):Prop:=∀g∈n.2.2.1,qw g
def znz (n:Fab):Prop:=(n.2.2.1.length:Int)=2*(n.1.2.2.length:Int)∧84≤n.2.2.2∧n.2.2.2≤1542
noncomputable def Uh (n:Fab):Int:=bif tv (jG n.1) then bif tv (Je n.2.1) then bif tv (zkk n) then bif tv (znz n) then 0 else 410 else 370 else 320 else 260
structure zq0 (n:Fab):Prop where
 t:jG n.1
 u:Je n.2.1
 g:zkk n
 f:znz n
theorem zzc {n:Fab} (h:Uh n=0):zq0 n:=by
 unfold Uh at h
 by_cases h1:jG n.1
 ·by_cases h2:Je n.2.1
  ·by_cases h3:zkk n
   ·by_cases h4:znz n
    ·exact ⟨h1,h2,h3,h4⟩
    ·rw [zS h1,zS h2,zS h3,qd h4] at h;cases h
   ·rw [zS h1,zS h2,qd h3] at h;cases h
  ·rw [zS h1,qd h2] at h;cases h
 ·rw [qd h1] at h;cases h
theorem zs5 {n:Fab} (hl:n.1.2.2.length≤24):qu (bif (!(zm ((((n.2.2.1).length:Nat):Int)) ((wrF .i64 ((2*(((n.1.2.2).length:Nat):Int))))))) then some ((1:Nat),(((410:Int),()),()))
     else bif (zj (n.2.2.2) (84)) then some (1,((410,()),()))
      else bif (zj (1542) (n.2.2.2)) then some (1,((410,()),()))
       else some (0,((0,()),()))) fun x=>(x.1=0∧x.2.1.1=0∧znz n)∨(x.1=1∧x.2.1.1=410∧¬znz n):=by
 rw [tw n.1 (by omega)]
 refine zh (fun h=>za (.inr ⟨rfl,rfl,fun hs=>?_⟩)) fun h1=>zh (fun h=>za (.inr ⟨rfl,rfl,fun hs=>?_⟩)) fun h2=>zh (fun h=>za (.inr ⟨rfl,rfl,fun hs=>?_⟩)) fun h3=>za (.inl ⟨rfl,rfl,?_⟩)
 ·rw [vu hs.1] at h;cases h
 ·have:=qq h;have:=hs.2.1;omega
 ·have:=qq h;have:=hs.2.2;omega
 ·exact ⟨qO (by simpa using h1),qA h2,qA h3⟩
theorem zi3 {n:Fab} (hn:n.2.2.1.length≤1000000000000000000):vT (n,())=some (Uh n,()):=by
 rw [zhR];unfold Vq Uh
 simp only [YO,zz]
 by_cases ht:jG n.1
 rotate_left
 ·rw [qd ht];rfl
 rw [zS ht]
 simp only [cond_true,zi2,zz]
 rw [show (!zm 0 0)=false from rfl,cond_false]
 by_cases hu:Je n.2.1
 rotate_left
 ·rw [qd hu];rfl
 rw [zS hu]
 simp only [cond_true]
 rw [show (!zm 0 0)=false from rfl,cond_false]
 refine wO (zk (J:=fun x=>(x.1=0∧x.2.1.1=0∧zkk n)∨(x.1=1∧x.2.1.1=370∧¬zkk n)) (qB n.2.2.1.length (fun i=>∀g,n.2.2.1[i]?=some g→qw g) hn ?_ ?_) ?_)
 ·intro i hi hp
  have hx:n.2.2.1[i]?=some n.2.2.1[i]:=List.getElem?_eq_getElem hi
  have hm:=List.getElem_mem hi
  generalize n.2.2.1[i]=g at hx hm
  refine ze (zQ (show (i:Int) < (n.2.2.1.length:Int) by omega)) (zg (zx (n:=i) hx ?_))
  rw [zbK,zz]
  by_cases hg:qw g
  ·rw [zS hg]
   exact zf rfl (za (jj (by omega) fun r' hr'=>by rw [hx] at hr';cases hr';exact hg))
  ·rw [qd hg]
   exact ze rfl (za (zq (.inr ⟨rfl,rfl,fun hq=>hg (hq g hm)⟩)))
 ·intro hp
  refine zf (zG (show ¬(n.2.2.1.length:Int) < (n.2.2.1.length:Int) by omega)) (za (zq (.inl ⟨rfl,rfl,fun r hr=>?_⟩)))
  obtain ⟨k,hk,hk2⟩:=jM hr
  exact hp k hk r hk2
 ·rintro ⟨j,⟨v,w,⟨⟩⟩,⟨⟩⟩ (⟨rfl,rfl,hq⟩ | ⟨rfl,rfl,hq⟩)
  ·rw [zS hq]
   refine ze rfl (zk (zs5 ht.sz.ls) ?_)
   rintro ⟨j,⟨v,⟨⟩⟩,⟨⟩⟩ (⟨rfl,rfl,hf⟩ | ⟨rfl,rfl,hf⟩)
   ·rw [zS hf];exact ze rfl (za rfl)
   ·rw [qd hf];exact zf rfl (za rfl)
  ·rw [qd hq];exact zf rfl (za rfl)
theorem zi4 {n:Fab} (hn:n.2.2.1.length≤1000000000000000000):vU (n,())=some (Uh n,()):=by
 rw [zhT];unfold Vt Uh
 simp only [zhp,zz]
 by_cases ht:jG n.1
 rotate_left
 ·rw [qd ht];rfl
 rw [zS ht]
 simp only [Bool.not_true,cond_false,cond_true,zs3,zz]
 by_cases hu:Je n.2.1
 rotate_left
 ·rw [qd hu];rfl
 rw [zS hu]
 simp only [Bool.not_true,cond_false,cond_true]
 refine wO (zk (J:=fun x=>(x.1=0∧x.2.1.1=0∧zkk n)∨(x.1=1∧x.2.1.1=370∧¬zkk n)) (qB n.2.2.1.length (fun i=>∀g,n.2.2.1[i]?=some g→qw g) hn ?_ ?_) ?_)
 ·intro i hi hp
  have hx:n.2.2.1[i]?=some n.2.2.1[i]:=List.getElem?_eq_getElem hi
  have hm:=List.getElem_mem hi
  generalize n.2.2.1[i]=g at hx hm
  refine ze (zQ (show (i:Int) < (n.2.2.1.length:Int) by omega)) (zg (zx (n:=i) hx ?_))
  rw [zhu,zz]
  by_cases hg:qw g
  ·rw [zS hg]
   exact zf rfl (za (jj (by omega) fun r' hr'=>by rw [hx] at hr';cases hr';exact hg))
  ·rw [qd hg]
   exact ze rfl (za (zq (.inr ⟨rfl,rfl,fun hq=>hg (hq g hm)⟩)))
 ·intro hp
  refine zf (zG (show ¬(n.2.2.1.length:Int) < (n.2.2.1.length:Int) by omega)) (za (zq (.inl ⟨rfl,rfl,fun r hr=>?_⟩)))
  obtain ⟨k,hk,hk2⟩:=jM hr
  exact hp k hk r hk2
 ·rintro ⟨j,⟨v,w,⟨⟩⟩,⟨⟩⟩ (⟨rfl,rfl,hq⟩ | ⟨rfl,rfl,hq⟩)
  ·rw [zS hq]
   refine ze rfl (zk (zs5 ht.sz.ls) ?_)
   rintro ⟨j,⟨v,⟨⟩⟩,⟨⟩⟩ (⟨rfl,rfl,hf⟩ | ⟨rfl,rfl,hf⟩)
   ·rw [zS hf];exact ze rfl (za rfl)
   ·rw [qd hf];exact zf rfl (za rfl)
  ·rw [qd hq];exact zf rfl (za rfl)
def opn (m:Int):Bool:=m / 64 % 2 == 1
theorem zGu {m:Int}:jX .i64 m 6=m / 64:=by
 show m.fdiv (2 ^ (min (6:Int).toNat 64))=m / 64
 rw [show (2:Int) ^ (min (6:Int).toNat 64)=64 from rfl]
 exact Int.fdiv_eq_ediv_of_nonneg m (by omega)
theorem xa {e:Int×Int} (h:zcM e):xh (e,())=some (opn e.1,()):=by
 rw [zbZ];unfold XC opn
 rw [zGu]
 have h0:=h.1;have h1:=h.2.1
 have:e.1 / 64=0∨e.1 / 64=1∨e.1 / 64=2∨e.1 / 64=3:=by omega
 rcases this with h | h | h | h<;>rw [h]<;>rfl
theorem Gn {m:Int} (h:0≤m):vo (m,6,())=some (opn m,()):=by
 rw [zup];unfold zhZ opn
 rw [show wrF .u64 6=6 from rfl,zGu]
 refine wO (zf rfl (za ?_))
 show zm (Int.tmod (m / 64) 2) 1=_
 rw [jw,Int.tmod_eq_emod_of_nonneg (by omega)]
def opA:List (Int×Int)→Int→Bool
 |[],_=>false
 |e::l,r=>if r < e.2 then opn e.1 else opA l (r - e.2)
def opT (g:Gts) (t:Int):Bool:=opA g.1 (t % g.2)
theorem zzd:∀(l:List (Int×Int)),(∀e∈l,zcM e)→∀(i:Nat) (e:Int×Int) (r:Int),l[i]?=some e→qD (l.take i)≤r→r < qD (l.take i)+e.2→opA l r=opn e.1
 |[],_,i,e,r,h,_,_=>by simp at h
 |a::l,hl,0,e,r,h,h1,h2=>by
  simp at h;subst h
  simp [qD] at h1 h2
  unfold opA;rw [if_pos h2]
 |a::l,hl,i+1,e,r,h,h1,h2=>by
  have h':l[i]?=some e:=by simpa using h
  have hh:=Qw (l:=l.take i) fun e he=>hl e (by simp [List.mem_of_mem_take he])
  have ea:qD ((a::l).take (i+1))=a.2+qD (l.take i):=by simp [qD]
  rw [ea] at h1 h2
  unfold opA
  rw [if_neg (by omega)]
  exact zzd l (fun e he=>hl e (by simp [he])) i e (r - a.2) h' (by omega) (by omega)
theorem zAs (g:Gts) (t:Int):opT g (t+g.2)=opT g t:=by unfold opT;rw [Int.add_emod_right]
theorem Kp {l:List (Int×Int)} (h:∀e∈l,zcM e) {i k:Nat} (hk:i≤k):qD (l.take i)≤qD (l.take k):=by
 obtain ⟨d,rfl⟩:∃d,k=i+d:=⟨k - i,by omega⟩
 induction d with
 |zero=>exact Int.le_refl _
 |succ d ih=>
  have:=ih (by omega)
  rcases Nat.lt_or_ge (i+d) l.length with h2 | h2
  ·have hx:l[i+d]?=some l[i+d]:=List.getElem?_eq_getElem h2
   have:=ko hx
   have:=(h _ (List.getElem_mem h2)).2.2.1
   rw [show i+(d+1)=i+d+1 from rfl];omega
  ·rw [List.take_of_length_le (by omega:l.length≤i+(d+1)),←List.take_of_length_le (l:=l) (by omega:l.length≤i+d)]
   rw [List.take_of_length_le (l:=l) (by omega:l.length≤i+d)] at this ⊢
   exact this
theorem Kq (l:List (Int×Int)):qD (l.take l.length)=qD l:=by rw [List.take_length]
theorem qw.pos {g:Gts} (h:qw g):1≤g.2:=by
 have:=(Qw h.el).1;have:=h.cy;have:=h.n0;omega
def tAt (g:Gts) (k:Nat):Int:=((k / g.1.length:Nat):Int)*g.2+qD (g.1.take (k % g.1.length))
theorem zze {g:Gts} {k:Nat} (h:k < g.1.length):tAt g k=qD (g.1.take k):=by
 unfold tAt;rw [Nat.div_eq_of_lt h,Nat.mod_eq_of_lt h];simp
theorem zAt {g:Gts} (hg:qw g) (k:Nat):tAt g (k+g.1.length)=tAt g k+g.2:=by
 have:=hg.n0
 unfold tAt
 rw [Nat.add_div_right _ (by omega),Nat.add_mod_right,Int.natCast_succ,Int.add_mul];omega
theorem zgM {g:Gts} (hg:qw g) {k:Nat} {e:Int×Int} (h:g.1[k % g.1.length]?=some e):tAt g (k+1)=tAt g k+e.2:=by
 have h0:=hg.n0
 have hm:k % g.1.length < g.1.length:=Nat.mod_lt _ (by omega)
 have hk:=Nat.div_add_mod k g.1.length
 have hs:=ko h
 unfold tAt
 rcases Nat.lt_or_ge (k % g.1.length+1) g.1.length with h1 | h1
 ·have e1:(k+1) % g.1.length=k % g.1.length+1:=by
   rw [Nat.add_mod,Nat.mod_eq_of_lt (show 1 < g.1.length by omega),Nat.mod_eq_of_lt h1]
  have e2:(k+1) / g.1.length=k / g.1.length:=by
   have a:=Nat.div_add_mod (k+1) g.1.length
   rw [e1] at a
   have b:g.1.length*((k+1) / g.1.length)=g.1.length*(k / g.1.length):=by omega
   exact Nat.eq_of_mul_eq_mul_left (by omega) b
  rw [e1,e2,hs];omega
 ·have h2:k % g.1.length+1=g.1.length:=by omega
  have e3:k+1=(k / g.1.length+1)*g.1.length:=by
   rw [Nat.add_mul,Nat.mul_comm];omega
  have e1:(k+1) % g.1.length=0:=by rw [e3];exact Nat.mul_mod_left _ _
  have e2:(k+1) / g.1.length=k / g.1.length+1:=by rw [e3];exact Nat.mul_div_left _ (by omega)
  rw [h2,Kq,hg.cy] at hs
  rw [e1,e2,Int.natCast_succ,Int.add_mul]
  simp only [List.take_zero]
  have:qD []=0:=rfl
  omega
theorem zzf {g:Gts} (hg:qw g) {k:Nat} {e:Int×Int} (h:g.1[k % g.1.length]?=some e) {t:Int} (h1:tAt g k≤t) (h2:t < tAt g k+e.2):opT g t=opn e.1:=by
 have h0:=hg.n0
 have hm:k % g.1.length < g.1.length:=Nat.mod_lt _ (by omega)
 have hs:=ko h
 have hb:=Qw (l:=g.1.take (k % g.1.length)) fun e he=>hg.el e (List.mem_of_mem_take he)
 have hle:=Kp hg.el (show k % g.1.length+1≤g.1.length by omega)
 rw [Kq,hg.cy] at hle
 unfold tAt at h1 h2
 have hr:t % g.2=t - ((k / g.1.length:Nat):Int)*g.2:=by
  have:t=(t - ((k / g.1.length:Nat):Int)*g.2)+((k / g.1.length:Nat):Int)*g.2:=by omega
  rw [this,Int.add_mul_emod_self_right,Int.emod_eq_of_lt (by omega) (by omega)];omega
 unfold opT
 exact zzd g.1 hg.el (k % g.1.length) e _ h (by omega) (by omega)
theorem zFT {g:Gts} (hg:qw g) (t:Int):∃(i:Nat) (e:Int×Int),g.1[i]?=some e∧qD (g.1.take i)≤t % g.2∧t % g.2 < qD (g.1.take i)+e.2:=by
 have hp:=hg.pos
 have h1:=Int.emod_nonneg t (show g.2≠0 by omega)
 have h2:=Int.emod_lt_of_pos t (show 0 < g.2 by omega)
 have key:∀(n:Nat),n≤g.1.length→t % g.2 < qD (g.1.take n)→∃(i:Nat) (e:Int×Int),g.1[i]?=some e∧qD (g.1.take i)≤t % g.2∧t % g.2 < qD (g.1.take i)+e.2:=by
  intro n
  induction n with
  |zero=>intro _ h;simp [qD] at h;omega
  |succ n ih=>
   intro hn h
   have hx:g.1[n]?=some g.1[n]:=List.getElem?_eq_getElem (by omega)
   rw [ko hx] at h
   rcases Int.lt_or_le (t % g.2) (qD (g.1.take n)) with h3 | h3
   ·exact ih (by omega) h3
   ·exact ⟨n,_,hx,h3,h⟩
 exact key g.1.length (Nat.le_refl _) (by rw [Kq,hg.cy];exact h2)
def YR (l:List (Int×Int)):Prop:=∀e∈l,opn e.1=true
theorem Jf {g:Gts} (hg:qw g):yf (g,())=some (tv (YR g.1),()):=by
 have h1:=hg.n1
 rw [zoA];unfold zcH
 refine jR (zk (J:=fun x=>(x.1=0∧YR g.1)∨(x.1=1∧x.2.1.1=false∧¬YR g.1)) (qB g.1.length (fun i=>∀e,g.1[i]?=some e→opn e.1=true) (by omega) ?_ ?_) ?_)
 ·intro i hi hp
  have hx:g.1[i]?=some g.1[i]:=List.getElem?_eq_getElem hi
  have hm:=List.getElem_mem hi
  generalize g.1[i]=e at hx hm
  refine ze (zQ (show (i:Int) < (g.1.length:Int) by omega)) (zg (zx (n:=i) hx ?_))
  rw [Gn (hg.el e hm).1]
  refine zh (fun h=>?_) (fun h=>?_)
  ·have h':(!opn e.1)=true:=h
   refine za (zq (.inr ⟨rfl,rfl,fun hq=>?_⟩))
   rw [hq e hm] at h';cases h'
  ·have h':(!opn e.1)=false:=h
   exact za (jj (by omega) fun r' hr'=>by rw [hx] at hr';cases hr';simpa using h')
 ·intro hp
  refine zf (zG (show ¬(g.1.length:Int) < (g.1.length:Int) by omega)) (za (zq (.inl ⟨rfl,fun r hr=>?_⟩)))
  obtain ⟨k,hk,hk2⟩:=jM hr
  exact hp k hk r hk2
 ·rintro ⟨j,⟨v,w,⟨⟩⟩,⟨⟩⟩ (⟨rfl,hq⟩ | ⟨rfl,rfl,hq⟩)
  ·exact ze rfl (za ⟨fun _=>hq,fun _=>rfl⟩)
  ·exact zf rfl (za ⟨fun h=>(by cases h),fun h=>absurd h hq⟩)
theorem zGJ {e:Int×Int} (h:zcM e):zm (ky .and .i64 (jX .i64 e.1 6) 1) 1=opn e.1:=by
 have:=xa h
 rw [zbZ] at this
 unfold XC at this
 exact congrArg (·.1) (Option.some.inj this)
theorem zuQ {g:Gts} (hg:qw g) {e:Int×Int} (h:g.1[0]?=some e):Yy (g,0,())=some (0,e.2,()):=by
 have hp:=hg.pos;have hc:=hg.c1
 have he:=hg.el e (List.mem_of_getElem? h)
 have h2:=he.2.2.1;have h3:=he.2.2.2
 rw [zsk];unfold zf0
 rw [qU (show g.2≠0 by omega),cond_false,cond_false,show atI g.1 0=some e from wG (n:=0) h]
 simp only [zz]
 rw [show Int.tmod 0 g.2=0 from Int.zero_tmod _,show wrF .i64 (0+g.2)=g.2 from by rw [zE]<;>omega,show Int.tmod g.2 g.2=0 from Int.tmod_self]
 rw [zQ (show (0:Int) < e.2 by omega),show wrF .i64 (e.2 - 0)=e.2 from by rw [zE]<;>omega]
 rfl
theorem zuR {g:Gts} (hg:qw g):qu (Yz (g,6,0,())) fun r=>(r.1=1099511627776∧YR g.1)∨(r.1 < 1099511627776∧¬YR g.1):=by
 have h0:=hg.n0;have h1:=hg.n1;have hp:=hg.pos;have hc:=hg.c1
 have hx0:g.1[0]?=some g.1[0]:=List.getElem?_eq_getElem (by omega)
 generalize g.1[0]=e0 at hx0
 rw [zsm];unfold zf1
 rw [zuQ hg hx0,zz]
 have ew:wrF .i64 ((g.1.length:Int)+1)=(g.1.length:Int)+1:=zE (by omega) (by omega)
 rw [ew]
 refine zk (J:=fun x=>(x.1=0∧x.2.1.2.1=g∧YR g.1)∨(x.1=1∧x.2.1.2.2.1 < g.2∧¬YR g.1))
  (zV (g.1.length+1) (fun i s=>∃e,g.1[i % g.1.length]?=some e∧s=((6,(g,(0,(tAt g i,(((i % g.1.length:Nat):Int),(e.2,((i:Int),()))))))),())∧∀(k:Nat),k < i→∀e',g.1[k % g.1.length]?=some e'→opn e'.1=true) (by omega)
   ⟨e0,by rw [Nat.zero_mod];exact hx0,by rw [zze (by omega),Nat.zero_mod];rfl,fun k hk=>by omega⟩ ?_ ?_) ?_
 ·rintro i _ hi ⟨e,he,rfl,hp'⟩
  have hm:i % g.1.length < g.1.length:=Nat.mod_lt _ (by omega)
  have hen:=hg.el e (List.mem_of_getElem? he)
  have hts:=zgM hg he
  have htb:0≤tAt g i∧tAt g i≤2*9600000:=by
   unfold tAt
   have hb:=Qw (l:=g.1.take (i % g.1.length)) fun e he=>hg.el e (List.mem_of_mem_take he)
   have hle:=Kp hg.el (show i % g.1.length≤g.1.length by omega)
   rw [Kq,hg.cy] at hle
   have hd:i / g.1.length≤1:=by
    have:i / g.1.length < 2:=Nat.div_lt_of_lt_mul (by omega)
    omega
   have:((i / g.1.length:Nat):Int)*g.2≤1*g.2:=Int.mul_le_mul_of_nonneg_right (by omega) (by omega)
   have:0≤((i / g.1.length:Nat):Int)*g.2:=Int.mul_nonneg (Int.natCast_nonneg _) (by omega)
   omega
  refine ze (zQ (show (i:Int) < (g.1.length:Int)+1 by omega)) (zg (zx (n:=i % g.1.length) he ?_))
  refine zf rfl ?_
  have hb:=zGJ hen
  refine zh (fun h=>?_) (fun h=>?_)
  ·have h':(!zm (ky .and .i64 (jX .i64 e.1 6) 1) 1)=true:=h
   rw [hb] at h'
   refine za (zq (.inr ⟨rfl,?_,fun ha=>?_⟩))
   ·show tAt g i < g.2
    rcases Nat.lt_or_ge i g.1.length with hi2 | hi2
    ·rw [zze hi2]
     have hle:=Kp hg.el (show i+1≤g.1.length by omega)
     rw [Kq,hg.cy] at hle
     rw [Nat.mod_eq_of_lt hi2] at he
     rw [ko he] at hle
     have:=hen.2.2.1;omega
    ·exfalso
     have hi3:i=g.1.length:=by omega
     rw [hi3,Nat.mod_self] at he
     have:=hp' 0 (by omega) e (by rw [Nat.zero_mod];exact he)
     rw [this] at h';cases h'
   ·rw [ha e (List.mem_of_getElem? he)] at h';cases h'
  ·have h':(!zm (ky .and .i64 (jX .i64 e.1 6) 1) 1)=false:=h
   rw [hb] at h'
   have hop:opn e.1=true:=by simpa using h'
   refine zf (qU (show (g.1.length:Int)≠0 by omega)) ?_
   have e1:Int.tmod (wrF .i64 (((i % g.1.length:Nat):Int)+1)) (g.1.length:Int)=(((i+1) % g.1.length:Nat):Int):=by
    rw [qp (by omega),Int.tmod_eq_emod_of_nonneg (by omega),←Int.natCast_emod,Nat.mod_add_mod]
   have hm2:(i+1) % g.1.length < g.1.length:=Nat.mod_lt _ (by omega)
   have hx2:g.1[(i+1) % g.1.length]?=some (g.1[(i+1) % g.1.length]'hm2):=List.getElem?_eq_getElem hm2
   refine zg (qf (a:=g.1[(i+1) % g.1.length]'hm2) (by show atI g.1 (Int.tmod (wrF .i64 (((i % g.1.length:Nat):Int)+1)) (g.1.length:Int))=_;rw [e1];exact wG hx2) ?_)
   refine za (qj ⟨_,hx2,?_,fun k hk e' he'=>?_⟩)
   ·show ((6,(g,(0,((wrF .i64 (tAt g i+e.2)),((Int.tmod (wrF .i64 (((i % g.1.length:Nat):Int)+1)) (g.1.length:Int)),(_,((wrF .i64 ((i:Int)+1)),()))))))),())=_
    rw [e1,qp (by omega),hts,zE (by have:=hen.2.2.1;omega) (by have:=hen.2.2.2;omega)]
   ·rcases Nat.lt_or_ge k i with hki | hki
    ·exact hp' k hki e' he'
    ·have:k=i:=by omega
     subst this
     rw [he] at he';cases he'
     exact hop
 ·rintro _ ⟨e,he,rfl,hp'⟩
  refine zf (zG (show ¬((g.1.length+1:Nat):Int) < (g.1.length:Int)+1 by omega)) (za (zq (.inl ⟨rfl,rfl,fun e' he'=>?_⟩)))
  obtain ⟨k,hk,hk2⟩:=jM he'
  exact hp' k (by omega) e' (by rw [Nat.mod_eq_of_lt hk];exact hk2)
 ·rintro ⟨j,⟨c,q,r,n,i,l,k,⟨⟩⟩,⟨⟩⟩ (⟨rfl,hq,ha⟩ | ⟨rfl,hq,ha⟩)
  ·simp only at hq
   subst hq
   exact ze rfl (ze (vu rfl) (za (.inl ⟨rfl,ha⟩)))
  ·simp only at hq
   refine zf rfl (zf (qU (show r≠g.2 by omega)) (za (.inr ⟨?_,ha⟩)))
   show r < _
   omega
theorem zdv {g:Gts} (hg:qw g):gY (g,())=some (tv (YR g.1),()):=by
 rw [zli];unfold GG
 refine jR ?_
 have e1:JL (g,6,0,0,())=some (0,()):=by
  rw [zqg];unfold zdY
  rw [zbK,zS hg];rfl
 obtain ⟨⟨v,⟨⟩⟩,e2,hv⟩:=zuR hg
 have e3:YA (g,6,0,())=some (v,0,()):=by
  rw [zso];unfold zf2
  rw [e1,e2];rfl
 rw [e3]
 refine za ?_
 rcases hv with ⟨h1,h2⟩ | ⟨h1,h2⟩
 ·exact ⟨fun _=>h2,fun _=>vu h1⟩
 ·exact ⟨fun h=>by have:=qO h;simp only at h1 this;omega,fun h=>absurd h h2⟩
end Go.Proofs.YtplhphmbkmpocaaGreat.ad
end
