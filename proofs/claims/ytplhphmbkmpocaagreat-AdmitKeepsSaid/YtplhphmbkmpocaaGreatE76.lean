/- Parts of a proof, joined. -/
import Derived.Test.YtplhphmbkmpocaaGreatE75
set_option linter.unusedSectionVars false
set_option linter.unusedVariables false
set_option linter.unusedSimpArgs false
set_option maxHeartbeats 0
set_option maxRecDepth 100000
noncomputable section
namespace Go.Proofs.YtplhphmbkmpocaaGreat.ad
open Go Go.Fz Go.Fz.Sy
abbrev gg:List VT:=[⟨true,qz⟩,⟨false,(.list zv)⟩,⟨false,I⟩]
abbrev gh:List VT:=[⟨true,gf⟩,⟨false,I⟩]
def zzK:zV:=zS [cdF qz,cdF zv,cdF zcC,cdF gf,cdF zw,cdF zP,cdF zQ,cdF qg] [] [⟨8,44,some 4,.unit,true⟩,⟨10,44,some 4,.unit,true⟩,⟨5,98,none,zm,true⟩,⟨8,98,none,zm,true⟩,⟨12,98,none,zm,true⟩,⟨15,98,none,zm,true⟩,⟨18,98,none,zm,true⟩,⟨21,98,none,zm,true⟩,⟨5,98,some 6,zm,false⟩,⟨8,98,some 6,zm,false⟩,⟨12,98,some 6,zm,false⟩,⟨15,98,some 6,zm,false⟩,⟨18,98,some 6,zm,false⟩,⟨21,98,some 6,zm,false⟩,⟨2,37,none,zm,true⟩,⟨4,37,none,zm,true⟩,⟨2,44,none,zm,true⟩,⟨5,44,none,zm,true⟩,⟨8,44,none,zm,true⟩,⟨10,44,none,zm,true⟩,⟨1,28,none,zm,true⟩,⟨4,28,none,zm,true⟩,⟨2,19,none,zm,true⟩,⟨4,19,none,zm,true⟩] [] [13,72,136,100,101,102,103,104]
def zh1 (qq:xl) (qF:vu) (zJ:jc) (jt:WZ) (qR:ZV) (qS:ZW) (qL:Zd) (qu:uN) (a0:qC) (a1:(List zO)) (a2:Int):Option (zaU×Int×Unit):=
 opt (qq (a0,())) fun x0=>
 bif !(zi x0.1 0) then bif !(zi x0.1 0) then some (((0,0),((0,0),(0,0))),(x0.1,()))
  else opt (bif zh a2 0 then some (1,((((0,0),((0,0),(0,0))),(2,())),()))
    else bif (!(zh a2 (wrF .i64 (2*((a0.1.2.2.length:Nat):Int))))) then some (1,((((0,0),((0,0),(0,0))),(2,())),()))
     else some (0,((((0,0),((0,0),(0,0))),(0,())),()))) fun x1=>
   bif Nat.beq x1.1 0 then none
   else some (x1.2.1.1,(x1.2.1.2.1,()))
 else opt (qF (a0.1,(a1,()))) fun x2=>
  bif !(zi x2.1 0) then bif !(zi x2.1 0) then some (((0,0),((0,0),(0,0))),(x2.1,()))
   else opt (bif zh a2 0 then some (1,((((0,0),((0,0),(0,0))),(2,())),()))
     else bif (!(zh a2 (wrF .i64 (2*((a0.1.2.2.length:Nat):Int))))) then some (1,((((0,0),((0,0),(0,0))),(2,())),()))
      else some (0,((((0,0),((0,0),(0,0))),(0,())),()))) fun x3=>
    bif Nat.beq x3.1 0 then none
    else some (x3.2.1.1,(x3.2.1.2.1,()))
  else opt (zz (fun s4:((Unit×(Int×(Int×Unit)))×Unit)=>
    bif (zh s4.1.2.2.1 ((a1.length:Nat):Int)) then opt (atI a1 s4.1.2.2.1) fun x5=>
     opt (bif !(zi x5.2.2.2.1 6) then some (1,(((),(2,())),()))
      else bif zh a0.2.2.2 x5.2.2.2.2.1 then some (1,(((),(2,())),()))
       else some (0,(((),(s4.1.2.1,())),()))) fun x6=>
     bif Nat.beq x6.1 0 then some (.inr (((),(x6.2.1.2.1,((wrF .i64 (s4.1.2.2.1+1)),()))),()))
     else some (.inl (1,(((),(x6.2.1.2.1,(s4.1.2.2.1,()))),())))
    else some (.inl (0,(((),(s4.1.2.1,(s4.1.2.2.1,()))),())))) zL (((),(0,(0,()))),())) fun x7=>
   bif Nat.beq x7.1 0 then opt (bif zh a2 0 then some (1,((((0,0),((0,0),(0,0))),(2,())),()))
     else bif (!(zh a2 (wrF .i64 (2*((a0.1.2.2.length:Nat):Int))))) then some (1,((((0,0),((0,0),(0,0))),(2,())),()))
      else some (0,((((0,0),((0,0),(0,0))),(0,())),()))) fun x8=>
    bif Nat.beq x8.1 0 then opt (bif (!(mpH (α:=(((Int×Int)×((Int×Int)×(Int×Int)))×Int)) ([]) a2)) then opt (zz (fun s9:((Int×Unit)×(((List (Int×Int))×Unit)×(Unit×(Unit×Unit))))=>
        bif (zh s9.1.1 ((a1.length:Nat):Int)) then opt (atI a1 s9.1.1) fun x10=>
         opt (zz (fun s11:((Int×(Int×Unit))×(((List (Int×Int))×Unit)×(Unit×(Unit×Unit))))=>
          bif (zh s11.1.2.1 ((x10.2.2.2.2.2.2.2.2.length:Nat):Int)) then opt (atI x10.2.2.2.2.2.2.2.2 s11.1.2.1) fun x12=>
           opt (zJ (x12,(a2,()))) fun x13=>
           bif x13.1 then some (.inl (1,((s11.1.2.1,(s11.1.2.1,())),((s11.2.1.1,()),((),((),()))))))
           else some (.inr ((s11.1.1,((wrF .i64 (s11.1.2.1+1)),())),((s11.2.1.1,()),((),((),())))))
          else some (.inl (0,((s11.1.1,(s11.1.2.1,())),((s11.2.1.1,()),((),((),()))))))) zL ((0,(0,())),((s9.2.1.1,()),((),((),()))))) fun x14=>
         bif Nat.beq x14.1 0 then some (.inr (((wrF .i64 (s9.1.1+1)),()),((x14.2.2.1.1,()),((),((),())))))
         else bif !(zh x14.2.1.1 0) then bif (jb x14.2.2.1.1.length ((x10.2.2.2.2.2.2.1::[]).length) 16) then some (.inr (((wrF .i64 (s9.1.1+1)),()),(((x14.2.2.1.1++(x10.2.2.2.2.2.2.1::[])),()),((),((),())))))
           else none
          else some (.inr (((wrF .i64 (s9.1.1+1)),()),((x14.2.2.1.1,()),((),((),())))))
        else some (.inl (0,((s9.1.1,()),((s9.2.1.1,()),((),((),()))))))) zL ((0,()),(([],()),((),((),()))))) fun x15=>
       bif Nat.beq x15.1 0 then bif (zi ((x15.2.2.1.1.length:Nat):Int) 0) then some (0,(((((0,0),((0,0),(0,0))),4),()),((mpP (α:=(((Int×Int)×((Int×Int)×(Int×Int)))×Int)) ([]) a2 (((0,0),((0,0),(0,0))),4)),())))
        else opt (jt (a0.1,(a2,()))) fun x16=>
         bif !(zi x16.2.1 0) then some (0,(((((0,0),((0,0),(0,0))),x16.2.1),()),((mpP (α:=(((Int×Int)×((Int×Int)×(Int×Int)))×Int)) ([]) a2 (((0,0),((0,0),(0,0))),x16.2.1)),())))
         else opt (atI a0.2.2.1 a2) fun x17=>
          opt (qR (x17,(x16.1,(a0.2.2.2,())))) fun x18=>
          bif !(zi x18.2.1 0) then some (0,(((((0,0),((0,0),(0,0))),411),()),((mpP (α:=(((Int×Int)×((Int×Int)×(Int×Int)))×Int)) ([]) a2 (((0,0),((0,0),(0,0))),411)),())))
          else opt (qS (x15.2.2.1.1,())) fun x19=>
           bif !(zi x19.2.1 0) then some (0,(((((0,0),((0,0),(0,0))),x19.2.1),()),((mpP (α:=(((Int×Int)×((Int×Int)×(Int×Int)))×Int)) ([]) a2 (((0,0),((0,0),(0,0))),x19.2.1)),())))
           else opt (qL ((x19.1::[]),(x18.1,()))) fun x20=>
            bif !(zi x20.2.1 0) then some (0,(((((0,0),((0,0),(0,0))),x20.2.1),()),((mpP (α:=(((Int×Int)×((Int×Int)×(Int×Int)))×Int)) ([]) a2 (((0,0),((0,0),(0,0))),x20.2.1)),())))
            else opt (qu (x19.1,(x18.1,()))) fun x21=>
             bif !(zi x21.2.1 0) then some (0,(((((0,0),((0,0),(0,0))),x21.2.1),()),((mpP (α:=(((Int×Int)×((Int×Int)×(Int×Int)))×Int)) ([]) a2 (((0,0),((0,0),(0,0))),x21.2.1)),())))
             else some (0,((((x19.1,(x18.1,(x20.1,x21.1))),0),()),((mpP (α:=(((Int×Int)×((Int×Int)×(Int×Int)))×Int)) ([]) a2 ((x19.1,(x18.1,(x20.1,x21.1))),0)),())))
       else bif (zi ((x15.2.2.1.1.length:Nat):Int) 0) then some (0,(((((0,0),((0,0),(0,0))),4),()),((mpP (α:=(((Int×Int)×((Int×Int)×(Int×Int)))×Int)) ([]) a2 (((0,0),((0,0),(0,0))),4)),())))
        else opt (jt (a0.1,(a2,()))) fun x22=>
         bif !(zi x22.2.1 0) then some (0,(((((0,0),((0,0),(0,0))),x22.2.1),()),((mpP (α:=(((Int×Int)×((Int×Int)×(Int×Int)))×Int)) ([]) a2 (((0,0),((0,0),(0,0))),x22.2.1)),())))
         else opt (atI a0.2.2.1 a2) fun x23=>
          opt (qR (x23,(x22.1,(a0.2.2.2,())))) fun x24=>
          bif !(zi x24.2.1 0) then some (0,(((((0,0),((0,0),(0,0))),411),()),((mpP (α:=(((Int×Int)×((Int×Int)×(Int×Int)))×Int)) ([]) a2 (((0,0),((0,0),(0,0))),411)),())))
          else opt (qS (x15.2.2.1.1,())) fun x25=>
           bif !(zi x25.2.1 0) then some (0,(((((0,0),((0,0),(0,0))),x25.2.1),()),((mpP (α:=(((Int×Int)×((Int×Int)×(Int×Int)))×Int)) ([]) a2 (((0,0),((0,0),(0,0))),x25.2.1)),())))
           else opt (qL ((x25.1::[]),(x24.1,()))) fun x26=>
            bif !(zi x26.2.1 0) then some (0,(((((0,0),((0,0),(0,0))),x26.2.1),()),((mpP (α:=(((Int×Int)×((Int×Int)×(Int×Int)))×Int)) ([]) a2 (((0,0),((0,0),(0,0))),x26.2.1)),())))
            else opt (qu (x25.1,(x24.1,()))) fun x27=>
             bif !(zi x27.2.1 0) then some (0,(((((0,0),((0,0),(0,0))),x27.2.1),()),((mpP (α:=(((Int×Int)×((Int×Int)×(Int×Int)))×Int)) ([]) a2 (((0,0),((0,0),(0,0))),x27.2.1)),())))
             else some (0,((((x25.1,(x24.1,(x26.1,x27.1))),0),()),((mpP (α:=(((Int×Int)×((Int×Int)×(Int×Int)))×Int)) ([]) a2 ((x25.1,(x24.1,(x26.1,x27.1))),0)),())))
      else some (0,(((mpD (α:=(((Int×Int)×((Int×Int)×(Int×Int)))×Int)) ([]) a2 (((0,0),((0,0),(0,0))),0)),()),([],())))) fun x28=>
     some (x28.2.1.1.1,(x28.2.1.1.2,()))
    else some (x8.2.1.1,(x8.2.1.2.1,()))
   else bif !(zi x7.2.1.2.1 0) then some (((0,0),((0,0),(0,0))),(x7.2.1.2.1,()))
    else opt (bif zh a2 0 then some (1,((((0,0),((0,0),(0,0))),(2,())),()))
      else bif (!(zh a2 (wrF .i64 (2*((a0.1.2.2.length:Nat):Int))))) then some (1,((((0,0),((0,0),(0,0))),(2,())),()))
       else some (0,((((0,0),((0,0),(0,0))),(0,())),()))) fun x29=>
     bif Nat.beq x29.1 0 then none
     else some (x29.2.1.1,(x29.2.1.2.1,()))
abbrev zh2:Type:=(qC×(List zO)×Int×Unit)→Option (zaU×Int×Unit)
def zpK:xl→vu→jc→WZ→ZV→ZW→Zd→uN→zh2:=fun qq qF zJ jt qR qS qL qu=>sF Tryz.prog [(13,⟨jj,jk,qq⟩),(72,⟨wU,wW,qF⟩),(136,⟨qA,qB,zJ⟩),(100,⟨gv,gw,jt⟩),(101,⟨xz,xA,qR⟩),(102,⟨vS,vT,qS⟩),(103,⟨vf,vg,qL⟩),(104,⟨xb,xc,qu⟩)] zzK (zR []) 30 15 gg gh
theorem zAM (qq) (qF) (zJ) (jt) (qR) (qS) (qL) (qu) (a0) (a1) (a2):zpK qq qF zJ jt qR qS qL qu (a0,a1,a2,())=zh1 qq qF zJ jt qR qS qL qu a0 a1 a2:=by kernel_rfl
def Yp:zh2:=zpK jB wm qd xa jH wD jM jg
theorem zu4:Con.Ok Tryz.prog 15 ⟨gg,gh,Yp⟩:=zC (ze Yo (ze Va (ze uv (ze zd2 (ze zbo (ze zbq (ze GU (ze KH zo)))))))) zr (by kernel_rfl)
theorem zu5 (a0) (a1) (a2):Yp (a0,a1,a2,())=zh1 jB wm qd xa jH wD jM jg a0 a1 a2:=zAM jB wm qd xa jH wD jM jg a0 a1 a2
abbrev zgd:List VT:=[⟨true,zw⟩,⟨false,(.list zv)⟩]
abbrev zge:List VT:=[⟨false,I⟩]
def zo7:zV:=zS [cdF zv,cdF zw,cdF zP,cdF zm] [] [] [] [40,83]
def GV (yK:Wl) (yI:Wk) (a0:zN) (a1:(List zO)):Option (Int×Unit):=
 opt (yK (a0,())) fun x0=>
 bif !x0.1 then some (260,())
 else bif (zh 12 ((a1.length:Nat):Int)) then some (3,())
  else opt (zz (fun s1:((Int×(Int×Unit))×Unit)=>
    bif (zh s1.1.2.1 ((a1.length:Nat):Int)) then opt (atI a1 s1.1.2.1) fun x2=>
     opt (yI (a0,(x2,()))) fun x3=>
     bif !x3.1 then some (.inl (1,((321,(s1.1.2.1,())),())))
     else some (.inr ((s1.1.1,((wrF .i64 (s1.1.2.1+1)),())),()))
    else some (.inl (0,((s1.1.1,(s1.1.2.1,())),())))) zL ((0,(0,())),())) fun x4=>
   bif Nat.beq x4.1 0 then opt (zz (fun s5:((Int×(Int×Unit))×Unit)=>
     bif (zh s5.1.2.1 ((a1.length:Nat):Int)) then opt (zz (fun s6:((Int×(Int×Unit))×Unit)=>
       bif zh s6.1.2.1 s5.1.2.1 then opt (atI a1 s6.1.2.1) fun x7=>
        opt (atI a1 s5.1.2.1) fun x8=>
        bif zi x7.1 x8.1 then some (.inl (1,((322,(s6.1.2.1,())),())))
        else some (.inr ((s6.1.1,((wrF .i64 (s6.1.2.1+1)),())),()))
       else some (.inl (0,((s6.1.1,(s6.1.2.1,())),())))) zL ((s5.1.1,(0,())),())) fun x9=>
      bif Nat.beq x9.1 0 then some (.inr ((x9.2.1.1,((wrF .i64 (s5.1.2.1+1)),())),()))
      else some (.inl (1,((x9.2.1.1,(s5.1.2.1,())),())))
     else some (.inl (0,((s5.1.1,(s5.1.2.1,())),())))) zL ((x4.2.1.1,(0,())),())) fun x10=>
    bif Nat.beq x10.1 0 then some (0,())
    else some (x10.2.1.1,())
   else some (x4.2.1.1,())
abbrev Ve:Type:=(zN×(List zO)×Unit)→Option (Int×Unit)
def zgf:Wl→Wk→Ve:=fun yK yI=>sF Tryz.prog [(40,⟨zdS,zdT,yK⟩),(83,⟨Gg,Gh,yI⟩)] zo7 (zR []) 30 74 zgd zge
theorem zrb (yK) (yI) (a0) (a1):zgf yK yI (a0,a1,())=GV yK yI a0 a1:=by kernel_rfl
def JD:Ve:=zgf Za kh
theorem zlP (a0) (a1):JD (a0,a1,())=GV Za kh a0 a1:=zrb Za kh a0 a1
abbrev zgg:List VT:=[⟨true,qz⟩,⟨false,(.list zv)⟩]
abbrev zgh:List VT:=[⟨false,I⟩]
def zxi:zV:=zS [cdF qz,cdF zv,cdF zw,cdF zP,cdF zQ,cdF qg] [] [] [] [14,74]
def zgi (uR:JS) (ZK:Ve) (a0:qC) (a1:(List zO)):Option (Int×Unit):=
 opt (uR (a0,())) fun x0=>
 opt (bif zi x0.1 0 then opt (ZK (a0.1,(a1,()))) fun x1=>
   some (0,((x1.1,()),()))
  else some (0,((x0.1,()),()))) fun x2=>
 bif !(zi x2.2.1.1 0) then some (x2.2.1.1,())
 else opt (zz (fun s3:((Int×(Int×Unit))×Unit)=>
   bif (zh s3.1.2.1 ((a1.length:Nat):Int)) then opt (opt (atI a1 s3.1.2.1) fun x4=>
     bif !(zi x4.2.2.2.1 6) then some (1,((2,()),()))
     else opt (atI a1 s3.1.2.1) fun x5=>
      bif zh a0.2.2.2 x5.2.2.2.2.1 then some (1,((2,()),()))
      else some (0,((s3.1.1,()),()))) fun x6=>
    bif Nat.beq x6.1 0 then some (.inr ((x6.2.1.1,((wrF .i64 (s3.1.2.1+1)),())),()))
    else some (.inl (1,((x6.2.1.1,(s3.1.2.1,())),())))
   else some (.inl (0,((s3.1.1,(s3.1.2.1,())),())))) zL ((0,(0,())),())) fun x7=>
  bif Nat.beq x7.1 0 then some (0,())
  else some (x7.2.1.1,())
abbrev Xg:Type:=(qC×(List zO)×Unit)→Option (Int×Unit)
def znw:JS→Ve→Xg:=fun uR ZK=>sF Tryz.prog [(14,⟨zb2,zb3,uR⟩),(74,⟨zgd,zge,ZK⟩)] zxi (zR []) 30 45 zgg zgh
theorem zzL (uR) (ZK) (a0) (a1):znw uR ZK (a0,a1,())=zgi uR ZK a0 a1:=by kernel_rfl
def ZX:Xg:=znw Zo JD
theorem ztb (a0) (a1):ZX (a0,a1,())=zgi Zo JD a0 a1:=zzL Zo JD a0 a1
abbrev Xh:List VT:=[⟨true,zv⟩,⟨false,I⟩]
abbrev Xi:List VT:=[⟨false,.bool⟩]
def ztc:zV:=zS [cdF zv,cdF zm] [] [] [] []
def zcK (a0:zO) (a1:Int):Option (Bool×Unit):=
 opt (zz (fun s0:((Bool×(Int×Unit))×Unit)=>
  bif (zh s0.1.2.1 ((a0.2.2.2.2.2.2.2.2.length:Nat):Int)) then opt (zz (fun s1:((Bool×(Int×Unit))×Unit)=>
    opt (atI a0.2.2.2.2.2.2.2.2 s0.1.2.1) fun x2=>
    bif (zh s1.1.2.1 ((x2.length:Nat):Int)) then opt (atI a0.2.2.2.2.2.2.2.2 s0.1.2.1) fun x3=>
     opt (atI x3 s1.1.2.1) fun x4=>
     bif zi x4 a1 then some (.inl (1,((true,(s1.1.2.1,())),())))
     else some (.inr ((s1.1.1,((wrF .i64 (s1.1.2.1+1)),())),()))
    else some (.inl (0,((s1.1.1,(s1.1.2.1,())),())))) zL ((s0.1.1,(0,())),())) fun x5=>
   bif Nat.beq x5.1 0 then some (.inr ((x5.2.1.1,((wrF .i64 (s0.1.2.1+1)),())),()))
   else some (.inl (1,((x5.2.1.1,(s0.1.2.1,())),())))
  else some (.inl (0,((s0.1.1,(s0.1.2.1,())),())))) zL ((false,(0,())),())) fun x6=>
 bif Nat.beq x6.1 0 then some (false,())
 else some (x6.2.1.1,())
abbrev Xj:Type:=(zO×Int×Unit)→Option (Bool×Unit)
def ziW:Xj:=sF Tryz.prog [] ztc (zR []) 30 27 Xh Xi
theorem zu6 (a0) (a1):ziW (a0,a1,())=zcK a0 a1:=by kernel_rfl
def xB:Xj:=ziW
theorem zo8:Con.Ok Tryz.prog 27 ⟨Xh,Xi,xB⟩:=zC zo zr (by kernel_rfl)
theorem zo9 (a0) (a1):xB (a0,a1,())=zcK  a0 a1:=zu6  a0 a1
abbrev zpL:List VT:=[⟨true,zw⟩,⟨false,I⟩]
abbrev zpM:List VT:=[⟨false,I⟩]
def zzM:zV:=zS [cdF zw,cdF zP] [] [] [] []
def zh3 (a0:zN) (a1:Int):Option (Int×Unit):=
 opt (atI a0.2.2 (wrF .i64 (Int.tdiv a1 2))) fun x0=>
 some (x0.2.2.1,())
abbrev zc3:Type:=(zN×Int×Unit)→Option (Int×Unit)
def zpN:zc3:=sF Tryz.prog [] zzM (zR []) 30 76 zpL zpM
theorem zAN (a0) (a1):zpN (a0,a1,())=zh3 a0 a1:=by kernel_rfl
def UO:zc3:=zpN
theorem zu7 (a0) (a1):UO (a0,a1,())=zh3  a0 a1:=zAN  a0 a1
abbrev znx:List VT:=[⟨true,zQ⟩,⟨false,I⟩,⟨false,I⟩]
abbrev zny:List VT:=[⟨false,I⟩]
def zxj:zV:=zS [cdF zQ,cdF qg] [] [] [] [42]
def zgj (yL:Wm) (a0:qx) (a1:Int) (a2:Int):Option (Int×Unit):=
 opt (yL (a0,())) fun x0=>
 bif !x0.1 then some (370,())
 else opt (bif zh a1 1 then some (1,((2,()),()))
   else bif zh 1000 a1 then some (1,((2,()),()))
    else bif zh a2 84 then some (1,((2,()),()))
     else bif zh 1542 a2 then some (1,((2,()),()))
      else some (0,((0,()),()))) fun x1=>
  bif Nat.beq x1.1 0 then some (0,())
  else some (x1.2.1.1,())
abbrev zbu:Type:=(qx×Int×Int×Unit)→Option (Int×Unit)
def znz:Wm→zbu:=fun yL=>sF Tryz.prog [(42,⟨zdW,zdX,yL⟩)] zxj (zR []) 30 105 znx zny
theorem zzN (yL) (a0) (a1) (a2):znz yL (a0,a1,a2,())=zgj yL a0 a1 a2:=by kernel_rfl
def KI:zbu:=znz Zb
theorem ztd (a0) (a1) (a2):KI (a0,a1,a2,())=zgj Zb a0 a1 a2:=zzN Zb a0 a1 a2
abbrev zc4:List VT:=[⟨false,I⟩,⟨false,I⟩]
abbrev zc5:List VT:=[⟨false,.bool⟩]
def zzO:zV:=zS [] [] [] [] []
def zh4 (a0:Int) (a1:Int):Option (Bool×Unit):=
 bif zh (wrF .u64 a1) 0 then none
 else some ((zi (Int.tmod (wH .i64 a0 (wrF .u64 a1)) 2) 1),())
abbrev QS:Type:=(Int×Int×Unit)→Option (Bool×Unit)
def zpO:QS:=sF Tryz.prog [] zzO (zR []) 30 152 zc4 zc5
theorem zAO (a0) (a1):zpO (a0,a1,())=zh4 a0 a1:=by kernel_rfl
def uW:QS:=zpO
theorem zu8 (a0) (a1):uW (a0,a1,())=zh4  a0 a1:=zAO  a0 a1
abbrev Un:List VT:=[⟨true,zQ⟩]
abbrev Uo:List VT:=[⟨false,.bool⟩]
def zte:zV:=zS [cdF zQ,cdF qg] [] [] [] [152]
def zcL (jW:QS) (a0:qx):Option (Bool×Unit):=
 opt (zz (fun s0:((Bool×(Int×Unit))×Unit)=>
  bif (zh s0.1.2.1 ((a0.1.length:Nat):Int)) then opt (atI a0.1 s0.1.2.1) fun x1=>
   opt (jW (x1.1,(6,()))) fun x2=>
   bif !x2.1 then some (.inl (1,((false,(s0.1.2.1,())),())))
   else some (.inr ((s0.1.1,((wrF .i64 (s0.1.2.1+1)),())),()))
  else some (.inl (0,((s0.1.1,(s0.1.2.1,())),())))) zL ((false,(0,())),())) fun x3=>
 bif Nat.beq x3.1 0 then some (true,())
 else some (x3.2.1.1,())
abbrev kX:Type:=(qx×Unit)→Option (Bool×Unit)
def ziX:QS→kX:=fun jW=>sF Tryz.prog [(152,⟨zc4,zc5,jW⟩)] zte (zR []) 30 107 Un Uo
theorem zu9 (jW) (a0):ziX jW (a0,())=zcL jW a0:=by kernel_rfl
def xC:kX:=ziX uW
theorem zpa (a0):xC (a0,())=zcL uW a0:=zu9 uW a0
abbrev ztf:List VT:=[⟨true,zQ⟩,⟨false,I⟩]
abbrev ztg:List VT:=[⟨false,I⟩,⟨false,I⟩]
def zAP:zV:=zS [cdF zQ,cdF qg] [] [] [] []
def zkj (a0:qx) (a1:Int):Option (Int×Int×Unit):=
 bif zi a0.2 0 then none
 else opt (bif zh (Int.tmod a1 a0.2) 0 then some (0,(((wrF .i64 ((Int.tmod a1 a0.2)+a0.2)),()),()))
   else some (0,(((Int.tmod a1 a0.2),()),()))) fun x0=>
  opt (zz (fun s1:((Int×(Int×Unit))×Unit)=>
   opt (atI a0.1 s1.1.2.1) fun x2=>
   bif !(zh s1.1.1 x2.2) then opt (atI a0.1 s1.1.2.1) fun x3=>
    some (.inr (((wrF .i64 (s1.1.1 - x3.2)),((wrF .i64 (s1.1.2.1+1)),())),()))
   else some (.inl (0,((s1.1.1,(s1.1.2.1,())),())))) zL ((x0.2.1.1,(0,())),())) fun x4=>
  some (x4.2.1.2.1,(x4.2.1.1,()))
abbrev ze7:Type:=(qx×Int×Unit)→Option (Int×Int×Unit)
def zth:ze7:=sF Tryz.prog [] zAP (zR []) 30 172 ztf ztg
theorem zCL (a0) (a1):zth (a0,a1,())=zkj a0 a1:=by kernel_rfl
def Up:ze7:=zth
theorem zxk (a0) (a1):Up (a0,a1,())=zkj  a0 a1:=zCL  a0 a1
abbrev GW:List VT:=[⟨true,zQ⟩,⟨false,I⟩,⟨false,I⟩]
abbrev GX:List VT:=[⟨false,(.list jd)⟩]
def zpb:zV:=zS [cdF zQ,cdF qg] [] [⟨4,68,some 6,jd,false⟩,⟨4,68,some 7,jd,true⟩,⟨8,68,some 6,jd,false⟩,⟨8,68,some 7,jd,true⟩,⟨10,68,some 6,jd,false⟩,⟨10,68,some 7,jd,true⟩] [] [172,152]
def GY (Ut:ze7) (jW:QS) (a0:qx) (a1:Int) (a2:Int):Option ((List vo)×Unit):=
 opt (zz (fun s0:((Bool×(Int×Unit))×((List (Int×Int))×Unit))=>
  bif zh s0.1.2.1 a2 then opt (Ut (a0,(s0.1.2.1,()))) fun x1=>
   opt (atI a0.1 x1.1) fun x2=>
   opt (atI a0.1 x1.1) fun x3=>
   opt (jW (x3.1,(6,()))) fun x4=>
   opt (bif x4.1 then bif s0.1.1 then opt (atI s0.2.1 (wrF .i64 (((s0.2.1.length:Nat):Int) - 1))) fun x5=>
      opt (gl s0.2.1 (Int.toNat (wrF .i64 (((s0.2.1.length:Nat):Int) - 1)))) fun x6=>
      some (0,((),((s0.2.1.set (Int.toNat (wrF .i64 (((s0.2.1.length:Nat):Int) - 1))) (x6.1,(jQ (wrF .i64 ((wrF .i64 (s0.1.2.1 - x1.2.1))+x2.2)) a2))),())))
     else some (0,((),(s0.2.1,())))
    else some (0,((),(s0.2.1,())))) fun x7=>
   opt (bif x4.1 then bif !s0.1.1 then bif (jb x7.2.2.1.length (((s0.1.2.1,(jQ (wrF .i64 ((wrF .i64 (s0.1.2.1 - x1.2.1))+x2.2)) a2))::[]).length) 16) then some (0,((),((x7.2.2.1++((s0.1.2.1,(jQ (wrF .i64 ((wrF .i64 (s0.1.2.1 - x1.2.1))+x2.2)) a2))::[])),())))
      else none
     else some (0,((),(x7.2.2.1,())))
    else some (0,((),(x7.2.2.1,())))) fun x8=>
   some (.inr ((x4.1,((jQ (wrF .i64 ((wrF .i64 (s0.1.2.1 - x1.2.1))+x2.2)) a2),())),(x8.2.2.1,())))
  else some (.inl (0,((s0.1.1,(s0.1.2.1,())),(s0.2.1,()))))) zL ((false,(a1,())),([],()))) fun x9=>
 some (x9.2.2.1,())
abbrev ZF:Type:=(qx×Int×Int×Unit)→Option ((List vo)×Unit)
def zgk:ze7→QS→ZF:=fun Ut jW=>sF Tryz.prog [(172,⟨ztf,ztg,Ut⟩),(152,⟨zc4,zc5,jW⟩)] zpb (zR []) 30 153 GW GX
theorem zrc (Ut) (jW) (a0) (a1) (a2):zgk Ut jW (a0,a1,a2,())=GY Ut jW a0 a1 a2:=by kernel_rfl
def xW:ZF:=zgk Up uW
theorem zlQ (a0) (a1) (a2):xW (a0,a1,a2,())=GY Up uW a0 a1 a2:=zrc Up uW a0 a1 a2
abbrev zd9:List VT:=[⟨true,zQ⟩]
abbrev zea:List VT:=[⟨false,(.list jd)⟩]
def zva:zV:=zS [cdF zQ,cdF qg] [] [⟨3,36,some 2,jd,false⟩] [] [152]
def zeb (jW:QS) (wj:ZF) (a0:qx):Option ((List vo)×Unit):=
 opt (zz (fun s0:((Int×(Int×Unit))×Unit)=>
  bif (zh s0.1.2.1 ((a0.1.length:Nat):Int)) then opt (atI a0.1 s0.1.2.1) fun x1=>
   opt (jW (x1.1,(6,()))) fun x2=>
   bif x2.1 then opt (atI a0.1 s0.1.2.1) fun x3=>
    some (.inr (((wrF .i64 (s0.1.1+x3.2)),((wrF .i64 (s0.1.2.1+1)),())),()))
   else some (.inl (0,((s0.1.1,(s0.1.2.1,())),())))
  else some (.inl (0,((s0.1.1,(s0.1.2.1,())),())))) zL ((0,(0,())),())) fun x4=>
 opt (wj (a0,(x4.2.1.1,((wrF .i64 (x4.2.1.1+a0.2)),())))) fun x5=>
 some (x5.1,())
abbrev Wu:Type:=(qx×Unit)→Option ((List vo)×Unit)
def zkZ:QS→ZF→Wu:=fun jW wj=>sF Tryz.prog [(152,⟨zc4,zc5,jW⟩),(153,⟨GW,GX,wj⟩)] zva (zR []) 30 108 zd9 zea
theorem zxl (jW) (wj) (a0):zkZ jW wj (a0,())=zeb jW wj a0:=by kernel_rfl
def vX:Wu:=zkZ uW xW
theorem zrd (a0):vX (a0,())=zeb uW xW a0:=zxl uW xW a0
abbrev zh5:List VT:=[⟨false,(.list jd)⟩,⟨false,I⟩]
abbrev zh6:List VT:=[⟨false,I⟩]
def zzP:zV:=zS [cdF jd] [] [] [] []
def zh7 (a0:(List vo)) (a1:Int):Option (Int×Unit):=
 opt (zz (fun s0:((Int×(Int×Unit))×Unit)=>
  bif (zh s0.1.2.1 ((a0.length:Nat):Int)) then opt (atI a0 s0.1.2.1) fun x1=>
   opt (atI a0 s0.1.2.1) fun x2=>
   some (.inr (((wrF .i64 (s0.1.1+(uS 0 (wrF .i64 ((wrF .i64 (x1.2 - x2.1)) - a1))))),((wrF .i64 (s0.1.2.1+1)),())),()))
  else some (.inl (0,((s0.1.1,(s0.1.2.1,())),())))) zL ((0,(0,())),())) fun x3=>
 some (x3.2.1.1,())
abbrev VF:Type:=((List vo)×Int×Unit)→Option (Int×Unit)
def zpP:VF:=sF Tryz.prog [] zzP (zR []) 30 151 zh5 zh6
theorem zAQ (a0) (a1):zpP (a0,a1,())=zh7 a0 a1:=by kernel_rfl
def QT:VF:=zpP
theorem zvb (a0) (a1):QT (a0,a1,())=zh7  a0 a1:=zAQ  a0 a1
abbrev zk0:List VT:=[⟨true,zQ⟩,⟨false,I⟩,⟨false,I⟩]
abbrev zk1:List VT:=[⟨false,I⟩]
def zvc:zV:=zS [cdF zQ,cdF qg] [] [] [] [107,151]
def Gq (qW:kX) (yP:Wu) (vq:VF) (a0:qx) (a1:Int) (a2:Int):Option (Int×Unit):=
 opt (qW (a0,())) fun x0=>
 bif x0.1 then some (a0.2,())
 else opt (yP (a0,())) fun x1=>
  opt (vq (x1.1,((wrF .i64 (a2*a1)),()))) fun x2=>
  some (x2.1,())
abbrev Gr:Type:=(qx×Int×Int×Unit)→Option (Int×Unit)
def zk2:kX→Wu→VF→Gr:=fun qW yP vq=>sF Tryz.prog [(107,⟨Un,Uo,qW⟩),(108,⟨zd9,zea,yP⟩),(151,⟨zh5,zh6,vq⟩)] zvc (zR []) 30 106 zk0 zk1
theorem zxm (qW) (yP) (vq) (a0) (a1) (a2):zk2 qW yP vq (a0,a1,a2,())=Gq qW yP vq a0 a1 a2:=by kernel_rfl
def Wv:Gr:=zk2 xC vX QT
theorem zgl (a0) (a1) (a2):Wv (a0,a1,a2,())=Gq xC vX QT a0 a1 a2:=zxm xC vX QT a0 a1 a2
abbrev zk3:List VT:=[⟨true,zQ⟩,⟨false,I⟩,⟨false,I⟩,⟨false,I⟩,⟨false,I⟩]
abbrev zk4:List VT:=[⟨false,I⟩]
def zvd:zV:=zS [cdF zQ,cdF qg] [] [] [] [107,151]
def zec (qW:kX) (wj:ZF) (vq:VF) (a0:qx) (a1:Int) (a2:Int) (a3:Int) (a4:Int):Option (Int×Unit):=
 opt (qW (a0,())) fun x0=>
 bif x0.1 then some ((wrF .i64 (a4 - (wrF .i64 (127*a1)))),())
 else opt (wj (a0,(a3,((wrF .i64 (a3+a4)),())))) fun x1=>
  opt (vq (x1.1,((wrF .i64 (a2*a1)),()))) fun x2=>
  some ((wrF .i64 (x2.1 - (wrF .i64 (127*a1)))),())
abbrev Gs:Type:=(qx×Int×Int×Int×Int×Unit)→Option (Int×Unit)
def zk5:kX→ZF→VF→Gs:=fun qW wj vq=>sF Tryz.prog [(107,⟨Un,Uo,qW⟩),(153,⟨GW,GX,wj⟩),(151,⟨zh5,zh6,vq⟩)] zvd (zR []) 30 109 zk3 zk4
theorem zxn (qW) (wj) (vq) (a0) (a1) (a2) (a3) (a4):zk5 qW wj vq (a0,a1,a2,a3,a4,())=zec qW wj vq a0 a1 a2 a3 a4:=by kernel_rfl
def Vv:Gs:=zk5 xC xW QT
theorem zre (a0) (a1) (a2) (a3) (a4):Vv (a0,a1,a2,a3,a4,())=zec xC xW QT a0 a1 a2 a3 a4:=zxn xC xW QT a0 a1 a2 a3 a4
abbrev zti:List VT:=[⟨true,zQ⟩,⟨false,I⟩,⟨false,I⟩]
abbrev ztj:List VT:=[⟨true,xK⟩,⟨false,I⟩]
def zAR:zV:=zS [cdF zQ,cdF qg] [] [] [] [105,106,107,109]
def zbv (XE:zbu) (WE:Gr) (qW:kX) (yP:Wu) (WG:Gs) (a0:qx) (a1:Int) (a2:Int):Option (ya×Int×Unit):=
 opt (XE (a0,(a1,(a2,())))) fun x0=>
 bif !(zi x0.1 0) then some ((0,0),(x0.1,()))
 else opt (WE (a0,(a1,(a2,())))) fun x1=>
  bif (zi (wrF .i64 (a0.2*a1)) 0) then none
  else bif (zh (wrF .i64 (Int.tdiv (wrF .i64 (x1.1*1048576)) (wrF .i64 (a0.2*a1)))) 1) then some ((0,0),(4,()))
   else opt (opt (qW (a0,())) fun x2=>
     bif !x2.1 then opt (yP (a0,())) fun x3=>
      opt (zz (fun s4:((Int×(Int×Unit))×Unit)=>
       bif (zh s4.1.2.1 ((x3.1.length:Nat):Int)) then opt (atI x3.1 s4.1.2.1) fun x5=>
        opt (atI x3.1 s4.1.2.1) fun x6=>
        opt (atI x3.1 s4.1.2.1) fun x7=>
        opt (zz (fun s8:((Int×(Int×Unit))×Unit)=>
         bif (zh s8.1.2.1 (wrF .i64 (2*((x3.1.length:Nat):Int)))) then bif (zi ((x3.1.length:Nat):Int) 0) then none
          else opt (atI x3.1 (Int.tmod s8.1.2.1 ((x3.1.length:Nat):Int))) fun x9=>
           bif (zi ((x3.1.length:Nat):Int) 0) then none
           else opt (bif (zh (wrF .i64 (x5.2 - (jQ (wrF .i64 (x6.2 - x7.1)) (wrF .i64 (a2*a1))))) (wrF .i64 ((wrF .i64 (x9.1+(jQ (wrF .i64 (x9.2 - x9.1)) (wrF .i64 (a2*a1)))))+(wrF .i64 ((wrF .i64 (Int.tdiv s8.1.2.1 ((x3.1.length:Nat):Int)))*a0.2))))) then opt (WG (a0,(a1,(a2,((wrF .i64 (x5.2 - (jQ (wrF .i64 (x6.2 - x7.1)) (wrF .i64 (a2*a1))))),((wrF .i64 ((wrF .i64 ((wrF .i64 (x9.1+(jQ (wrF .i64 (x9.2 - x9.1)) (wrF .i64 (a2*a1)))))+(wrF .i64 ((wrF .i64 (Int.tdiv s8.1.2.1 ((x3.1.length:Nat):Int)))*a0.2)))) - (wrF .i64 (x5.2 - (jQ (wrF .i64 (x6.2 - x7.1)) (wrF .i64 (a2*a1))))))),())))))) fun x10=>
              some (0,(((uS s8.1.1 (wrF .i64 ((wrF .i64 ((wrF .i64 ((wrF .i64 ((wrF .i64 ((wrF .i64 (x9.1+(jQ (wrF .i64 (x9.2 - x9.1)) (wrF .i64 (a2*a1)))))+(wrF .i64 ((wrF .i64 (Int.tdiv s8.1.2.1 ((x3.1.length:Nat):Int)))*a0.2)))) - (wrF .i64 (x5.2 - (jQ (wrF .i64 (x6.2 - x7.1)) (wrF .i64 (a2*a1)))))))*(wrF .i64 (Int.tdiv (wrF .i64 (x1.1*1048576)) (wrF .i64 (a0.2*a1))))))*a1)) - (wrF .i64 (x10.1*1048576))))),()),()))
             else some (0,((s8.1.1,()),()))) fun x11=>
            some (.inr ((x11.2.1.1,((wrF .i64 (s8.1.2.1+1)),())),()))
         else some (.inl (0,((s8.1.1,(s8.1.2.1,())),())))) zL ((s4.1.1,(0,())),())) fun x12=>
        some (.inr ((x12.2.1.1,((wrF .i64 (s4.1.2.1+1)),())),()))
       else some (.inl (0,((s4.1.1,(s4.1.2.1,())),())))) zL (((wrF .i64 ((wrF .i64 (127*a1))*1048576)),(0,())),())) fun x13=>
      some (0,((a0,(x13.2.1.1,())),()))
     else some (0,((a0,((wrF .i64 ((wrF .i64 (127*a1))*1048576)),())),()))) fun x14=>
    bif (zi (wrF .i64 ((wrF .i64 (Int.tdiv (wrF .i64 (x1.1*1048576)) (wrF .i64 (a0.2*a1))))*a1)) 0) then none
    else some (((wrF .i64 (Int.tdiv (wrF .i64 (x1.1*1048576)) (wrF .i64 (a0.2*a1)))),(wrF .i64 (Int.tdiv (wrF .i64 ((wrF .i64 (x14.2.1.2.1+(wrF .i64 ((wrF .i64 (Int.tdiv (wrF .i64 (x1.1*1048576)) (wrF .i64 (a0.2*a1))))*a1)))) - 1)) (wrF .i64 ((wrF .i64 (Int.tdiv (wrF .i64 (x1.1*1048576)) (wrF .i64 (a0.2*a1))))*a1))))),(0,()))
abbrev ze8:Type:=(qx×Int×Int×Unit)→Option (ya×Int×Unit)
def ztk:zbu→Gr→kX→Wu→Gs→ze8:=fun XE WE qW yP WG=>sF Tryz.prog [(105,⟨znx,zny,XE⟩),(106,⟨zk0,zk1,WE⟩),(107,⟨Un,Uo,qW⟩),(108,⟨zd9,zea,yP⟩),(109,⟨zk3,zk4,WG⟩)] zAR (zR []) 30 75 zti ztj
theorem zCM (XE) (WE) (qW) (yP) (WG) (a0) (a1) (a2):ztk XE WE qW yP WG (a0,a1,a2,())=zbv XE WE qW yP WG a0 a1 a2:=by kernel_rfl
def Yb:ze8:=ztk KI Wv xC vX Vv
theorem zed (a0) (a1) (a2):Yb (a0,a1,a2,())=zbv KI Wv xC vX Vv a0 a1 a2:=zCM KI Wv xC vX Vv a0 a1 a2
abbrev zee:List VT:=[⟨true,zm⟩]
abbrev zef:List VT:=[⟨false,.bool⟩]
def zve:zV:=zS [cdF zm] [] [] [] []
def zeg (a0:qI):Option (Bool×Unit):=
 bif !(zh a0.1 1) then bif !(zh 1048576 a0.1) then bif !(zh a0.2 1) then some ((!(zh 2097152 a0.2)),())
   else some (false,())
  else some (false,())
 else some (false,())
abbrev Ww:Type:=(qI×Unit)→Option (Bool×Unit)
def zk6:Ww:=sF Tryz.prog [] zve (zR []) 30 110 zee zef
theorem zxo (a0):zk6 (a0,())=zeg a0:=by kernel_rfl
def Ze:Ww:=zk6
theorem zrf (a0):Ze (a0,())=zeg  a0:=zxo  a0
abbrev zpQ:List VT:=[⟨false,(.list zm)⟩]
abbrev zpR:List VT:=[⟨true,zm⟩,⟨false,I⟩]
def zzQ:zV:=zS [cdF zm] [] [] [] [110]
def zh8 (yl:Ww) (a0:(List qI)):Option (qI×Int×Unit):=
 bif (zi ((a0.length:Nat):Int) 0) then some ((0,0),(2,()))
 else bif (zh 12 ((a0.length:Nat):Int)) then some ((0,0),(3,()))
  else opt (zz (fun s0:(((Int×Int)×((Int×Int)×(Int×(Int×Unit))))×Unit)=>
    bif (zh s0.1.2.2.2.1 ((a0.length:Nat):Int)) then opt (atI a0 s0.1.2.2.2.1) fun x1=>
     opt (yl (x1,())) fun x2=>
     bif !x2.1 then some (.inl (1,(((0,0),(s0.1.2.1,(130,(s0.1.2.2.2.1,())))),())))
     else opt (atI a0 s0.1.2.2.2.1) fun x3=>
      opt (atI a0 s0.1.2.2.2.1) fun x4=>
      some (.inr ((s0.1.1,(((wrF .i64 (s0.1.2.1.1+x3.1)),(wrF .i64 (s0.1.2.1.2+x4.2))),(s0.1.2.2.1,((wrF .i64 (s0.1.2.2.2.1+1)),())))),()))
    else some (.inl (0,((s0.1.1,(s0.1.2.1,(s0.1.2.2.1,(s0.1.2.2.2.1,())))),())))) zL (((0,0),((0,0),(0,(0,())))),())) fun x5=>
   bif Nat.beq x5.1 0 then opt (yl (x5.2.1.2.1,())) fun x6=>
    bif !x6.1 then some ((0,0),(6,()))
    else some (x5.2.1.2.1,(0,()))
   else some (x5.2.1.1,(x5.2.1.2.2.1,()))
abbrev zc6:Type:=((List qI)×Unit)→Option (qI×Int×Unit)
def zpS:Ww→zc6:=fun yl=>sF Tryz.prog [(110,⟨zee,zef,yl⟩)] zzQ (zR []) 30 77 zpQ zpR
theorem zAS (yl) (a0):zpS yl (a0,())=zh8 yl a0:=by kernel_rfl
def UP:zc6:=zpS Ze
theorem zvf (a0):UP (a0,())=zh8 Ze a0:=zAS Ze a0
abbrev zk7:List VT:=[⟨true,xK⟩]
abbrev zk8:List VT:=[⟨false,.bool⟩]
def zvg:zV:=zS [cdF xK] [] [] [] []
def zeh (a0:ya):Option (Bool×Unit):=
 bif !(zh a0.1 1) then bif !(zh 2097152 a0.1) then bif !(zh a0.2 0) then some ((!(zh 268435456 a0.2)),())
   else some (false,())
  else some (false,())
 else some (false,())
abbrev Gt:Type:=(ya×Unit)→Option (Bool×Unit)
def zk9:Gt:=sF Tryz.prog [] zvg (zR []) 30 111 zk7 zk8
theorem zxp (a0):zk9 (a0,())=zeh a0:=by kernel_rfl
def Vw:Gt:=zk9
theorem zrg (a0):Vw (a0,())=zeh  a0:=zxp  a0
abbrev znA:List VT:=[⟨false,(.list zm)⟩,⟨false,I⟩]
abbrev znB:List VT:=[⟨false,.bool⟩]
def zxq:zV:=zS [cdF zm] [] [] [] []
def zgm (a0:(List qI)) (a1:Int):Option (Bool×Unit):=
 opt (zz (fun s0:((Bool×(Int×Unit))×Unit)=>
  bif (zh s0.1.2.1 ((a0.length:Nat):Int)) then opt (atI a0 s0.1.2.1) fun x1=>
   bif !(zh a1 x1.2) then some (.inl (1,((true,(s0.1.2.1,())),())))
   else some (.inr ((s0.1.1,((wrF .i64 (s0.1.2.1+1)),())),()))
  else some (.inl (0,((s0.1.1,(s0.1.2.1,())),())))) zL ((false,(0,())),())) fun x2=>
 bif Nat.beq x2.1 0 then some (false,())
 else some (x2.2.1.1,())
abbrev zbw:Type:=((List qI)×Int×Unit)→Option (Bool×Unit)
def znC:zbw:=sF Tryz.prog [] zxq (zR []) 30 112 znA znB
theorem zzR (a0) (a1):znC (a0,a1,())=zgm a0 a1:=by kernel_rfl
def KJ:zbw:=znC
theorem ztl (a0) (a1):KJ (a0,a1,())=zgm  a0 a1:=zzR  a0 a1
abbrev zgn:List VT:=[⟨false,I⟩,⟨false,I⟩]
abbrev zgo:List VT:=[⟨false,I⟩]
def zxr:zV:=zS [] [] [] [] []
def zgp (a0:Int) (a1:Int):Option (Int×Unit):=
 bif zi a1 0 then none
 else opt (bif (zh (wrF .i64 ((wrF .i64 (Int.tdiv a0 a1))*a1)) a0) then some (0,(((wrF .i64 ((wrF .i64 (Int.tdiv a0 a1))+1)),()),()))
   else some (0,(((wrF .i64 (Int.tdiv a0 a1)),()),()))) fun x0=>
  some (x0.2.1.1,())
abbrev Xk:Type:=(Int×Int×Unit)→Option (Int×Unit)
def znD:Xk:=sF Tryz.prog [] zxr (zR []) 30 114 zgn zgo
theorem zzS (a0) (a1):znD (a0,a1,())=zgp a0 a1:=by kernel_rfl
def ZY:Xk:=znD
theorem ztm (a0) (a1):ZY (a0,a1,())=zgp  a0 a1:=zzS  a0 a1
abbrev zgq:List VT:=[⟨false,(.list zm)⟩,⟨false,I⟩]
abbrev zgr:List VT:=[⟨false,I⟩]
def zpc:zV:=zS [cdF zm] [] [] [] [114]
def GZ (xf:Xk) (a0:(List qI)) (a1:Int):Option (Int×Unit):=
 opt (zz (fun s0:((Int×(Int×Unit))×Unit)=>
  bif (zh s0.1.2.1 ((a0.length:Nat):Int)) then opt (atI a0 s0.1.2.1) fun x1=>
   bif zh a1 x1.2 then some (.inr ((s0.1.1,((wrF .i64 (s0.1.2.1+1)),())),()))
   else opt (xf ((wrF .i64 (x1.1*1048576)),(a1,()))) fun x2=>
    opt (bif zh s0.1.1 0 then some (0,((x2.1,()),()))
     else bif zh x2.1 s0.1.1 then some (0,((x2.1,()),()))
      else some (0,((s0.1.1,()),()))) fun x3=>
    opt (zz (fun s4:((Int×(Int×Unit))×Unit)=>
     bif (zh s4.1.2.1 ((a0.length:Nat):Int)) then opt (atI a0 s4.1.2.1) fun x5=>
      opt (bif zh a1 x5.2 then bif zh x5.1 x1.1 then opt (xf ((wrF .i64 ((wrF .i64 ((wrF .i64 ((wrF .i64 (x5.2 - a1))*x1.1))+(wrF .i64 ((wrF .i64 (a1 - x1.2))*x5.1))))*1048576)),((wrF .i64 (a1*(wrF .i64 (x5.2 - x1.2)))),()))) fun x6=>
         some (0,(((jQ s4.1.1 x6.1),()),()))
        else some (0,((s4.1.1,()),()))
       else some (0,((s4.1.1,()),()))) fun x7=>
      some (.inr ((x7.2.1.1,((wrF .i64 (s4.1.2.1+1)),())),()))
     else some (.inl (0,((s4.1.1,(s4.1.2.1,())),())))) zL ((x3.2.1.1,(0,())),())) fun x8=>
    some (.inr ((x8.2.1.1,((wrF .i64 (s0.1.2.1+1)),())),()))
  else some (.inl (0,((s0.1.1,(s0.1.2.1,())),())))) zL (((-1),(0,())),())) fun x9=>
 some (x9.2.1.1,())
abbrev Vf:Type:=((List qI)×Int×Unit)→Option (Int×Unit)
def zgs:Xk→Vf:=fun xf=>sF Tryz.prog [(114,⟨zgn,zgo,xf⟩)] zpc (zR []) 30 113 zgq zgr
theorem zrh (xf) (a0) (a1):zgs xf (a0,a1,())=GZ xf a0 a1:=by kernel_rfl
def JE:Vf:=zgs ZY
theorem zlR (a0) (a1):JE (a0,a1,())=GZ ZY a0 a1:=zrh ZY a0 a1
abbrev zei:List VT:=[⟨false,(.list zm)⟩,⟨true,xK⟩]
abbrev zej:List VT:=[⟨false,I⟩,⟨false,I⟩]
def zvh:zV:=zS [cdF xK] [] [] [] [110,111,112,113]
def zek (yl:Ww) (WH:Gt) (XF:zbw) (ZL:Vf) (a0:(List qI)) (a1:ya):Option (Int×Int×Unit):=
 bif (zi ((a0.length:Nat):Int) 0) then some (0,(2,()))
 else bif (zh 12 ((a0.length:Nat):Int)) then some (0,(3,()))
  else opt (zz (fun s0:((Int×(Int×(Int×Unit)))×Unit)=>
    bif (zh s0.1.2.2.1 ((a0.length:Nat):Int)) then opt (atI a0 s0.1.2.2.1) fun x1=>
     opt (yl (x1,())) fun x2=>
     bif !x2.1 then some (.inl (1,((0,(130,(s0.1.2.2.1,()))),())))
     else some (.inr ((s0.1.1,(s0.1.2.1,((wrF .i64 (s0.1.2.2.1+1)),()))),()))
    else some (.inl (0,((s0.1.1,(s0.1.2.1,(s0.1.2.2.1,()))),())))) zL ((0,(0,(0,()))),())) fun x3=>
   bif Nat.beq x3.1 0 then opt (WH (a1,())) fun x4=>
    bif !x4.1 then some (0,(140,()))
    else opt (XF (a0,(a1.1,()))) fun x5=>
     bif !x5.1 then some (0,(141,()))
     else opt (ZL (a0,(a1.1,()))) fun x6=>
      some ((wrF .i64 (a1.2+x6.1)),(0,()))
   else some (x3.2.1.1,(x3.2.1.2.1,()))
abbrev Wx:Type:=((List qI)×ya×Unit)→Option (Int×Int×Unit)
def zla:Ww→Gt→zbw→Vf→Wx:=fun yl WH XF ZL=>sF Tryz.prog [(110,⟨zee,zef,yl⟩),(111,⟨zk7,zk8,WH⟩),(112,⟨znA,znB,XF⟩),(113,⟨zgq,zgr,ZL⟩)] zvh (zR []) 30 78 zei zej
theorem zxs (yl) (WH) (XF) (ZL) (a0) (a1):zla yl WH XF ZL (a0,a1,())=zek yl WH XF ZL a0 a1:=by kernel_rfl
def Zf:Wx:=zla Ze Vw KJ JE
theorem zri (a0) (a1):Zf (a0,a1,())=zek Ze Vw KJ JE a0 a1:=zxs Ze Vw KJ JE a0 a1
abbrev zhn:List VT:=[⟨true,zm⟩,⟨true,xK⟩]
abbrev zho:List VT:=[⟨false,I⟩,⟨false,I⟩]
def zrj:zV:=zS [cdF zm] [] [] [] [78,114]
def zbx (yQ:Wx) (xf:Xk) (a0:qI) (a1:ya):Option (Int×Int×Unit):=
 opt (yQ ((a0::[]),(a1,()))) fun x0=>
 bif !(zi x0.2.1 0) then some (0,(x0.2.1,()))
 else opt (xf ((wrF .i64 (a0.2*a1.2)),(1048576,()))) fun x1=>
  some ((wrF .i64 (a0.1+x1.1)),(0,()))
abbrev Kd:Type:=(qI×ya×Unit)→Option (Int×Int×Unit)
def zhp:Wx→Xk→Kd:=fun yQ xf=>sF Tryz.prog [(78,⟨zei,zej,yQ⟩),(114,⟨zgn,zgo,xf⟩)] zrj (zR []) 30 79 zhn zho
theorem ztn (yQ) (xf) (a0) (a1):zhp yQ xf (a0,a1,())=zbx yQ xf a0 a1:=by kernel_rfl
def Yc:Kd:=zhp Zf ZY
theorem znE (a0) (a1):Yc (a0,a1,())=zbx Zf ZY a0 a1:=ztn Zf ZY a0 a1
abbrev zh9:List VT:=[⟨true,qz⟩,⟨false,(.list zv)⟩,⟨false,I⟩]
abbrev zia:List VT:=[⟨true,gf⟩,⟨false,I⟩]
def zzT:zV:=zS [cdF qz,cdF zv,cdF gf,cdF zw,cdF zP,cdF zQ,cdF qg] [] [⟨3,87,some 8,zm,true⟩,⟨5,87,some 8,zm,true⟩,⟨7,87,some 8,zm,true⟩,⟨10,87,some 8,zm,true⟩,⟨13,87,some 8,zm,true⟩,⟨16,87,some 8,zm,true⟩] [] [27,76,75,77,78,79]
def zib (xF:Xj) (VJ:zc3) (Uu:ze8) (VK:zc6) (yQ:Wx) (Qq:Kd) (a0:qC) (a1:(List zO)) (a2:Int):Option (zaU×Int×Unit):=
 opt (zz (fun s0:((Int×Unit)×((List (Int×Int))×Unit))=>
  bif (zh s0.1.1 ((a1.length:Nat):Int)) then opt (opt (atI a1 s0.1.1) fun x1=>
    opt (xF (x1,(a2,()))) fun x2=>
    bif x2.1 then opt (atI a1 s0.1.1) fun x3=>
     bif (jb s0.2.1.length ((x3.2.2.2.2.2.2.1::[]).length) 16) then some (0,((),((s0.2.1++(x3.2.2.2.2.2.2.1::[])),())))
     else none
    else some (0,((),(s0.2.1,())))) fun x4=>
   some (.inr (((wrF .i64 (s0.1.1+1)),()),(x4.2.2.1,())))
  else some (.inl (0,((s0.1.1,()),(s0.2.1,()))))) zL ((0,()),([],()))) fun x5=>
 bif (zi ((x5.2.2.1.length:Nat):Int) 0) then some (((0,0),((0,0),(0,0))),(4,()))
 else opt (atI a0.2.2.1 a2) fun x6=>
  opt (VJ (a0.1,(a2,()))) fun x7=>
  opt (Uu (x6,(x7.1,(a0.2.2.2,())))) fun x8=>
  bif !(zi x8.2.1 0) then some (((0,0),((0,0),(0,0))),(411,()))
  else opt (VK (x5.2.2.1,())) fun x9=>
   bif !(zi x9.2.1 0) then some (((0,0),((0,0),(0,0))),(6,()))
   else opt (yQ ((x9.1::[]),(x8.1,()))) fun x10=>
    bif !(zi x10.2.1 0) then some (((0,0),((0,0),(0,0))),(141,()))
    else opt (Qq (x9.1,(x8.1,()))) fun x11=>
     some ((x9.1,(x8.1,(x10.1,x11.1))),(0,()))
abbrev VG:Type:=(qC×(List zO)×Int×Unit)→Option (zaU×Int×Unit)
def zpT:Xj→zc3→ze8→zc6→Wx→Kd→VG:=fun xF VJ Uu VK yQ Qq=>sF Tryz.prog [(27,⟨Xh,Xi,xF⟩),(76,⟨zpL,zpM,VJ⟩),(75,⟨zti,ztj,Uu⟩),(77,⟨zpQ,zpR,VK⟩),(78,⟨zei,zej,yQ⟩),(79,⟨zhn,zho,Qq⟩)] zzT (zR []) 30 46 zh9 zia
theorem zAT (xF) (VJ) (Uu) (VK) (yQ) (Qq) (a0) (a1) (a2):zpT xF VJ Uu VK yQ Qq (a0,a1,a2,())=zib xF VJ Uu VK yQ Qq a0 a1 a2:=by kernel_rfl
def QU:VG:=zpT xB UO Yb UP Zf Yc
theorem zvi (a0) (a1) (a2):QU (a0,a1,a2,())=zib xB UO Yb UP Zf Yc a0 a1 a2:=zAT xB UO Yb UP Zf Yc a0 a1 a2
abbrev kY:List VT:=[⟨false,(.list zv)⟩,⟨false,I⟩]
abbrev kZ:List VT:=[⟨false,I⟩,⟨false,I⟩]
def zto:zV:=zS [cdF zv,cdF zm] [] [] [] []
def zcM (a0:(List zO)) (a1:Int):Option (Int×Int×Unit):=
 opt (zz (fun s0:((Int×(Int×(Int×Unit)))×Unit)=>
  bif (zh s0.1.2.2.1 ((a0.length:Nat):Int)) then opt (atI a0 s0.1.2.2.1) fun x1=>
   bif zi x1.1 a1 then some (.inl (1,((s0.1.2.2.1,(0,(s0.1.2.2.1,()))),())))
   else some (.inr ((s0.1.1,(s0.1.2.1,((wrF .i64 (s0.1.2.2.1+1)),()))),()))
  else some (.inl (0,((s0.1.1,(s0.1.2.1,(s0.1.2.2.1,()))),())))) zL ((0,(0,(0,()))),())) fun x2=>
 bif Nat.beq x2.1 0 then some (0,(4,()))
 else some (x2.2.1.1,(x2.2.1.2.1,()))
abbrev QX:Type:=((List zO)×Int×Unit)→Option (Int×Int×Unit)
def ziY:QX:=sF Tryz.prog [] zto (zR []) 30 47 kY kZ
theorem zvj (a0) (a1):ziY (a0,a1,())=zcM a0 a1:=by kernel_rfl
def xD:QX:=ziY
theorem zeF:Con.Ok Tryz.prog 47 ⟨kY,kZ,xD⟩:=zC zo zr (by kernel_rfl)
theorem zeG (a0) (a1):xD (a0,a1,())=zcM  a0 a1:=zvj  a0 a1
abbrev kO:List VT:=[⟨true,Uf⟩]
abbrev kP:List VT:=[⟨false,I⟩]
def zpd:zV:=zS [cdF Uf,cdF zP] [] [] [] []
def zaa (a0:zhf):Option (Int×Unit):=
 some (a0.1.2.2.2,())
abbrev Vg:Type:=(zhf×Unit)→Option (Int×Unit)
def zgt:Vg:=sF Tryz.prog [] zpd (zR []) 30 116 kO kP
theorem zrk (a0):zgt (a0,())=zaa a0:=by kernel_rfl
def JF:Vg:=zgt
theorem zlS:Con.Ok Tryz.prog 116 ⟨kO,kP,JF⟩:=zC zo zr (by kernel_rfl)
theorem zlT (a0):JF (a0,())=zaa  a0:=zrk  a0
abbrev gH:List VT:=[⟨true,zw⟩,⟨false,I⟩]
abbrev gI:List VT:=[⟨false,I⟩,⟨false,I⟩]
def zxt:zV:=zS [cdF zw,cdF Uf,cdF zP] [] [] [] [37,116]
def zgu (zZ:yT) (ZM:Vg) (a0:zN) (a1:Int):Option (Int×Int×Unit):=
 opt (zZ (a0,())) fun x0=>
 bif !(zi x0.1 0) then some (0,(x0.1,()))
 else opt (bif zh a1 0 then some (1,((0,(2,())),()))
   else bif (!(zh a1 (wrF .i64 (2*((a0.2.2.length:Nat):Int))))) then some (1,((0,(2,())),()))
    else some (0,((0,(0,())),()))) fun x1=>
  bif Nat.beq x1.1 0 then opt (atI a0.2.2 (wrF .i64 (Int.tdiv a1 2))) fun x2=>
   opt (ZM ((x2,a1),())) fun x3=>
   some (x3.1,(0,()))
  else some (x1.2.1.1,(x1.2.1.2.1,()))
abbrev Xl:Type:=(zN×Int×Unit)→Option (Int×Int×Unit)
def znF:yT→Vg→Xl:=fun zZ ZM=>sF Tryz.prog [(37,⟨jF,jG,zZ⟩),(116,⟨kO,kP,ZM⟩)] zxt (zR []) 30 80 gH gI
theorem zzU (zZ) (ZM) (a0) (a1):znF zZ ZM (a0,a1,())=zgu zZ ZM a0 a1:=by kernel_rfl
def uX:Xl:=znF jm JF
theorem zhq:Con.Ok Tryz.prog 80 ⟨gH,gI,uX⟩:=zC (ze Ql (ze zlS zo)) zr (by kernel_rfl)
theorem ztp (a0) (a1):uX (a0,a1,())=zgu jm JF a0 a1:=zzU jm JF a0 a1
abbrev uY:List VT:=[⟨true,qz⟩,⟨false,(.list zv)⟩,⟨false,I⟩,⟨false,I⟩]
abbrev uZ:List VT:=[⟨false,I⟩,⟨false,I⟩]
def zxu:zV:=zS [cdF qz,cdF zv,cdF zcC,cdF gf,cdF zw,cdF zP,cdF zQ,cdF qg] [] [⟨8,44,some 4,.unit,true⟩,⟨10,44,some 4,.unit,true⟩,⟨5,98,none,zm,true⟩,⟨8,98,none,zm,true⟩,⟨12,98,none,zm,true⟩,⟨15,98,none,zm,true⟩,⟨18,98,none,zm,true⟩,⟨21,98,none,zm,true⟩,⟨5,98,some 6,zm,false⟩,⟨8,98,some 6,zm,false⟩,⟨12,98,some 6,zm,false⟩,⟨15,98,some 6,zm,false⟩,⟨18,98,some 6,zm,false⟩,⟨21,98,some 6,zm,false⟩,⟨2,55,none,zm,true⟩,⟨5,55,none,zm,true⟩,⟨7,55,none,zm,true⟩,⟨2,44,none,zm,true⟩,⟨5,44,none,zm,true⟩,⟨8,44,none,zm,true⟩,⟨10,44,none,zm,true⟩,⟨3,55,none,zm,true⟩,⟨6,55,none,zm,true⟩,⟨9,55,none,zm,true⟩,⟨2,37,none,zm,true⟩,⟨1,28,none,zm,true⟩,⟨4,28,none,zm,true⟩,⟨2,19,none,zm,true⟩,⟨4,19,none,zm,true⟩] [] [13,72,47,136,100,101,102,103,104,80]
def zgv (qq:xl) (qF:vu) (jL:QX) (zJ:jc) (jt:WZ) (qR:ZV) (qS:ZW) (qL:Zd) (qu:uN) (xG:Xl) (a0:qC) (a1:(List zO)) (a2:Int) (a3:Int):Option (Int×Int×Unit):=
 opt (qq (a0,())) fun x0=>
 bif !(zi x0.1 0) then bif !(zi x0.1 0) then some (0,(x0.1,()))
  else opt (jL (a1,(a2,()))) fun x1=>
   bif !(zi x1.2.1 0) then some (0,(x1.2.1,()))
   else opt (bif zh a3 0 then some (1,((0,(2,())),()))
     else opt (atI a1 x1.1) fun x2=>
      bif (!(zh a3 ((x2.2.2.2.2.2.2.2.2.length:Nat):Int))) then some (1,((0,(2,())),()))
      else some (0,((0,(0,())),()))) fun x3=>
    bif Nat.beq x3.1 0 then opt (atI a1 x1.1) fun x4=>
     opt (atI x4.2.2.2.2.2.2.2.2 a3) fun x5=>
     opt (zz (fun s6:((Int×(Int×(Int×(Int×Unit))))×Unit)=>
      bif (zh s6.1.2.2.2.1 ((x5.length:Nat):Int)) then opt (atI x5 s6.1.2.2.2.1) fun x7=>
       none
      else some (.inl (0,((s6.1.1,(s6.1.2.1,(s6.1.2.2.1,(s6.1.2.2.2.1,())))),())))) zL ((0,(0,(0,(0,())))),())) fun x8=>
     bif Nat.beq x8.1 0 then some (x8.2.1.2.2.1,(0,()))
     else some (x8.2.1.1,(x8.2.1.2.1,()))
    else some (x3.2.1.1,(x3.2.1.2.1,()))
 else opt (qF (a0.1,(a1,()))) fun x9=>
  bif !(zi x9.1 0) then bif !(zi x9.1 0) then some (0,(x9.1,()))
   else opt (jL (a1,(a2,()))) fun x10=>
    bif !(zi x10.2.1 0) then some (0,(x10.2.1,()))
    else opt (bif zh a3 0 then some (1,((0,(2,())),()))
      else opt (atI a1 x10.1) fun x11=>
       bif (!(zh a3 ((x11.2.2.2.2.2.2.2.2.length:Nat):Int))) then some (1,((0,(2,())),()))
       else some (0,((0,(0,())),()))) fun x12=>
     bif Nat.beq x12.1 0 then opt (atI a1 x10.1) fun x13=>
      opt (atI x13.2.2.2.2.2.2.2.2 a3) fun x14=>
      opt (zz (fun s15:((Int×(Int×(Int×(Int×Unit))))×Unit)=>
       bif (zh s15.1.2.2.2.1 ((x14.length:Nat):Int)) then opt (atI x14 s15.1.2.2.2.1) fun x16=>
        none
       else some (.inl (0,((s15.1.1,(s15.1.2.1,(s15.1.2.2.1,(s15.1.2.2.2.1,())))),())))) zL ((0,(0,(0,(0,())))),())) fun x17=>
      bif Nat.beq x17.1 0 then some (x17.2.1.2.2.1,(0,()))
      else some (x17.2.1.1,(x17.2.1.2.1,()))
     else some (x12.2.1.1,(x12.2.1.2.1,()))
  else opt (zz (fun s18:((Unit×(Int×(Int×Unit)))×Unit)=>
    bif (zh s18.1.2.2.1 ((a1.length:Nat):Int)) then opt (atI a1 s18.1.2.2.1) fun x19=>
     opt (bif !(zi x19.2.2.2.1 6) then some (1,(((),(2,())),()))
      else bif zh a0.2.2.2 x19.2.2.2.2.1 then some (1,(((),(2,())),()))
       else some (0,(((),(s18.1.2.1,())),()))) fun x20=>
     bif Nat.beq x20.1 0 then some (.inr (((),(x20.2.1.2.1,((wrF .i64 (s18.1.2.2.1+1)),()))),()))
     else some (.inl (1,(((),(x20.2.1.2.1,(s18.1.2.2.1,()))),())))
    else some (.inl (0,(((),(s18.1.2.1,(s18.1.2.2.1,()))),())))) zL (((),(0,(0,()))),())) fun x21=>
   bif Nat.beq x21.1 0 then opt (jL (a1,(a2,()))) fun x22=>
    bif !(zi x22.2.1 0) then some (0,(x22.2.1,()))
    else opt (bif zh a3 0 then some (1,((0,(2,())),()))
      else opt (atI a1 x22.1) fun x23=>
       bif (!(zh a3 ((x23.2.2.2.2.2.2.2.2.length:Nat):Int))) then some (1,((0,(2,())),()))
       else some (0,((0,(0,())),()))) fun x24=>
     bif Nat.beq x24.1 0 then opt (atI a1 x22.1) fun x25=>
      opt (atI x25.2.2.2.2.2.2.2.2 a3) fun x26=>
      opt (zz (fun s27:((Int×(Int×(Int×(Int×Unit))))×((List (Int×(((Int×Int)×((Int×Int)×(Int×Int)))×Int)))×Unit))=>
       bif (zh s27.1.2.2.2.1 ((x26.length:Nat):Int)) then opt (atI x26 s27.1.2.2.2.1) fun x28=>
        opt (bif (!(mpH (α:=(((Int×Int)×((Int×Int)×(Int×Int)))×Int)) s27.2.1 x28)) then opt (zz (fun s29:((Int×Unit)×(((List (Int×Int))×Unit)×(Unit×(Unit×Unit))))=>
           bif (zh s29.1.1 ((a1.length:Nat):Int)) then opt (atI a1 s29.1.1) fun x30=>
            opt (zz (fun s31:((Int×(Int×Unit))×(((List (Int×Int))×Unit)×(Unit×(Unit×Unit))))=>
             bif (zh s31.1.2.1 ((x30.2.2.2.2.2.2.2.2.length:Nat):Int)) then opt (atI x30.2.2.2.2.2.2.2.2 s31.1.2.1) fun x32=>
              opt (zJ (x32,(x28,()))) fun x33=>
              bif x33.1 then some (.inl (1,((s31.1.2.1,(s31.1.2.1,())),((s31.2.1.1,()),((),((),()))))))
              else some (.inr ((s31.1.1,((wrF .i64 (s31.1.2.1+1)),())),((s31.2.1.1,()),((),((),())))))
             else some (.inl (0,((s31.1.1,(s31.1.2.1,())),((s31.2.1.1,()),((),((),()))))))) zL ((0,(0,())),((s29.2.1.1,()),((),((),()))))) fun x34=>
            bif Nat.beq x34.1 0 then some (.inr (((wrF .i64 (s29.1.1+1)),()),((x34.2.2.1.1,()),((),((),())))))
            else bif !(zh x34.2.1.1 0) then bif (jb x34.2.2.1.1.length ((x30.2.2.2.2.2.2.1::[]).length) 16) then some (.inr (((wrF .i64 (s29.1.1+1)),()),(((x34.2.2.1.1++(x30.2.2.2.2.2.2.1::[])),()),((),((),())))))
              else none
             else some (.inr (((wrF .i64 (s29.1.1+1)),()),((x34.2.2.1.1,()),((),((),())))))
           else some (.inl (0,((s29.1.1,()),((s29.2.1.1,()),((),((),()))))))) zL ((0,()),(([],()),((),((),()))))) fun x35=>
          bif Nat.beq x35.1 0 then bif (zi ((x35.2.2.1.1.length:Nat):Int) 0) then some (0,(((((0,0),((0,0),(0,0))),4),()),((mpP (α:=(((Int×Int)×((Int×Int)×(Int×Int)))×Int)) s27.2.1 x28 (((0,0),((0,0),(0,0))),4)),())))
           else opt (jt (a0.1,(x28,()))) fun x36=>
            bif !(zi x36.2.1 0) then some (0,(((((0,0),((0,0),(0,0))),x36.2.1),()),((mpP (α:=(((Int×Int)×((Int×Int)×(Int×Int)))×Int)) s27.2.1 x28 (((0,0),((0,0),(0,0))),x36.2.1)),())))
            else opt (atI a0.2.2.1 x28) fun x37=>
             opt (qR (x37,(x36.1,(a0.2.2.2,())))) fun x38=>
             bif !(zi x38.2.1 0) then some (0,(((((0,0),((0,0),(0,0))),411),()),((mpP (α:=(((Int×Int)×((Int×Int)×(Int×Int)))×Int)) s27.2.1 x28 (((0,0),((0,0),(0,0))),411)),())))
             else opt (qS (x35.2.2.1.1,())) fun x39=>
              bif !(zi x39.2.1 0) then some (0,(((((0,0),((0,0),(0,0))),x39.2.1),()),((mpP (α:=(((Int×Int)×((Int×Int)×(Int×Int)))×Int)) s27.2.1 x28 (((0,0),((0,0),(0,0))),x39.2.1)),())))
              else opt (qL ((x39.1::[]),(x38.1,()))) fun x40=>
               bif !(zi x40.2.1 0) then some (0,(((((0,0),((0,0),(0,0))),x40.2.1),()),((mpP (α:=(((Int×Int)×((Int×Int)×(Int×Int)))×Int)) s27.2.1 x28 (((0,0),((0,0),(0,0))),x40.2.1)),())))
               else opt (qu (x39.1,(x38.1,()))) fun x41=>
                bif !(zi x41.2.1 0) then some (0,(((((0,0),((0,0),(0,0))),x41.2.1),()),((mpP (α:=(((Int×Int)×((Int×Int)×(Int×Int)))×Int)) s27.2.1 x28 (((0,0),((0,0),(0,0))),x41.2.1)),())))
                else some (0,((((x39.1,(x38.1,(x40.1,x41.1))),0),()),((mpP (α:=(((Int×Int)×((Int×Int)×(Int×Int)))×Int)) s27.2.1 x28 ((x39.1,(x38.1,(x40.1,x41.1))),0)),())))
          else bif (zi ((x35.2.2.1.1.length:Nat):Int) 0) then some (0,(((((0,0),((0,0),(0,0))),4),()),((mpP (α:=(((Int×Int)×((Int×Int)×(Int×Int)))×Int)) s27.2.1 x28 (((0,0),((0,0),(0,0))),4)),())))
           else opt (jt (a0.1,(x28,()))) fun x42=>
            bif !(zi x42.2.1 0) then some (0,(((((0,0),((0,0),(0,0))),x42.2.1),()),((mpP (α:=(((Int×Int)×((Int×Int)×(Int×Int)))×Int)) s27.2.1 x28 (((0,0),((0,0),(0,0))),x42.2.1)),())))
            else opt (atI a0.2.2.1 x28) fun x43=>
             opt (qR (x43,(x42.1,(a0.2.2.2,())))) fun x44=>
             bif !(zi x44.2.1 0) then some (0,(((((0,0),((0,0),(0,0))),411),()),((mpP (α:=(((Int×Int)×((Int×Int)×(Int×Int)))×Int)) s27.2.1 x28 (((0,0),((0,0),(0,0))),411)),())))
             else opt (qS (x35.2.2.1.1,())) fun x45=>
              bif !(zi x45.2.1 0) then some (0,(((((0,0),((0,0),(0,0))),x45.2.1),()),((mpP (α:=(((Int×Int)×((Int×Int)×(Int×Int)))×Int)) s27.2.1 x28 (((0,0),((0,0),(0,0))),x45.2.1)),())))
              else opt (qL ((x45.1::[]),(x44.1,()))) fun x46=>
               bif !(zi x46.2.1 0) then some (0,(((((0,0),((0,0),(0,0))),x46.2.1),()),((mpP (α:=(((Int×Int)×((Int×Int)×(Int×Int)))×Int)) s27.2.1 x28 (((0,0),((0,0),(0,0))),x46.2.1)),())))
               else opt (qu (x45.1,(x44.1,()))) fun x47=>
                bif !(zi x47.2.1 0) then some (0,(((((0,0),((0,0),(0,0))),x47.2.1),()),((mpP (α:=(((Int×Int)×((Int×Int)×(Int×Int)))×Int)) s27.2.1 x28 (((0,0),((0,0),(0,0))),x47.2.1)),())))
                else some (0,((((x45.1,(x44.1,(x46.1,x47.1))),0),()),((mpP (α:=(((Int×Int)×((Int×Int)×(Int×Int)))×Int)) s27.2.1 x28 ((x45.1,(x44.1,(x46.1,x47.1))),0)),())))
         else some (0,(((mpD (α:=(((Int×Int)×((Int×Int)×(Int×Int)))×Int)) s27.2.1 x28 (((0,0),((0,0),(0,0))),0)),()),(s27.2.1,())))) fun x48=>
        bif !(zi x48.2.1.1.2 0) then some (.inl (1,((0,(x48.2.1.1.2,(s27.1.2.2.1,(s27.1.2.2.2.1,())))),(x48.2.2.1,()))))
        else opt (xG (a0.1,(x28,()))) fun x49=>
         bif !(zi x49.2.1 0) then some (.inl (1,((0,(x49.2.1,(s27.1.2.2.1,(s27.1.2.2.2.1,())))),(x48.2.2.1,()))))
         else some (.inr ((s27.1.1,(s27.1.2.1,((wrF .i64 (s27.1.2.2.1+(wrF .i64 ((wrF .i64 (x48.2.1.1.1.2.2.1+x49.1))+a0.2.1.2.2.1)))),((wrF .i64 (s27.1.2.2.2.1+1)),())))),(x48.2.2.1,())))
       else some (.inl (0,((s27.1.1,(s27.1.2.1,(s27.1.2.2.1,(s27.1.2.2.2.1,())))),(s27.2.1,()))))) zL ((0,(0,(0,(0,())))),([],()))) fun x50=>
      bif Nat.beq x50.1 0 then some (x50.2.1.2.2.1,(0,()))
      else some (x50.2.1.1,(x50.2.1.2.1,()))
     else some (x24.2.1.1,(x24.2.1.2.1,()))
   else bif !(zi x21.2.1.2.1 0) then some (0,(x21.2.1.2.1,()))
    else opt (jL (a1,(a2,()))) fun x51=>
     bif !(zi x51.2.1 0) then some (0,(x51.2.1,()))
     else opt (bif zh a3 0 then some (1,((0,(2,())),()))
       else opt (atI a1 x51.1) fun x52=>
        bif (!(zh a3 ((x52.2.2.2.2.2.2.2.2.length:Nat):Int))) then some (1,((0,(2,())),()))
        else some (0,((0,(0,())),()))) fun x53=>
      bif Nat.beq x53.1 0 then opt (atI a1 x51.1) fun x54=>
       opt (atI x54.2.2.2.2.2.2.2.2 a3) fun x55=>
       opt (zz (fun s56:((Int×(Int×(Int×(Int×Unit))))×Unit)=>
        bif (zh s56.1.2.2.2.1 ((x55.length:Nat):Int)) then opt (atI x55 s56.1.2.2.2.1) fun x57=>
         none
        else some (.inl (0,((s56.1.1,(s56.1.2.1,(s56.1.2.2.1,(s56.1.2.2.2.1,())))),())))) zL ((0,(0,(0,(0,())))),())) fun x58=>
       bif Nat.beq x58.1 0 then some (x58.2.1.2.2.1,(0,()))
       else some (x58.2.1.1,(x58.2.1.2.1,()))
      else some (x53.2.1.1,(x53.2.1.2.1,()))
abbrev zgw:Type:=(qC×(List zO)×Int×Int×Unit)→Option (Int×Int×Unit)
def znG:xl→vu→QX→jc→WZ→ZV→ZW→Zd→uN→Xl→zgw:=fun qq qF jL zJ jt qR qS qL qu xG=>sF Tryz.prog [(13,⟨jj,jk,qq⟩),(72,⟨wU,wW,qF⟩),(47,⟨kY,kZ,jL⟩),(136,⟨qA,qB,zJ⟩),(100,⟨gv,gw,jt⟩),(101,⟨xz,xA,qR⟩),(102,⟨vS,vT,qS⟩),(103,⟨vf,vg,qL⟩),(104,⟨xb,xc,qu⟩),(80,⟨gH,gI,xG⟩)] zxu (zR []) 30 17 uY uZ
theorem zzV (qq) (qF) (jL) (zJ) (jt) (qR) (qS) (qL) (qu) (xG) (a0) (a1) (a2) (a3):znG qq qF jL zJ jt qR qS qL qu xG (a0,a1,a2,a3,())=zgv qq qF jL zJ jt qR qS qL qu xG a0 a1 a2 a3:=by kernel_rfl
def JG:zgw:=znG jB wm xD qd xa jH wD jM jg uX
theorem ztq:Con.Ok Tryz.prog 17 ⟨uY,uZ,JG⟩:=zC (ze Yo (ze Va (ze zeF (ze uv (ze zd2 (ze zbo (ze zbq (ze GU (ze KH (ze zhq zo)))))))))) zr (by kernel_rfl)
theorem ztr (a0) (a1) (a2) (a3):JG (a0,a1,a2,a3,())=zgv jB wm xD qd xa jH wD jM jg uX a0 a1 a2 a3:=zzV jB wm xD qd xa jH wD jM jg uX a0 a1 a2 a3
abbrev zlb:List VT:=[⟨false,(.list zv)⟩,⟨false,I⟩]
abbrev zlc:List VT:=[⟨false,I⟩,⟨false,I⟩]
def zvk:zV:=zS [cdF zv,cdF zm] [] [] [] []
def zld (a0:(List zO)) (a1:Int):Option (Int×Int×Unit):=
 opt (zz (fun s0:((Int×(Int×(Int×Unit)))×Unit)=>
  bif (zh s0.1.2.2.1 ((a0.length:Nat):Int)) then opt (atI a0 s0.1.2.2.1) fun x1=>
   bif zi x1.1 a1 then some (.inl (1,((s0.1.2.2.1,(0,(s0.1.2.2.1,()))),())))
   else some (.inr ((s0.1.1,(s0.1.2.1,((wrF .i64 (s0.1.2.2.1+1)),()))),()))
  else some (.inl (0,((s0.1.1,(s0.1.2.1,(s0.1.2.2.1,()))),())))) zL ((0,(0,(0,()))),())) fun x2=>
 bif Nat.beq x2.1 0 then some (0,(4,()))
 else some (x2.2.1.1,(x2.2.1.2.1,()))
abbrev Gu:Type:=((List zO)×Int×Unit)→Option (Int×Int×Unit)
def zle:Gu:=sF Tryz.prog [] zvk (zR []) 30 49 zlb zlc
theorem zxv (a0) (a1):zle (a0,a1,())=zld a0 a1:=by kernel_rfl
def QH:Gu:=zle
theorem zrl (a0) (a1):QH (a0,a1,())=zld  a0 a1:=zxv  a0 a1
abbrev zlf:List VT:=[⟨true,zw⟩,⟨false,I⟩]
abbrev zlg:List VT:=[⟨false,I⟩]
def zvl:zV:=zS [cdF zw,cdF zP] [] [] [] []
def zel (a0:zN) (a1:Int):Option (Int×Unit):=
 opt (atI a0.2.2 (wrF .i64 (Int.tdiv a1 2))) fun x0=>
 some (x0.2.2.2,())
abbrev Gv:Type:=(zN×Int×Unit)→Option (Int×Unit)
def zlh:Gv:=sF Tryz.prog [] zvl (zR []) 30 81 zlf zlg
theorem zxw (a0) (a1):zlh (a0,a1,())=zel a0 a1:=by kernel_rfl
def Vx:Gv:=zlh
theorem zrm (a0) (a1):Vx (a0,a1,())=zel  a0 a1:=zxw  a0 a1
abbrev zgx:List VT:=[⟨true,qz⟩,⟨false,(.list zv)⟩,⟨false,(.list I)⟩]
abbrev zgy:List VT:=[⟨false,I⟩,⟨false,I⟩]
def zxx:zV:=zS [cdF qz,cdF gf,cdF zw,cdF zP,cdF zQ,cdF qg] [] [] [] [46,81]
def zgz (vr:VG) (WI:Gv) (a0:qC) (a1:(List zO)) (a2:(List Int)):Option (Int×Int×Unit):=
 opt (zz (fun s0:((Int×(Int×(Int×(Int×Unit))))×Unit)=>
  bif (zh s0.1.2.2.2.1 ((a2.length:Nat):Int)) then opt (atI a2 s0.1.2.2.2.1) fun x1=>
   opt (vr (a0,(a1,(x1,())))) fun x2=>
   bif !(zi x2.2.1 0) then some (.inl (1,((0,(x2.2.1,(s0.1.2.2.1,(s0.1.2.2.2.1,())))),())))
   else opt (atI a2 s0.1.2.2.2.1) fun x3=>
    opt (WI (a0.1,(x3,()))) fun x4=>
    some (.inr ((s0.1.1,(s0.1.2.1,((wrF .i64 ((wrF .i64 ((wrF .i64 (s0.1.2.2.1+x2.1.2.2.1))+x4.1))+a0.2.1.2.2.1)),((wrF .i64 (s0.1.2.2.2.1+1)),())))),()))
  else some (.inl (0,((s0.1.1,(s0.1.2.1,(s0.1.2.2.1,(s0.1.2.2.2.1,())))),())))) zL ((0,(0,(0,(0,())))),())) fun x5=>
 bif Nat.beq x5.1 0 then some (x5.2.1.2.2.1,(0,()))
 else some (x5.2.1.1,(x5.2.1.2.1,()))
abbrev Xm:Type:=(qC×(List zO)×(List Int)×Unit)→Option (Int×Int×Unit)
def znH:VG→Gv→Xm:=fun vr WI=>sF Tryz.prog [(46,⟨zh9,zia,vr⟩),(81,⟨zlf,zlg,WI⟩)] zxx (zR []) 30 50 zgx zgy
theorem zzW (vr) (WI) (a0) (a1) (a2):znH vr WI (a0,a1,a2,())=zgz vr WI a0 a1 a2:=by kernel_rfl
def ZZ:Xm:=znH QU Vx
theorem zts (a0) (a1) (a2):ZZ (a0,a1,a2,())=zgz QU Vx a0 a1 a2:=zzW QU Vx a0 a1 a2
abbrev zzX:List VT:=[⟨true,qz⟩,⟨false,(.list zv)⟩,⟨false,I⟩,⟨false,I⟩]
abbrev zzY:List VT:=[⟨false,I⟩,⟨false,I⟩]
def zxy:zV:=zS [cdF qz,cdF zv,cdF zw,cdF zP,cdF zQ,cdF qg] [] [] [] [45,49,50]
def zgA (xH:Xg) (WJ:Gu) (xI:Xm) (a0:qC) (a1:(List zO)) (a2:Int) (a3:Int):Option (Int×Int×Unit):=
 opt (xH (a0,(a1,()))) fun x0=>
 bif !(zi x0.1 0) then some (0,(x0.1,()))
 else opt (WJ (a1,(a2,()))) fun x1=>
  bif !(zi x1.2.1 0) then some (0,(x1.2.1,()))
  else opt (bif zh a3 0 then some (1,((0,(2,())),()))
    else opt (atI a1 x1.1) fun x2=>
     bif (!(zh a3 ((x2.2.2.2.2.2.2.2.2.length:Nat):Int))) then some (1,((0,(2,())),()))
     else some (0,((0,(0,())),()))) fun x3=>
   bif Nat.beq x3.1 0 then opt (atI a1 x1.1) fun x4=>
    opt (atI x4.2.2.2.2.2.2.2.2 a3) fun x5=>
    opt (xI (a0,(a1,(x5,())))) fun x6=>
    some (x6.1,(x6.2.1,()))
   else some (x3.2.1.1,(x3.2.1.2.1,()))
abbrev znI:Type:=(qC×(List zO)×Int×Int×Unit)→Option (Int×Int×Unit)
def znJ:Xg→Gu→Xm→znI:=fun xH WJ xI=>sF Tryz.prog [(45,⟨zgg,zgh,xH⟩),(49,⟨zlb,zlc,WJ⟩),(50,⟨zgx,zgy,xI⟩)] zxy (zR []) 30 18 zzX zzY
theorem zzZ (xH) (WJ) (xI) (a0) (a1) (a2) (a3):znJ xH WJ xI (a0,a1,a2,a3,())=zgA xH WJ xI a0 a1 a2 a3:=by kernel_rfl
def znK:znI:=znJ ZX QH ZZ
theorem ztt (a0) (a1) (a2) (a3):znK (a0,a1,a2,a3,())=zgA ZX QH ZZ a0 a1 a2 a3:=zzZ ZX QH ZZ a0 a1 a2 a3
abbrev zc7:List VT:=[]
abbrev zc8:List VT:=[⟨true,qz⟩]
abbrev Vh:List VT:=[⟨false,I⟩,⟨false,I⟩,⟨false,I⟩,⟨false,I⟩,⟨false,I⟩]
abbrev Vi:List VT:=[⟨true,zv⟩]
abbrev yE:List VT:=[⟨true,qz⟩,⟨false,(.list zv)⟩]
abbrev yF:List VT:=[⟨false,I⟩]
def zvm:zV:=zS [cdF qz,cdF zv,cdF zcC,cdF gf,cdF zw,cdF zP,cdF zQ,cdF qg] [] [⟨8,44,some 4,.unit,true⟩,⟨10,44,some 4,.unit,true⟩,⟨5,98,none,zm,true⟩,⟨8,98,none,zm,true⟩,⟨12,98,none,zm,true⟩,⟨15,98,none,zm,true⟩,⟨18,98,none,zm,true⟩,⟨21,98,none,zm,true⟩,⟨5,98,some 6,zm,false⟩,⟨8,98,some 6,zm,false⟩,⟨12,98,some 6,zm,false⟩,⟨15,98,some 6,zm,false⟩,⟨18,98,some 6,zm,false⟩,⟨21,98,some 6,zm,false⟩,⟨2,90,none,zm,true⟩,⟨6,90,none,zm,true⟩,⟨9,90,none,zm,true⟩,⟨10,90,none,zm,true⟩,⟨12,90,none,zm,true⟩,⟨15,90,none,zm,true⟩,⟨18,90,none,zm,true⟩,⟨21,90,none,zm,true⟩,⟨24,90,none,zm,true⟩,⟨26,90,none,zm,true⟩,⟨5,90,none,zm,true⟩,⟨2,44,none,zm,true⟩,⟨5,44,none,zm,true⟩,⟨8,44,none,zm,true⟩,⟨10,44,none,zm,true⟩,⟨2,37,none,zm,true⟩,⟨1,28,none,zm,true⟩,⟨4,28,none,zm,true⟩,⟨2,19,none,zm,true⟩,⟨4,19,none,zm,true⟩,⟨3,55,none,zm,true⟩,⟨6,55,none,zm,true⟩,⟨9,55,none,zm,true⟩] [] [13,72,136,100,101,102,103,104,80]
def zem (qq:xl) (qF:vu) (zJ:jc) (jt:WZ) (qR:ZV) (qS:ZW) (qL:Zd) (qu:uN) (xG:Xl) (a0:qC) (a1:(List zO)):Option (Int×Unit):=
 opt (qq (a0,())) fun x0=>
 bif !(zi x0.1 0) then bif !(zi x0.1 0) then some (x0.1,())
  else none
 else opt (qF (a0.1,(a1,()))) fun x1=>
  bif !(zi x1.1 0) then bif !(zi x1.1 0) then some (x1.1,())
   else none
  else opt (zz (fun s2:((Unit×(Int×(Int×Unit)))×Unit)=>
    bif (zh s2.1.2.2.1 ((a1.length:Nat):Int)) then opt (atI a1 s2.1.2.2.1) fun x3=>
     opt (bif !(zi x3.2.2.2.1 6) then some (1,(((),(2,())),()))
      else bif zh a0.2.2.2 x3.2.2.2.2.1 then some (1,(((),(2,())),()))
       else some (0,(((),(s2.1.2.1,())),()))) fun x4=>
     bif Nat.beq x4.1 0 then some (.inr (((),(x4.2.1.2.1,((wrF .i64 (s2.1.2.2.1+1)),()))),()))
     else some (.inl (1,(((),(x4.2.1.2.1,(s2.1.2.2.1,()))),())))
    else some (.inl (0,(((),(s2.1.2.1,(s2.1.2.2.1,()))),())))) zL (((),(0,(0,()))),())) fun x5=>
   bif Nat.beq x5.1 0 then opt (zz (fun s6:((Int×(Int×Unit))×((List (Int×(((Int×Int)×((Int×Int)×(Int×Int)))×Int)))×Unit))=>
     bif (zh s6.1.2.1 ((a0.2.2.1.length:Nat):Int)) then opt (bif (!(mpH (α:=(((Int×Int)×((Int×Int)×(Int×Int)))×Int)) s6.2.1 s6.1.2.1)) then opt (zz (fun s7:((Int×Unit)×(((List (Int×Int))×Unit)×(Unit×(Unit×Unit))))=>
         bif (zh s7.1.1 ((a1.length:Nat):Int)) then opt (atI a1 s7.1.1) fun x8=>
          opt (zz (fun s9:((Int×(Int×Unit))×(((List (Int×Int))×Unit)×(Unit×(Unit×Unit))))=>
           bif (zh s9.1.2.1 ((x8.2.2.2.2.2.2.2.2.length:Nat):Int)) then opt (atI x8.2.2.2.2.2.2.2.2 s9.1.2.1) fun x10=>
            opt (zJ (x10,(s6.1.2.1,()))) fun x11=>
            bif x11.1 then some (.inl (1,((s9.1.2.1,(s9.1.2.1,())),((s9.2.1.1,()),((),((),()))))))
            else some (.inr ((s9.1.1,((wrF .i64 (s9.1.2.1+1)),())),((s9.2.1.1,()),((),((),())))))
           else some (.inl (0,((s9.1.1,(s9.1.2.1,())),((s9.2.1.1,()),((),((),()))))))) zL ((0,(0,())),((s7.2.1.1,()),((),((),()))))) fun x12=>
          bif Nat.beq x12.1 0 then some (.inr (((wrF .i64 (s7.1.1+1)),()),((x12.2.2.1.1,()),((),((),())))))
          else bif !(zh x12.2.1.1 0) then bif (jb x12.2.2.1.1.length ((x8.2.2.2.2.2.2.1::[]).length) 16) then some (.inr (((wrF .i64 (s7.1.1+1)),()),(((x12.2.2.1.1++(x8.2.2.2.2.2.2.1::[])),()),((),((),())))))
            else none
           else some (.inr (((wrF .i64 (s7.1.1+1)),()),((x12.2.2.1.1,()),((),((),())))))
         else some (.inl (0,((s7.1.1,()),((s7.2.1.1,()),((),((),()))))))) zL ((0,()),(([],()),((),((),()))))) fun x13=>
        bif Nat.beq x13.1 0 then bif (zi ((x13.2.2.1.1.length:Nat):Int) 0) then some (0,(((((0,0),((0,0),(0,0))),4),()),((mpP (α:=(((Int×Int)×((Int×Int)×(Int×Int)))×Int)) s6.2.1 s6.1.2.1 (((0,0),((0,0),(0,0))),4)),())))
         else opt (jt (a0.1,(s6.1.2.1,()))) fun x14=>
          bif !(zi x14.2.1 0) then some (0,(((((0,0),((0,0),(0,0))),x14.2.1),()),((mpP (α:=(((Int×Int)×((Int×Int)×(Int×Int)))×Int)) s6.2.1 s6.1.2.1 (((0,0),((0,0),(0,0))),x14.2.1)),())))
          else opt (atI a0.2.2.1 s6.1.2.1) fun x15=>
           opt (qR (x15,(x14.1,(a0.2.2.2,())))) fun x16=>
           bif !(zi x16.2.1 0) then some (0,(((((0,0),((0,0),(0,0))),411),()),((mpP (α:=(((Int×Int)×((Int×Int)×(Int×Int)))×Int)) s6.2.1 s6.1.2.1 (((0,0),((0,0),(0,0))),411)),())))
           else opt (qS (x13.2.2.1.1,())) fun x17=>
            bif !(zi x17.2.1 0) then some (0,(((((0,0),((0,0),(0,0))),x17.2.1),()),((mpP (α:=(((Int×Int)×((Int×Int)×(Int×Int)))×Int)) s6.2.1 s6.1.2.1 (((0,0),((0,0),(0,0))),x17.2.1)),())))
            else opt (qL ((x17.1::[]),(x16.1,()))) fun x18=>
             bif !(zi x18.2.1 0) then some (0,(((((0,0),((0,0),(0,0))),x18.2.1),()),((mpP (α:=(((Int×Int)×((Int×Int)×(Int×Int)))×Int)) s6.2.1 s6.1.2.1 (((0,0),((0,0),(0,0))),x18.2.1)),())))
             else opt (qu (x17.1,(x16.1,()))) fun x19=>
              bif !(zi x19.2.1 0) then some (0,(((((0,0),((0,0),(0,0))),x19.2.1),()),((mpP (α:=(((Int×Int)×((Int×Int)×(Int×Int)))×Int)) s6.2.1 s6.1.2.1 (((0,0),((0,0),(0,0))),x19.2.1)),())))
              else some (0,((((x17.1,(x16.1,(x18.1,x19.1))),0),()),((mpP (α:=(((Int×Int)×((Int×Int)×(Int×Int)))×Int)) s6.2.1 s6.1.2.1 ((x17.1,(x16.1,(x18.1,x19.1))),0)),())))
        else bif (zi ((x13.2.2.1.1.length:Nat):Int) 0) then some (0,(((((0,0),((0,0),(0,0))),4),()),((mpP (α:=(((Int×Int)×((Int×Int)×(Int×Int)))×Int)) s6.2.1 s6.1.2.1 (((0,0),((0,0),(0,0))),4)),())))
         else opt (jt (a0.1,(s6.1.2.1,()))) fun x20=>
          bif !(zi x20.2.1 0) then some (0,(((((0,0),((0,0),(0,0))),x20.2.1),()),((mpP (α:=(((Int×Int)×((Int×Int)×(Int×Int)))×Int)) s6.2.1 s6.1.2.1 (((0,0),((0,0),(0,0))),x20.2.1)),())))
          else opt (atI a0.2.2.1 s6.1.2.1) fun x21=>
           opt (qR (x21,(x20.1,(a0.2.2.2,())))) fun x22=>
           bif !(zi x22.2.1 0) then some (0,(((((0,0),((0,0),(0,0))),411),()),((mpP (α:=(((Int×Int)×((Int×Int)×(Int×Int)))×Int)) s6.2.1 s6.1.2.1 (((0,0),((0,0),(0,0))),411)),())))
           else opt (qS (x13.2.2.1.1,())) fun x23=>
            bif !(zi x23.2.1 0) then some (0,(((((0,0),((0,0),(0,0))),x23.2.1),()),((mpP (α:=(((Int×Int)×((Int×Int)×(Int×Int)))×Int)) s6.2.1 s6.1.2.1 (((0,0),((0,0),(0,0))),x23.2.1)),())))
            else opt (qL ((x23.1::[]),(x22.1,()))) fun x24=>
             bif !(zi x24.2.1 0) then some (0,(((((0,0),((0,0),(0,0))),x24.2.1),()),((mpP (α:=(((Int×Int)×((Int×Int)×(Int×Int)))×Int)) s6.2.1 s6.1.2.1 (((0,0),((0,0),(0,0))),x24.2.1)),())))
             else opt (qu (x23.1,(x22.1,()))) fun x25=>
              bif !(zi x25.2.1 0) then some (0,(((((0,0),((0,0),(0,0))),x25.2.1),()),((mpP (α:=(((Int×Int)×((Int×Int)×(Int×Int)))×Int)) s6.2.1 s6.1.2.1 (((0,0),((0,0),(0,0))),x25.2.1)),())))
              else some (0,((((x23.1,(x22.1,(x24.1,x25.1))),0),()),((mpP (α:=(((Int×Int)×((Int×Int)×(Int×Int)))×Int)) s6.2.1 s6.1.2.1 ((x23.1,(x22.1,(x24.1,x25.1))),0)),())))
       else some (0,(((mpD (α:=(((Int×Int)×((Int×Int)×(Int×Int)))×Int)) s6.2.1 s6.1.2.1 (((0,0),((0,0),(0,0))),0)),()),(s6.2.1,())))) fun x26=>
      bif zi x26.2.1.1.2 4 then some (.inr ((s6.1.1,((wrF .i64 (s6.1.2.1+1)),())),(x26.2.2.1,())))
      else bif !(zi x26.2.1.1.2 0) then some (.inl (0,((x26.2.1.1.2,(s6.1.2.1,())),(x26.2.2.1,()))))
       else bif zh a0.2.1.2.2.2 x26.2.1.1.1.2.2.2 then some (.inl (0,((7,(s6.1.2.1,())),(x26.2.2.1,()))))
        else some (.inr ((s6.1.1,((wrF .i64 (s6.1.2.1+1)),())),(x26.2.2.1,())))
     else some (.inl (0,((s6.1.1,(s6.1.2.1,())),(s6.2.1,()))))) zL ((0,(0,())),([],()))) fun x27=>
    bif !(zi x27.2.1.1 0) then some (x27.2.1.1,())
    else opt (zz (fun s28:((Int×(Int×Unit))×((List (Int×(((Int×Int)×((Int×Int)×(Int×Int)))×Int)))×Unit))=>
      bif (zh s28.1.2.1 ((a1.length:Nat):Int)) then opt (atI a1 s28.1.2.1) fun x29=>
       opt (zz (fun s30:((Int×(Int×Unit))×((List (Int×(((Int×Int)×((Int×Int)×(Int×Int)))×Int)))×Unit))=>
        bif (zh s30.1.2.1 ((x29.2.2.2.2.2.2.2.2.length:Nat):Int)) then opt (atI x29.2.2.2.2.2.2.2.2 s30.1.2.1) fun x31=>
         opt (zz (fun s32:((Int×(Int×(Int×(Int×Unit))))×((List (Int×(((Int×Int)×((Int×Int)×(Int×Int)))×Int)))×Unit))=>
          bif (zh s32.1.2.2.2.1 ((x31.length:Nat):Int)) then opt (atI x31 s32.1.2.2.2.1) fun x33=>
           opt (bif (!(mpH (α:=(((Int×Int)×((Int×Int)×(Int×Int)))×Int)) s32.2.1 x33)) then opt (zz (fun s34:((Int×Unit)×(((List (Int×Int))×Unit)×(Unit×(Unit×Unit))))=>
              bif (zh s34.1.1 ((a1.length:Nat):Int)) then opt (atI a1 s34.1.1) fun x35=>
               opt (zz (fun s36:((Int×(Int×Unit))×(((List (Int×Int))×Unit)×(Unit×(Unit×Unit))))=>
                bif (zh s36.1.2.1 ((x35.2.2.2.2.2.2.2.2.length:Nat):Int)) then opt (atI x35.2.2.2.2.2.2.2.2 s36.1.2.1) fun x37=>
                 opt (zJ (x37,(x33,()))) fun x38=>
                 bif x38.1 then some (.inl (1,((s36.1.2.1,(s36.1.2.1,())),((s36.2.1.1,()),((),((),()))))))
                 else some (.inr ((s36.1.1,((wrF .i64 (s36.1.2.1+1)),())),((s36.2.1.1,()),((),((),())))))
                else some (.inl (0,((s36.1.1,(s36.1.2.1,())),((s36.2.1.1,()),((),((),()))))))) zL ((0,(0,())),((s34.2.1.1,()),((),((),()))))) fun x39=>
               bif Nat.beq x39.1 0 then some (.inr (((wrF .i64 (s34.1.1+1)),()),((x39.2.2.1.1,()),((),((),())))))
               else bif !(zh x39.2.1.1 0) then bif (jb x39.2.2.1.1.length ((x35.2.2.2.2.2.2.1::[]).length) 16) then some (.inr (((wrF .i64 (s34.1.1+1)),()),(((x39.2.2.1.1++(x35.2.2.2.2.2.2.1::[])),()),((),((),())))))
                 else none
                else some (.inr (((wrF .i64 (s34.1.1+1)),()),((x39.2.2.1.1,()),((),((),())))))
              else some (.inl (0,((s34.1.1,()),((s34.2.1.1,()),((),((),()))))))) zL ((0,()),(([],()),((),((),()))))) fun x40=>
             bif Nat.beq x40.1 0 then bif (zi ((x40.2.2.1.1.length:Nat):Int) 0) then some (0,(((((0,0),((0,0),(0,0))),4),()),((mpP (α:=(((Int×Int)×((Int×Int)×(Int×Int)))×Int)) s32.2.1 x33 (((0,0),((0,0),(0,0))),4)),())))
              else opt (jt (a0.1,(x33,()))) fun x41=>
               bif !(zi x41.2.1 0) then some (0,(((((0,0),((0,0),(0,0))),x41.2.1),()),((mpP (α:=(((Int×Int)×((Int×Int)×(Int×Int)))×Int)) s32.2.1 x33 (((0,0),((0,0),(0,0))),x41.2.1)),())))
               else opt (atI a0.2.2.1 x33) fun x42=>
                opt (qR (x42,(x41.1,(a0.2.2.2,())))) fun x43=>
                bif !(zi x43.2.1 0) then some (0,(((((0,0),((0,0),(0,0))),411),()),((mpP (α:=(((Int×Int)×((Int×Int)×(Int×Int)))×Int)) s32.2.1 x33 (((0,0),((0,0),(0,0))),411)),())))
                else opt (qS (x40.2.2.1.1,())) fun x44=>
                 bif !(zi x44.2.1 0) then some (0,(((((0,0),((0,0),(0,0))),x44.2.1),()),((mpP (α:=(((Int×Int)×((Int×Int)×(Int×Int)))×Int)) s32.2.1 x33 (((0,0),((0,0),(0,0))),x44.2.1)),())))
                 else opt (qL ((x44.1::[]),(x43.1,()))) fun x45=>
                  bif !(zi x45.2.1 0) then some (0,(((((0,0),((0,0),(0,0))),x45.2.1),()),((mpP (α:=(((Int×Int)×((Int×Int)×(Int×Int)))×Int)) s32.2.1 x33 (((0,0),((0,0),(0,0))),x45.2.1)),())))
                  else opt (qu (x44.1,(x43.1,()))) fun x46=>
                   bif !(zi x46.2.1 0) then some (0,(((((0,0),((0,0),(0,0))),x46.2.1),()),((mpP (α:=(((Int×Int)×((Int×Int)×(Int×Int)))×Int)) s32.2.1 x33 (((0,0),((0,0),(0,0))),x46.2.1)),())))
                   else some (0,((((x44.1,(x43.1,(x45.1,x46.1))),0),()),((mpP (α:=(((Int×Int)×((Int×Int)×(Int×Int)))×Int)) s32.2.1 x33 ((x44.1,(x43.1,(x45.1,x46.1))),0)),())))
             else bif (zi ((x40.2.2.1.1.length:Nat):Int) 0) then some (0,(((((0,0),((0,0),(0,0))),4),()),((mpP (α:=(((Int×Int)×((Int×Int)×(Int×Int)))×Int)) s32.2.1 x33 (((0,0),((0,0),(0,0))),4)),())))
              else opt (jt (a0.1,(x33,()))) fun x47=>
               bif !(zi x47.2.1 0) then some (0,(((((0,0),((0,0),(0,0))),x47.2.1),()),((mpP (α:=(((Int×Int)×((Int×Int)×(Int×Int)))×Int)) s32.2.1 x33 (((0,0),((0,0),(0,0))),x47.2.1)),())))
               else opt (atI a0.2.2.1 x33) fun x48=>
                opt (qR (x48,(x47.1,(a0.2.2.2,())))) fun x49=>
                bif !(zi x49.2.1 0) then some (0,(((((0,0),((0,0),(0,0))),411),()),((mpP (α:=(((Int×Int)×((Int×Int)×(Int×Int)))×Int)) s32.2.1 x33 (((0,0),((0,0),(0,0))),411)),())))
                else opt (qS (x40.2.2.1.1,())) fun x50=>
                 bif !(zi x50.2.1 0) then some (0,(((((0,0),((0,0),(0,0))),x50.2.1),()),((mpP (α:=(((Int×Int)×((Int×Int)×(Int×Int)))×Int)) s32.2.1 x33 (((0,0),((0,0),(0,0))),x50.2.1)),())))
                 else opt (qL ((x50.1::[]),(x49.1,()))) fun x51=>
                  bif !(zi x51.2.1 0) then some (0,(((((0,0),((0,0),(0,0))),x51.2.1),()),((mpP (α:=(((Int×Int)×((Int×Int)×(Int×Int)))×Int)) s32.2.1 x33 (((0,0),((0,0),(0,0))),x51.2.1)),())))
                  else opt (qu (x50.1,(x49.1,()))) fun x52=>
                   bif !(zi x52.2.1 0) then some (0,(((((0,0),((0,0),(0,0))),x52.2.1),()),((mpP (α:=(((Int×Int)×((Int×Int)×(Int×Int)))×Int)) s32.2.1 x33 (((0,0),((0,0),(0,0))),x52.2.1)),())))
                   else some (0,((((x50.1,(x49.1,(x51.1,x52.1))),0),()),((mpP (α:=(((Int×Int)×((Int×Int)×(Int×Int)))×Int)) s32.2.1 x33 ((x50.1,(x49.1,(x51.1,x52.1))),0)),())))
            else some (0,(((mpD (α:=(((Int×Int)×((Int×Int)×(Int×Int)))×Int)) s32.2.1 x33 (((0,0),((0,0),(0,0))),0)),()),(s32.2.1,())))) fun x53=>
           bif !(zi x53.2.1.1.2 0) then some (.inl (1,((0,(x53.2.1.1.2,(s32.1.2.2.1,(s32.1.2.2.2.1,())))),(x53.2.2.1,()))))
           else opt (xG (a0.1,(x33,()))) fun x54=>
            bif !(zi x54.2.1 0) then some (.inl (1,((0,(x54.2.1,(s32.1.2.2.1,(s32.1.2.2.2.1,())))),(x53.2.2.1,()))))
            else some (.inr ((s32.1.1,(s32.1.2.1,((wrF .i64 (s32.1.2.2.1+(wrF .i64 ((wrF .i64 (x53.2.1.1.1.2.2.1+x54.1))+a0.2.1.2.2.1)))),((wrF .i64 (s32.1.2.2.2.1+1)),())))),(x53.2.2.1,())))
          else some (.inl (0,((s32.1.1,(s32.1.2.1,(s32.1.2.2.1,(s32.1.2.2.2.1,())))),(s32.2.1,()))))) zL ((0,(0,(0,(0,())))),(s30.2.1,()))) fun x55=>
         bif Nat.beq x55.1 0 then bif zh x29.2.2.2.2.2.2.2.1 x55.2.1.2.2.1 then some (.inl (1,((412,(s30.1.2.1,())),(x55.2.2.1,()))))
          else some (.inr ((s30.1.1,((wrF .i64 (s30.1.2.1+1)),())),(x55.2.2.1,())))
         else bif !(zi x55.2.1.2.1 0) then some (.inl (1,((x55.2.1.2.1,(s30.1.2.1,())),(x55.2.2.1,()))))
          else bif zh x29.2.2.2.2.2.2.2.1 x55.2.1.1 then some (.inl (1,((412,(s30.1.2.1,())),(x55.2.2.1,()))))
           else some (.inr ((s30.1.1,((wrF .i64 (s30.1.2.1+1)),())),(x55.2.2.1,())))
        else some (.inl (0,((s30.1.1,(s30.1.2.1,())),(s30.2.1,()))))) zL ((s28.1.1,(0,())),(s28.2.1,()))) fun x56=>
       bif Nat.beq x56.1 0 then some (.inr ((x56.2.1.1,((wrF .i64 (s28.1.2.1+1)),())),(x56.2.2.1,())))
       else some (.inl (1,((x56.2.1.1,(s28.1.2.1,())),(x56.2.2.1,()))))
      else some (.inl (0,((s28.1.1,(s28.1.2.1,())),(s28.2.1,()))))) zL ((0,(0,())),(x27.2.2.1,()))) fun x57=>
     bif Nat.beq x57.1 0 then some (0,())
     else some (x57.2.1.1,())
   else bif !(zi x5.2.1.2.1 0) then some (x5.2.1.2.1,())
    else none
abbrev QI:Type:=(qC×(List zO)×Unit)→Option (Int×Unit)
def zli:xl→vu→jc→WZ→ZV→ZW→Zd→uN→Xl→QI:=fun qq qF zJ jt qR qS qL qu xG=>sF Tryz.prog [(13,⟨jj,jk,qq⟩),(72,⟨wU,wW,qF⟩),(136,⟨qA,qB,zJ⟩),(100,⟨gv,gw,jt⟩),(101,⟨xz,xA,qR⟩),(102,⟨vS,vT,qS⟩),(103,⟨vf,vg,qL⟩),(104,⟨xb,xc,qu⟩),(80,⟨gH,gI,xG⟩)] zvm (zR []) 30 20 yE yF
theorem zxz (qq) (qF) (zJ) (jt) (qR) (qS) (qL) (qu) (xG) (a0) (a1):zli qq qF zJ jt qR qS qL qu xG (a0,a1,())=zem qq qF zJ jt qR qS qL qu xG a0 a1:=by kernel_rfl
def yG:QI:=zli jB wm qd xa jH wD jM jg uX
theorem zab:Con.Ok Tryz.prog 20 ⟨yE,yF,yG⟩:=zC (ze Yo (ze Va (ze uv (ze zd2 (ze zbo (ze zbq (ze GU (ze KH (ze zhq zo))))))))) zr (by kernel_rfl)
theorem zrn (a0) (a1):yG (a0,a1,())=zem jB wm qd xa jH wD jM jg uX a0 a1:=zxz jB wm qd xa jH wD jM jg uX a0 a1
abbrev uk:List VT:=[⟨true,zw⟩,⟨true,zv⟩]
abbrev um:List VT:=[⟨false,I⟩]
def ztu:zV:=zS [cdF zv,cdF zw,cdF zP,cdF zm] [] [] [] [37,82]
def zcN (zZ:yT) (yh:QW) (a0:zN) (a1:zO):Option (Int×Unit):=
 opt (zZ (a0,())) fun x0=>
 bif !(zi x0.1 0) then some (x0.1,())
 else opt (yh (a0,(a1,()))) fun x1=>
  bif !x1.1 then some (321,())
  else some (0,())
abbrev Uq:Type:=(zN×zO×Unit)→Option (Int×Unit)
def ziZ:yT→QW→Uq:=fun zZ yh=>sF Tryz.prog [(37,⟨jF,jG,zZ⟩),(82,⟨ug,uh,yh⟩)] ztu (zR []) 30 51 uk um
theorem zvn (zZ) (yh) (a0) (a1):ziZ zZ yh (a0,a1,())=zcN zZ yh a0 a1:=by kernel_rfl
def QY:Uq:=ziZ jm ui
theorem zpe:Con.Ok Tryz.prog 51 ⟨uk,um,QY⟩:=zC (ze Ql (ze zey zo)) zr (by kernel_rfl)
theorem zpf (a0) (a1):QY (a0,a1,())=zcN jm ui a0 a1:=zvn jm ui a0 a1
abbrev vY:List VT:=[⟨true,qz⟩,⟨false,(.list zv)⟩,⟨true,zv⟩]
abbrev vZ:List VT:=[⟨false,(.list zv)⟩,⟨false,I⟩]
def zvo:zV:=zS [cdF qz,cdF zv,cdF zw,cdF zP,cdF zQ,cdF qg] [] [⟨2,41,some 6,zv,false⟩,⟨5,41,some 6,zv,false⟩,⟨9,41,some 6,zv,false⟩] [] [20,51]
def zen (ju:QI) (Je:Uq) (a0:qC) (a1:(List zO)) (a2:zO):Option ((List zO)×Int×Unit):=
 opt (ju (a0,(a1,()))) fun x0=>
 bif !(zi x0.1 0) then some ([],(x0.1,()))
 else opt (Je (a0.1,(a2,()))) fun x1=>
  bif !(zi x1.1 0) then some ([],(x1.1,()))
  else opt (XO a1 none (some ((a1.length:Nat):Int)) (some ((a1.length:Nat):Int))) fun x2=>
   bif (jb x2.length ((a2::[]).length) 96) then opt (ju (a0,((x2++(a2::[])),()))) fun x3=>
    bif !(zi x3.1 0) then some ([],(x3.1,()))
    else some ((x2++(a2::[])),(0,()))
   else none
abbrev zeo:Type:=(qC×(List zO)×zO×Unit)→Option ((List zO)×Int×Unit)
def zlj:QI→Uq→zeo:=fun ju Je=>sF Tryz.prog [(20,⟨yE,yF,ju⟩),(51,⟨uk,um,Je⟩)] zvo (zR []) 30 22 vY vZ
theorem zxA (ju) (Je) (a0) (a1) (a2):zlj ju Je (a0,a1,a2,())=zen ju Je a0 a1 a2:=by kernel_rfl
def QJ:zeo:=zlj yG QY
theorem zro:Con.Ok Tryz.prog 22 ⟨vY,vZ,QJ⟩:=zC (ze zab (ze zpe zo)) zr (by kernel_rfl)
theorem zrp (a0) (a1) (a2):QJ (a0,a1,a2,())=zen yG QY a0 a1 a2:=zxA yG QY a0 a1 a2
abbrev zby:List VT:=[⟨false,(.list zv)⟩,⟨false,(.list zv)⟩]
abbrev zbz:List VT:=[⟨false,.bool⟩]
abbrev QK:List VT:=[]
abbrev QL:List VT:=[⟨false,.bool⟩]
abbrev nT:T zw:=(3,([true,false,true],[(0,(1,(8,5))),(1,(2,(8,5)))]))
abbrev nF:T qz:=(nT,((100,(2,(10,8000))),([([(127,100)],100),([(127,100)],100),([(127,100)],100),([(127,100)],100)],200)))
def zpU:T (zp zc7)→Option (T (zp zc8)):=sF Tryz.prog [] (fun _ _ _ _=>none) (fun _ _=>false) 100 28 zc7 zc8
theorem zvp:Con.Ok Tryz.prog 28 ⟨zc7,zc8,zpU⟩:=zC zo zr (by kernel_rfl)
def zgB:T (zp Vh)→Option (T (zp Vi)):=sF Tryz.prog [] (fun _ _ _ _=>none) (fun _ _=>false) 100 29 Vh Vi
theorem zlU:Con.Ok Tryz.prog 29 ⟨Vh,Vi,zgB⟩:=zC zo zr (by kernel_rfl)
def zpV:T (zp Ym)→Option (T (zp Yn)):=sF Tryz.prog [] (fun _ _ _ _=>none) (fun _ _=>false) 100 92 Ym Yn
theorem zvq:Con.Ok Tryz.prog 92 ⟨Ym,Yn,zpV⟩:=zC zo zr (by kernel_rfl)
def znL:T (zp Jn)→Option (T (zp Jo)):=sF Tryz.prog [(92,⟨Ym,Yn,zpV⟩)] (fun _ _ _ _=>none) (fun _ _=>false) 100 64 Jn Jo
theorem ztv:Con.Ok Tryz.prog 64 ⟨Jn,Jo,znL⟩:=zC (ze zvq zo) zr (by kernel_rfl)
def znM:T (zp Jp)→Option (T (zp Jq)):=sF Tryz.prog [] (fun _ _ _ _=>none) (fun _ _=>false) 100 66 Jp Jq
theorem ztw:Con.Ok Tryz.prog 66 ⟨Jp,Jq,znM⟩:=zC zo zr (by kernel_rfl)
def Vy:T (zp wM)→Option (T (zp wN)):=sF Tryz.prog [] (fun _ _ _ _=>none) (fun _ _=>false) 100 96 wM wN
theorem zbX:Con.Ok Tryz.prog 96 ⟨wM,wN,Vy⟩:=zC zo zr (by kernel_rfl)
def Yv:T (zp jR)→Option (T (zp jS)):=sF Tryz.prog [(96,⟨wM,wN,Vy⟩)] (fun _ _ _ _=>none) (fun _ _=>false) 100 65 jR jS
theorem zac:Con.Ok Tryz.prog 65 ⟨jR,jS,Yv⟩:=zC (ze zbX zo) zr (by kernel_rfl)
def zz0:T (zp jF)→Option (T (zp jG)):=sF Tryz.prog [(64,⟨Jn,Jo,znL⟩),(66,⟨Jp,Jq,znM⟩),(65,⟨jR,jS,Yv⟩)] (fun _ _ _ _=>none) (fun _ _=>false) 100 37 jF jG
theorem ztx:Con.Ok Tryz.prog 37 ⟨jF,jG,zz0⟩:=zC (ze ztv (ze ztw (ze zac zo))) zr (by kernel_rfl)
def JH:T (zp jF)→Option (T (zp jG)):=Vr [((nT,()),(0,()))]
theorem Qn:Con.Ok Tryz.prog 37 ⟨jF,jG,JH⟩:=XH ztx (yS (by kernel_rfl) Kx)
def Vj:T (zp yn)→Option (T (zp yp)):=sF Tryz.prog [] (fun _ _ _ _=>none) (fun _ _=>false) 100 67 yn yp
theorem VU:Con.Ok Tryz.prog 67 ⟨yn,yp,Vj⟩:=zC zo zr (by kernel_rfl)
def zb8:T (zp vv)→Option (T (zp vy)):=sF Tryz.prog [(67,⟨yn,yp,Vj⟩)] (fun _ _ _ _=>none) (fun _ _=>false) 100 38 vv vy
theorem zic:Con.Ok Tryz.prog 38 ⟨vv,vy,zb8⟩:=zC (ze VU zo) zr (by kernel_rfl)
def Gw:T (zp xZ)→Option (T (zp ve)):=sF Tryz.prog [] (fun _ _ _ _=>none) (fun _ _=>false) 100 39 xZ ve
theorem zad:Con.Ok Tryz.prog 39 ⟨xZ,ve,Gw⟩:=zC zo zr (by kernel_rfl)
def zlV:T (zp jj)→Option (T (zp jk)):=sF Tryz.prog [(37,⟨jF,jG,JH⟩),(38,⟨vv,vy,zb8⟩),(39,⟨xZ,ve,Gw⟩)] (fun _ _ _ _=>none) (fun _ _=>false) 100 13 jj jk
theorem zid:Con.Ok Tryz.prog 13 ⟨jj,jk,zlV⟩:=zC (ze Qn (ze zic (ze zad zo))) zr (by kernel_rfl)
def JU:T (zp jj)→Option (T (zp jk)):=Vr [((nF,()),(0,()))]
theorem Yq:Con.Ok Tryz.prog 13 ⟨jj,jk,JU⟩:=XH zid (yS (by kernel_rfl) Kx)
def zgC:T (zp kI)→Option (T (zp kJ)):=sF Tryz.prog [(67,⟨yn,yp,Vj⟩)] (fun _ _ _ _=>none) (fun _ _=>false) 100 119 kI kJ
theorem zlW:Con.Ok Tryz.prog 119 ⟨kI,kJ,zgC⟩:=zC (ze VU zo) zr (by kernel_rfl)
def zb9:T (zp vz)→Option (T (zp vA)):=sF Tryz.prog [] (fun _ _ _ _=>none) (fun _ _=>false) 100 86 vz vA
theorem zie:Con.Ok Tryz.prog 86 ⟨vz,vA,zb9⟩:=zC zo zr (by kernel_rfl)
def Xn:T (zp ye)→Option (T (zp yf)):=sF Tryz.prog [(86,⟨vz,vA,zb9⟩)] (fun _ _ _ _=>none) (fun _ _=>false) 100 84 ye yf
theorem YE:Con.Ok Tryz.prog 84 ⟨ye,yf,Xn⟩:=zC (ze zie zo) zr (by kernel_rfl)
def KK:T (zp yU)→Option (T (zp yV)):=sF Tryz.prog [] (fun _ _ _ _=>none) (fun _ _=>false) 100 176 yU yV
theorem zax:Con.Ok Tryz.prog 176 ⟨yU,yV,KK⟩:=zC zo zr (by kernel_rfl)
def KL:T (zp yX)→Option (T (zp yY)):=sF Tryz.prog [] (fun _ _ _ _=>none) (fun _ _=>false) 100 157 yX yY
theorem zay:Con.Ok Tryz.prog 157 ⟨yX,yY,KL⟩:=zC zo zr (by kernel_rfl)
def zep:T (zp km)→Option (T (zp kn)):=sF Tryz.prog [(37,⟨jF,jG,JH⟩),(157,⟨yX,yY,KL⟩)] (fun _ _ _ _=>none) (fun _ _=>false) 100 174 km kn
theorem zgD:Con.Ok Tryz.prog 174 ⟨km,kn,zep⟩:=zC (ze Qn (ze zay zo)) zr (by kernel_rfl)
def zlk:T (zp Qx)→Option (T (zp Qy)):=sF Tryz.prog [(176,⟨yU,yV,KK⟩),(174,⟨km,kn,zep⟩)] (fun _ _ _ _=>none) (fun _ _=>false) 100 173 Qx Qy
theorem zrq:Con.Ok Tryz.prog 173 ⟨Qx,Qy,zlk⟩:=zC (ze zax (ze zgD zo)) zr (by kernel_rfl)
def znN:T (zp Js)→Option (T (zp Jt)):=sF Tryz.prog [(173,⟨Qx,Qy,zlk⟩)] (fun _ _ _ _=>none) (fun _ _=>false) 100 154 Js Jt
theorem zty:Con.Ok Tryz.prog 154 ⟨Js,Jt,znN⟩:=zC (ze zrq zo) zr (by kernel_rfl)
def zi0:T (zp Zu)→Option (T (zp Zv)):=sF Tryz.prog [(154,⟨Js,Jt,znN⟩)] (fun _ _ _ _=>none) (fun _ _=>false) 100 125 Zu Zv
theorem zpg:Con.Ok Tryz.prog 125 ⟨Zu,Zv,zi0⟩:=zC (ze zty zo) zr (by kernel_rfl)
def zi1:T (zp Zx)→Option (T (zp Zy)):=sF Tryz.prog [] (fun _ _ _ _=>none) (fun _ _=>false) 100 158 Zx Zy
theorem zph:Con.Ok Tryz.prog 158 ⟨Zx,Zy,zi1⟩:=zC zo zr (by kernel_rfl)
def KM:T (zp yq)→Option (T (zp yr)):=sF Tryz.prog [] (fun _ _ _ _=>none) (fun _ _=>false) 100 190 yq yr
theorem zdx:Con.Ok Tryz.prog 190 ⟨yq,yr,KM⟩:=zC zo zr (by kernel_rfl)
def XJ:T (zp wB)→Option (T (zp wC)):=sF Tryz.prog [(190,⟨yq,yr,KM⟩)] (fun _ _ _ _=>none) (fun _ _=>false) 100 177 wB wC
theorem zbA:Con.Ok Tryz.prog 177 ⟨wB,wC,XJ⟩:=zC (ze zdx zo) zr (by kernel_rfl)
def zdy:T (zp vN)→Option (T (zp vO)):=sF Tryz.prog [(176,⟨yU,yV,KK⟩),(177,⟨wB,wC,XJ⟩)] (fun _ _ _ _=>none) (fun _ _=>false) 100 159 vN vO
theorem zi2:Con.Ok Tryz.prog 159 ⟨vN,vO,zdy⟩:=zC (ze zax (ze zbA zo)) zr (by kernel_rfl)
def zll:T (zp Qz)→Option (T (zp QA)):=sF Tryz.prog [(157,⟨yX,yY,KL⟩),(158,⟨Zx,Zy,zi1⟩),(159,⟨vN,vO,zdy⟩),(174,⟨km,kn,zep⟩)] (fun _ _ _ _=>none) (fun _ _=>false) 100 127 Qz QA
theorem zrr:Con.Ok Tryz.prog 127 ⟨Qz,QA,zll⟩:=zC (ze zay (ze zph (ze zi2 (ze zgD zo)))) zr (by kernel_rfl)
def zcO:T (zp ug)→Option (T (zp uh)):=sF Tryz.prog [(67,⟨yn,yp,Vj⟩),(119,⟨kI,kJ,zgC⟩),(84,⟨ye,yf,Xn⟩),(125,⟨Zu,Zv,zi0⟩),(127,⟨Qz,QA,zll⟩)] (fun _ _ _ _=>none) (fun _ _=>false) 100 82 ug uh
theorem zeH:Con.Ok Tryz.prog 82 ⟨ug,uh,zcO⟩:=zC (ze VU (ze zlW (ze YE (ze zpg (ze zrr zo))))) zr (by kernel_rfl)
def YF:T (zp wU)→Option (T (zp wW)):=sF Tryz.prog [(37,⟨jF,jG,JH⟩),(82,⟨ug,uh,zcO⟩)] (fun _ _ _ _=>none) (fun _ _=>false) 100 72 wU wW
theorem Vk:Con.Ok Tryz.prog 72 ⟨wU,wW,YF⟩:=zC (ze Qn (ze zeH zo)) zr (by kernel_rfl)
def Xo:T (zp wh)→Option (T (zp wi)):=sF Tryz.prog [] (fun _ _ _ _=>none) (fun _ _=>false) 100 162 wh wi
theorem zaD:Con.Ok Tryz.prog 162 ⟨wh,wi,Xo⟩:=zC zo zr (by kernel_rfl)
def vh:T (zp qA)→Option (T (zp qB)):=sF Tryz.prog [(162,⟨wh,wi,Xo⟩)] (fun _ _ _ _=>none) (fun _ _=>false) 100 136 qA qB
theorem uI:Con.Ok Tryz.prog 136 ⟨qA,qB,vh⟩:=zC (ze zaD zo) zr (by kernel_rfl)
def zi3:T (zp ZA)→Option (T (zp ZB)):=sF Tryz.prog [] (fun _ _ _ _=>none) (fun _ _=>false) 100 138 ZA ZB
theorem zpi:Con.Ok Tryz.prog 138 ⟨ZA,ZB,zi3⟩:=zC zo zr (by kernel_rfl)
def ze9:T (zp gv)→Option (T (zp gw)):=sF Tryz.prog [(37,⟨jF,jG,JH⟩),(138,⟨ZA,ZB,zi3⟩)] (fun _ _ _ _=>none) (fun _ _=>false) 100 100 gv gw
theorem zeq:Con.Ok Tryz.prog 100 ⟨gv,gw,ze9⟩:=zC (ze Qn (ze zpi zo)) zr (by kernel_rfl)
def zhr:T (zp gx)→Option (T (zp gy)):=sF Tryz.prog [(39,⟨xZ,ve,Gw⟩)] (fun _ _ _ _=>none) (fun _ _=>false) 100 139 gx gy
theorem znO:Con.Ok Tryz.prog 139 ⟨gx,gy,zhr⟩:=zC (ze zad zo) zr (by kernel_rfl)
def zlm:T (zp QB)→Option (T (zp QC)):=sF Tryz.prog [(39,⟨xZ,ve,Gw⟩)] (fun _ _ _ _=>none) (fun _ _=>false) 100 191 QB QC
theorem zrs:Con.Ok Tryz.prog 191 ⟨QB,QC,zlm⟩:=zC (ze zad zo) zr (by kernel_rfl)
def znP:T (zp Jv)→Option (T (zp Jw)):=sF Tryz.prog [] (fun _ _ _ _=>none) (fun _ _=>false) 100 197 Jv Jw
theorem ztz:Con.Ok Tryz.prog 197 ⟨Jv,Jw,znP⟩:=zC zo zr (by kernel_rfl)
def znQ:T (zp Jx)→Option (T (zp Jy)):=sF Tryz.prog [(197,⟨Jv,Jw,znP⟩)] (fun _ _ _ _=>none) (fun _ _=>false) 100 192 Jx Jy
theorem ztA:Con.Ok Tryz.prog 192 ⟨Jx,Jy,znQ⟩:=zC (ze ztz zo) zr (by kernel_rfl)
def znR:T (zp Jz)→Option (T (zp JA)):=sF Tryz.prog [(191,⟨QB,QC,zlm⟩),(192,⟨Jx,Jy,znQ⟩)] (fun _ _ _ _=>none) (fun _ _=>false) 100 178 Jz JA
theorem ztB:Con.Ok Tryz.prog 178 ⟨Jz,JA,znR⟩:=zC (ze zrs (ze ztA zo)) zr (by kernel_rfl)
def zgE:T (zp kK)→Option (T (zp kL)):=sF Tryz.prog [(178,⟨Jz,JA,znR⟩)] (fun _ _ _ _=>none) (fun _ _=>false) 100 164 kK kL
theorem zlX:Con.Ok Tryz.prog 164 ⟨kK,kL,zgE⟩:=zC (ze ztB zo) zr (by kernel_rfl)
def zae:T (zp xT)→Option (T (zp xU)):=sF Tryz.prog [] (fun _ _ _ _=>none) (fun _ _=>false) 100 180 xT xU
theorem zca:Con.Ok Tryz.prog 180 ⟨xT,xU,zae⟩:=zC zo zr (by kernel_rfl)
def zeI:T (zp uw)→Option (T (zp ux)):=sF Tryz.prog [(164,⟨kK,kL,zgE⟩),(180,⟨xT,xU,zae⟩)] (fun _ _ _ _=>none) (fun _ _=>false) 100 140 uw ux
theorem zkk:Con.Ok Tryz.prog 140 ⟨uw,ux,zeI⟩:=zC (ze zlX (ze zca zo)) zr (by kernel_rfl)
def zln:T (zp QD)→Option (T (zp QE)):=sF Tryz.prog [] (fun _ _ _ _=>none) (fun _ _=>false) 100 166 QD QE
theorem zrt:Con.Ok Tryz.prog 166 ⟨QD,QE,zln⟩:=zC zo zr (by kernel_rfl)
def zdz:T (zp vP)→Option (T (zp vQ)):=sF Tryz.prog [(166,⟨QD,QE,zln⟩)] (fun _ _ _ _=>none) (fun _ _=>false) 100 142 vP vQ
theorem zi4:Con.Ok Tryz.prog 142 ⟨vP,vQ,zdz⟩:=zC (ze zrt zo) zr (by kernel_rfl)
def zz1:T (zp xz)→Option (T (zp xA)):=sF Tryz.prog [(139,⟨gx,gy,zhr⟩),(140,⟨uw,ux,zeI⟩),(142,⟨vP,vQ,zdz⟩),(180,⟨xT,xU,zae⟩)] (fun _ _ _ _=>none) (fun _ _=>false) 100 101 xz xA
theorem ztC:Con.Ok Tryz.prog 101 ⟨xz,xA,zz1⟩:=zC (ze znO (ze zkk (ze zi4 (ze zca zo)))) zr (by kernel_rfl)
def zbB:T (zp xz)→Option (T (zp xA)):=Vr [((([(127,100)],100),8,200,()),((131072,1016),0,()))]
theorem zbC:Con.Ok Tryz.prog 101 ⟨xz,xA,zbB⟩:=XH ztC (yS (by kernel_rfl) Kx)
def zbD:T (zp vS)→Option (T (zp vT)):=sF Tryz.prog [(84,⟨ye,yf,Xn⟩)] (fun _ _ _ _=>none) (fun _ _=>false) 100 102 vS vT
theorem zbE:Con.Ok Tryz.prog 102 ⟨vS,vT,zbD⟩:=zC (ze YE zo) zr (by kernel_rfl)
def zer:T (zp kp)→Option (T (zp kq)):=sF Tryz.prog [] (fun _ _ _ _=>none) (fun _ _=>false) 100 59 kp kq
theorem zgF:Con.Ok Tryz.prog 59 ⟨kp,kq,zer⟩:=zC zo zr (by kernel_rfl)
def zes:T (zp ku)→Option (T (zp kx)):=sF Tryz.prog [] (fun _ _ _ _=>none) (fun _ _=>false) 100 182 ku kx
theorem zgG:Con.Ok Tryz.prog 182 ⟨ku,kx,zes⟩:=zC zo zr (by kernel_rfl)
def zhs:T (zp gz)→Option (T (zp gC)):=sF Tryz.prog [] (fun _ _ _ _=>none) (fun _ _=>false) 100 184 gz gC
theorem znS:Con.Ok Tryz.prog 184 ⟨gz,gC,zhs⟩:=zC zo zr (by kernel_rfl)
def zeJ:T (zp uA)→Option (T (zp uB)):=sF Tryz.prog [] (fun _ _ _ _=>none) (fun _ _=>false) 100 183 uA uB
theorem zkl:Con.Ok Tryz.prog 183 ⟨uA,uB,zeJ⟩:=zC zo zr (by kernel_rfl)
def zeK:T (zp uC)→Option (T (zp uD)):=sF Tryz.prog [] (fun _ _ _ _=>none) (fun _ _=>false) 100 196 uC uD
theorem zkm:Con.Ok Tryz.prog 196 ⟨uC,uD,zeK⟩:=zC zo zr (by kernel_rfl)
def Vz:T (zp wP)→Option (T (zp wQ)):=sF Tryz.prog [(196,⟨uC,uD,zeK⟩)] (fun _ _ _ _=>none) (fun _ _=>false) 100 193 wP wQ
theorem zbY:Con.Ok Tryz.prog 193 ⟨wP,wQ,Vz⟩:=zC (ze zkm zo) zr (by kernel_rfl)
def zeL:T (zp uE)→Option (T (zp uF)):=sF Tryz.prog [(193,⟨wP,wQ,Vz⟩)] (fun _ _ _ _=>none) (fun _ _=>false) 100 185 uE uF
theorem zkn:Con.Ok Tryz.prog 185 ⟨uE,uF,zeL⟩:=zC (ze zbY zo) zr (by kernel_rfl)
def zlo:T (zp QF)→Option (T (zp QG)):=sF Tryz.prog [(182,⟨ku,kx,zes⟩)] (fun _ _ _ _=>none) (fun _ _=>false) 100 186 QF QG
theorem zru:Con.Ok Tryz.prog 186 ⟨QF,QG,zlo⟩:=zC (ze zgG zo) zr (by kernel_rfl)
def znT:T (zp JB)→Option (T (zp JC)):=sF Tryz.prog [(182,⟨ku,kx,zes⟩),(184,⟨gz,gC,zhs⟩),(183,⟨uA,uB,zeJ⟩),(185,⟨uE,uF,zeL⟩),(186,⟨QF,QG,zlo⟩)] (fun _ _ _ _=>none) (fun _ _=>false) 100 171 JB JC
theorem ztD:Con.Ok Tryz.prog 171 ⟨JB,JC,znT⟩:=zC (ze zgG (ze znS (ze zkl (ze zkn (ze zru zo))))) zr (by kernel_rfl)
def zgH:T (zp gF)→Option (T (zp gG)):=sF Tryz.prog [(171,⟨JB,JC,znT⟩)] (fun _ _ _ _=>none) (fun _ _=>false) 100 150 gF gG
theorem zht:Con.Ok Tryz.prog 150 ⟨gF,gG,zgH⟩:=zC (ze ztD zo) zr (by kernel_rfl)
def zgI:T (zp kM)→Option (T (zp kN)):=sF Tryz.prog [(150,⟨gF,gG,zgH⟩)] (fun _ _ _ _=>none) (fun _ _=>false) 100 148 kM kN
theorem zlY:Con.Ok Tryz.prog 148 ⟨kM,kN,zgI⟩:=zC (ze zht zo) zr (by kernel_rfl)
def Gx:T (zp vf)→Option (T (zp vg)):=sF Tryz.prog [(84,⟨ye,yf,Xn⟩),(59,⟨kp,kq,zer⟩),(148,⟨kM,kN,zgI⟩)] (fun _ _ _ _=>none) (fun _ _=>false) 100 103 vf vg
theorem zaf:Con.Ok Tryz.prog 103 ⟨vf,vg,Gx⟩:=zC (ze YE (ze zgF (ze zlY zo))) zr (by kernel_rfl)
def zeM:T (zp uG)→Option (T (zp uH)):=sF Tryz.prog [(84,⟨ye,yf,Xn⟩),(59,⟨kp,kq,zer⟩)] (fun _ _ _ _=>none) (fun _ _=>false) 100 149 uG uH
theorem zko:Con.Ok Tryz.prog 149 ⟨uG,uH,zeM⟩:=zC (ze YE (ze zgF zo)) zr (by kernel_rfl)
def Ke:T (zp xb)→Option (T (zp xc)):=sF Tryz.prog [(149,⟨uG,uH,zeM⟩),(150,⟨gF,gG,zgH⟩)] (fun _ _ _ _=>none) (fun _ _=>false) 100 104 xb xc
theorem KN:Con.Ok Tryz.prog 104 ⟨xb,xc,Ke⟩:=zC (ze zko (ze zht zo)) zr (by kernel_rfl)
def zAU:T (zp gg)→Option (T (zp gh)):=sF Tryz.prog [(13,⟨jj,jk,JU⟩),(72,⟨wU,wW,YF⟩),(136,⟨qA,qB,vh⟩),(100,⟨gv,gw,ze9⟩),(101,⟨xz,xA,zbB⟩),(102,⟨vS,vT,zbD⟩),(103,⟨vf,vg,Gx⟩),(104,⟨xb,xc,Ke⟩)] (fun _ _ _ _=>none) (fun _ _=>false) 100 15 gg gh
theorem zvr:Con.Ok Tryz.prog 15 ⟨gg,gh,zAU⟩:=zC (ze Yq (ze Vk (ze uI (ze zeq (ze zbC (ze zbE (ze zaf (ze KN zo)))))))) zr (by kernel_rfl)
def zpW:T (zp gg)→Option (T (zp gh)):=Vr [((nF,[(1,0,2,6,100,0,(200,16384),6000,[[0,2]])],0,()),(((200,16384),(131072,1016),2616,216),0,())),((nF,[(1,0,2,6,100,0,(200,16384),6000,[[0,2]])],1,()),(((0,0),(0,0),0,0),4,())),((nF,[(1,0,2,6,100,0,(200,131073),6000,[[0,2]])],0,()),(((0,0),(0,0),0,0),141,())),((nF,[(1,0,2,6,201,0,(300,16384),6000,[[0,2]])],0,()),(((0,0),(0,0),0,0),2,()))]
theorem zvs:Con.Ok Tryz.prog 15 ⟨gg,gh,zpW⟩:=XH zvr (yS (by kernel_rfl) (yS (by kernel_rfl) (yS (by kernel_rfl) (yS (by kernel_rfl) Kx))))
def zi5:T (zp kY)→Option (T (zp kZ)):=sF Tryz.prog [] (fun _ _ _ _=>none) (fun _ _=>false) 100 47 kY kZ
theorem zpj:Con.Ok Tryz.prog 47 ⟨kY,kZ,zi5⟩:=zC zo zr (by kernel_rfl)
def zgJ:T (zp kO)→Option (T (zp kP)):=sF Tryz.prog [] (fun _ _ _ _=>none) (fun _ _=>false) 100 116 kO kP
theorem zlZ:Con.Ok Tryz.prog 116 ⟨kO,kP,zgJ⟩:=zC zo zr (by kernel_rfl)
def zgK:T (zp gH)→Option (T (zp gI)):=sF Tryz.prog [(37,⟨jF,jG,JH⟩),(116,⟨kO,kP,zgJ⟩)] (fun _ _ _ _=>none) (fun _ _=>false) 100 80 gH gI
theorem zhu:Con.Ok Tryz.prog 80 ⟨gH,gI,zgK⟩:=zC (ze Qn (ze zlZ zo)) zr (by kernel_rfl)
def zz2:T (zp uY)→Option (T (zp uZ)):=sF Tryz.prog [(13,⟨jj,jk,JU⟩),(72,⟨wU,wW,YF⟩),(47,⟨kY,kZ,zi5⟩),(136,⟨qA,qB,vh⟩),(100,⟨gv,gw,ze9⟩),(101,⟨xz,xA,zbB⟩),(102,⟨vS,vT,zbD⟩),(103,⟨vf,vg,Gx⟩),(104,⟨xb,xc,Ke⟩),(80,⟨gH,gI,zgK⟩)] (fun _ _ _ _=>none) (fun _ _=>false) 100 17 uY uZ
theorem ztE:Con.Ok Tryz.prog 17 ⟨uY,uZ,zz2⟩:=zC (ze Yq (ze Vk (ze zpj (ze uI (ze zeq (ze zbC (ze zbE (ze zaf (ze KN (ze zhu zo)))))))))) zr (by kernel_rfl)
def znU:T (zp uY)→Option (T (zp uZ)):=Vr [((nF,[(1,0,2,6,100,0,(200,16384),6000,[[0,2]])],1,0,()),(5262,0,()))]
theorem ztF:Con.Ok Tryz.prog 17 ⟨uY,uZ,znU⟩:=XH ztE (yS (by kernel_rfl) Kx)
def zxB:T (zp yE)→Option (T (zp yF)):=sF Tryz.prog [(13,⟨jj,jk,JU⟩),(72,⟨wU,wW,YF⟩),(136,⟨qA,qB,vh⟩),(100,⟨gv,gw,ze9⟩),(101,⟨xz,xA,zbB⟩),(102,⟨vS,vT,zbD⟩),(103,⟨vf,vg,Gx⟩),(104,⟨xb,xc,Ke⟩),(80,⟨gH,gI,zgK⟩)] (fun _ _ _ _=>none) (fun _ _=>false) 100 20 yE yF
theorem zrv:Con.Ok Tryz.prog 20 ⟨yE,yF,zxB⟩:=zC (ze Yq (ze Vk (ze uI (ze zeq (ze zbC (ze zbE (ze zaf (ze KN (ze zhu zo))))))))) zr (by kernel_rfl)
def zet:T (zp yE)→Option (T (zp yF)):=Vr [((nF,[],()),(0,())),((nF,[(1,0,2,6,100,0,(200,16384),6000,[[0,2]])],()),(0,())),((nF,[(1,0,2,6,100,0,(200,16384),6000,[[0,2]]),(2,0,2,6,100,0,(200,16384),6000,[[0,2]])],()),(412,())),((nF,[(1,0,2,6,100,0,(7985,16384),1099511627776,[[0,2]])],()),(7,()))]
theorem zgL:Con.Ok Tryz.prog 20 ⟨yE,yF,zet⟩:=XH zrv (yS (by kernel_rfl) (yS (by kernel_rfl) (yS (by kernel_rfl) (yS (by kernel_rfl) Kx))))
def zvt:T (zp uk)→Option (T (zp um)):=sF Tryz.prog [(37,⟨jF,jG,JH⟩),(82,⟨ug,uh,zcO⟩)] (fun _ _ _ _=>none) (fun _ _=>false) 100 51 uk um
theorem zpk:Con.Ok Tryz.prog 51 ⟨uk,um,zvt⟩:=zC (ze Qn (ze zeH zo)) zr (by kernel_rfl)
def zi6:T (zp uk)→Option (T (zp um)):=Vr [((nT,(1,0,2,6,100,0,(200,16384),6000,[[0,2]]),()),(0,())),((nT,(2,0,2,6,100,0,(200,16384),6000,[[0,2]]),()),(0,())),((nT,(1,0,2,6,100,0,(200,131073),6000,[[0,2]]),()),(0,())),((nT,(1,0,2,6,201,0,(300,16384),6000,[[0,2]]),()),(0,())),((nT,(1,0,2,6,100,0,(7985,16384),1099511627776,[[0,2]]),()),(0,()))]
theorem zpl:Con.Ok Tryz.prog 51 ⟨uk,um,zi6⟩:=XH zpk (yS (by kernel_rfl) (yS (by kernel_rfl) (yS (by kernel_rfl) (yS (by kernel_rfl) (yS (by kernel_rfl) Kx)))))
def zxC:T (zp vY)→Option (T (zp vZ)):=sF Tryz.prog [(20,⟨yE,yF,zet⟩),(51,⟨uk,um,zi6⟩)] (fun _ _ _ _=>none) (fun _ _=>false) 100 22 vY vZ
theorem zrw:Con.Ok Tryz.prog 22 ⟨vY,vZ,zxC⟩:=zC (ze zgL (ze zpl zo)) zr (by kernel_rfl)
def zlp:T (zp vY)→Option (T (zp vZ)):=Vr [((nF,[],(1,0,2,6,100,0,(200,16384),6000,[[0,2]]),()),([(1,0,2,6,100,0,(200,16384),6000,[[0,2]])],0,())),((nF,[(1,0,2,6,100,0,(200,16384),6000,[[0,2]])],(2,0,2,6,100,0,(200,16384),6000,[[0,2]]),()),([],412,()))]
theorem zrx:Con.Ok Tryz.prog 22 ⟨vY,vZ,zlp⟩:=XH zrw (yS (by kernel_rfl) (yS (by kernel_rfl) Kx))
def znV:T (zp zby)→Option (T (zp zbz)):=sF Tryz.prog [] (fun _ _ _ _=>none) (fun _ _=>false) 100 24 zby zbz
theorem ztG:Con.Ok Tryz.prog 24 ⟨zby,zbz,znV⟩:=zC zo zr (by kernel_rfl)
def zlq:T (zp QK)→Option (T (zp QL)):=sF Tryz.prog [(28,⟨zc7,zc8,zpU⟩),(29,⟨Vh,Vi,zgB⟩),(15,⟨gg,gh,zpW⟩),(17,⟨uY,uZ,znU⟩),(22,⟨vY,vZ,zlp⟩),(24,⟨zby,zbz,znV⟩),(20,⟨yE,yF,zet⟩)] (fun _ _ _ _=>none) (fun _ _=>false) 100 19 QK QL
theorem zgM:Con.Ok Tryz.prog 19 ⟨QK,QL,zlq⟩:=zC (ze zvp (ze zlU (ze zvs (ze ztF (ze zrx (ze ztG (ze zgL zo))))))) zr (by kernel_rfl)
theorem zD1:zlq ()=some (true,()):=by kernel_rfl
theorem zD2:Con.Ok Tryz.prog 19 ⟨QK,QL,fun _=>some (true,())⟩:=⟨zgM.1,fun x r h=>zgM.2 x r (by cases x;rw [←h];exact zD1)⟩
def QM:(Unit)→Option (Bool×Unit):=fun _=>some (true,())
theorem zry:Con.Ok Tryz.prog 19 ⟨QK,QL,QM⟩:=zD2
theorem zrz:QM ()=some (true,()):=rfl
abbrev zxD:List VT:=[⟨true,qz⟩,⟨false,(.list zv)⟩]
abbrev zxE:List VT:=[⟨false,I⟩]
def zvu:zV:=zS [cdF qz,cdF zv,cdF gf,cdF zw,cdF zP,cdF zQ,cdF qg] [] [] [] [45,46,50]
def zeu (xH:Xg) (vr:VG) (xI:Xm) (a0:qC) (a1:(List zO)):Option (Int×Unit):=
 opt (xH (a0,(a1,()))) fun x0=>
 bif !(zi x0.1 0) then some (x0.1,())
 else opt (zz (fun s1:((Int×(Int×Unit))×Unit)=>
   bif (zh s1.1.2.1 ((a0.2.2.1.length:Nat):Int)) then opt (vr (a0,(a1,(s1.1.2.1,())))) fun x2=>
    bif zi x2.2.1 4 then some (.inr ((s1.1.1,((wrF .i64 (s1.1.2.1+1)),())),()))
    else bif !(zi x2.2.1 0) then some (.inl (1,((x2.2.1,(s1.1.2.1,())),())))
     else bif zh a0.2.1.2.2.2 x2.1.2.2.2 then some (.inl (1,((7,(s1.1.2.1,())),())))
      else some (.inr ((s1.1.1,((wrF .i64 (s1.1.2.1+1)),())),()))
   else some (.inl (0,((s1.1.1,(s1.1.2.1,())),())))) zL ((0,(0,())),())) fun x3=>
  bif Nat.beq x3.1 0 then opt (zz (fun s4:((Int×(Int×Unit))×Unit)=>
    bif (zh s4.1.2.1 ((a1.length:Nat):Int)) then opt (zz (fun s5:((Int×(Int×Unit))×Unit)=>
      opt (atI a1 s4.1.2.1) fun x6=>
      bif (zh s5.1.2.1 ((x6.2.2.2.2.2.2.2.2.length:Nat):Int)) then opt (atI a1 s4.1.2.1) fun x7=>
       opt (atI x7.2.2.2.2.2.2.2.2 s5.1.2.1) fun x8=>
       opt (xI (a0,(a1,(x8,())))) fun x9=>
       bif !(zi x9.2.1 0) then some (.inl (1,((x9.2.1,(s5.1.2.1,())),())))
       else opt (atI a1 s4.1.2.1) fun x10=>
        bif zh x10.2.2.2.2.2.2.2.1 x9.1 then some (.inl (1,((412,(s5.1.2.1,())),())))
        else some (.inr ((s5.1.1,((wrF .i64 (s5.1.2.1+1)),())),()))
      else some (.inl (0,((s5.1.1,(s5.1.2.1,())),())))) zL ((s4.1.1,(0,())),())) fun x11=>
     bif Nat.beq x11.1 0 then some (.inr ((x11.2.1.1,((wrF .i64 (s4.1.2.1+1)),())),()))
     else some (.inl (1,((x11.2.1.1,(s4.1.2.1,())),())))
    else some (.inl (0,((s4.1.1,(s4.1.2.1,())),())))) zL ((x3.2.1.1,(0,())),())) fun x12=>
   bif Nat.beq x12.1 0 then some (0,())
   else some (x12.2.1.1,())
  else some (x3.2.1.1,())
abbrev zlr:Type:=(qC×(List zO)×Unit)→Option (Int×Unit)
def zls:Xg→VG→Xm→zlr:=fun xH vr xI=>sF Tryz.prog [(45,⟨zgg,zgh,xH⟩),(46,⟨zh9,zia,vr⟩),(50,⟨zgx,zgy,xI⟩)] zvu (zR []) 30 21 zxD zxE
theorem zxF (xH) (vr) (xI) (a0) (a1):zls xH vr xI (a0,a1,())=zeu xH vr xI a0 a1:=by kernel_rfl
def zlt:zlr:=zls ZX QU ZZ
theorem zrA (a0) (a1):zlt (a0,a1,())=zeu ZX QU ZZ a0 a1:=zxF ZX QU ZZ a0 a1
abbrev Kf:List VT:=[⟨true,qz⟩,⟨false,(.list zv)⟩,⟨false,I⟩]
abbrev Kg:List VT:=[⟨false,(.list zv)⟩,⟨false,I⟩]
def zrB:zV:=zS [cdF qz,cdF zw,cdF zP,cdF zQ,cdF qg] [] [⟨2,35,some 6,zv,true⟩,⟨5,35,some 6,zv,true⟩] [] [20,47]
def zbF (ju:QI) (jL:QX) (a0:qC) (a1:(List zO)) (a2:Int):Option ((List zO)×Int×Unit):=
 opt (ju (a0,(a1,()))) fun x0=>
 bif !(zi x0.1 0) then some ([],(x0.1,()))
 else opt (jL (a1,(a2,()))) fun x1=>
  bif !(zi x1.2.1 0) then some ([],(x1.2.1,()))
  else opt (XO a1 none (some x1.1) (some x1.1)) fun x2=>
   opt (XO a1 (some (wrF .i64 (x1.1+1))) none none) fun x3=>
   bif jb x2.length x3.length 96 then some ((x2++x3),(0,()))
   else none
abbrev zbG:Type:=(qC×(List zO)×Int×Unit)→Option ((List zO)×Int×Unit)
def zhv:QI→QX→zbG:=fun ju jL=>sF Tryz.prog [(20,⟨yE,yF,ju⟩),(47,⟨kY,kZ,jL⟩)] zrB (zR []) 30 25 Kf Kg
theorem ztH (ju) (jL) (a0) (a1) (a2):zhv ju jL (a0,a1,a2,())=zbF ju jL a0 a1 a2:=by kernel_rfl
def gJ:zbG:=zhv yG xD
theorem znW:Con.Ok Tryz.prog 25 ⟨Kf,Kg,gJ⟩:=zC (ze zab (ze zeF zo)) zr (by kernel_rfl)
theorem znX (a0) (a1) (a2):gJ (a0,a1,a2,())=zbF yG xD a0 a1 a2:=ztH yG xD a0 a1 a2
abbrev Yd:List VT:=[⟨true,xw⟩,⟨false,(.list (.int .u8))⟩]
abbrev KP:List VT:=[⟨false,.bool⟩]
def zcb:zV:=zS [cdF xw,cdF qz,cdF zv,cdF wK,cdF vE,cdF gf,cdF zw,cdF zP,⟨(.pair (.int .u8) (.pair (.int .u8) (.int .u8))),YQ (.pair (.int .u8) (.pair (.int .u8) (.int .u8))),[]⟩,cdF zQ,cdF Qf,cdF qg] [] [⟨1,184,some 7,zv,false⟩,⟨6,184,some 7,zv,false⟩,⟨9,184,some 7,zv,false⟩,⟨11,184,some 7,zv,false⟩,⟨13,184,some 7,zv,false⟩,⟨15,184,some 7,zv,false⟩,⟨17,184,some 7,zv,false⟩,⟨19,184,some 7,zv,false⟩,⟨22,184,some 7,zv,false⟩,⟨26,184,some 7,zv,false⟩,⟨28,184,some 7,zv,false⟩,⟨31,184,some 7,zv,false⟩,⟨34,184,some 7,zv,false⟩,⟨37,184,some 7,zv,false⟩,⟨40,184,some 7,zv,false⟩] [] [19,20,27,15,17]
def KQ (GA:(Unit)→Option (Bool×Unit)) (YG:Uy) (Qr:YW) (GB:zeo) (Kj:zbG) (ju:QI) (xF:Xj) (zda:zh2) (zbR:zgw) (a0:wq) (a1:(List Int)):Option (Bool×Unit):=
 opt (GA ()) fun x0=>
 bif !x0.1 then some (false,())
 else opt (YG (a0,())) fun x1=>
  opt (Qr (a0,())) fun x2=>
  opt (zz (fun s3:((((Int×((List Bool)×(List (Int×(Int×(Int×Int))))))×((Int×(Int×(Int×Int)))×((List ((List (Int×Int))×Int))×Int)))×((List (Int×(Int×(Int×(Int×(Int×(Int×((Int×Int)×(Int×(List (List Int)))))))))))×(Bool×(Int×Unit))))×Unit)=>
   bif (zh s3.1.2.2.2.1 ((x2.1.length:Nat):Int)) then opt (atI x2.1 s3.1.2.2.2.1) fun x4=>
    opt (GB (s3.1.1,(s3.1.2.1,(x4,())))) fun x5=>
    bif (!((zi x5.2.1 0) == (zi ((x5.1.length:Nat):Int) (wrF .i64 (((s3.1.2.1.length:Nat):Int)+1))))) then some (.inl (1,((s3.1.1,(s3.1.2.1,(false,(s3.1.2.2.2.1,())))),())))
    else opt (bif zi x5.2.1 0 then some (0,((x5.1,()),()))
      else some (0,((s3.1.2.1,()),()))) fun x6=>
     opt (bif (zh s3.1.2.2.2.1 ((a1.length:Nat):Int)) then opt (atI a1 s3.1.2.2.2.1) fun x7=>
       opt (Kj (s3.1.1,(x6.2.1.1,((wrF .i64 (Int.tmod x7 7)),())))) fun x8=>
       opt (bif zi x8.2.1 0 then some (0,((x8.1,(s3.1.2.2.1,())),()))
        else bif !(zi x8.2.1 4) then some (1,((x6.2.1.1,(false,())),()))
         else some (0,((x6.2.1.1,(s3.1.2.2.1,())),()))) fun x9=>
       bif Nat.beq x9.1 0 then some (0,((s3.1.1,(x9.2.1.1,(x9.2.1.2.1,()))),()))
       else some (1,((s3.1.1,(x9.2.1.1,(x9.2.1.2.1,()))),()))
      else some (0,((s3.1.1,(x6.2.1.1,(s3.1.2.2.1,()))),()))) fun x10=>
     bif Nat.beq x10.1 0 then opt (ju (x10.2.1.1,(x10.2.1.2.1,()))) fun x11=>
      bif !(zi x11.1 0) then some (.inl (1,((x10.2.1.1,(x10.2.1.2.1,(false,(s3.1.2.2.2.1,())))),())))
      else some (.inr ((x10.2.1.1,(x10.2.1.2.1,(x10.2.1.2.2.1,((wrF .i64 (s3.1.2.2.2.1+1)),())))),()))
     else some (.inl (1,((x10.2.1.1,(x10.2.1.2.1,(x10.2.1.2.2.1,(s3.1.2.2.2.1,())))),())))
   else some (.inl (0,((s3.1.1,(s3.1.2.1,(s3.1.2.2.1,(s3.1.2.2.2.1,())))),())))) zL ((x1.1,([],(false,(0,())))),())) fun x12=>
  bif Nat.beq x12.1 0 then opt (zz (fun s13:((Bool×(Int×Unit))×Unit)=>
    bif (zh s13.1.2.1 ((x12.2.1.1.2.2.1.length:Nat):Int)) then opt (zz (fun s14:((Int×(Bool×(Int×Unit)))×Unit)=>
      bif (zh s14.1.2.2.1 ((x12.2.1.2.1.length:Nat):Int)) then opt (opt (atI x12.2.1.2.1 s14.1.2.2.1) fun x15=>
        opt (xF (x15,(s13.1.2.1,()))) fun x16=>
        bif x16.1 then opt (atI x12.2.1.2.1 s14.1.2.2.1) fun x17=>
         some (0,(((wrF .i64 (s14.1.1+x17.2.2.2.2.2.2.1.2)),(true,())),()))
        else some (0,((s14.1.1,(s14.1.2.1,())),()))) fun x18=>
       some (.inr ((x18.2.1.1,(x18.2.1.2.1,((wrF .i64 (s14.1.2.2.1+1)),()))),()))
      else some (.inl (0,((s14.1.1,(s14.1.2.1,(s14.1.2.2.1,()))),())))) zL ((0,(false,(0,()))),())) fun x19=>
     opt (zda (x12.2.1.1,(x12.2.1.2.1,(s13.1.2.1,())))) fun x20=>
     opt (bif (!(x19.2.1.2.1 == (zi x20.2.1 0))) then some (1,((false,()),()))
      else bif x19.2.1.2.1 then bif !(zi x19.2.1.1 x20.1.1.2) then some (1,((false,()),()))
        else bif zh x20.1.2.1.1 x19.2.1.1 then some (1,((false,()),()))
         else bif zh x12.2.1.1.2.1.2.2.2 x20.1.2.2.2 then some (1,((false,()),()))
          else some (0,((s13.1.1,()),()))
       else some (0,((s13.1.1,()),()))) fun x21=>
     bif Nat.beq x21.1 0 then some (.inr ((x21.2.1.1,((wrF .i64 (s13.1.2.1+1)),())),()))
     else some (.inl (1,((x21.2.1.1,(s13.1.2.1,())),())))
    else some (.inl (0,((s13.1.1,(s13.1.2.1,())),())))) zL ((x12.2.1.2.2.1,(0,())),())) fun x22=>
   bif Nat.beq x22.1 0 then opt (zz (fun s23:((Bool×(Int×Unit))×Unit)=>
     bif (zh s23.1.2.1 ((x12.2.1.2.1.length:Nat):Int)) then opt (zz (fun s24:((Bool×(Int×Unit))×Unit)=>
       opt (atI x12.2.1.2.1 s23.1.2.1) fun x25=>
       bif (zh s24.1.2.1 ((x25.2.2.2.2.2.2.2.2.length:Nat):Int)) then opt (atI x12.2.1.2.1 s23.1.2.1) fun x26=>
        opt (zbR (x12.2.1.1,(x12.2.1.2.1,(x26.1,(s24.1.2.1,()))))) fun x27=>
        opt (bif !(zi x27.2.1 0) then some (1,((false,()),()))
         else opt (atI x12.2.1.2.1 s23.1.2.1) fun x28=>
          bif zh x28.2.2.2.2.2.2.2.1 x27.1 then some (1,((false,()),()))
          else some (0,((s24.1.1,()),()))) fun x29=>
        bif Nat.beq x29.1 0 then some (.inr ((x29.2.1.1,((wrF .i64 (s24.1.2.1+1)),())),()))
        else some (.inl (1,((x29.2.1.1,(s24.1.2.1,())),())))
       else some (.inl (0,((s24.1.1,(s24.1.2.1,())),())))) zL ((s23.1.1,(0,())),())) fun x30=>
      bif Nat.beq x30.1 0 then some (.inr ((x30.2.1.1,((wrF .i64 (s23.1.2.1+1)),())),()))
      else some (.inl (1,((x30.2.1.1,(s23.1.2.1,())),())))
     else some (.inl (0,((s23.1.1,(s23.1.2.1,())),())))) zL ((x22.2.1.1,(0,())),())) fun x31=>
    bif Nat.beq x31.1 0 then some (true,())
    else some (x31.2.1.1,())
   else some (x22.2.1.1,())
  else some (x12.2.1.2.2.1,())
theorem znY (GA:(Unit)→Option (Bool×Unit)) (YG:(wq×Unit)→Option (qC×Unit)) (Qr:(wq×Unit)→Option ((List zO)×Unit)) (GB:(qC×(List zO)×zO×Unit)→Option ((List zO)×Int×Unit)) (Kj:(qC×(List zO)×Int×Unit)→Option ((List zO)×Int×Unit)) (ju:(qC×(List zO)×Unit)→Option (Int×Unit)) (xF:(zO×Int×Unit)→Option (Bool×Unit)) (zda:(qC×(List zO)×Int×Unit)→Option (zaU×Int×Unit)) (zbR:(qC×(List zO)×Int×Int×Unit)→Option (Int×Int×Unit)) (a0:wq) (a1:(List Int)):sF Tryz.prog [(19,⟨QK,QL,GA⟩),(10,⟨Yw,Yx,YG⟩),(11,⟨Qj,Qk,Qr⟩),(22,⟨vY,vZ,GB⟩),(25,⟨Kf,Kg,Kj⟩),(20,⟨yE,yF,ju⟩),(27,⟨Xh,Xi,xF⟩),(15,⟨gg,gh,zda⟩),(17,⟨uY,uZ,zbR⟩)] zcb (zR []) 30 7 Yd KP (a0,a1,())=KQ GA YG Qr GB Kj ju xF zda zbR a0 a1:=by kernel_rfl
def Ye:(wq×(List Int)×Unit)→Option (Bool×Unit):=sF Tryz.prog [(19,⟨QK,QL,QM⟩),(10,⟨Yw,Yx,uu⟩),(11,⟨Qj,Qk,xx⟩),(22,⟨vY,vZ,QJ⟩),(25,⟨Kf,Kg,gJ⟩),(20,⟨yE,yF,yG⟩),(27,⟨Xh,Xi,xB⟩),(15,⟨gg,gh,Yp⟩),(17,⟨uY,uZ,JG⟩)] zcb (zR []) 30 7 Yd KP
theorem zi7:Con.Ok Tryz.prog 7 ⟨Yd,KP,Ye⟩:=zC (ze zry (ze zjZ (ze zfS (ze zro (ze znW (ze zab (ze zo8 (ze zu4 (ze ztq zo))))))))) zr (by kernel_rfl)
theorem zi8 (a0:wq) (a1:(List Int)):Ye (a0,a1,())=KQ QM uu xx QJ gJ yG xB Yp JG a0 a1:=znY QM uu xx QJ gJ yG xB Yp JG a0 a1
abbrev yu:=Int×Int×Int×Int
abbrev qm:=Int×List Bool×List yu
def js (t:qm) (n:Int):Prop:=0≤n∧n < t.1
def stn (t:qm) (n:Int):Bool:=(t.2.1[n.toNat]?).getD false
def zcP (t:qm) (l:yu):Prop:=js t l.1∧js t l.2.1∧l.1≠l.2.1∧¬(stn t l.1=true∧stn t l.2.1=true)∧1≤l.2.2.1∧l.2.2.1≤1000∧0≤l.2.2.2∧l.2.2.2≤10000
def kA (o:yu) (a b:Int):Prop:=(o.1=a∧o.2.1=b)∨(o.1=b∧o.2.1=a)
structure szP (t:qm):Prop where
 n0:2≤t.1
 n1:t.1≤12
 st:(t.2.1.length:Int)=t.1
 ls:t.2.2.length≤24
def zc9 (t:qm):Prop:=∀(i:Nat) l,t.2.2[i]?=some l→zcP t l∧∀(k:Nat) o,k < i→t.2.2[k]?=some o→¬kA o l.1 l.2.1
def one (a:Int) (n:Nat):Int:=if a=(n:Int) then 1 else 0
def cnt (ls:List yu) (n:Nat):Int:=(ls.map fun l=>one l.1 n+one l.2.1 n).sum
def stp (r:List Bool) (l:yu):List Bool:=bif (r[l.1.toNat]?).getD false||(r[l.2.1.toNat]?).getD false then (r.set l.1.toNat true).set l.2.1.toNat true else r
def UE (ls:List yu):Nat→List Bool→List Bool
 |0,r=>r
 |n+1,r=>UE ls n (ls.foldl stp r)
def reachS (t:qm) (a:Nat):List Bool:=UE t.2.2 t.1.toNat ((List.replicate t.1.toNat false).set a true)
structure jX (t:qm):Prop where
 sz:szP t
 ls:zc9 t
 re:∀(n:Nat),(n:Int) < t.1→(reachS t 0)[n]?=some true
 ct:∀(n:Nat),(n:Int) < t.1→stn t n=true→1≤cnt t.2.2 n∧cnt t.2.2 n≤2
theorem zD3 {t:qm} {n:Nat} {b:Bool} (h:t.2.1[n]?=some b):stn t n=b:=by unfold stn;simp [h]
theorem zi9 {t:qm} {n:Int} {b:Bool} (h:t.2.1[n.toNat]?=some b):stn t n=b:=by unfold stn;simp [h]
theorem zvv (t:qm) (n:Int):YS (t,n,())=some (tv (js t n),()):=by
 rw [zsx];unfold zfG js
 refine wv ?_
 refine zk (fun h=>?_) (fun h=>?_)<;>refine za ?_<;>simp only [xO] at *<;>grind
theorem zlu (t:qm) (n:Int):VE (t,n,())=some (tv (js t n),()):=by
 rw [zuK];unfold zhU js
 refine wv ?_
 refine zk (fun h=>?_) (fun h=>?_)<;>refine za ?_<;>simp only [xO] at *<;>grind
theorem zbH (l:yu) (a b:Int):xX (l,a,b,())=some (tv (kA l a b),()):=by
 rw [zqz];unfold zdG kA
 refine wv ?_
 repeat' first | refine zk (fun h=>?_) (fun h=>?_) | refine za ?_
 all_goals simp only [jT] at *
 all_goals grind
theorem js.lt {t:qm} {n:Int} (h:js t n) (hs:szP t):n.toNat < t.2.1.length:=by
 have:=hs.st;have:=h.1;have:=h.2;omega
theorem js.lt' {t:qm} {n:Int} (h:js t n) (hs:szP t):n < (t.2.1.length:Int):=by
 have:=hs.st;have:=h.1;have:=h.2;omega
theorem zja {t:qm} (hs:szP t) (l:yu):uU (t,l,())=some (tv (zcP t l),()):=by
 rw [zsz];unfold zfH
 simp only [zvv,zx]
 refine wv (zj (J:=fun x=>(x.1=0∧js t l.1∧js t l.2.1∧l.1≠l.2.1∧¬(stn t l.1=true∧stn t l.2.1=true))∨(x.1=1∧x.2.1.1=false∧¬(js t l.1∧js t l.2.1∧l.1≠l.2.1∧¬(stn t l.1=true∧stn t l.2.1=true)))) ?_ ?_)
 ·refine zk (fun h=>?_) (fun h=>?_)
  ·have:¬js t l.1:=by intro hn;rw [zA hn] at h;cases h
   exact za (.inr ⟨rfl,rfl,by grind⟩)
  have h1:js t l.1:=xu h
  refine zk (fun h=>?_) (fun h=>?_)
  ·have:¬js t l.2.1:=by intro hn;rw [zA hn] at h;cases h
   exact za (.inr ⟨rfl,rfl,by grind⟩)
  have h2:js t l.2.1:=xu h
  refine zk (fun h=>?_) (fun h=>?_)
  ·have:=qU h
   exact za (.inr ⟨rfl,rfl,by grind⟩)
  have h3:=jU h
  refine zg (qP h1.1 (h1.lt' hs) fun x hx=>?_)
  have e1:=zi9 hx
  refine zk (fun h=>?_) (fun h=>?_)
  ·refine zg (qP h2.1 (h2.lt' hs) fun y hy=>?_)
   have e2:=zi9 hy
   refine zk (fun h=>?_) (fun h=>?_)
   ·exact za (.inr ⟨rfl,rfl,by grind⟩)
   ·exact za (.inl ⟨rfl,by grind⟩)
  ·exact za (.inl ⟨rfl,by grind⟩)
 ·rintro ⟨j,⟨v,⟨⟩⟩,⟨⟩⟩ (⟨rfl,hp⟩ | ⟨rfl,rfl,hp⟩)
  ·rw [show (Nat.beq 0 0)=true from rfl,cond_true]
   unfold zcP
   repeat' first | refine zk (fun h=>?_) (fun h=>?_) | refine za ?_
   all_goals simp only [xO] at *
   all_goals grind
  ·rw [show (Nat.beq 1 0)=false from rfl,cond_false]
   unfold zcP
   exact za (by grind)
theorem zbI {l:List Int} (hn:l.length≤1000000000000000000) (x:Int):xm (l,x,())=some (tv (x∈l),()):=by
 rw [zwK];unfold zj2
 refine wv (zj (J:=fun r=>(r.1=0∧¬x∈l)∨(r.1=1∧r.2.1.1=true∧x∈l)) (qN l.length (fun i=>l[i]?≠some x) hn ?_ ?_) ?_)
 ·intro i hi hp
  have hx:l[i]?=some l[i]:=List.getElem?_eq_getElem hi
  refine zd (zT (show (i:Int) < _ by omega)) (zg (zy (n:=i) hx (zk (fun h=>?_) (fun h=>?_))))
  ·have:=qU h
   exact za (zq (.inr ⟨rfl,rfl,by rw [←this];exact List.getElem_mem hi⟩))
  ·have:=jU h
   exact za (jC (by omega) (by grind))
 ·intro hp
  refine zf (zF (show ¬(l.length:Int) < _ by omega)) (za (zq (.inl ⟨rfl,fun hm=>?_⟩)))
  obtain ⟨k,hk⟩:=List.getElem?_of_mem hm
  exact hp k (by grind) hk
 ·rintro ⟨j,⟨v,w,⟨⟩⟩,⟨⟩⟩ (⟨rfl,hp⟩ | ⟨rfl,rfl,hp⟩)
  ·exact za (by simp [hp])
  ·exact za (by simp [hp])
theorem zGZ (r:List Bool) (l:yu):(stp r l).length=r.length:=by
 unfold stp
 cases (r[l.1.toNat]?).getD false||(r[l.2.1.toNat]?).getD false<;>simp
theorem zgN (ls:List yu):∀r:List Bool,(ls.foldl stp r).length=r.length:=by
 induction ls with
 |nil=>intro r;rfl
 |cons l ls ih=>intro r;rw [List.foldl_cons,ih,zGZ]
theorem zgO (ls:List yu):∀(n:Nat) (r:List Bool),(UE ls n r).length=r.length
 |0,r=>rfl
 |n+1,r=>by rw [UE,zgO ls n,zgN]
theorem znZ (ls:List yu):∀(n:Nat) (r:List Bool),UE ls (n+1) r=ls.foldl stp (UE ls n r)
 |0,r=>rfl
 |n+1,r=>by rw [UE,znZ ls n,UE]
theorem ztI {t:qm} (hs:szP t) (hl:∀(i:Nat) l,t.2.2[i]?=some l→js t l.1∧js t l.2.1) {a:Nat} (ha:(a:Int) < t.1):Vt (t,(a:Int),[],())=some (reachS t a,()):=by
 have h0:=hs.n0;have h1:=hs.n1;have h3:=hs.ls;have h4:=hs.st
 have e1:t.1.toNat=t.2.1.length:=by omega
 rw [zqM];unfold zdR
 simp only [zbI (l:=[]) (by simp),zx]
 refine ym ?_
 refine zd (by unfold zhM;rw [zF (by omega),zF (by omega),zF (by omega)];rfl) ?_
 refine zg (qP (by omega) (by simp;omega) fun _ _=>zg (wc (by simp;omega) fun _ _=>?_))
 refine zj (J:=fun x=>x.2.2.1=reachS t a) (zW t.1.toNat (fun i s=>s=(((i:Int),()),(UE t.2.2 i ((List.replicate t.1.toNat false).set a true),()))) (by omega) rfl ?_ ?_) ?_
 ·rintro i _ hi rfl
  refine zd (zT (show (i:Int) < _ by omega)) ?_
  generalize hr:UE t.2.2 i ((List.replicate t.1.toNat false).set a true)=r
  have hrl:r.length=t.1.toNat:=by rw [←hr,zgO];simp
  refine zj (J:=fun x=>x.2.2.1=t.2.2.foldl stp r) (zW t.2.2.length (fun i s=>s=(((i:Int),()),((t.2.2.take i).foldl stp r,()))) (by omega) rfl ?_ ?_) ?_
  ·rintro k _ hk rfl
   refine zd (zT (show (k:Int) < _ by omega)) ?_
   have hx:t.2.2[k]?=some t.2.2[k]:=List.getElem?_eq_getElem hk
   obtain ⟨⟨a0,a1⟩,⟨b0,b1⟩⟩:=hl k _ hx
   have hnx:(t.2.2.take (k+1)).foldl stp r=stp ((t.2.2.take k).foldl stp r) t.2.2[k]:=by
    rw [List.take_add_one,hx,List.foldl_append];rfl
   have hlen:((t.2.2.take k).foldl stp r).length=t.1.toNat:=by rw [zgN,hrl]
   generalize (t.2.2.take k).foldl stp r=q at hnx hlen
   refine zg (zy (n:=k) hx ?_)
   refine zj (J:=fun x=>x.2.2.1=stp q t.2.2[k]) ?_ ?_
   ·refine zd (by rw [zM (by simp)];rfl) ?_
    refine zg (qP a0 (by show _ < ((q.length:Nat):Int);omega) fun x hx=>zg (wc (by show _ < q.length;omega) fun x' hx'=>?_))
    have ex:x'=x:=Option.some.inj (hx'.symm.trans hx)
    subst ex
    refine zk (fun h=>?_) (fun h=>?_)
    ·subst h
     refine zg (qP a0 (by show _ < ((q.length:Nat):Int);omega) fun _ _=>zg (wc (by show _ < q.length;omega) fun _ _=>?_))
     refine zg (qP b0 (by show _ < (((q.set _ _).length:Nat):Int);simp;omega) fun _ _=>zg (wc (by show _ < (q.set _ _).length;simp;omega) fun _ _=>?_))
     refine za ?_
     show _=stp q _
     unfold stp
     simp only at hx'
     rw [hx'];rfl
    ·subst h
     refine zg (qP b0 (by show _ < ((q.length:Nat):Int);omega) fun y hy=>zg (wc (by show _ < q.length;omega) fun y' hy'=>?_))
     have ey:y'=y:=Option.some.inj (hy'.symm.trans hy)
     subst ey
     refine zk (fun h=>?_) (fun h=>?_)
     ·subst h
      refine zg (qP a0 (by show _ < ((q.length:Nat):Int);omega) fun _ _=>zg (wc (by show _ < q.length;omega) fun _ _=>?_))
      refine zg (qP b0 (by show _ < (((q.set _ _).length:Nat):Int);simp;omega) fun _ _=>zg (wc (by show _ < (q.set _ _).length;simp;omega) fun _ _=>?_))
      refine za ?_
      show _=stp q _
      unfold stp
      simp only at hx' hy'
      rw [hx',hy'];rfl
     ·subst h
      refine za ?_
      show q=stp q _
      unfold stp
      simp only at hx' hy'
      rw [hx',hy'];rfl
   ·rintro ⟨j,⟨⟩,q',⟨⟩⟩ hq
    refine za (qj ?_)
    simp only at hq
    rw [hnx,←hq]
    exact congrArg (fun z=>(((z,()),(q',())):(Int×Unit)×(List Bool×Unit))) (qp (by omega))
  ·rintro _ rfl
   refine zf (zF (show ¬(t.2.2.length:Int) < _ by omega)) (za (zq ?_))
   simp
  ·rintro ⟨j,⟨z,⟨⟩⟩,q',⟨⟩⟩ hq
   refine za (qj ?_)
   simp only at hq
   rw [znZ,hr,←hq]
   exact congrArg (fun z=>(((z,()),(q',())):(Int×Unit)×(List Bool×Unit))) (qp (by omega))
 ·rintro _ rfl
  exact zf (zF (show ¬((t.1.toNat:Nat):Int) < _ by omega)) (za (zq rfl))
 ·rintro ⟨j,⟨z,⟨⟩⟩,q',⟨⟩⟩ hq
  exact za hq
def vD (t:qm) (i:Nat):List Int:=(List.range t.1.toNat).map (cnt (t.2.2.take i))
theorem zD4 (a:Int) (n:Nat):0≤one a n∧one a n≤1:=by unfold one;split<;>omega
theorem zD5 (ls:List yu) (n:Nat):0≤cnt ls n∧cnt ls n≤2*ls.length:=by
 unfold cnt
 induction ls with
 |nil=>simp
 |cons l ls ih=>
  have:=zD4 l.1 n;have:=zD4 l.2.1 n
  simp only [List.map_cons,List.sum_cons,List.length_cons]
  omega
theorem zz3 {ls:List yu} {i:Nat} {l:yu} (h:ls[i]?=some l) (n:Nat):cnt (ls.take (i+1)) n=cnt (ls.take i) n+(one l.1 n+one l.2.1 n):=by
 unfold cnt
 rw [List.take_add_one,h];simp
theorem Yr (t:qm) (i:Nat):(vD t i).length=t.1.toNat:=by simp [vD]
theorem zcQ {t:qm} {i n:Nat} (h:n < t.1.toNat):(vD t i)[n]?=some (cnt (t.2.2.take i) n):=by simp [vD,h]
theorem zwl {t:qm} {i:Nat} {l:yu} (h:t.2.2[i]?=some l) (hl:t.2.2.length≤24) (ha:js t l.1) (hb:js t l.2.1) (hab:l.1≠l.2.1) {u v:Int}
  (hu:(vD t i)[l.1.toNat]?=some u) (hv:((vD t i).set l.1.toNat (wrF .i64 (u+1)))[l.2.1.toNat]?=some v) :
  ((vD t i).set l.1.toNat (wrF .i64 (u+1))).set l.2.1.toNat (wrF .i64 (v+1))=vD t (i+1):=by
 obtain ⟨a0,a1⟩:=ha;obtain ⟨b0,b1⟩:=hb
 have hne:l.1.toNat≠l.2.1.toNat:=by omega
 rw [zcQ (by omega)] at hu
 rw [List.getElem?_set_ne hne,zcQ (by omega)] at hv
 have hu:=Option.some.inj hu;have hv:=Option.some.inj hv
 have k1:=zD5 (t.2.2.take i) l.1.toNat;have k2:=zD5 (t.2.2.take i) l.2.1.toNat
 have k3:(t.2.2.take i).length≤24:=by simp;omega
 rw [zG (by omega) (by omega),zG (by omega) (by omega)]
 apply List.ext_getElem?
 intro n
 by_cases hn:n < t.1.toNat
 ·rw [zcQ hn,zz3 h,List.getElem?_set,List.getElem?_set,zcQ hn]
  unfold one
  simp only [List.length_set,Yr]
  grind
 ·rw [List.getElem?_eq_none (by simp [Yr];omega),List.getElem?_eq_none (by simp [Yr];omega)]
theorem zD6 (t:qm):List.replicate t.1.toNat (0:Int)=vD t 0:=by
 apply List.ext_getElem?
 intro n
 by_cases hn:n < t.1.toNat
 ·rw [zcQ hn];simp [hn,cnt]
 ·rw [List.getElem?_eq_none (by simp;omega),List.getElem?_eq_none (by simp [Yr];omega)]
theorem zz4 (t:qm) {n:Nat} (h:n < t.1.toNat):(vD t t.2.2.length)[n]?=some (cnt t.2.2 n):=by rw [zcQ h,List.take_length]
theorem zcP.nodes {t:qm} {l:yu} (h:zcP t l):js t l.1∧js t l.2.1:=⟨h.1,h.2.1⟩
theorem zpX {t:qm} (h:¬szP t):¬jX t:=fun h'=>h h'.sz
theorem zpY {t:qm} (h:¬zc9 t):¬jX t:=fun h'=>h h'.ls
theorem zhw (t:qm):Za (t,())=some (tv (jX t),()):=by
 rw [zqN];unfold zdU
 refine wv (zj (J:=fun x=>(x.1=0∧x.2.1.1=false∧szP t)∨(x.1=1∧x.2.1.1=false∧¬szP t)) ?_ ?_)
 ·refine zk (fun h=>za (.inr ⟨rfl,rfl,fun hs=>?_⟩)) (fun h1=>zk (fun h=>za (.inr ⟨rfl,rfl,fun hs=>?_⟩)) (fun h2=>zk (fun h=>za (.inr ⟨rfl,rfl,fun hs=>?_⟩)) (fun h3=>zk (fun h=>za (.inr ⟨rfl,rfl,fun hs=>?_⟩)) (fun h4=>za (.inl ⟨rfl,rfl,?_⟩)))))
  ·have:=qn h;have:=hs.n0;omega
  ·have:=qn h;have:=hs.n1;omega
  ·have:=hs.st;rw [vH this] at h;cases h
  ·have:=qn h;have:=hs.ls;omega
  ·have h1:=qE h1;have h2:=qE h2;have h4:=qE h4
   have h3:=qU (by simpa using h3)
   exact ⟨h1,h2,h3,by omega⟩
 rintro ⟨j,⟨v,⟨⟩⟩,⟨⟩⟩ (⟨rfl,rfl,hs⟩ | ⟨rfl,rfl,hs⟩)
 rotate_left
 ·exact zf rfl (za ⟨fun h=>(by cases h),fun h=>absurd h (zpX hs)⟩)
 have n0:=hs.n0;have n1:=hs.n1;have h3:=hs.ls;have h4:=hs.st
 refine zd rfl (zd (zoI (by omega) (by omega) (by omega)) ?_)
 refine zj (J:=fun x=>(x.1=0∧x.2.1.1=false∧x.2.2.1=vD t t.2.2.length∧zc9 t)∨(x.1=1∧x.2.1.1=false∧¬zc9 t))
  (zW t.2.2.length (fun i s=>s=((false,((i:Int),())),(vD t i,()))∧∀(k:Nat),k < i→∀l,t.2.2[k]?=some l→zcP t l∧∀(k':Nat) o,k' < k→t.2.2[k']?=some o→¬kA o l.1 l.2.1) (by omega) ⟨by rw [zD6];rfl,fun k hk=>by omega⟩ ?_ ?_) ?_
 ·rintro i _ hi ⟨rfl,hp⟩
  have hx:t.2.2[i]?=some t.2.2[i]:=List.getElem?_eq_getElem hi
  refine zd (zT (show (i:Int) < _ by omega)) (zg (zy (n:=i) hx ?_))
  rw [zja hs]
  generalize hgl:t.2.2[i]=l at hx
  refine zk (fun h=>?_) (fun h=>?_)
  ·have hn:=yy h
   exact za (zq (.inr ⟨rfl,rfl,fun hq=>hn (hq i l hx).1⟩))
  have hl:=xu h
  refine zj (J:=fun x=>(x.1=0∧x.2.1.1=false∧∀(k':Nat) o,k' < i→t.2.2[k']?=some o→¬kA o l.1 l.2.1)∨(x.1=1∧x.2.1.1=false∧∃(k':Nat) (o:yu),k' < i∧t.2.2[k']?=some o∧kA o l.1 l.2.1))
   (qN i (fun k=>∀o,t.2.2[k]?=some o→¬kA o l.1 l.2.1) (by omega) ?_ ?_) ?_
  ·intro k hk hpk
   have hy:t.2.2[k]?=some t.2.2[k]:=List.getElem?_eq_getElem (by omega)
   refine zd (zT (show (k:Int) < (i:Int) by omega)) (zg (zy (n:=k) hy ?_))
   rw [zbH]
   refine zk (fun h=>?_) (fun h=>?_)
   ·exact za (zq (.inr ⟨rfl,rfl,k,_,hk,hy,ZO h⟩))
   ·exact za (jC (by omega) fun o ho=>by rw [hy] at ho;cases ho;exact Zn h)
  ·intro hpk
   exact zf (zF (show ¬(i:Int) < (i:Int) by omega)) (za (zq (.inl ⟨rfl,rfl,fun k' o hk'=>hpk k' hk' o⟩)))
  ·rintro ⟨j,⟨v,w,⟨⟩⟩,⟨⟩⟩ (⟨rfl,rfl,hpk⟩ | ⟨rfl,rfl,k',o,hk',ho,hj⟩)
   ·refine zd rfl ?_
    obtain ⟨⟨a0,a1⟩,⟨b0,b1⟩⟩:=hl.nodes
    have lc:=Yr t i
    refine zg (qP a0 (by show _ < (((vD t i).length:Nat):Int);omega) fun _ _=>zg (wc (by show _ < (vD t i).length;omega) fun u hu=>zg (qP a0 (by show _ < (((vD t i).length:Nat):Int);omega) fun _ _=>zg (wc (by show _ < (vD t i).length;omega) fun _ _=>?_))))
    refine zg (qP b0 (by show _ < ((((vD t i).set _ _).length:Nat):Int);simp;omega) fun _ _=>zg (wc (by show _ < ((vD t i).set _ _).length;simp;omega) fun w hw=>zg (qP b0 (by show _ < ((((vD t i).set _ _).length:Nat):Int);simp;omega) fun _ _=>zg (wc (by show _ < ((vD t i).set _ _).length;simp;omega) fun _ _=>?_))))
    refine za (qj ⟨?_,?_⟩)
    ·have e:=zwl hx hs.ls hl.1 hl.2.1 hl.2.2.1 hu hw
     show ((false,(wrF .i64 ((i:Int)+1),())),((((vD t i).set l.1.toNat (wrF .i64 (u+1))).set l.2.1.toNat (wrF .i64 (w+1))),()))=_
     rw [e,qp (by omega)]
    ·intro k hk l' hl'
     rcases Nat.lt_or_ge k i with hki | hki
     ·exact hp k hki l' hl'
     ·have:k=i:=by omega
      subst this
      rw [hx] at hl';cases hl'
      exact ⟨hl,fun k' o hk'=>hpk k' o hk'⟩
   ·exact zf rfl (za (zq (.inr ⟨rfl,rfl,fun hq=>(hq i l hx).2 k' o hk' ho hj⟩)))
 ·rintro _ ⟨rfl,hp⟩
  exact zf (zF (show ¬(t.2.2.length:Int) < _ by omega)) (za (zq (.inl ⟨rfl,rfl,rfl,fun i l hl=>hp i (by grind) l hl⟩)))
 rintro ⟨j,⟨v,w,⟨⟩⟩,c,⟨⟩⟩ (⟨rfl,rfl,rfl,hls⟩ | ⟨rfl,rfl,hls⟩)
 rotate_left
 ·exact zf rfl (za ⟨fun h=>(by cases h),fun h=>absurd h (zpY hls)⟩)
 refine zd rfl ?_
 have hre:=ztI (a:=0) hs (fun i l hl=>(hls i l hl).1.nodes) (by omega)
 simp only [Int.natCast_zero] at hre
 rw [hre,zx]
 have hrl:(reachS t 0).length=t.1.toNat:=by unfold reachS;rw [zgO];simp
 refine zj (J:=fun x=>(x.1=0∧jX t)∨(x.1=1∧x.2.1.1=false∧¬jX t)) (qN t.1.toNat (fun n=>(reachS t 0)[n]?=some true∧(stn t n=true→1≤cnt t.2.2 n∧cnt t.2.2 n≤2)) (by omega) ?_ ?_) ?_
 ·intro n hn hp
  refine zd (zT (show (n:Int) < _ by omega)) ?_
  have hr:(reachS t 0)[n]?=some (reachS t 0)[n]:=List.getElem?_eq_getElem (by omega)
  have hst:t.2.1[n]?=some t.2.1[n]:=List.getElem?_eq_getElem (by omega)
  have e1:=zD3 hst
  have e2:=zz4 t hn
  refine zj (J:=fun x=>(x.1=0∧x.2.1.1=false∧(reachS t 0)[n]?=some true∧(stn t n=true→1≤cnt t.2.2 n∧cnt t.2.2 n≤2))∨(x.1=1∧x.2.1.1=false∧¬jX t)) ?_ ?_
  ·refine zg (zy (n:=n) hr ?_)
   refine zk (fun h=>?_) (fun h=>?_)
   ·exact za (.inr ⟨rfl,rfl,fun ht=>by have:=ht.re n (by omega);grind⟩)
   refine zg (zy (n:=n) hst (zk (fun h5=>?_) (fun h5=>?_)))
   ·refine zg (zy (n:=n) e2 (zg (wc (by show n < _;rw [Yr];exact hn) fun u hu=>?_)))
    have hu:u=cnt t.2.2 n:=by have hu:(vD t t.2.2.length)[n]?=some u:=hu;rw [e2] at hu;exact (Option.some.inj hu).symm
    subst hu
    refine zk (fun h6=>?_) (fun h6=>?_)
    ·have:=qn h6
     exact za (.inr ⟨rfl,rfl,fun ht=>by have:=ht.ct n (by omega) (by grind);omega⟩)
    refine zg (zy (n:=n) e2 (zg (wc (by show n < _;rw [Yr];exact hn) fun u hu=>?_)))
    have hu:u=cnt t.2.2 n:=by have hu:(vD t t.2.2.length)[n]?=some u:=hu;rw [e2] at hu;exact (Option.some.inj hu).symm
    subst hu
    refine zk (fun h7=>?_) (fun h7=>?_)
    ·have:=qn h7
     exact za (.inr ⟨rfl,rfl,fun ht=>by have:=ht.ct n (by omega) (by grind);omega⟩)
    ·have:=qE h6;have:=qE h7
     exact za (.inl ⟨rfl,rfl,by grind,fun _=>⟨by omega,by omega⟩⟩)
   ·exact za (.inl ⟨rfl,rfl,by grind,fun hc=>by grind⟩)
  ·rintro ⟨j,⟨v,⟨⟩⟩,⟨⟩⟩ (⟨rfl,rfl,hq⟩ | ⟨rfl,rfl,hq⟩)
   ·exact zd rfl (za (jC (by omega) hq))
   ·exact zf rfl (za (zq (.inr ⟨rfl,rfl,hq⟩)))
 ·intro hp
  exact zf (zF (show ¬((t.1.toNat:Nat):Int) < _ by omega)) (za (zq (.inl ⟨rfl,⟨hs,hls,fun n hn=>(hp n (by omega)).1,fun n hn=>(hp n (by omega)).2⟩⟩)))
 ·rintro ⟨j,⟨v,w,⟨⟩⟩,⟨⟩⟩ (⟨rfl,hq⟩ | ⟨rfl,rfl,hq⟩)
  ·exact zd rfl (za ⟨fun _=>hq,fun _=>rfl⟩)
  ·exact zf rfl (za ⟨fun h=>(by cases h),fun h=>absurd h hq⟩)
def chk (t:qm) (i:Nat) (l:yu) (c:Nat):Prop:=match c with
 |0=>js t l.1∧js t l.2.1∧l.1≠l.2.1
 |1=>¬(stn t l.1=true∧stn t l.2.1=true)
 |2=>∀(k:Nat) o,k < i→t.2.2[k]?=some o→¬kA o l.1 l.2.1
 |_=>1≤l.2.2.1∧l.2.2.1≤1000∧0≤l.2.2.2∧l.2.2.2≤10000
theorem zvw {t:qm} (hs:szP t):YX (t,())=some (tv (zc9 t),()):=by
 have n0:=hs.n0;have n1:=hs.n1;have h3:=hs.ls;have h4:=hs.st
 rw [zsM];unfold zfU
 refine wv (zj (J:=fun x=>(x.1=0∧zc9 t)∨(x.1=1∧x.2.1.1=false∧¬zc9 t))
  (qN t.2.2.length (fun i=>∀l,t.2.2[i]?=some l→zcP t l∧∀(k:Nat) o,k < i→t.2.2[k]?=some o→¬kA o l.1 l.2.1) (by omega) ?_ ?_) ?_)
 ·intro i hi hp
  have hx:t.2.2[i]?=some t.2.2[i]:=List.getElem?_eq_getElem hi
  generalize hgl:t.2.2[i]=l at hx
  refine zd (zT (show (i:Int) < (t.2.2.length:Int) by omega)) ?_
  refine zj (J:=fun x=>(x.1=0∧x.2.1.1=false∧∀c,c < 4→chk t i l c)∨(x.1=1∧x.2.1.1=false∧∃c,¬chk t i l c)) (qN 4 (chk t i l) (by omega) ?_ ?_) ?_
  ·intro c hc hpc
   refine zd (zT (show (c:Int) < 4 by omega)) ?_
   have:c=0∨c=1∨c=2∨c=3:=by omega
   rcases this with rfl | rfl | rfl | rfl
   ·refine zd (vH rfl) (zg (zy (n:=i) hx ?_))
    rw [zlu]
    refine zk (fun h1=>?_) (fun h1=>?_)
    ·rw [zlu]
     refine zk (fun h2=>?_) (fun h2=>?_)
     ·refine zk (fun h=>?_) (fun h=>?_)
      ·have:=qU (show zi l.1 l.2.1=true by simpa using h)
       exact za (zq (.inr ⟨rfl,rfl,0,fun hq=>hq.2.2 this⟩))
      ·have:=jU (show zi l.1 l.2.1=false by simpa using h)
       exact za (jC (by omega) ⟨ZO h1,ZO h2,this⟩)
     ·exact za (zq (.inr ⟨rfl,rfl,0,fun hq=>Zn h2 hq.2.1⟩))
    ·exact za (zq (.inr ⟨rfl,rfl,0,fun hq=>Zn h1 hq.1⟩))
   ·obtain ⟨⟨a0,a1⟩,⟨b0,b1⟩,hab⟩:=hpc 0 (by omega)
    refine zf rfl (zd (vH rfl) (zg (zy (n:=i) hx ?_)))
    refine zg (qP a0 (by show l.1 < _;omega) fun x hx1=>?_)
    have e1:=zi9 hx1
    refine zk (fun h1=>?_) (fun h1=>?_)
    ·exact za (jC (by omega) (by show ¬_;grind))
    ·refine zg (qP b0 (by show l.2.1 < _;omega) fun y hy1=>?_)
     have e2:=zi9 hy1
     refine zk (fun h2=>?_) (fun h2=>?_)
     ·exact za (zq (.inr ⟨rfl,rfl,1,fun hq=>hq (by grind)⟩))
     ·exact za (jC (by omega) (by show ¬_;grind))
   ·refine zf rfl (zf rfl (zd (vH rfl) (zg (zy (n:=i) hx ?_))))
    refine zg (qk (zBn t.2.2 i (by omega)) ?_)
    have lt:(t.2.2.take i).length=i:=by simp;omega
    refine zj (J:=fun x=>(x.1=0∧∀(k:Nat) o,k < i→t.2.2[k]?=some o→¬kA o l.1 l.2.1)∨(x.1=1∧x.2.1.1=false∧∃(k:Nat) (o:yu),k < i∧t.2.2[k]?=some o∧kA o l.1 l.2.1))
     (qN i (fun k=>∀o,t.2.2[k]?=some o→¬kA o l.1 l.2.1) (by omega) ?_ ?_) ?_
    ·intro k hk hpk
     have hy:t.2.2[k]?=some t.2.2[k]:=List.getElem?_eq_getElem (by omega)
     have hy':(t.2.2.take i)[k]?=some t.2.2[k]:=by rw [List.getElem?_take];simp [hk,hy]
     generalize hgo:t.2.2[k]=o at hy hy'
     refine zd (zT (show (k:Int) < (((t.2.2.take i).length:Nat):Int) by omega)) (zg (zy (n:=k) hy' ?_))
     refine zj (J:=fun x=>(x.1=0∧x.2.1.1=false∧¬kA o l.1 l.2.1)∨(x.1=1∧x.2.1.1=false∧kA o l.1 l.2.1)) ?_ ?_
     ·unfold kA
      repeat' first | refine zk (fun h=>?_) (fun h=>?_) | refine za ?_
      all_goals simp only [jT] at *
      all_goals grind
     ·rintro ⟨j,⟨v,⟨⟩⟩,⟨⟩⟩ (⟨rfl,rfl,hq⟩ | ⟨rfl,rfl,hq⟩)
      ·exact zd rfl (za (jC (by omega) fun o' ho=>by rw [hy] at ho;cases ho;exact hq))
      ·exact zf rfl (za (zq (.inr ⟨rfl,rfl,k,o,hk,hy,hq⟩)))
    ·intro hpk
     exact zf (zF (show ¬(i:Int) < (((t.2.2.take i).length:Nat):Int) by omega)) (za (zq (.inl ⟨rfl,fun k' o hk'=>hpk k' hk' o⟩)))
    ·rintro ⟨j,⟨v,w,⟨⟩⟩,⟨⟩⟩ (⟨rfl,hq⟩ | ⟨rfl,rfl,k,o,hk,ho,hj⟩)
     ·exact zd rfl (za (jC (by omega) hq))
     ·exact zf rfl (zd rfl (za (zq (.inr ⟨rfl,rfl,2,fun hq=>hq k o hk ho hj⟩))))
   ·refine zf rfl (zf rfl (zf rfl (zd (vH rfl) (zg (zy (n:=i) hx ?_)))))
    refine zk (fun h1=>?_) (fun h1=>?_)
    ·refine zk (fun h2=>?_) (fun h2=>?_)
     ·refine zk (fun h3=>?_) (fun h3=>?_)
      ·refine zk (fun h4=>?_) (fun h4=>?_)
       ·have:=qn (show zh 10000 l.2.2.2=true by simpa using h4)
        exact za (zq (.inr ⟨rfl,rfl,3,fun hq=>by have:=hq.2.2.2;omega⟩))
       ·have:=qE (show zh l.2.2.1 1=false by simpa using h1)
        have:=qE (show zh 1000 l.2.2.1=false by simpa using h2)
        have:=qE (show zh l.2.2.2 0=false by simpa using h3)
        have:=qE (show zh 10000 l.2.2.2=false by simpa using h4)
        exact za (jC (by omega) ⟨by omega,by omega,by omega,by omega⟩)
      ·have:=qn (show zh l.2.2.2 0=true by simpa using h3)
       exact za (zq (.inr ⟨rfl,rfl,3,fun hq=>by have:=hq.2.2.1;omega⟩))
     ·have:=qn (show zh 1000 l.2.2.1=true by simpa using h2)
      exact za (zq (.inr ⟨rfl,rfl,3,fun hq=>by have:=hq.2.1;omega⟩))
    ·have:=qn (show zh l.2.2.1 1=true by simpa using h1)
     exact za (zq (.inr ⟨rfl,rfl,3,fun hq=>by have:=hq.1;omega⟩))
  ·intro hpc
   exact zf (zF (show ¬((4:Nat):Int) < 4 by omega)) (za (zq (.inl ⟨rfl,rfl,hpc⟩)))
  ·rintro ⟨j,⟨v,w,⟨⟩⟩,⟨⟩⟩ (⟨rfl,rfl,hq⟩ | ⟨rfl,rfl,c,hq⟩)
   ·obtain ⟨c0,c0',c0''⟩:=hq 0 (by omega)
    have c1:=hq 1 (by omega);have c2:=hq 2 (by omega)
    obtain ⟨d1,d2,d3,d4⟩:=hq 3 (by omega)
    exact zd rfl (za (jC (by omega) fun l' hl'=>by rw [hx] at hl';cases hl';exact ⟨⟨c0,c0',c0'',c1,d1,d2,d3,d4⟩,c2⟩))
   ·refine zf rfl (za (zq (.inr ⟨rfl,rfl,fun ht=>hq ?_⟩)))
    obtain ⟨⟨c0,c0',c0'',c1,d1,d2,d3,d4⟩,c2⟩:=ht i l hx
    unfold chk
    split
    ·exact ⟨c0,c0',c0''⟩
    ·exact c1
    ·exact c2
    ·exact ⟨d1,d2,d3,d4⟩
 ·intro hp
  exact zf (zF (show ¬(t.2.2.length:Int) < (t.2.2.length:Int) by omega)) (za (zq (.inl ⟨rfl,fun i l hl=>hp i (by grind) l hl⟩)))
 ·rintro ⟨j,⟨v,w,⟨⟩⟩,⟨⟩⟩ (⟨rfl,hq⟩ | ⟨rfl,rfl,hq⟩)
  ·exact zd rfl (za ⟨fun _=>hq,fun _=>rfl⟩)
  ·exact zf rfl (za ⟨fun h=>(by cases h),fun h=>absurd h hq⟩)
abbrev zH4:Bool×Bool×Bool×Bool×Bool×Bool×Bool×Bool×Bool×Bool×Bool×Bool×Bool×Bool×Bool×Bool×Bool×Bool×Bool×Bool×Bool×Bool×Bool×Bool:=(false,(false,(false,(false,(false,(false,(false,(false,(false,(false,(false,(false,(false,(false,(false,(false,(false,(false,(false,(false,(false,(false,(false,false)))))))))))))))))))))))
noncomputable def zGi (q:List Bool) (x4:yu):Option (Nat×(Unit×(List Bool×Unit))):=opt (atI q x4.1) fun x5=>
 opt (gl q (Int.toNat x4.1)) fun x6=>
 opt (atI q x4.2.1) fun x7=>
 opt (gl q (Int.toNat x4.2.1)) fun x8=>
 bif (!(x6 == x8)) then opt (atI q x4.1) fun x9=>
  opt (gl q (Int.toNat x4.1)) fun x10=>
  opt (atI (q.set (Int.toNat x4.1) true) x4.2.1) fun x11=>
  opt (gl (q.set (Int.toNat x4.1) true) (Int.toNat x4.2.1)) fun x12=>
  some (0,((),(((q.set (Int.toNat x4.1) true).set (Int.toNat x4.2.1) true),())))
 else some (0,((),(q,())))
theorem zG0 {q:List Bool} {l:yu} {n:Nat} (hq:q.length=n) (a0:0≤l.1) (a1:l.1 < n) (b0:0≤l.2.1) (b1:l.2.1 < n):qt (zGi q l) fun x=>x.2.2.1=stp q l:=by
 unfold zGi
 refine zg (qP a0 (by omega) fun _ _=>zg (wc (by omega) fun x hx=>zg (qP b0 (by omega) fun _ _=>zg (wc (by omega) fun y hy=>?_))))
 refine zk (fun h=>?_) (fun h=>?_)
 ·refine zg (qP a0 (by omega) fun _ _=>zg (wc (by omega) fun _ _=>?_))
  refine zg (qP b0 (by simp;omega) fun _ _=>zg (wc (by simp;omega) fun _ _=>?_))
  refine za ?_
  show _=stp q l
  unfold stp
  rw [hx,hy]
  cases x<;>cases y<;>simp at h ⊢
 ·refine za ?_
  show q=stp q l
  unfold stp
  rw [hx,hy]
  cases x<;>cases y<;>simp at h ⊢
  apply List.ext_getElem?
  intro k
  simp only [List.getElem?_set]
  grind
theorem zvx {t:qm} (hs:szP t) (hl:∀(i:Nat) l,t.2.2[i]?=some l→js t l.1∧js t l.2.1):Jr (t,0,zH4,())=some (reachS t 0,()):=by
 have h0:=hs.n0;have h1:=hs.n1;have h3:=hs.ls;have h4:=hs.st
 have e1:t.1.toNat=t.2.1.length:=by omega
 rw [zsO];unfold zfV
 refine ym ?_
 refine zd (zoI (by omega) (by omega) (by omega)) ?_
 refine zg (qP (by omega) (by simp;omega) fun _ _=>zg (wc (by simp;omega) fun _ _=>?_))
 refine zj (J:=fun x=>x.2.2.1=reachS t 0) (zW t.1.toNat (fun i s=>s=(((i:Int),()),(UE t.2.2 i ((List.replicate t.1.toNat false).set 0 true),()))) (by omega) rfl ?_ ?_) ?_
 ·rintro i _ hi rfl
  refine zd (zT (show (i:Int) < _ by omega)) ?_
  generalize hr:UE t.2.2 i ((List.replicate t.1.toNat false).set 0 true)=r
  have hrl:r.length=t.1.toNat:=by rw [←hr,zgO];simp
  refine zj (J:=fun x=>x.2.2.1=t.2.2.foldl stp r) (zW t.2.2.length (fun i s=>s=(((i:Int),()),((t.2.2.take i).foldl stp r,()))) (by omega) rfl ?_ ?_) ?_
  ·rintro k _ hk rfl
   refine zd (zT (show (k:Int) < _ by omega)) ?_
   have hx:t.2.2[k]?=some t.2.2[k]:=List.getElem?_eq_getElem hk
   obtain ⟨⟨a0,a1⟩,⟨b0,b1⟩⟩:=hl k _ hx
   have hnx:(t.2.2.take (k+1)).foldl stp r=stp ((t.2.2.take k).foldl stp r) t.2.2[k]:=by
    rw [List.take_add_one,hx,List.foldl_append];rfl
   have hlen:((t.2.2.take k).foldl stp r).length=t.1.toNat:=by rw [zgN,hrl]
   generalize (t.2.2.take k).foldl stp r=q at hnx hlen
   generalize t.2.2[k]=l at hx hnx a0 a1 b0 b1
   refine zg (zy (n:=k) hx ?_)
   have key:=zG0 hlen a0 (show l.1 < (t.1.toNat:Nat) by omega) b0 (show l.2.1 < (t.1.toNat:Nat) by omega)
   refine zj (J:=fun x=>x.2.2.1=stp q l) ?_ ?_
   ·rcases (by omega:k=0∨k=1∨k=2∨k=3∨k=4∨k=5∨k=6∨k=7∨k=8∨k=9∨k=10∨k=11∨k=12∨k=13∨k=14∨k=15∨k=16∨k=17∨k=18∨k=19∨k=20∨k=21∨k=22∨k=23) with rfl | rfl | rfl | rfl | rfl | rfl | rfl | rfl | rfl | rfl | rfl | rfl | rfl | rfl | rfl | rfl | rfl | rfl | rfl | rfl | rfl | rfl | rfl | rfl
    all_goals exact key
   ·rintro ⟨j,⟨⟩,q',⟨⟩⟩ hq
    refine za (qj ?_)
    simp only at hq
    rw [hnx,←hq]
    exact congrArg (fun z=>(((z,()),(q',())):(Int×Unit)×(List Bool×Unit))) (qp (by omega))
  ·rintro _ rfl
   refine zf (zF (show ¬(t.2.2.length:Int) < _ by omega)) (za (zq ?_))
   simp
  ·rintro ⟨j,⟨z,⟨⟩⟩,q',⟨⟩⟩ hq
   refine za (qj ?_)
   simp only at hq
   rw [znZ,hr,←hq]
   exact congrArg (fun z=>(((z,()),(q',())):(Int×Unit)×(List Bool×Unit))) (qp (by omega))
 ·rintro _ rfl
  exact zf (zF (show ¬((t.1.toNat:Nat):Int) < _ by omega)) (za (zq rfl))
 ·rintro ⟨j,⟨z,⟨⟩⟩,q',⟨⟩⟩ hq
  exact za hq
theorem zcR {l:List Bool} (hn:l.length≤1000000000000000000) (b:Bool):qt (yD (l,b,())) fun r=>(0≤r.1∧b∈l)∨(r.1 = -1∧¬b∈l):=by
 rw [zbT];unfold Qw
 refine zj (J:=fun x=>(x.1=0∧¬b∈l)∨(x.1=1∧0≤x.2.1.1∧b∈l)) (qN l.length (fun i=>l[i]?≠some b) hn ?_ ?_) ?_
 ·intro i hi hp
  have hx:l[i]?=some l[i]:=List.getElem?_eq_getElem hi
  refine zd (zT (show (i:Int) < (l.length:Int) by omega)) (zg (zy (n:=i) hx (zk (fun h=>?_) (fun h=>?_))))
  ·have:b=l[i]:=eq_of_beq h
   exact za (zq (.inr ⟨rfl,by show (0:Int)≤(i:Int);omega,by rw [this];exact List.getElem_mem hi⟩))
  ·exact za (jC (by omega) (by rw [hx];intro e;cases e;simp at h))
 ·intro hp
  refine zf (zF (show ¬(l.length:Int) < (l.length:Int) by omega)) (za (zq (.inl ⟨rfl,fun hm=>?_⟩)))
  obtain ⟨k,hk⟩:=List.getElem?_of_mem hm
  exact hp k (by grind) hk
 ·rintro ⟨j,⟨v,w,⟨⟩⟩,⟨⟩⟩ (⟨rfl,hp⟩ | ⟨rfl,h0,hp⟩)
  ·exact zd rfl (za (.inr ⟨rfl,hp⟩))
  ·exact zf rfl (za (.inl ⟨h0,hp⟩))
theorem zaE {l:List Bool} (hn:l.length≤1000000000000000000) (b:Bool):wX (l,b,())=some (tv (b∈l),()):=by
 rw [GM];unfold Zh
 refine wv (zj (zcR hn b) ?_)
 rintro ⟨v,⟨⟩⟩ (⟨h,hm⟩ | ⟨rfl,hm⟩)
 ·refine za ⟨fun _=>hm,fun _=>?_⟩
  show (!zh v 0)=true
  rw [zF (by simp only at h;omega)];rfl
 ·exact za ⟨fun h=>(by cases h),fun h=>absurd h hm⟩
theorem QZ (t:qm):jm (t,())=some (bif tv (jX t) then 0 else 260,()):=by
 have good:∀{v:Int},jX t→v=0→v=bif tv (jX t) then 0 else 260:=fun h e=>by rw [zA h,e];rfl
 have bad:∀{v:Int},¬jX t→v=260→v=bif tv (jX t) then 0 else 260:=fun h e=>by rw [zM h,e];rfl
 rw [zsP];unfold zfW
 refine ym (zj (J:=fun x=>(x.1=0∧x.2.1.1=0∧2≤t.1∧t.1≤12∧(t.2.1.length:Int)=t.1)∨(x.1=1∧x.2.1.1=260∧¬szP t)) ?_ ?_)
 ·refine zk (fun h=>za (.inr ⟨rfl,rfl,fun hs=>?_⟩)) (fun h1=>zk (fun h=>za (.inr ⟨rfl,rfl,fun hs=>?_⟩)) (fun h2=>zk (fun h=>za (.inr ⟨rfl,rfl,fun hs=>?_⟩)) (fun h3=>za (.inl ⟨rfl,rfl,?_⟩))))
  ·have:=qn h;have:=hs.n0;omega
  ·have:=qn h;have:=hs.n1;omega
  ·have:=hs.st;rw [vH this] at h;cases h
  ·have h1:=qE h1;have h2:=qE h2
   exact ⟨h1,h2,qU (by simpa using h3)⟩
 rintro ⟨j,⟨v,⟨⟩⟩,⟨⟩⟩ (⟨rfl,rfl,h1,h2,h3⟩ | ⟨rfl,rfl,hs⟩)
 rotate_left
 ·exact zf rfl (za (bad (zpX hs) rfl))
 refine zd rfl (zj (J:=fun x=>(x.1=0∧x.2.1.1=0∧szP t∧zc9 t)∨(x.1=1∧x.2.1.1=260∧¬jX t)) ?_ ?_)
 ·refine zk (fun h=>za (.inr ⟨rfl,rfl,fun hs=>?_⟩)) (fun h4=>?_)
  ·have:=qn h;have:=hs.sz.ls;omega
  have h4:=qE h4
  have hs:szP t:=⟨h1,h2,h3,by omega⟩
  rw [zvw hs]
  refine zk (fun h=>?_) (fun h=>?_)
  ·exact za (.inr ⟨rfl,rfl,zpY (yy h)⟩)
  ·exact za (.inl ⟨rfl,rfl,hs,xu h⟩)
 rintro ⟨j,⟨v,⟨⟩⟩,⟨⟩⟩ (⟨rfl,rfl,hs,hls⟩ | ⟨rfl,rfl,ht⟩)
 rotate_left
 ·exact zf rfl (za (bad ht rfl))
 have h5:=hs.ls
 refine zd rfl (zd (zoI (by omega) (by omega) (by omega)) ?_)
 refine zj (J:=fun x=>x.2.2.1=vD t t.2.2.length) (zW t.2.2.length (fun i s=>s=(((i:Int),()),(vD t i,()))) (by omega) (by rw [zD6];rfl) ?_ ?_) ?_
 ·rintro i _ hi rfl
  have hx:t.2.2[i]?=some t.2.2[i]:=List.getElem?_eq_getElem hi
  refine zd (zT (show (i:Int) < (t.2.2.length:Int) by omega)) (zg (zy (n:=i) hx ?_))
  generalize t.2.2[i]=l at hx
  have hl:=(hls i l hx).1
  obtain ⟨⟨a0,a1⟩,⟨b0,b1⟩⟩:=hl.nodes
  have lc:=Yr t i
  refine zg (qP a0 (by show _ < (((vD t i).length:Nat):Int);omega) fun _ _=>zg (wc (by show _ < (vD t i).length;omega) fun u hu=>zg (qP a0 (by show _ < (((vD t i).length:Nat):Int);omega) fun _ _=>zg (wc (by show _ < (vD t i).length;omega) fun _ _=>?_))))
  refine zg (qP b0 (by show _ < ((((vD t i).set _ _).length:Nat):Int);simp;omega) fun _ _=>zg (wc (by show _ < ((vD t i).set _ _).length;simp;omega) fun w hw=>zg (qP b0 (by show _ < ((((vD t i).set _ _).length:Nat):Int);simp;omega) fun _ _=>zg (wc (by show _ < ((vD t i).set _ _).length;simp;omega) fun _ _=>?_))))
  refine za (qj ?_)
  have e:=zwl hx hs.ls hl.1 hl.2.1 hl.2.2.1 hu hw
  show (((wrF .i64 ((i:Int)+1)),()),((((vD t i).set l.1.toNat (wrF .i64 (u+1))).set l.2.1.toNat (wrF .i64 (w+1))),()))=_
  rw [e,qp (by omega)]
 ·rintro _ rfl
  exact zf (zF (show ¬(t.2.2.length:Int) < (t.2.2.length:Int) by omega)) (za (zq rfl))
 rintro ⟨j,⟨z,⟨⟩⟩,c,⟨⟩⟩ hc
 simp only at hc
 subst hc
 refine zj (J:=fun x=>(x.1=0∧∀(n:Nat),(n:Int) < t.1→stn t n=true→1≤cnt t.2.2 n∧cnt t.2.2 n≤2)∨(x.1=1∧x.2.1.1=260∧¬jX t)) (qN t.2.1.length (fun n=>stn t n=true→1≤cnt t.2.2 n∧cnt t.2.2 n≤2) (by omega) ?_ ?_) ?_
 ·intro n hn hp
  have hst:t.2.1[n]?=some t.2.1[n]:=List.getElem?_eq_getElem (by omega)
  have e1:=zD3 hst
  have hn':n < t.1.toNat:=by omega
  have e2:=zz4 t hn'
  refine zd (zT (show (n:Int) < (t.2.1.length:Int) by omega)) (zg (zy (n:=n) hst ?_))
  refine zj (J:=fun x=>(x.1=0∧x.2.1.1=0∧(stn t n=true→1≤cnt t.2.2 n∧cnt t.2.2 n≤2))∨(x.1=1∧x.2.1.1=260∧¬jX t)) (zk (fun h5=>?_) (fun h5=>?_)) ?_
  ·refine zg (zy (n:=n) e2 (zg (wc (by show n < _;rw [Yr];exact hn') fun u hu=>?_)))
   have hu:u=cnt t.2.2 n:=by have hu:(vD t t.2.2.length)[n]?=some u:=hu;rw [e2] at hu;exact (Option.some.inj hu).symm
   subst hu
   refine zk (fun h6=>?_) (fun h6=>?_)
   ·have:=qn h6
    exact za (.inr ⟨rfl,rfl,fun ht=>by have:=ht.ct n (by omega) (by grind);omega⟩)
   refine zg (zy (n:=n) e2 (zg (wc (by show n < _;rw [Yr];exact hn') fun u hu=>?_)))
   have hu:u=cnt t.2.2 n:=by have hu:(vD t t.2.2.length)[n]?=some u:=hu;rw [e2] at hu;exact (Option.some.inj hu).symm
   subst hu
   refine zk (fun h7=>?_) (fun h7=>?_)
   ·have:=qn h7
    exact za (.inr ⟨rfl,rfl,fun ht=>by have:=ht.ct n (by omega) (by grind);omega⟩)
   ·have:=qE h6;have:=qE h7
    exact za (.inl ⟨rfl,rfl,fun _=>⟨by omega,by omega⟩⟩)
  ·exact za (.inl ⟨rfl,rfl,fun hc=>by grind⟩)
  ·rintro ⟨j,⟨v,⟨⟩⟩,⟨⟩⟩ (⟨rfl,rfl,hq⟩ | ⟨rfl,rfl,hq⟩)
   ·exact zd rfl (za (jC (by omega) hq))
   ·exact zf rfl (za (zq (.inr ⟨rfl,rfl,hq⟩)))
 ·intro hp
  exact zf (zF (show ¬(t.2.1.length:Int) < (t.2.1.length:Int) by omega)) (za (zq (.inl ⟨rfl,fun n hn=>hp n (by omega)⟩)))
 rintro ⟨j,⟨v,w,⟨⟩⟩,⟨⟩⟩ (⟨rfl,hct⟩ | ⟨rfl,rfl,hq⟩)
 rotate_left
 ·exact zf rfl (za (bad hq rfl))
 have hrl:(reachS t 0).length=t.1.toNat:=by unfold reachS;rw [zgO];simp
 refine zd rfl ?_
 rw [show Jr (t,0,_,())=some (reachS t 0,()) from zvx hs (fun i l hl=>(hls i l hl).1.nodes),zx]
 rw [zaE (by show (reachS t 0).length≤_;omega),zx]
 refine zk (fun h=>?_) (fun h=>?_)
 ·refine za (bad (fun ht=>?_) rfl)
  obtain ⟨k,hk⟩:=List.getElem?_of_mem (ZO h)
  have:=ht.re k (by grind)
  rw [this] at hk;cases hk
 ·refine za (good ⟨hs,hls,fun n hn=>?_,hct⟩ rfl)
  have hr:(reachS t 0)[n]?=some (reachS t 0)[n]:=List.getElem?_eq_getElem (by omega)
  rw [hr]
  cases e:(reachS t 0)[n] with
  |true=>rfl
  |false=>exact absurd (by rw [←e];exact List.getElem_mem _) (Zn h)
def wu (t:qm) (p:Int):Prop:=0≤p∧p < 2*(t.2.2.length:Int)
def lnk (t:qm) (p:Int):yu:=(t.2.2[p.toNat / 2]?).getD (0,0,0,0)
def frm (t:qm) (p:Int):Int:=if p % 2=1 then (lnk t p).2.1 else (lnk t p).1
def too (t:qm) (p:Int):Int:=if p % 2=1 then (lnk t p).1 else (lnk t p).2.1
theorem zn0 {p:Int} (h:0≤p) (h2:p≤1000000000000000000):wrF .i64 (Int.tdiv p 2)=((p.toNat / 2:Nat):Int):=by
 rw [Int.tdiv_eq_ediv_of_nonneg h,zG (by omega) (by omega)];omega
theorem par {p:Int} (h:0≤p):Int.tmod p 2=p % 2:=Int.tmod_eq_emod_of_nonneg h
theorem Xp {t:qm} {p:Int} (h:wu t p):t.2.2[p.toNat / 2]?=some (lnk t p):=by
 have:=h.1;have:=h.2
 have hx:t.2.2[p.toNat / 2]?=some (t.2.2[p.toNat / 2]'(by omega)):=List.getElem?_eq_getElem (by omega)
 unfold lnk;rw [hx];rfl
theorem tw (t:qm) (h:t.2.2.length≤1000000000000000):wrF .i64 (2*(t.2.2.length:Int))=2*(t.2.2.length:Int):=zG (by omega) (by omega)
theorem zag {t:qm} (hl:zc9 t) {p:Int} (h:wu t p):js t (frm t p)∧js t (too t p)∧frm t p≠too t p:=by
 have:=(hl _ _ (Xp h)).1
 have h1:=this.1;have h2:=this.2.1;have h3:=this.2.2.1
 unfold frm too
 split
 ·exact ⟨h2,h1,fun e=>h3 e.symm⟩
 ·exact ⟨h1,h2,h3⟩
theorem zvy {t:qm} (h:t.2.2.length≤1000000000000000) (p:Int):YU (t,p,())=some (tv (wu t p),()):=by
 rw [zsH];unfold zfO wu
 refine wv (zk (fun h=>?_) (fun h=>?_))<;>refine za ?_<;>simp only [xO] at *
 ·have:=tw t ‹_›;grind
 ·grind
theorem Ja {t:qm} (h:t.2.2.length≤1000000000000000) {p:Int} (hp:wu t p):jE (t,p,())=some (frm t p,()):=by
 have:=hp.1;have:=hp.2
 rw [zsB];unfold zfI
 simp only [zn0 hp.1 (by omega),par hp.1,jJ (Xp hp),zx,jT]
 unfold frm
 by_cases e:p % 2=1
 ·simp [e]
 ·have e2:(p % 2 == 1)=false:=by simpa using e
  rw [e2,if_neg e];rfl
theorem JI {t:qm} (h:t.2.2.length≤1000000000000000) {p:Int} (hp:wu t p):yw (t,p,())=some (too t p,()):=by
 have:=hp.1;have:=hp.2
 rw [zwJ];unfold zj1
 simp only [zn0 hp.1 (by omega),par hp.1,jJ (Xp hp),zx,jT]
 unfold too
 by_cases e:p % 2=1
 ·simp [e]
 ·have e2:(p % 2 == 1)=false:=by simpa using e
  rw [e2,if_neg e];rfl
theorem zxG {t:qm} (h:t.2.2.length≤1000000000000000) {p:Int} (hp:wu t p):UO (t,p,())=some ((lnk t p).2.2.1,()):=by
 have:=hp.1;have:=hp.2
 rw [zu7];unfold zh3
 simp only [zn0 hp.1 (by omega),jJ (Xp hp),zx]
theorem ztJ {t:qm} (h:t.2.2.length≤1000000000000000) {p:Int} (hp:wu t p):Vx (t,p,())=some ((lnk t p).2.2.2,()):=by
 have:=hp.1;have:=hp.2
 rw [zrm];unfold zel
 simp only [zn0 hp.1 (by omega),jJ (Xp hp),zx]
theorem zkp {t:qm} (h:t.2.2.length≤1000000000000000) {p:Int} (hp:wu t p):zh p 0=false∧(!zh p (wrF .i64 (2*(t.2.2.length:Int))))=false:=by
 have:=hp.1;have:=hp.2
 rw [tw t h,zF (by omega),zT (by omega)];simp
theorem zz5 {t:qm} (ht:jX t) {p:Int} (hp:wu t p):xa (t,p,())=some ((lnk t p).2.2.1,0,()):=by
 have hl:t.2.2.length≤1000000000000000:=by have:=ht.sz.ls;omega
 have:=hp.1;have:=hp.2
 obtain ⟨e1,e2⟩:=zkp hl hp
 rw [zw4];unfold zka
 simp only [QZ,zx,zA ht,cond_true,vH,Bool.not_true,cond_false,e1,e2,zn0 hp.1 (show p≤1000000000000000000 by omega),jJ (Xp hp),zoZ,zcJ]
 rfl
theorem zvz {t:qm} (ht:jX t) {p:Int} (hp:wu t p):uX (t,p,())=some ((lnk t p).2.2.2,0,()):=by
 have hl:t.2.2.length≤1000000000000000:=by have:=ht.sz.ls;omega
 have:=hp.1;have:=hp.2
 obtain ⟨e1,e2⟩:=zkp hl hp
 rw [ztp];unfold zgu
 simp only [QZ,zx,zA ht,cond_true,vH,Bool.not_true,cond_false,e1,e2,zn0 hp.1 (show p≤1000000000000000000 by omega),jJ (Xp hp),zlT,zaa]
 rfl
def zY (t:qm) (r:List Int):List Int:=match r with
 |[]=>[]
 |p::_=>frm t p::r.map (too t)
theorem Qa (t:qm) {r:List Int} (h:r≠[]):(zY t r).length=r.length+1:=by
 cases r with
 |nil=>exact absurd rfl h
 |cons p r=>simp [zY]
theorem zvA (t:qm) {r:List Int} {p:Int} (h:r[0]?=some p):(zY t r)[0]?=some (frm t p):=by
 cases r with
 |nil=>cases h
 |cons q r=>simp at h;subst h;rfl
theorem Yf (t:qm) {r:List Int} {i:Nat} {p:Int} (h:r[i]?=some p):(zY t r)[i+1]?=some (too t p):=by
 cases r with
 |nil=>cases h
 |cons q r=>simp only [zY,List.getElem?_cons_succ,List.getElem?_map,h,Option.map_some]
theorem zbJ {t:qm} (h:t.2.2.length≤1000000000000000) {r:List Int} (h0:r≠[]) (h8:r.length≤8) (hp:∀p∈r,wu t p):ke (t,r,())=some (zY t r,()):=by
 have hl:0 < r.length:=List.length_pos_iff.2 h0
 have hx0:r[0]?=some r[0]:=List.getElem?_eq_getElem hl
 rw [zqD];unfold zdL
 refine ym (zg (zy (n:=0) hx0 ?_))
 rw [Ja h (hp _ (List.getElem_mem hl)),zx]
 refine zj (J:=fun x=>x.2.2.1=zY t r) (zW r.length (fun i s=>s=(((i:Int),()),((zY t r).take (i+1),()))) (by omega) ?_ ?_ ?_) ?_
 ·have:=zvA t hx0
  have e:(zY t r).take 1=[frm t r[0]]:=by
   rw [show (1:Nat)=0+1 from rfl,List.take_add_one,this];simp
  rw [show (0:Nat)+1=1 from rfl,e];rfl
 ·rintro i _ hi rfl
  have hx:r[i]?=some r[i]:=List.getElem?_eq_getElem hi
  refine zd (zT (show (i:Int) < (r.length:Int) by omega)) (zg (zy (n:=i) hx ?_))
  rw [JI h (hp _ (List.getElem_mem hi)),zx]
  have hl:=Qa t h0
  refine zd (xh (by show (((zY t r).take (i+1)).length+1)*8≤_;simp;omega) (by show ((zY t r).take (i+1)).length+1≤_;simp;omega)) ?_
  refine za (qj ?_)
  have e:(zY t r).take (i+1+1)=(zY t r).take (i+1)++[too t r[i]]:=by
   rw [List.take_add_one,Yf t hx];rfl
  rw [e,←qp (by omega)]
 ·rintro _ rfl
  refine zf (zF (show ¬(r.length:Int) < (r.length:Int) by omega)) (za (zq ?_))
  show (zY t r).take (r.length+1)=_
  rw [List.take_of_length_le (by rw [Qa t h0];omega)]
 ·rintro ⟨j,⟨z,⟨⟩⟩,c,⟨⟩⟩ hc
  exact za hc
theorem Vl {t:qm} (h:t.2.2.length≤1000000000000000) {r:List Int} (h0:r≠[]) (h8:r.length≤8) (hp:∀p∈r,wu t p):yW (t,r,())=some (zY t r,()):=by
 rw [ziM];unfold Kz
 rw [show wrF .i64 ((r.length:Int)+1)=(r.length:Int)+1 from zG (by omega) (by omega)]
 refine ym (zd (zoI (by omega) (by omega) (by omega)) ?_)
 refine zj (J:=fun x=>x.2.2.1.1=zY t r) (zW r.length (fun i s=>s=(((i:Int),()),((((zY t r).take (if i=0 then 0 else i+1)),()),((),((),()))))) (by omega) rfl ?_ ?_) ?_
 ·rintro i _ hi rfl
  have hx:r[i]?=some r[i]:=List.getElem?_eq_getElem hi
  have hpi:=hp _ (List.getElem_mem hi)
  generalize r[i]=p at hx hpi
  have:=hpi.1;have:=hpi.2
  refine zd (zT (show (i:Int) < (r.length:Int) by omega)) (zg (zy (n:=i) hx ?_))
  obtain ⟨e1,e2⟩:=zkp h hpi
  refine zf e1 (zf e2 ?_)
  rw [zn0 hpi.1 (by omega),jJ (Xp hpi),zx]
  refine zj (J:=fun x=>x.2.1.1.2.1=frm t p∧x.2.1.1.2.2=too t p) ?_ ?_
  ·rw [par hpi.1]
   unfold frm too
   refine zk (fun h=>?_) (fun h=>?_)
   ·have:=qU h
    exact za (by simp [this])
   ·have:=jU h
    exact za (by simp [this])
  rintro ⟨j,⟨⟨u,v,w⟩,⟨⟩⟩,⟨⟩,⟨⟩,⟨⟩⟩ ⟨rfl,rfl⟩
  have hl:=Qa t h0
  refine zj (J:=fun x=>x.2.2.1.1=(zY t r).take (i+1)) (zk (fun h=>?_) (fun h=>?_)) ?_
  ·have:=qU h
   have hi0:i=0:=by simp only at this;omega
   subst hi0
   refine zd (xh (by simp) (by simp)) (za ?_)
   show List.take 0 (zY t r)++[frm t p]=_
   rw [List.take_add_one,zvA t hx];rfl
  ·have:=jU h
   have hi0:i≠0:=by intro e;apply this;simp only [e];rfl
   exact za (by show (zY t r).take (if i=0 then 0 else i+1)=_;rw [if_neg hi0])
  ·rintro ⟨j,⟨⟩,⟨⟨c,⟨⟩⟩,⟨⟩,⟨⟩⟩⟩ hc
   simp only at hc
   subst hc
   refine zd (xh (by show (((zY t r).take (i+1)).length+1)*8≤_;simp;omega) (by show ((zY t r).take (i+1)).length+1≤_;simp;omega)) (za (qj ?_))
   have e:(zY t r).take (i+1+1)=(zY t r).take (i+1)++[too t p]:=by
    rw [List.take_add_one,Yf t hx];rfl
   have e2:(if i+1=0 then 0 else i+1+1)=i+1+1:=if_neg (by omega)
   rw [e2,e,←qp (by omega)]
 ·rintro _ rfl
  refine zf (zF (show ¬(r.length:Int) < (r.length:Int) by omega)) (za (zq ?_))
  have:r.length≠0:=fun e=>h0 (List.length_eq_zero_iff.1 e)
  show (zY t r).take (if r.length=0 then 0 else r.length+1)=_
  rw [if_neg this,List.take_of_length_le (by rw [Qa t h0];omega)]
 ·rintro ⟨j,⟨z,⟨⟩⟩,⟨c,⟨⟩⟩,⟨⟩,⟨⟩,⟨⟩⟩ hc
  exact za hc
def zGj (t:qm) (r:List Int) (i:Nat) (p:Int):Prop:=¬too t p∈(zY t r).take (i+1)∧(0 < i→∀n,(zY t r)[i]?=some n→stn t n=false∧frm t p=n)
structure je (t:qm) (r:List Int):Prop where
 n0:1≤r.length
 n1:r.length≤8
 pt:∀p∈r,wu t p
 st:∀(i:Nat) p,r[i]?=some p→zGj t r i p
theorem je.ne {t:qm} {r:List Int} (h:je t r):r≠[]:=by
 intro e;have:=h.n0;rw [e] at this;simp at this
theorem jX.ll {t:qm} (h:jX t):t.2.2.length≤1000000000000000:=by have:=h.sz.ls;omega
theorem zG1 {t:qm} (ht:jX t) {r:List Int} (hp:∀p∈r,wu t p):∀n∈zY t r,js t n:=by
 intro n hn
 cases r with
 |nil=>cases hn
 |cons q r=>
  simp only [zY,List.mem_cons,List.mem_map] at hn
  rcases hn with rfl | ⟨p,hp',rfl⟩
  ·exact (zag ht.ls (hp q (by simp))).1
  ·exact (zag ht.ls (hp p (by simpa using hp'))).2.1
theorem js.get {t:qm} (hs:szP t) {n:Int} (h:js t n):t.2.1[n.toNat]?=some (stn t n):=by
 have hx:t.2.1[n.toNat]?=some (t.2.1[n.toNat]'(h.lt hs)):=List.getElem?_eq_getElem (h.lt hs)
 rw [hx,zi9 hx]
theorem zhx {t:qm} (ht:jX t) (r:List Int):vW (t,r,())=some (tv (je t r),()):=by
 have hll:=ht.ll
 rw [zqE];unfold zdM
 refine wv (zj (J:=fun x=>(x.1=0∧x.2.1.1=false∧1≤r.length∧r.length≤8)∨(x.1=1∧x.2.1.1=false∧¬je t r)) ?_ ?_)
 ·refine zk (fun h=>za (.inr ⟨rfl,rfl,fun hs=>?_⟩)) (fun h1=>zk (fun h=>za (.inr ⟨rfl,rfl,fun hs=>?_⟩)) (fun h2=>za (.inl ⟨rfl,rfl,?_⟩)))
  ·have:=qn h;have:=hs.n0;omega
  ·have:=qn h;have:=hs.n1;omega
  ·have h1:=qE h1;have h2:=qE h2;omega
 rintro ⟨j,⟨v,⟨⟩⟩,⟨⟩⟩ (⟨rfl,rfl,h1,h8⟩ | ⟨rfl,rfl,hq⟩)
 rotate_left
 ·exact zf rfl (za ⟨fun h=>(by cases h),fun h=>absurd h hq⟩)
 refine zd rfl (zj (J:=fun x=>(x.1=0∧x.2.1.1=false∧∀p∈r,wu t p)∨(x.1=1∧x.2.1.1=false∧¬je t r)) (qN r.length (fun i=>∀p,r[i]?=some p→wu t p) (by omega) ?_ ?_) ?_)
 ·intro i hi hp
  have hx:r[i]?=some r[i]:=List.getElem?_eq_getElem hi
  refine zd (zT (show (i:Int) < (r.length:Int) by omega)) (zg (zy (n:=i) hx ?_))
  rw [zvy hll]
  refine zk (fun h=>?_) (fun h=>?_)
  ·exact za (zq (.inr ⟨rfl,rfl,fun hr=>yy h (hr.pt _ (List.getElem_mem hi))⟩))
  ·exact za (jC (by omega) fun p hp=>by rw [hx] at hp;cases hp;exact xu h)
 ·intro hp
  refine zf (zF (show ¬(r.length:Int) < (r.length:Int) by omega)) (za (zq (.inl ⟨rfl,rfl,fun p hm=>?_⟩)))
  obtain ⟨k,hk⟩:=List.getElem?_of_mem hm
  exact hp k (by grind) p hk
 rintro ⟨j,⟨v,w,⟨⟩⟩,⟨⟩⟩ (⟨rfl,rfl,hpt⟩ | ⟨rfl,rfl,hq⟩)
 rotate_left
 ·exact zf rfl (za ⟨fun h=>(by cases h),fun h=>absurd h hq⟩)
 have hne:r≠[]:=by intro e;rw [e] at h1;simp at h1
 have hnl:=Qa t hne
 have hnP:=zG1 ht hpt
 refine zd rfl ?_
 rw [zbJ hll hne h8 hpt,zx]
 refine zj (J:=fun x=>(x.1=0∧je t r)∨(x.1=1∧x.2.1.1=false∧¬je t r)) (qN (zY t r).length (fun i=>(∀n,(zY t r)[i]?=some n→¬n∈(zY t r).take i)∧∀p,r[i]?=some p→0 < i→∀n,(zY t r)[i]?=some n→stn t n=false∧frm t p=n) (by omega) ?_ ?_) ?_
 ·intro i hi hp
  have hx:(zY t r)[i]?=some (zY t r)[i]:=List.getElem?_eq_getElem hi
  have hn:=hnP _ (List.getElem_mem hi)
  generalize (zY t r)[i]=n at hx hn
  refine zd (zT (show (i:Int) < ((zY t r).length:Int) by omega)) (zg (qk (zBn (zY t r) i (by omega)) (zg (zy (n:=i) hx ?_))))
  rw [zbI (by simp;omega)]
  refine zk (fun h=>?_) (fun h=>?_)
  ·refine za (zq (.inr ⟨rfl,rfl,fun hr=>?_⟩))
   have hm:=ZO h
   cases i with
   |zero=>simp at hm
   |succ i=>
    have hy:r[i]?=some r[i]:=List.getElem?_eq_getElem (by omega)
    have e:=Yf t hy
    rw [hx] at e
    have:=(hr.st i _ hy).1
    rw [←Option.some.inj e] at this
    exact this hm
  have hin:=Zn h
  refine zj (J:=fun x=>(x.1=0∧x.2.1.1=false∧∀p,r[i]?=some p→0 < i→stn t n=false∧frm t p=n)∨(x.1=1∧x.2.1.1=false∧¬je t r)) ?_ ?_
  ·refine zk (fun h2=>?_) (fun h2=>?_)
   ·have h2:=qn (show zh 0 (i:Int)=true from h2)
    refine zk (fun h3=>?_) (fun h3=>?_)
    ·have h3:=qn (show zh (i:Int) (r.length:Int)=true from h3)
     have hy:r[i]?=some r[i]:=List.getElem?_eq_getElem (by omega)
     have hpy:=hpt _ (List.getElem_mem (show i < r.length by omega))
     generalize r[i]=p at hy hpy
     refine zg (zy (n:=i) hx (zg (qk (a:=stn t n) (by rw [show n=((n.toNat:Nat):Int) from (by have:=hn.1;omega),jJ (n:=n.toNat)];exact hn.get ht.sz) ?_)))
     refine zk (fun h4=>?_) (fun h4=>?_)
     ·refine za (.inr ⟨rfl,rfl,fun hr=>?_⟩)
      have:=((hr.st i p hy).2 (by omega) n hx).1
      rw [this] at h4;cases h4
     ·refine zg (zy (n:=i) hy ?_)
      rw [Ja hll hpy,zx]
      refine zg (zy (n:=i) hx (zk (fun h5=>?_) (fun h5=>?_)))
      ·refine za (.inr ⟨rfl,rfl,fun hr=>?_⟩)
       have:=((hr.st i p hy).2 (by omega) n hx).2
       rw [vH this] at h5;cases h5
      ·have:=qU (show zi (frm t p) n=true by simpa using h5)
       exact za (.inl ⟨rfl,rfl,fun p' hp' _=>by rw [hy] at hp';cases hp';exact ⟨h4,this⟩⟩)
    ·have h3:=qE (show zh (i:Int) (r.length:Int)=false from h3)
     exact za (.inl ⟨rfl,rfl,fun p hp=>by rw [List.getElem?_eq_none (by omega)] at hp;cases hp⟩)
   ·have h2:=qE (show zh 0 (i:Int)=false from h2)
    exact za (.inl ⟨rfl,rfl,fun p hp h0=>by omega⟩)
  ·rintro ⟨j,⟨v,⟨⟩⟩,⟨⟩⟩ (⟨rfl,rfl,hq⟩ | ⟨rfl,rfl,hq⟩)
   ·exact zd rfl (za (jC (by omega) ⟨fun m hm=>by rw [hx] at hm;cases hm;exact hin,fun p hp h0 m hm=>by rw [hx] at hm;cases hm;exact hq p hp h0⟩))
   ·exact zf rfl (za (zq (.inr ⟨rfl,rfl,hq⟩)))
 ·intro hp
  refine zf (zF (show ¬((zY t r).length:Int) < ((zY t r).length:Int) by omega)) (za (zq (.inl ⟨rfl,h1,h8,hpt,fun i p hi=>⟨?_,fun h0 n hn=>?_⟩⟩)))
  ·have hil:i < r.length:=by grind
   exact (hp (i+1) (by omega)).1 _ (Yf t hi)
  ·have hil:i < r.length:=by grind
   exact (hp i (by omega)).2 p hi h0 n hn
 ·rintro ⟨j,⟨v,w,⟨⟩⟩,⟨⟩⟩ (⟨rfl,hq⟩ | ⟨rfl,rfl,hq⟩)
  ·exact zd rfl (za ⟨fun _=>hq,fun _=>rfl⟩)
  ·exact zf rfl (za ⟨fun h=>(by cases h),fun h=>absurd h hq⟩)
def zbK (t:qm) (r:List Int) (i:Nat):List Bool:=(List.range 12).map fun n=>decide (((n:Nat):Int)∈(zY t r).take (if i=0 then 0 else i+1))
theorem zFR (t:qm) (r:List Int) (i:Nat):(zbK t r i).length=12:=by simp [zbK]
def atS (t:qm) (r:List Int) (i:Nat):Int:=if i=0 then 0 else ((zY t r)[i]?).getD 0
theorem zwm {f g:Nat→Bool} (h:∀n,n < 12→f n=g n):(List.range 12).map f=(List.range 12).map g:=List.map_congr_left fun n hn=>h n (List.mem_range.1 hn)
theorem zwn {f:Nat→Bool} {k:Nat} (hk:k < 12):((List.range 12).map f).set k true=(List.range 12).map fun n=>(f n||n == k):=by
 apply List.ext_getElem?
 intro n
 rw [List.getElem?_set]
 by_cases h:n < 12
 ·by_cases e:k=n
  ·subst e;simp [h]
  ·have:(n == k)=false:=by simp;omega
   simp [h,e,this]
 ·rw [List.getElem?_eq_none (by simp;omega),List.getElem?_eq_none (by simp;omega)]
  split<;>simp<;>omega
theorem zbL {t:qm} (ht:jX t) (r:List Int):yZ (t,r,())=some (tv (je t r),()):=by
 have hll:=ht.ll
 have n1:=ht.sz.n1
 rw [ziN];unfold KB
 refine wv (zj (J:=fun x=>(x.1=0∧x.2.1.1=false∧1≤r.length∧r.length≤8)∨(x.1=1∧x.2.1.1=false∧¬je t r)) ?_ ?_)
 ·refine zk (fun h=>za (.inr ⟨rfl,rfl,fun hs=>?_⟩)) (fun h1=>zk (fun h=>za (.inr ⟨rfl,rfl,fun hs=>?_⟩)) (fun h2=>za (.inl ⟨rfl,rfl,?_⟩)))
  ·have:=qn h;have:=hs.n0;omega
  ·have:=qn h;have:=hs.n1;omega
  ·have h1:=qE h1;have h2:=qE h2;omega
 rintro ⟨j,⟨v,⟨⟩⟩,⟨⟩⟩ (⟨rfl,rfl,h1,h8⟩ | ⟨rfl,rfl,hq⟩)
 rotate_left
 ·exact zf rfl (za ⟨fun h=>(by cases h),fun h=>absurd h hq⟩)
 have hne:r≠[]:=by intro e;rw [e] at h1;simp at h1
 have hnl:=Qa t hne
 refine zd rfl (zj (J:=fun x=>(x.2.1.2.1=(r.length:Int)∧je t r)∨(x.2.1.2.1 < (r.length:Int)∧¬je t r))
  (zW r.length (fun i s=>s=((atS t r i,((i:Int),((i:Int),()))),(zbK t r i,((),((),()))))∧∀(k:Nat),k < i→∀p,r[k]?=some p→wu t p∧zGj t r k p) (by omega) ⟨rfl,fun k hk=>by omega⟩ ?_ ?_) ?_)
 ·rintro i _ hi ⟨rfl,hp⟩
  have hx:r[i]?=some r[i]:=List.getElem?_eq_getElem hi
  have hmem:=List.getElem_mem hi
  generalize r[i]=p at hx hmem
  have bad:∀{x:Nat×((Int×(Int×(Int×Unit)))×(List Bool×(Unit×(Unit×Unit))))},x.2.1.2.1=(i:Int)→¬je t r→(x.2.1.2.1=(r.length:Int)∧je t r)∨(x.2.1.2.1 < (r.length:Int)∧¬je t r):=fun e hq=>.inr ⟨by rw [e];omega,hq⟩
  refine zd (zT (show (i:Int) < (r.length:Int) by omega)) (zg (zy (n:=i) hx ?_))
  refine zk (fun h=>za (zq (bad rfl fun hr=>?_))) (fun hp0=>zk (fun h=>za (zq (bad rfl fun hr=>?_))) (fun hp1=>?_))
  ·have:=qn h;have:=(hr.pt p hmem).1;omega
  ·have:=hr.pt p hmem
   rw [(zkp hll this).2] at h;cases h
  have hpi:wu t p:=by
   have:=qE hp0
   rw [tw t hll] at hp1
   have:=qn (show zh p (2*(t.2.2.length:Int))=true by simpa using hp1)
   exact ⟨by omega,by omega⟩
  have:=hpi.1;have:=hpi.2
  obtain ⟨⟨f0,f1⟩,⟨g0,g1⟩,hfg⟩:=zag ht.ls hpi
  rw [zn0 hpi.1 (by omega),jJ (Xp hpi),zx]
  refine zj (J:=fun x=>x.1=0∧x.2.1.1.2.1=frm t p∧x.2.1.1.2.2=too t p) ?_ ?_
  ·rw [par hpi.1]
   unfold frm too
   refine zk (fun h=>?_) (fun h=>?_)
   ·have:=qU h
    exact za (by simp [this])
   ·have:=jU h
    exact za (by simp [this])
  rintro ⟨j,⟨⟨u,v,w⟩,⟨⟩⟩,⟨⟩,⟨⟩,⟨⟩⟩ ⟨rfl,rfl,rfl⟩
  have hsl:=zFR t r i
  have htk:(zY t r).take (i+1+1)=(zY t r).take (i+1)++[too t p]:=by
   rw [List.take_add_one,Yf t hx];rfl
  refine zd rfl (zj (J:=fun x=>(x.1=0∧x.2.2.1=(List.range 12).map (fun n=>decide (((n:Nat):Int)∈(zY t r).take (i+1)))∧(0 < i→∀n,(zY t r)[i]?=some n→stn t n=false∧frm t p=n))∨(x.1=1∧¬je t r)) (zk (fun h=>?_) (fun h=>?_)) ?_)
  ·have h0:=qU (show zi (i:Int) 0=true from h)
   have hi0:i=0:=by omega
   subst hi0
   refine zd (zT (show frm t p < 12 by omega)) (zg (qP f0 (by show frm t p < (((zbK t r 0).length:Nat):Int);omega) fun _ _=>zg (wc (by show (frm t p).toNat < (zbK t r 0).length;omega) fun _ _=>?_)))
   refine za (.inl ⟨rfl,?_,fun h=>by omega⟩)
   show (zbK t r 0).set (frm t p).toNat true=_
   unfold zbK
   rw [zwn (by omega)]
   refine zwm fun n hn=>?_
   rw [List.take_add_one,zvA t hx]
   simp only [if_true,List.take_zero,List.nil_append,Option.toList,List.mem_singleton,List.not_mem_nil,decide_false,Bool.false_or]
   rw [Bool.eq_iff_iff];simp only [beq_iff_eq,decide_eq_true_eq];omega
  ·have h0:=jU (show zi (i:Int) 0=false from h)
   have hi0:i≠0:=fun e=>h0 (by rw [e];rfl)
   have hxn:(zY t r)[i]?=some (zY t r)[i]:=List.getElem?_eq_getElem (by omega)
   have hat:atS t r i=(zY t r)[i]:=by unfold atS;rw [if_neg hi0,hxn];rfl
   have hn:js t (zY t r)[i]:=by
    obtain ⟨m,rfl⟩:∃m,i=m+1:=⟨i - 1,by omega⟩
    have hy:r[m]?=some r[m]:=List.getElem?_eq_getElem (by omega)
    have e:=Yf t hy
    rw [hxn] at e
    rw [Option.some.inj e]
    exact (zag ht.ls (hp m (by omega) _ hy).1).2.1
   generalize (zY t r)[i]=n at hxn hat hn
   refine zk (fun h2=>?_) (fun h2=>?_)
   ·refine za (.inr ⟨rfl,fun hr=>?_⟩)
    have:=((hr.st i p hx).2 (by omega) n hxn).2
    have h2':(!zi (frm t p) (atS t r i))=true:=h2
    rw [hat,vH this] at h2';cases h2'
   ·have h2':(!zi (frm t p) (atS t r i))=false:=h2
    have e1:=qU (show zi (frm t p) (atS t r i)=true by simpa using h2')
    refine zg (qk (a:=stn t n) (by show atI t.2.1 (atS t r i)=_;rw [hat,show n=((n.toNat:Nat):Int) from (by have:=hn.1;omega),jJ (n:=n.toNat)];exact hn.get ht.sz) ?_)
    refine zk (fun h4=>?_) (fun h4=>?_)
    ·refine za (.inr ⟨rfl,fun hr=>?_⟩)
     have:=((hr.st i p hx).2 (by omega) n hxn).1
     rw [this] at h4;cases h4
    ·refine za (.inl ⟨rfl,?_,fun _ m hm=>by rw [hxn] at hm;cases hm;exact ⟨h4,by rw [e1,hat]⟩⟩)
     show zbK t r i=_
     unfold zbK
     rw [if_neg hi0]
  ·rintro ⟨j,⟨⟩,c,⟨⟩,⟨⟩⟩ (⟨rfl,hc,hst⟩ | ⟨rfl,hq⟩)
   rotate_left
   ·exact zf rfl (za (zq (bad rfl hq)))
   simp only at hc
   have hcl:c.length=12:=by rw [hc];simp
   refine zd rfl (zd (zT (show too t p < 12 by omega)) (zg (qP g0 (by show too t p < ((c.length:Nat):Int);omega) fun _ _=>zg (wc (by show (too t p).toNat < c.length;omega) fun x hx2=>?_))))
   have hx2':c[(too t p).toNat]?=some x:=hx2
   have hmt:(((too t p).toNat:Nat):Int)=too t p:=by omega
   have hxe:x=decide (too t p∈(zY t r).take (i+1)):=by
    rw [hc] at hx2'
    simp only [List.getElem?_map,List.getElem?_range (show (too t p).toNat < 12 by omega),Option.map_some,hmt] at hx2'
    exact (Option.some.inj hx2').symm
   refine zk (fun h6=>?_) (fun h6=>?_)
   ·subst h6
    refine za (zq (bad rfl fun hr=>(hr.st i p hx).1 ?_))
    exact of_decide_eq_true hxe.symm
   ·subst h6
    have hnm:¬too t p∈(zY t r).take (i+1):=of_decide_eq_false hxe.symm
    refine zd (zT (show too t p < 12 by omega)) (zg (qP g0 (by show too t p < ((c.length:Nat):Int);omega) fun _ _=>zg (wc (by show (too t p).toNat < c.length;omega) fun _ _=>?_)))
    refine za (qj ⟨?_,fun k hk q hq=>?_⟩)
    ·have e1:atS t r (i+1)=too t p:=by unfold atS;rw [if_neg (by omega),Yf t hx];rfl
     have e2:c.set (too t p).toNat true=zbK t r (i+1):=by
      rw [hc,zwn (by omega)]
      unfold zbK
      rw [if_neg (by omega),htk]
      refine zwm fun n hn=>?_
      rw [Bool.eq_iff_iff]
      simp only [Bool.or_eq_true,decide_eq_true_eq,beq_iff_eq,List.mem_append,List.mem_singleton]
      constructor
      ·rintro (h | h)
       ·exact .inl h
       ·right;omega
      ·rintro (h | h)
       ·exact .inl h
       ·right;omega
     rw [e1,←e2,←qp (by omega)]
    ·rcases Nat.lt_or_ge k i with hki | hki
     ·exact hp k hki q hq
     ·have:k=i:=by omega
      subst this
      rw [hx] at hq;cases hq
      exact ⟨hpi,hnm,hst⟩
 ·rintro _ ⟨rfl,hp⟩
  refine zf (zF (show ¬(r.length:Int) < (r.length:Int) by omega)) (za (zq (.inl ⟨rfl,h1,h8,fun p hm=>?_,fun i p hi=>(hp i (by grind) p hi).2⟩)))
  obtain ⟨k,hk⟩:=List.getElem?_of_mem hm
  exact (hp k (by grind) p hk).1
 ·rintro ⟨j,⟨v,w,z,⟨⟩⟩,c,⟨⟩,⟨⟩,⟨⟩⟩ (⟨hg,hr⟩ | ⟨hg,hr⟩)
  ·simp only at hg
   refine zk (fun _=>?_) (fun _=>?_)<;>exact za ⟨fun _=>hr,fun _=>vH hg⟩
  ·simp only at hg
   refine zk (fun _=>?_) (fun _=>?_)<;>exact za ⟨fun h=>by have:=qU h;simp only at this;omega,fun h=>absurd h hr⟩
def Xq (a b:List Int):Prop:=∃p∈a,∃q∈b,Int.tdiv p 2=Int.tdiv q 2
def Vm (a:List Int):List Int:=(a.take (a.length - 1)).drop 1
def JV (a b:List Int):Prop:=∃n∈Vm a,n∈b
def zn1 (t:qm) (a b:List Int):Prop:=¬Xq a b∧¬JV (zY t a) (zY t b)∧¬JV (zY t b) (zY t a)
theorem zHS {p:Int} (h : -9223372036854775808≤p) (h2:p≤9223372036854775807):wrF .i64 (Int.tdiv p 2)=Int.tdiv p 2:=by
 rcases Int.le_total 0 p with h0 | h0
 ·rw [Int.tdiv_eq_ediv_of_nonneg h0];exact zG (by omega) (by omega)
 ·have e:Int.tdiv p 2 = -((-p) / 2):=by
   rw [←Int.tdiv_eq_ediv_of_nonneg (by omega),Int.neg_tdiv,Int.neg_neg]
  rw [e];exact zG (by omega) (by omega)
theorem zoJ {t:qm} (h:t.2.2.length≤1000000000000000) {p:Int} (hp:wu t p):wrF .i64 (Int.tdiv p 2)=Int.tdiv p 2:=zHS (by have:=hp.1;omega) (by have:=hp.2;omega)
theorem jV {α:Type} {l:List α} {x:α} (h:x∈l):∃i,i < l.length∧l[i]?=some x:=by
 obtain ⟨i,hi⟩:=List.getElem?_of_mem h
 exact ⟨i,by grind,hi⟩
theorem zrC {t:qm} (h:t.2.2.length≤1000000000000000) {a b:List Int} (ha:∀p∈a,wu t p) (hb:∀p∈b,wu t p) (la:a.length≤8) (lb:b.length≤8):QV (a,b,())=some (tv (Xq a b),()):=by
 rw [zoV];unfold zcF
 refine wv (zj (J:=fun x=>(x.1=0∧¬Xq a b)∨(x.1=1∧x.2.1.1=true∧Xq a b)) (qN a.length (fun i=>∀p,a[i]?=some p→¬∃q∈b,Int.tdiv p 2=Int.tdiv q 2) (by omega) ?_ ?_) ?_)
 ·intro i hi hp
  have hx:a[i]?=some a[i]:=List.getElem?_eq_getElem hi
  have hm:=List.getElem_mem hi
  generalize a[i]=p at hx hm
  refine zd (zT (show (i:Int) < (a.length:Int) by omega)) (zg (zy (n:=i) hx ?_))
  refine zj (J:=fun x=>(x.1=0∧x.2.1.1=false∧¬∃q∈b,Int.tdiv p 2=Int.tdiv q 2)∨(x.1=1∧x.2.1.1=true∧∃q∈b,Int.tdiv p 2=Int.tdiv q 2)) (qN b.length (fun k=>∀q,b[k]?=some q→Int.tdiv p 2≠Int.tdiv q 2) (by omega) ?_ ?_) ?_
  ·intro k hk hq
   have hy:b[k]?=some b[k]:=List.getElem?_eq_getElem hk
   have hmk:=List.getElem_mem hk
   generalize b[k]=q at hy hmk
   refine zd (zT (show (k:Int) < (b.length:Int) by omega)) (zg (zy (n:=k) hy ?_))
   rw [zoJ h (ha p hm),zoJ h (hb q hmk)]
   refine zk (fun h=>?_) (fun h=>?_)
   ·exact za (zq (.inr ⟨rfl,rfl,q,hmk,qU h⟩))
   ·exact za (jC (by omega) fun q' hq'=>by rw [hy] at hq';cases hq';exact jU h)
  ·intro hq
   refine zf (zF (show ¬(b.length:Int) < (b.length:Int) by omega)) (za (zq (.inl ⟨rfl,rfl,fun ⟨q,hq1,hq2⟩=>?_⟩)))
   obtain ⟨k,hk,hk2⟩:=jV hq1
   exact hq k hk q hk2 hq2
  ·rintro ⟨j,⟨v,w,⟨⟩⟩,⟨⟩⟩ (⟨rfl,rfl,hq⟩ | ⟨rfl,rfl,hq⟩)
   ·exact zd rfl (za (jC (by omega) fun p' hp'=>by rw [hx] at hp';cases hp';exact hq))
   ·exact zf rfl (za (zq (.inr ⟨rfl,rfl,p,hm,hq⟩)))
 ·intro hp
  refine zf (zF (show ¬(a.length:Int) < (a.length:Int) by omega)) (za (zq (.inl ⟨rfl,fun ⟨p,hp1,hp2⟩=>?_⟩)))
  obtain ⟨k,hk,hk2⟩:=jV hp1
  exact hp k hk p hk2 hp2
 ·rintro ⟨j,⟨v,w,⟨⟩⟩,⟨⟩⟩ (⟨rfl,hq⟩ | ⟨rfl,rfl,hq⟩)
  ·exact zd rfl (za ⟨fun h=>(by cases h),fun h=>absurd h hq⟩)
  ·exact zf rfl (za ⟨fun _=>hq,fun _=>rfl⟩)
theorem zwo {a:List Int} {i:Nat} (h:1≤i) (h2:i < a.length - 1):(Vm a)[i - 1]?=a[i]?:=by
 unfold Vm
 rw [List.getElem?_drop,List.getElem?_take]
 rw [if_pos (by omega)]
 congr 1;omega
theorem zwp (a:List Int):(Vm a).length=a.length - 1 - 1:=by unfold Vm;simp
theorem zwq {a:List Int} {n:Int}:n∈Vm a↔∃i,1≤i∧i < a.length - 1∧a[i]?=some n:=by
 constructor
 ·intro h
  obtain ⟨k,hk,hk2⟩:=jV h
  rw [zwp] at hk
  refine ⟨k+1,by omega,by omega,?_⟩
  rw [←zwo (by omega) (by omega)];exact hk2
 ·rintro ⟨i,h1,h2,h3⟩
  rw [←zwo h1 h2] at h3
  exact List.mem_of_getElem? h3
theorem zeN {a b:List Int} (la:1≤a.length) (la2:a.length≤100) (lb:b.length≤100):Qh (a,b,())=some (tv (JV a b),()):=by
 have e1:wrF .i64 ((a.length:Int) - 1)=(a.length:Int) - 1:=zG (by omega) (by omega)
 rw [zm4];unfold za6
 rw [e1]
 refine wv (zj (J:=fun x=>(x.1=0∧¬JV a b)∨(x.1=1∧x.2.1.1=true∧JV a b))
  (zW (a.length - 1 - 1) (fun i s=>s=((false,(((i+1:Nat):Int),())),())∧∀k,1≤k→k < i+1→∀n,a[k]?=some n→¬n∈b) (by omega) ⟨rfl,fun k h1 h2=>by omega⟩ ?_ ?_) ?_)
 ·rintro i _ hi ⟨rfl,hp⟩
  have hx:a[i+1]?=some a[i+1]:=List.getElem?_eq_getElem (by omega)
  generalize a[i+1]=n at hx
  refine zd (zT (show ((i+1:Nat):Int) < (a.length:Int) - 1 by omega)) (zg (zy (n:=i+1) hx ?_))
  rw [zbI (by show b.length≤_;omega)]
  refine zk (fun h=>?_) (fun h=>?_)
  ·exact za (zq (.inr ⟨rfl,rfl,n,zwq.2 ⟨i+1,by omega,by omega,hx⟩,ZO h⟩))
  ·refine za (qj ⟨congrArg (fun z=>((false,(z,())),())) (qp (i:=i+1) (by omega)),fun k h1 h2 m hm=>?_⟩)
   rcases Nat.lt_or_ge k (i+1) with hk | hk
   ·exact hp k h1 hk m hm
   ·have:k=i+1:=by omega
    subst this
    rw [hx] at hm;cases hm
    exact Zn h
 ·rintro _ ⟨rfl,hp⟩
  refine zf (zF (show ¬((a.length - 1 - 1+1:Nat):Int) < (a.length:Int) - 1 by omega)) (za (zq (.inl ⟨rfl,fun ⟨n,h1,h2⟩=>?_⟩)))
  obtain ⟨i,i1,i2,i3⟩:=zwq.1 h1
  exact hp i i1 (by omega) n i3 h2
 ·rintro ⟨j,⟨v,w,⟨⟩⟩,⟨⟩⟩ (⟨rfl,hq⟩ | ⟨rfl,rfl,hq⟩)
  ·exact zd rfl (za ⟨fun h=>(by cases h),fun h=>absurd h hq⟩)
  ·exact zf rfl (za ⟨fun _=>hq,fun _=>rfl⟩)
theorem zhy {t:qm} (ht:jX t) {a b:List Int} (ha:je t a) (hb:je t b):kf (t,a,b,())=some (tv (zn1 t a b),()):=by
 have hll:=ht.ll
 have na:=Qa t ha.ne;have nb:=Qa t hb.ne
 have a0:=ha.n0;have a8:=ha.n1;have b0:=hb.n0;have b8:=hb.n1
 rw [zqG];unfold zdN
 refine wv (zj (J:=fun x=>(x.1=0∧¬Xq a b)∨(x.1=1∧x.2.1.1=false∧Xq a b)) (qN a.length (fun i=>∀p,a[i]?=some p→¬∃q∈b,Int.tdiv p 2=Int.tdiv q 2) (by omega) ?_ ?_) ?_)
 ·intro i hi hp
  have hx:a[i]?=some a[i]:=List.getElem?_eq_getElem hi
  have hm:=List.getElem_mem hi
  generalize a[i]=p at hx hm
  refine zd (zT (show (i:Int) < (a.length:Int) by omega)) ?_
  refine zj (J:=fun x=>(x.1=0∧x.2.1.1=false∧¬∃q∈b,Int.tdiv p 2=Int.tdiv q 2)∨(x.1=1∧x.2.1.1=false∧∃q∈b,Int.tdiv p 2=Int.tdiv q 2)) (qN b.length (fun k=>∀q,b[k]?=some q→Int.tdiv p 2≠Int.tdiv q 2) (by omega) ?_ ?_) ?_
  ·intro k hk hq
   have hy:b[k]?=some b[k]:=List.getElem?_eq_getElem hk
   have hmk:=List.getElem_mem hk
   generalize b[k]=q at hy hmk
   refine zd (zT (show (k:Int) < (b.length:Int) by omega)) (zg (zy (n:=i) hx (zg (zy (n:=k) hy ?_))))
   rw [zoJ hll (ha.pt p hm),zoJ hll (hb.pt q hmk)]
   refine zk (fun h=>?_) (fun h=>?_)
   ·exact za (zq (.inr ⟨rfl,rfl,q,hmk,qU h⟩))
   ·exact za (jC (by omega) fun q' hq'=>by rw [hy] at hq';cases hq';exact jU h)
  ·intro hq
   refine zf (zF (show ¬(b.length:Int) < (b.length:Int) by omega)) (za (zq (.inl ⟨rfl,rfl,fun ⟨q,hq1,hq2⟩=>?_⟩)))
   obtain ⟨k,hk,hk2⟩:=jV hq1
   exact hq k hk q hk2 hq2
  ·rintro ⟨j,⟨v,w,⟨⟩⟩,⟨⟩⟩ (⟨rfl,rfl,hq⟩ | ⟨rfl,rfl,hq⟩)
   ·exact zd rfl (za (jC (by omega) fun p' hp'=>by rw [hx] at hp';cases hp';exact hq))
   ·exact zf rfl (za (zq (.inr ⟨rfl,rfl,p,hm,hq⟩)))
 ·intro hp
  refine zf (zF (show ¬(a.length:Int) < (a.length:Int) by omega)) (za (zq (.inl ⟨rfl,fun ⟨p,hp1,hp2⟩=>?_⟩)))
  obtain ⟨k,hk,hk2⟩:=jV hp1
  exact hp k hk p hk2 hp2
 ·rintro ⟨j,⟨v,w,⟨⟩⟩,⟨⟩⟩ (⟨rfl,hq⟩ | ⟨rfl,rfl,hq⟩)
  ·refine zd rfl ?_
   simp only [zbJ hll ha.ne ha.n1 ha.pt,zbJ hll hb.ne hb.n1 hb.pt,zx]
   rw [zeN (by omega) (by omega) (by omega)]
   refine zk (fun h=>?_) (fun h=>?_)
   ·rw [zeN (by omega) (by omega) (by omega)]
    refine za ⟨fun h2=>⟨hq,yy h,yy h2⟩,fun h2=>?_⟩
    show (!tv _)=true
    rw [zM h2.2.2];rfl
   ·exact za ⟨fun h2=>(by cases h2),fun h2=>absurd (xu h) h2.2.1⟩
  ·exact zf rfl (za ⟨fun h=>(by cases h),fun h=>absurd hq h.1⟩)
theorem zev {l:List Int} (hn:l.length≤1000000000000000000) (b:Int):qt (xy (l,b,())) fun r=>(0≤r.1∧b∈l)∨(r.1 = -1∧¬b∈l):=by
 rw [zdr];unfold Ju
 refine zj (J:=fun x=>(x.1=0∧¬b∈l)∨(x.1=1∧0≤x.2.1.1∧b∈l)) (qN l.length (fun i=>l[i]?≠some b) hn ?_ ?_) ?_
 ·intro i hi hp
  have hx:l[i]?=some l[i]:=List.getElem?_eq_getElem hi
  refine zd (zT (show (i:Int) < (l.length:Int) by omega)) (zg (zy (n:=i) hx (zk (fun h=>?_) (fun h=>?_))))
  ·have:b=l[i]:=qU h
   exact za (zq (.inr ⟨rfl,by show (0:Int)≤(i:Int);omega,by rw [this];exact List.getElem_mem hi⟩))
  ·have:=jU (show zi b l[i]=false from h)
   exact za (jC (by omega) (by rw [hx];intro e;cases e;exact this rfl))
 ·intro hp
  refine zf (zF (show ¬(l.length:Int) < (l.length:Int) by omega)) (za (zq (.inl ⟨rfl,fun hm=>?_⟩)))
  obtain ⟨k,hk,hk2⟩:=jV hm
  exact hp k hk hk2
 ·rintro ⟨j,⟨v,w,⟨⟩⟩,⟨⟩⟩ (⟨rfl,hp⟩ | ⟨rfl,h0,hp⟩)
  ·exact zd rfl (za (.inr ⟨rfl,hp⟩))
  ·exact zf rfl (za (.inl ⟨h0,hp⟩))
theorem zbZ {l:List Int} (hn:l.length≤1000000000000000000) (b:Int):yz (l,b,())=some (tv (b∈l),()):=by
 rw [zbi];unfold ZU
 refine wv (zj (zev hn b) ?_)
 rintro ⟨v,⟨⟩⟩ (⟨h,hm⟩ | ⟨rfl,hm⟩)
 ·refine za ⟨fun _=>hm,fun _=>?_⟩
  show (!zh v 0)=true
  rw [zF (by simp only at h;omega)];rfl
 ·exact za ⟨fun h=>(by cases h),fun h=>absurd h hm⟩
theorem zbM {l:List Int} (hn:l.length≤1000000000000000000) (b:Int):qt (yg (l,b,())) fun r=>(0≤r.1∧b∈l)∨(r.1 = -1∧¬b∈l):=by
 rw [zaB];unfold Zz
 refine zj (J:=fun x=>(x.1=0∧¬b∈l)∨(x.1=1∧0≤x.2.1.1∧b∈l)) (qN l.length (fun i=>l[i]?≠some b) hn ?_ ?_) ?_
 ·intro i hi hp
  have hx:l[i]?=some l[i]:=List.getElem?_eq_getElem hi
  refine zd (zT (show (i:Int) < (l.length:Int) by omega)) (zg (zy (n:=i) hx (zk (fun h=>?_) (fun h=>?_))))
  ·have:b=l[i]:=qU h
   exact za (zq (.inr ⟨rfl,by show (0:Int)≤(i:Int);omega,by rw [this];exact List.getElem_mem hi⟩))
  ·have:=jU (show zi b l[i]=false from h)
   exact za (jC (by omega) (by rw [hx];intro e;cases e;exact this rfl))
 ·intro hp
  refine zf (zF (show ¬(l.length:Int) < (l.length:Int) by omega)) (za (zq (.inl ⟨rfl,fun hm=>?_⟩)))
  obtain ⟨k,hk,hk2⟩:=jV hm
  exact hp k hk hk2
 ·rintro ⟨j,⟨v,w,⟨⟩⟩,⟨⟩⟩ (⟨rfl,hp⟩ | ⟨rfl,h0,hp⟩)
  ·exact zd rfl (za (.inr ⟨rfl,hp⟩))
  ·exact zf rfl (za (.inl ⟨h0,hp⟩))
theorem UQ {l:List Int} (hn:l.length≤1000000000000000000) (b:Int):qd (l,b,())=some (tv (b∈l),()):=by
 rw [UA];unfold gb
 refine wv (zj (zbM hn b) ?_)
 rintro ⟨v,⟨⟩⟩ (⟨h,hm⟩ | ⟨rfl,hm⟩)
 ·refine za ⟨fun _=>hm,fun _=>?_⟩
  show (!zh v 0)=true
  rw [zF (by simp only at h;omega)];rfl
 ·exact za ⟨fun h=>(by cases h),fun h=>absurd h hm⟩
theorem zbN {t:qm} (ht:jX t) {a b:List Int} (ha:je t a) (hb:je t b):kW (t,a,b,())=some (tv (JV (zY t a) (zY t b)),()):=by
 have hll:=ht.ll
 have na:=Qa t ha.ne;have nb:=Qa t hb.ne
 have a0:=ha.n0;have a8:=ha.n1;have b0:=hb.n0;have b8:=hb.n1
 rw [ziR];unfold KE
 simp only [Vl hll ha.ne ha.n1 ha.pt,Vl hll hb.ne hb.n1 hb.pt,zx]
 generalize zY t a=A at na
 generalize zY t b=B at nb
 have e1:wrF .i64 ((A.length:Int) - 1)=((A.length - 1:Nat):Int):=by rw [zG]<;>omega
 have e2:XO A (some 1) (some (((A.length - 1:Nat):Int))) (some (((A.length - 1:Nat):Int)))=some (Vm A):=zFQ A 1 (A.length - 1) (by omega) (by omega)
 rw [e1,e2,zx]
 have il:=zwp A
 refine wv (zj (J:=fun x=>(x.1=0∧¬JV A B)∨(x.1=1∧x.2.1.1=true∧JV A B)) (qN (Vm A).length (fun i=>∀n,(Vm A)[i]?=some n→¬n∈B) (by omega) ?_ ?_) ?_)
 ·intro i hi hp
  have hx:(Vm A)[i]?=some (Vm A)[i]:=List.getElem?_eq_getElem hi
  have hm:=List.getElem_mem hi
  generalize (Vm A)[i]=n at hx hm
  refine zd (zT (show (i:Int) < ((Vm A).length:Int) by omega)) (zg (zy (n:=i) hx ?_))
  rw [zbZ (by omega)]
  refine zk (fun h=>?_) (fun h=>?_)
  ·exact za (zq (.inr ⟨rfl,rfl,n,hm,ZO h⟩))
  ·exact za (jC (by omega) fun m hm=>by rw [hx] at hm;cases hm;exact Zn h)
 ·intro hp
  refine zf (zF (show ¬((Vm A).length:Int) < ((Vm A).length:Int) by omega)) (za (zq (.inl ⟨rfl,fun ⟨n,h1,h2⟩=>?_⟩)))
  obtain ⟨k,hk,hk2⟩:=jV h1
  exact hp k hk n hk2 h2
 ·rintro ⟨j,⟨v,w,⟨⟩⟩,⟨⟩⟩ (⟨rfl,hq⟩ | ⟨rfl,rfl,hq⟩)
  ·exact zd rfl (za ⟨fun h=>(by cases h),fun h=>absurd h hq⟩)
  ·exact zf rfl (za ⟨fun _=>hq,fun _=>rfl⟩)
theorem zhz {t:qm} (ht:jX t) (r:List Int):ko (t,r,())=some (bif tv (je t r) then 0 else 310,()):=by
 rw [zqR];unfold zdZ
 simp only [QZ,zx,zA ht,cond_true,zbL ht]
 rw [show (!zi 0 0)=false from rfl,cond_false]
 cases tv (je t r)<;>rfl
theorem ztK {t:qm} (ht:jX t) {a b:List Int} (ha:je t a) (hb:je t b):Zc (t,a,b,())=some (tv (zn1 t a b),0,()):=by
 rw [zqV];unfold zd1
 simp only [zhz ht,zx,zA ha,zA hb,cond_true,zbL ht,zrC ht.ll ha.pt hb.pt ha.n1 hb.n1,zbN ht ha hb,zbN ht hb ha]
 rw [show (!zi 0 0)=false from rfl,cond_false]
 simp only [Bool.not_true,cond_false]
 unfold zn1
 by_cases h1:Xq a b
 ·simp [zA h1,zM (show ¬(¬Xq a b∧¬JV (zY t a) (zY t b)∧¬JV (zY t b) (zY t a)) from fun h=>h.1 h1)]
 ·by_cases h2:JV (zY t a) (zY t b)
  ·simp [zM h1,zA h2,zM (show ¬(¬Xq a b∧¬JV (zY t a) (zY t b)∧¬JV (zY t b) (zY t a)) from fun h=>h.2.1 h2)]
  ·by_cases h3:JV (zY t b) (zY t a)
   ·simp [zM h1,zM h2,zA h3,zM (show ¬(¬Xq a b∧¬JV (zY t a) (zY t b)∧¬JV (zY t b) (zY t a)) from fun h=>h.2.2 h3)]
   ·simp [zM h1,zM h2,zM h3,zA (show ¬Xq a b∧¬JV (zY t a) (zY t b)∧¬JV (zY t b) (zY t a) from ⟨h1,h2,h3⟩)]
def VA (t:qm) (r:List Int):Int:=frm t ((r[0]?).getD 0)
def Ur (t:qm) (r:List Int):Int:=too t ((r[r.length - 1]?).getD 0)
theorem ztL {t:qm} (ht:jX t) (r:List Int):Wo (t,r,())=some (bif tv (je t r) then (zY t r,0,()) else ([],310,())):=by
 rw [zqT];unfold zd0
 simp only [zhz ht,zx]
 by_cases h:je t r
 ·simp only [zA h,cond_true,Vl ht.ll h.ne h.n1 h.pt,zx];rfl
 ·simp only [zM h,cond_false];rfl
theorem zAV (t:qm) {r:List Int} (h:r≠[]):(zY t r)[0]?=some (VA t r):=by
 cases r with
 |nil=>exact absurd rfl h
 |cons p r=>rfl
theorem zCN (t:qm) {r:List Int} (h:r≠[]):(zY t r)[r.length]?=some (Ur t r):=by
 have hl:0 < r.length:=List.length_pos_iff.2 h
 have hx:r[r.length - 1]?=some (r[r.length - 1]'(by omega)):=List.getElem?_eq_getElem (by omega)
 have:=Yf t hx
 rw [show r.length - 1+1=r.length by omega] at this
 rw [this];unfold Ur;rw [hx];rfl
theorem zvB {t:qm} (ht:jX t) (r:List Int):YY (t,r,())=some (bif tv (je t r) then (VA t r,Ur t r,0,()) else (0,0,310,())):=by
 rw [zsS];unfold zf0
 simp only [ztL ht,zx]
 by_cases h:je t r
 ·have hn:=Qa t h.ne
  have:=h.n1
  simp only [zA h,cond_true]
  rw [show (!zi 0 0)=false from rfl,cond_false]
  rw [show wrF .i64 (((zY t r).length:Int) - 1)=((r.length:Nat):Int) from by rw [zG]<;>omega]
  rw [show (0:Int)=((0:Nat):Int) from rfl,jJ (zAV t h.ne),zx,jJ (zCN t h.ne),zx]
 ·simp only [zM h,cond_false];rfl
theorem zrD {t:qm} (ht:jX t) (r:List Int) (a b:Int):Zw (t,r,a,b,())=some (tv (je t r∧VA t r=a∧Ur t r=b),()):=by
 rw [zoT];unfold zcE
 simp only [zvB ht,zx]
 by_cases h:je t r
 ·simp only [zA h,cond_true]
  rw [show zi 0 0=true from rfl,cond_true]
  refine wv (zk (fun h1=>?_) (fun h1=>?_))
  ·exact za ⟨fun h2=>⟨h,qU h1,qU h2⟩,fun h2=>vH h2.2.2⟩
  ·exact za ⟨fun h2=>(by cases h2),fun h2=>absurd h2.2.1 (jU h1)⟩
 ·simp only [zM h,cond_false]
  rw [show zi 310 0=false from rfl,cond_false,zM fun h2=>h h2.1]
abbrev qw:=Int×Int×Int×Int×Int×Int×(Int×Int)×Int×List (List Int)
structure vF (t:qm) (s:qw):Prop where
 id:1≤s.1∧s.1≤4095
 ta:js t s.2.1∧stn t s.2.1=true
 li:js t s.2.2.1∧stn t s.2.2.1=true
 tl:s.2.1≠s.2.2.1
 sz:84≤s.2.2.2.2.1∧s.2.2.2.2.1≤1542
 dl:1≤s.2.2.2.2.2.2.2.1∧s.2.2.2.2.2.2.2.1≤1099511627776
 cl:(s.2.2.2.1=7∧(1≤s.2.2.2.2.2.1∧s.2.2.2.2.2.1≤240)∧s.2.2.2.2.2.2.1=(0,0))∨(s.2.2.2.1=6∧s.2.2.2.2.2.1=0∧(s.2.2.2.2.1≤s.2.2.2.2.2.2.1.1∧s.2.2.2.2.2.2.1.1≤1048576)∧(1≤s.2.2.2.2.2.2.1.2∧s.2.2.2.2.2.2.1.2≤2097152))
 rn:1≤s.2.2.2.2.2.2.2.2.length∧s.2.2.2.2.2.2.2.2.length≤2
 rt:∀r∈s.2.2.2.2.2.2.2.2,je t r∧VA t r=s.2.1∧Ur t r=s.2.2.1
 ap:∀a b,s.2.2.2.2.2.2.2.2[0]?=some a→s.2.2.2.2.2.2.2.2[1]?=some b→zn1 t a b
theorem zkq {a b c:Int} {R:Int→Int→Int→Option (Bool×Unit)} (hR:R a b c=(bif (!(zh (a) (b))) then some ((!(zh (c) (a))),()) else some (false,()))):R a b c=some (tv (b≤a∧a≤c),()):=by
 rw [hR]
 refine wv (zk (fun h=>?_) (fun h=>?_))<;>refine za ?_<;>simp only [xO] at *<;>grind
theorem KR (a b c:Int):wO (a,b,c,())=some (tv (b≤a∧a≤c),()):=by
 rw [zlA];exact zkq (R:=GN) rfl
theorem zgP (a b c:Int):kg (a,b,c,())=some (tv (b≤a∧a≤c),()):=by
 rw [zwQ];exact zkq (R:=zj3) rfl
theorem zjb (a b c:Int):uP (a,b,c,())=some (tv (b≤a∧a≤c),()):=by
 rw [zh0];exact zkq (R:=VS) rfl
theorem zBo {n:Int} (h : -1000000≤n) (h2:n≤1000000):wrF .i64 (n - 1)=n - 1:=zG (by omega) (by omega)
theorem zn2 {t:qm} (hs:szP t) (n:Int):Zt (t,n,())=some (tv (js t n∧stn t n=true),()):=by
 have h0:=hs.n0;have h1:=hs.n1
 rw [zlF];unfold GP
 simp only [KR,zx,zBo (show -1000000≤t.1 by omega) (by omega)]
 refine wv (zk (fun h=>?_) (fun h=>?_))
 ·obtain ⟨h2,h3⟩:=ZO h
  have hn:js t n:=⟨h2,by omega⟩
  refine zg (qk (a:=stn t n) (by show atI t.2.1 n=_;rw [show n=((n.toNat:Nat):Int) from (by omega),jJ (n:=n.toNat)];exact hn.get hs) ?_)
  exact za ⟨fun h=>⟨hn,h⟩,fun h=>h.2⟩
 ·have:=Zn h
  exact za ⟨fun h=>(by cases h),fun h=>absurd ⟨h.1.1,by have:=h.1.2;omega⟩ this⟩
theorem zpm {t:qm} (hs:szP t) (n:Int):Qi (t,n,())=some (tv (js t n∧stn t n=true),()):=by
 have h0:=hs.n0;have h1:=hs.n1
 rw [zm6];unfold zbb
 simp only [zgP,zx,zBo (show -1000000≤t.1 by omega) (by omega)]
 refine wv (zk (fun h=>?_) (fun h=>?_))
 ·obtain ⟨h2,h3⟩:=ZO h
  have hn:js t n:=⟨h2,by omega⟩
  refine zg (qk (a:=stn t n) (by show atI t.2.1 n=_;rw [show n=((n.toNat:Nat):Int) from (by omega),jJ (n:=n.toNat)];exact hn.get hs) ?_)
  exact za ⟨fun h=>⟨hn,h⟩,fun h=>h.2⟩
 ·have:=Zn h
  exact za ⟨fun h=>(by cases h),fun h=>absurd ⟨h.1.1,by have:=h.1.2;omega⟩ this⟩
def wA (b:Int×Int):Prop:=(1≤b.1∧b.1≤1048576)∧(1≤b.2∧b.2≤2097152)
theorem JJ (b:Int×Int):we (b,())=some (bif tv (wA b) then 0 else 130,()):=by
 rw [zoR];unfold zcD wA
 simp only [zjb,zx]
 by_cases h1:1≤b.1∧b.1≤1048576
 ·by_cases h2:1≤b.2∧b.2≤2097152
  ·simp only [zA h1,zA h2,zA (And.intro h1 h2)];rfl
  ·simp only [zA h1,zM h2,zM (fun h:(1≤b.1∧b.1≤1048576)∧(1≤b.2∧b.2≤2097152)=>h2 h.2)];rfl
 ·simp only [zM h1,zM (fun h:(1≤b.1∧b.1≤1048576)∧(1≤b.2∧b.2≤2097152)=>h1 h.1)];rfl
theorem zD7 (b:Int×Int):((zi b.1 0)&&((zi b.2 0)&&true))=tv (b=(0,0)):=by
 obtain ⟨x,y⟩:=b
 rw [zHD,jT,jT]
 simp only [Bool.and_true]
 rw [Bool.eq_iff_iff]
 simp [Prod.ext_iff]
theorem zpZ {t:qm} (ht:jX t) {s:qw} {Q:Prop} (hn:1≤s.2.2.2.2.2.2.2.2.length∧s.2.2.2.2.2.2.2.2.length≤2) {B:((Bool×(Int×Unit))×Unit)→Option ((Nat×((Bool×(Int×Unit))×Unit)) ⊕ ((Bool×(Int×Unit))×Unit))}
  {K:(Nat×((Bool×(Int×Unit))×Unit))→Option (Bool×Unit)}
  (hB
    : B=fun s7=>bif (zh (s7.1.2.1) ((((s.2.2.2.2.2.2.2.2).length:Nat):Int))) then opt (atI (s.2.2.2.2.2.2.2.2) (s7.1.2.1)) fun x8=>
    opt (Zw ((t,(x8,(s.2.1,(s.2.2.1,())))))) fun x9=>
    bif (!x9.1) then some (.inl (1,((false,(s7.1.2.1,())),())))
    else some (.inr ((s7.1.1,((wrF .i64 ((s7.1.2.1+1))),())),()))
   else some (.inl (0,((s7.1.1,(s7.1.2.1,())),()))))
  (hK :
     ∀x,K x=bif (Nat.beq x.1 0) then bif (zh ((((s.2.2.2.2.2.2.2.2).length:Nat):Int)) (2)) then some (true,())
     else opt (atI (s.2.2.2.2.2.2.2.2) (0)) fun x11=>opt (atI (s.2.2.2.2.2.2.2.2) (1)) fun x12=>opt (Zc ((t,(x11,(x12,()))))) fun x13=>
      bif (zi (x13.2.1) (0)) then bif (!x13.1) then some (false,()) else some (true,()) else some (false,())
    else bif (!x.2.1.1) then some (false,())
     else bif (zh ((((s.2.2.2.2.2.2.2.2).length:Nat):Int)) (2)) then some (true,())
      else opt (atI (s.2.2.2.2.2.2.2.2) (0)) fun x14=>opt (atI (s.2.2.2.2.2.2.2.2) (1)) fun x15=>opt (Zc ((t,(x14,(x15,()))))) fun x16=>
       bif (zi (x16.2.1) (0)) then bif (!x16.1) then some (false,()) else some (true,()) else some (false,()))
  (hQ:Q↔(∀r∈s.2.2.2.2.2.2.2.2,je t r∧VA t r=s.2.1∧Ur t r=s.2.2.1)∧∀a b,s.2.2.2.2.2.2.2.2[0]?=some a→s.2.2.2.2.2.2.2.2[1]?=some b→zn1 t a b) :
  qt (opt (zz B zL ((false,(0,())),())) K) fun r=>(r.1=true↔Q):=by
 subst hB
 obtain ⟨n0,n2⟩:=hn
 refine zj (J:=fun x=>(x.1=0∧∀r∈s.2.2.2.2.2.2.2.2,je t r∧VA t r=s.2.1∧Ur t r=s.2.2.1)∨(x.1=1∧x.2.1.1=false∧¬Q)) (qN s.2.2.2.2.2.2.2.2.length (fun i=>∀r,s.2.2.2.2.2.2.2.2[i]?=some r→je t r∧VA t r=s.2.1∧Ur t r=s.2.2.1) (by omega) ?_ ?_) ?_
 ·intro i hi hp
  have hx:s.2.2.2.2.2.2.2.2[i]?=some s.2.2.2.2.2.2.2.2[i]:=List.getElem?_eq_getElem hi
  have hm:=List.getElem_mem hi
  generalize s.2.2.2.2.2.2.2.2[i]=r at hx hm
  refine zd (zT (show (i:Int) < (s.2.2.2.2.2.2.2.2.length:Int) by omega)) (zg (zy (n:=i) hx ?_))
  rw [zrD ht]
  refine zk (fun h=>?_) (fun h=>?_)
  ·exact za (zq (.inr ⟨rfl,rfl,fun hq=>yy h ((hQ.1 hq).1 r hm)⟩))
  ·exact za (jC (by omega) fun r' hr'=>by rw [hx] at hr';cases hr';exact xu h)
 ·intro hp
  refine zf (zF (show ¬(s.2.2.2.2.2.2.2.2.length:Int) < (s.2.2.2.2.2.2.2.2.length:Int) by omega)) (za (zq (.inl ⟨rfl,fun r hr=>?_⟩)))
  obtain ⟨k,hk,hk2⟩:=jV hr
  exact hp k hk r hk2
 ·rintro ⟨j,⟨v,w,⟨⟩⟩,⟨⟩⟩ (⟨rfl,hq⟩ | ⟨rfl,rfl,hq⟩)
  ·rw [hK]
   refine zd rfl (zk (fun h=>?_) (fun h=>?_))
   ·have h:=qn h
    have h:s.2.2.2.2.2.2.2.2.length < 2:=by omega
    exact za ⟨fun _=>hQ.2 ⟨hq,fun a b _ hb=>by rw [List.getElem?_eq_none (by omega)] at hb;cases hb⟩,fun _=>rfl⟩
   ·have h:=qE h
    have h:2≤s.2.2.2.2.2.2.2.2.length:=by omega
    have hx0:s.2.2.2.2.2.2.2.2[0]?=some s.2.2.2.2.2.2.2.2[0]:=List.getElem?_eq_getElem (by omega)
    have hx1:s.2.2.2.2.2.2.2.2[1]?=some s.2.2.2.2.2.2.2.2[1]:=List.getElem?_eq_getElem (by omega)
    have r0:=(hq _ (List.getElem_mem (show 0 < s.2.2.2.2.2.2.2.2.length by omega))).1
    have r1:=(hq _ (List.getElem_mem (show 1 < s.2.2.2.2.2.2.2.2.length by omega))).1
    generalize s.2.2.2.2.2.2.2.2[0]=a at hx0 r0
    generalize s.2.2.2.2.2.2.2.2[1]=b at hx1 r1
    refine zg (zy (n:=0) hx0 (zg (zy (n:=1) hx1 ?_)))
    rw [ztK ht r0 r1]
    refine zk (fun h=>?_) (fun h=>?_)
    ·exact za ⟨fun h=>(by cases h),fun hq2=>absurd ((hQ.1 hq2).2 a b hx0 hx1) (yy h)⟩
    ·exact za ⟨fun _=>hQ.2 ⟨hq,fun a' b' ha hb=>by rw [hx0] at ha;rw [hx1] at hb;cases ha;cases hb;exact xu h⟩,fun _=>rfl⟩
  ·rw [hK]
   exact zf rfl (zd rfl (za ⟨fun h=>(by cases h),fun h=>absurd h hq⟩))
theorem zgQ {t:qm} (ht:jX t) (s:qw):ui (t,s,())=some (tv (vF t s),()):=by
 have no:¬vF t s→qt (some ((false,()):Bool×Unit)) fun r=>(r.1=true↔vF t s):=fun h=>za ⟨fun h=>(by cases h),fun h2=>absurd h2 h⟩
 rw [zoW];unfold zcH
 simp only [KR,zn2 ht.sz,JJ,zx,zD7]
 refine wv (zk (fun h=>no fun hs=>yy h hs.id) fun h1=>zk (fun h2=>zk (fun h3=>zk (fun h=>no fun hs=>?_) fun h4=>zk (fun h=>no fun hs=>yy h hs.sz) fun h5=>zk (fun h=>no fun hs=>yy h hs.dl) fun h6=>?_) fun h=>no fun hs=>Zn h hs.li) fun h=>no fun hs=>Zn h hs.ta)
 ·exact hs.tl (qU (show zi s.2.1 s.2.2.1=true by simpa using h))
 have h1:=xu h1;have h2:=ZO h2;have h3:=ZO h3;have h5:=xu h5;have h6:=xu h6
 have h4:=jU (show zi s.2.1 s.2.2.1=false by simpa using h4)
 refine zk (fun c7=>?_) (fun c7=>zk (fun c6=>?_) (fun c6=>no fun hs=>?_))
 ·have c7:=qU c7
  refine zk (fun h7=>zk (fun h=>no fun hs=>?_) fun h8=>zk (fun h=>no fun hs=>?_) fun h9=>?_) (fun h=>no fun hs=>?_)
  ·rcases hs.cl with ⟨_,_,hb⟩ | ⟨h6',_⟩
   ·exact yy h hb
   ·omega
  ·have:=yy h
   have:=hs.rn
   omega
  ·have h9:=xu h9
   refine zpZ ht ⟨by omega,by omega⟩ rfl (fun _=>rfl) ⟨fun hs=>⟨hs.rt,hs.ap⟩,fun hr=>⟨h1,h2,h3,h4,h5,h6,.inl ⟨c7,ZO h7,xu h8⟩,⟨by omega,by omega⟩,hr.1,hr.2⟩⟩
  ·rcases hs.cl with ⟨_,hb,_⟩ | ⟨h6',_⟩
   ·exact Zn h hb
   ·omega
 ·have c6:=qU c6
  refine zk (fun h7=>zk (fun h8=>zk (fun h=>no fun hs=>?_) fun h9=>zk (fun h=>no fun hs=>?_) fun h10=>?_) (fun h=>no fun hs=>?_)) (fun h=>no fun hs=>?_)
  ·rcases hs.cl with ⟨h7',_⟩ | ⟨_,_,hb,_⟩
   ·omega
   ·have:=qn (show zh s.2.2.2.2.2.2.1.1 s.2.2.2.2.1=true by simpa using h)
    omega
  ·have:=yy h
   have:=hs.rn
   omega
  ·have h10:=xu h10
   have h7:=qU h7
   have h8:wA s.2.2.2.2.2.2.1:=by
    apply Classical.byContradiction
    intro hb
    rw [zM hb] at h8;cases h8
   have h9:=qE (show zh s.2.2.2.2.2.2.1.1 s.2.2.2.2.1=false by simpa using h9)
   refine zpZ ht ⟨by omega,by omega⟩ rfl (fun _=>rfl) ⟨fun hs=>⟨hs.rt,hs.ap⟩,fun hr=>⟨h1,h2,h3,h4,h5,h6,.inr ⟨c6,h7,⟨h9,h8.1.2⟩,h8.2⟩,⟨by omega,by omega⟩,hr.1,hr.2⟩⟩
  ·rcases hs.cl with ⟨h7',_⟩ | ⟨_,_,hb,hr⟩
   ·omega
   ·have:=hs.sz
    have hbp:wA s.2.2.2.2.2.2.1:=⟨⟨by omega,hb.2⟩,hr⟩
    rw [zA hbp] at h;cases h
  ·rcases hs.cl with ⟨h7',_⟩ | ⟨_,hp,_⟩
   ·omega
   ·exact jU h hp
 ·rcases hs.cl with ⟨h7,_⟩ | ⟨h6',_⟩
  ·exact jU c7 h7
  ·exact jU c6 h6'
theorem zhA {t:qm} (ht:jX t) (s:qw):kh (t,s,())=some (tv (vF t s),()):=by
 have hll:=ht.ll
 rw [zqJ];unfold zdO
 simp only [zgP,zpm ht.sz,zx,zD7]
 refine wv (zj (J:=fun x=>(x.1=0∧x.2.1.1=false∧(1≤s.1∧s.1≤4095)∧(js t s.2.1∧stn t s.2.1=true)∧(js t s.2.2.1∧stn t s.2.2.1=true)∧s.2.1≠s.2.2.1∧(84≤s.2.2.2.2.1∧s.2.2.2.2.1≤1542)∧(1≤s.2.2.2.2.2.2.2.1∧s.2.2.2.2.2.2.2.1≤1099511627776))∨(x.1=1∧x.2.1.1=false∧¬vF t s)) ?_ ?_)
 ·refine zk (fun h=>za (.inr ⟨rfl,rfl,fun hs=>yy h hs.id⟩)) fun h1=>zk (fun h=>za (.inr ⟨rfl,rfl,fun hs=>yy h hs.ta⟩)) fun h2=>zk (fun h=>za (.inr ⟨rfl,rfl,fun hs=>yy h hs.li⟩)) fun h3=>zk (fun h=>za (.inr ⟨rfl,rfl,fun hs=>hs.tl (qU h)⟩)) fun h4=>zk (fun h=>za (.inr ⟨rfl,rfl,fun hs=>yy h hs.sz⟩)) fun h5=>zk (fun h=>za (.inr ⟨rfl,rfl,fun hs=>yy h hs.dl⟩)) fun h6=>?_
  exact za (.inl ⟨rfl,rfl,xu h1,xu h2,xu h3,jU h4,xu h5,xu h6⟩)
 rintro ⟨j,⟨v,⟨⟩⟩,⟨⟩⟩ (⟨rfl,rfl,h1,h2,h3,h4,h5,h6⟩ | ⟨rfl,rfl,hq⟩)
 rotate_left
 ·exact zf rfl (za ⟨fun h=>(by cases h),fun h=>absurd h hq⟩)
 refine zd rfl (zj (J:=fun x=>(x.1=0∧x.2.1.1=false∧((s.2.2.2.1=7∧(1≤s.2.2.2.2.2.1∧s.2.2.2.2.2.1≤240)∧s.2.2.2.2.2.2.1=(0,0))∨(s.2.2.2.1=6∧s.2.2.2.2.2.1=0∧(s.2.2.2.2.1≤s.2.2.2.2.2.2.1.1∧s.2.2.2.2.2.2.1.1≤1048576)∧(1≤s.2.2.2.2.2.2.1.2∧s.2.2.2.2.2.2.1.2≤2097152))))∨(x.1=1∧x.2.1.1=false∧¬vF t s)) ?_ ?_)
 ·refine zk (fun c7=>?_) (fun c7=>zk (fun c6=>?_) (fun c6=>za (.inr ⟨rfl,rfl,fun hs=>?_⟩)))
  ·have c7:=qU c7
   refine zj (J:=fun x=>(x.1=0∧x.2.1.1=false∧(1≤s.2.2.2.2.2.1∧s.2.2.2.2.2.1≤240)∧s.2.2.2.2.2.2.1=(0,0))∨(x.1=1∧x.2.1.1=false∧¬vF t s)) ?_ ?_
   ·refine zk (fun h=>za (.inr ⟨rfl,rfl,fun hs=>?_⟩)) fun h7=>zk (fun h=>za (.inr ⟨rfl,rfl,fun hs=>?_⟩)) fun h8=>za (.inl ⟨rfl,rfl,xu h7,xu h8⟩)
    ·rcases hs.cl with ⟨_,hb,_⟩ | ⟨h6',_⟩
     ·exact yy h hb
     ·omega
    ·rcases hs.cl with ⟨_,_,hb⟩ | ⟨h6',_⟩
     ·exact yy h hb
     ·omega
   ·rintro ⟨j,⟨v,⟨⟩⟩,⟨⟩⟩ (⟨rfl,rfl,h7,h8⟩ | ⟨rfl,rfl,hq⟩)
    ·exact zd rfl (za (.inl ⟨rfl,rfl,.inl ⟨c7,h7,h8⟩⟩))
    ·exact zf rfl (za (.inr ⟨rfl,rfl,hq⟩))
  ·have c6:=qU c6
   refine zj (J:=fun x=>(x.1=0∧x.2.1.1=false∧s.2.2.2.2.2.1=0∧(s.2.2.2.2.1≤s.2.2.2.2.2.2.1.1∧s.2.2.2.2.2.2.1.1≤1048576)∧(1≤s.2.2.2.2.2.2.1.2∧s.2.2.2.2.2.2.1.2≤2097152))∨(x.1=1∧x.2.1.1=false∧¬vF t s)) ?_ ?_
   ·refine zk (fun h=>za (.inr ⟨rfl,rfl,fun hs=>?_⟩)) fun h7=>zk (fun h=>za (.inr ⟨rfl,rfl,fun hs=>?_⟩)) fun h8=>zk (fun h=>za (.inr ⟨rfl,rfl,fun hs=>?_⟩)) fun h9=>za (.inl ⟨rfl,rfl,qU (by simpa using h7),xu h8,xu h9⟩)
    ·rcases hs.cl with ⟨h7',_⟩ | ⟨_,hp,_⟩
     ·omega
     ·rw [vH hp] at h;cases h
    ·rcases hs.cl with ⟨h7',_⟩ | ⟨_,_,hb,_⟩
     ·omega
     ·exact yy h hb
    ·rcases hs.cl with ⟨h7',_⟩ | ⟨_,_,_,hb⟩
     ·omega
     ·exact yy h hb
   ·rintro ⟨j,⟨v,⟨⟩⟩,⟨⟩⟩ (⟨rfl,rfl,h7,h8⟩ | ⟨rfl,rfl,hq⟩)
    ·exact zd rfl (za (.inl ⟨rfl,rfl,.inr ⟨c6,h7,h8⟩⟩))
    ·exact zf rfl (za (.inr ⟨rfl,rfl,hq⟩))
  ·rcases hs.cl with ⟨h7,_⟩ | ⟨h6',_⟩
   ·exact jU c7 h7
   ·exact jU c6 h6'
 rintro ⟨j,⟨v,⟨⟩⟩,⟨⟩⟩ (⟨rfl,rfl,hcl⟩ | ⟨rfl,rfl,hq⟩)
 rotate_left
 ·exact zf rfl (za ⟨fun h=>(by cases h),fun h=>absurd h hq⟩)
 refine zd rfl (zj (J:=fun x=>(x.1=0∧x.2.1.1=false∧1≤s.2.2.2.2.2.2.2.2.length∧s.2.2.2.2.2.2.2.2.length≤2)∨(x.1=1∧x.2.1.1=false∧¬vF t s)) ?_ ?_)
 ·refine zk (fun h=>za (.inr ⟨rfl,rfl,fun hs=>?_⟩)) fun h7=>zk (fun h=>za (.inr ⟨rfl,rfl,fun hs=>?_⟩)) fun h8=>za (.inl ⟨rfl,rfl,?_⟩)
  ·have:=qn h;have:=hs.rn;omega
  ·have:=qn h;have:=hs.rn;omega
  ·have h7:=qE h7;have h8:=qE h8;omega
 rintro ⟨j,⟨v,⟨⟩⟩,⟨⟩⟩ (⟨rfl,rfl,n0,n2⟩ | ⟨rfl,rfl,hq⟩)
 rotate_left
 ·exact zf rfl (za ⟨fun h=>(by cases h),fun h=>absurd h hq⟩)
 refine zd rfl (zj (J:=fun x=>(x.1=0∧∀r∈s.2.2.2.2.2.2.2.2,je t r∧VA t r=s.2.1∧Ur t r=s.2.2.1)∨(x.1=1∧x.2.1.1=false∧¬vF t s)) (qN s.2.2.2.2.2.2.2.2.length (fun i=>∀r,s.2.2.2.2.2.2.2.2[i]?=some r→je t r∧VA t r=s.2.1∧Ur t r=s.2.2.1) (by omega) ?_ ?_) ?_)
 ·intro i hi hp
  have hx:s.2.2.2.2.2.2.2.2[i]?=some s.2.2.2.2.2.2.2.2[i]:=List.getElem?_eq_getElem hi
  have hm:=List.getElem_mem hi
  generalize s.2.2.2.2.2.2.2.2[i]=r at hx hm
  refine zd (zT (show (i:Int) < (s.2.2.2.2.2.2.2.2.length:Int) by omega)) (zg (zy (n:=i) hx ?_))
  rw [zhx ht]
  refine zj (J:=fun x=>(x.1=0∧x.2.1.1=false∧je t r∧VA t r=s.2.1∧Ur t r=s.2.2.1)∨(x.1=1∧x.2.1.1=false∧¬vF t s)) ?_ ?_
  ·refine zk (fun h=>za (.inr ⟨rfl,rfl,fun hs=>yy h (hs.rt r hm).1⟩)) fun h=>?_
   have hr:=xu h
   have r0:=hr.n0;have r8:=hr.n1
   have hy0:r[0]?=some r[0]:=List.getElem?_eq_getElem (by omega)
   have hy1:r[r.length - 1]?=some (r[r.length - 1]'(by omega)):=List.getElem?_eq_getElem (by omega)
   have e0:VA t r=frm t r[0]:=by unfold VA;rw [hy0];rfl
   have e1:Ur t r=too t (r[r.length - 1]'(by omega)):=by unfold Ur;rw [hy1];rfl
   have p0:=hr.pt _ (List.getElem_mem (show 0 < r.length by omega))
   have p1:=hr.pt _ (List.getElem_mem (show r.length - 1 < r.length by omega))
   generalize r[0]=p at hy0 e0 p0
   generalize (r[r.length - 1]'(by omega))=q at hy1 e1 p1
   refine zg (zy (n:=0) hy0 ?_)
   rw [Ja hll p0,zx]
   refine zk (fun h=>za (.inr ⟨rfl,rfl,fun hs=>?_⟩)) fun h7=>?_
   ·rw [←e0,vH (hs.rt r hm).2.1] at h;cases h
   have h7:=qU (show zi (frm t p) s.2.1=true by simpa using h7)
   rw [show wrF .i64 ((r.length:Int) - 1)=((r.length - 1:Nat):Int) from by rw [zG]<;>omega]
   refine zg (zy (n:=r.length - 1) hy1 ?_)
   rw [JI hll p1,zx]
   refine zk (fun h=>za (.inr ⟨rfl,rfl,fun hs=>?_⟩)) fun h8=>?_
   ·rw [←e1,vH (hs.rt r hm).2.2] at h;cases h
   have h8:=qU (show zi (too t q) s.2.2.1=true by simpa using h8)
   exact za (.inl ⟨rfl,rfl,hr,by rw [e0,h7],by rw [e1,h8]⟩)
  ·rintro ⟨j,⟨v,⟨⟩⟩,⟨⟩⟩ (⟨rfl,rfl,hq⟩ | ⟨rfl,rfl,hq⟩)
   ·exact zd rfl (za (jC (by omega) fun r' hr'=>by rw [hx] at hr';cases hr';exact hq))
   ·exact zf rfl (za (zq (.inr ⟨rfl,rfl,hq⟩)))
 ·intro hp
  refine zf (zF (show ¬(s.2.2.2.2.2.2.2.2.length:Int) < (s.2.2.2.2.2.2.2.2.length:Int) by omega)) (za (zq (.inl ⟨rfl,fun r hr=>?_⟩)))
  obtain ⟨k,hk,hk2⟩:=jV hr
  exact hp k hk r hk2
 ·rintro ⟨j,⟨v,w,⟨⟩⟩,⟨⟩⟩ (⟨rfl,hrt⟩ | ⟨rfl,rfl,hq⟩)
  rotate_left
  ·exact zf rfl (za ⟨fun h=>(by cases h),fun h=>absurd h hq⟩)
  refine zd rfl (zk (fun h=>?_) (fun h=>?_))
  ·have h:=qU h
   have h:s.2.2.2.2.2.2.2.2.length=1:=by omega
   exact za ⟨fun _=>⟨h1,h2,h3,h4,h5,h6,hcl,⟨n0,n2⟩,hrt,fun a b _ hb=>by rw [List.getElem?_eq_none (by omega)] at hb;cases hb⟩,fun _=>rfl⟩
  ·have h:=jU h
   have h:s.2.2.2.2.2.2.2.2.length=2:=by omega
   have hx0:s.2.2.2.2.2.2.2.2[0]?=some s.2.2.2.2.2.2.2.2[0]:=List.getElem?_eq_getElem (by omega)
   have hx1:s.2.2.2.2.2.2.2.2[1]?=some s.2.2.2.2.2.2.2.2[1]:=List.getElem?_eq_getElem (by omega)
   have r0:=(hrt _ (List.getElem_mem (show 0 < s.2.2.2.2.2.2.2.2.length by omega))).1
   have r1:=(hrt _ (List.getElem_mem (show 1 < s.2.2.2.2.2.2.2.2.length by omega))).1
   generalize s.2.2.2.2.2.2.2.2[0]=a at hx0 r0
   generalize s.2.2.2.2.2.2.2.2[1]=b at hx1 r1
   refine zg (zy (n:=0) hx0 (zg (zy (n:=1) hx1 ?_)))
   rw [zhy ht r0 r1,zx]
   exact za ⟨fun h=>⟨h1,h2,h3,h4,h5,h6,hcl,⟨n0,n2⟩,hrt,fun a' b' ha hb=>by rw [hx0] at ha;rw [hx1] at hb;cases ha;cases hb;exact ZO h⟩,fun hs=>zA (hs.ap a b hx0 hx1)⟩
end Go.Proofs.YtplhphmbkmpocaaGreat.ad
end
