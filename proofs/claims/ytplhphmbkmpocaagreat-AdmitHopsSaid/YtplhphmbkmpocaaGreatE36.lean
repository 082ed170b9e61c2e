/- Parts of a proof, joined. -/
import Derived.Test.YtplhphmbkmpocaaGreatE35
set_option linter.unusedSectionVars false
set_option linter.unusedVariables false
set_option linter.unusedSimpArgs false
set_option maxHeartbeats 0
set_option maxRecDepth 100000
noncomputable section
namespace Go.Proofs.YtplhphmbkmpocaaGreat.ad
open Go Go.Fz Go.Fz.Sy
abbrev kN:List VT:=[⟨true,qn⟩,⟨false,(.list zD)⟩,⟨false,I⟩]
abbrev kO:List VT:=[⟨true,kM⟩,⟨false,I⟩]
def zzx:zR:=zM [cdF qn,cdF zD,cdF ziW,cdF kM,cdF zx,cdF zO,cdF zL,cdF qg] [] [⟨8,44,some 4,.unit,true⟩,⟨10,44,some 4,.unit,true⟩,⟨5,98,none,zq,true⟩,⟨8,98,none,zq,true⟩,⟨12,98,none,zq,true⟩,⟨15,98,none,zq,true⟩,⟨18,98,none,zq,true⟩,⟨21,98,none,zq,true⟩,⟨5,98,some 6,zq,false⟩,⟨8,98,some 6,zq,false⟩,⟨12,98,some 6,zq,false⟩,⟨15,98,some 6,zq,false⟩,⟨18,98,some 6,zq,false⟩,⟨21,98,some 6,zq,false⟩,⟨2,37,none,zq,true⟩,⟨4,37,none,zq,true⟩,⟨2,44,none,zq,true⟩,⟨5,44,none,zq,true⟩,⟨8,44,none,zq,true⟩,⟨10,44,none,zq,true⟩,⟨1,28,none,zq,true⟩,⟨4,28,none,zq,true⟩,⟨2,19,none,zq,true⟩,⟨4,19,none,zq,true⟩] [] [13,72,136,100,101,102,103,104]
def zig (qw:ve) (jA:gu) (qh:wc) (xG:Ub) (yf:YW) (yg:YX) (wF:Wh) (jw:ZX) (a0:qx) (a1:(List zY)) (a2:Int):Option (WM×Int×Unit):=
 opt (qw (a0,())) fun x0=>
 bif !(zg x0.1 0) then bif !(zg x0.1 0) then some (((0,0),((0,0),(0,0))),(x0.1,()))
  else opt (bif zh a2 0 then some (1,((((0,0),((0,0),(0,0))),(2,())),()))
    else bif (!(zh a2 (wrF .i64 (2*((a0.1.2.2.length:Nat):Int))))) then some (1,((((0,0),((0,0),(0,0))),(2,())),()))
     else some (0,((((0,0),((0,0),(0,0))),(0,())),()))) fun x1=>
   bif Nat.beq x1.1 0 then none
   else some (x1.2.1.1,(x1.2.1.2.1,()))
 else opt (jA (a0.1,(a1,()))) fun x2=>
  bif !(zg x2.1 0) then bif !(zg x2.1 0) then some (((0,0),((0,0),(0,0))),(x2.1,()))
   else opt (bif zh a2 0 then some (1,((((0,0),((0,0),(0,0))),(2,())),()))
     else bif (!(zh a2 (wrF .i64 (2*((a0.1.2.2.length:Nat):Int))))) then some (1,((((0,0),((0,0),(0,0))),(2,())),()))
      else some (0,((((0,0),((0,0),(0,0))),(0,())),()))) fun x3=>
    bif Nat.beq x3.1 0 then none
    else some (x3.2.1.1,(x3.2.1.2.1,()))
  else opt (zy (fun s4:((Unit×(Int×(Int×Unit)))×Unit)=>
    bif (zh s4.1.2.2.1 ((a1.length:Nat):Int)) then opt (atI a1 s4.1.2.2.1) fun x5=>
     opt (bif !(zg x5.2.2.2.1 6) then some (1,(((),(2,())),()))
      else bif zh a0.2.2.2 x5.2.2.2.2.1 then some (1,(((),(2,())),()))
       else some (0,(((),(s4.1.2.1,())),()))) fun x6=>
     bif Nat.beq x6.1 0 then some (.inr (((),(x6.2.1.2.1,((wrF .i64 (s4.1.2.2.1+1)),()))),()))
     else some (.inl (1,(((),(x6.2.1.2.1,(s4.1.2.2.1,()))),())))
    else some (.inl (0,(((),(s4.1.2.1,(s4.1.2.2.1,()))),())))) zH (((),(0,(0,()))),())) fun x7=>
   bif Nat.beq x7.1 0 then opt (bif zh a2 0 then some (1,((((0,0),((0,0),(0,0))),(2,())),()))
     else bif (!(zh a2 (wrF .i64 (2*((a0.1.2.2.length:Nat):Int))))) then some (1,((((0,0),((0,0),(0,0))),(2,())),()))
      else some (0,((((0,0),((0,0),(0,0))),(0,())),()))) fun x8=>
    bif Nat.beq x8.1 0 then opt (bif (!(mpH (α:=(((Int×Int)×((Int×Int)×(Int×Int)))×Int)) ([]) a2)) then opt (zy (fun s9:((Int×Unit)×(((List (Int×Int))×Unit)×(Unit×(Unit×Unit))))=>
        bif (zh s9.1.1 ((a1.length:Nat):Int)) then opt (atI a1 s9.1.1) fun x10=>
         opt (zy (fun s11:((Int×(Int×Unit))×(((List (Int×Int))×Unit)×(Unit×(Unit×Unit))))=>
          bif (zh s11.1.2.1 ((x10.2.2.2.2.2.2.2.2.length:Nat):Int)) then opt (atI x10.2.2.2.2.2.2.2.2 s11.1.2.1) fun x12=>
           opt (qh (x12,(a2,()))) fun x13=>
           bif x13.1 then some (.inl (1,((s11.1.2.1,(s11.1.2.1,())),((s11.2.1.1,()),((),((),()))))))
           else some (.inr ((s11.1.1,((wrF .i64 (s11.1.2.1+1)),())),((s11.2.1.1,()),((),((),())))))
          else some (.inl (0,((s11.1.1,(s11.1.2.1,())),((s11.2.1.1,()),((),((),()))))))) zH ((0,(0,())),((s9.2.1.1,()),((),((),()))))) fun x14=>
         bif Nat.beq x14.1 0 then some (.inr (((wrF .i64 (s9.1.1+1)),()),((x14.2.2.1.1,()),((),((),())))))
         else bif !(zh x14.2.1.1 0) then bif (qW x14.2.2.1.1.length ((x10.2.2.2.2.2.2.1::[]).length) 16) then some (.inr (((wrF .i64 (s9.1.1+1)),()),(((x14.2.2.1.1++(x10.2.2.2.2.2.2.1::[])),()),((),((),())))))
           else none
          else some (.inr (((wrF .i64 (s9.1.1+1)),()),((x14.2.2.1.1,()),((),((),())))))
        else some (.inl (0,((s9.1.1,()),((s9.2.1.1,()),((),((),()))))))) zH ((0,()),(([],()),((),((),()))))) fun x15=>
       bif Nat.beq x15.1 0 then bif (zg ((x15.2.2.1.1.length:Nat):Int) 0) then some (0,(((((0,0),((0,0),(0,0))),4),()),((mpP (α:=(((Int×Int)×((Int×Int)×(Int×Int)))×Int)) ([]) a2 (((0,0),((0,0),(0,0))),4)),())))
        else opt (xG (a0.1,(a2,()))) fun x16=>
         bif !(zg x16.2.1 0) then some (0,(((((0,0),((0,0),(0,0))),x16.2.1),()),((mpP (α:=(((Int×Int)×((Int×Int)×(Int×Int)))×Int)) ([]) a2 (((0,0),((0,0),(0,0))),x16.2.1)),())))
         else opt (atI a0.2.2.1 a2) fun x17=>
          opt (yf (x17,(x16.1,(a0.2.2.2,())))) fun x18=>
          bif !(zg x18.2.1 0) then some (0,(((((0,0),((0,0),(0,0))),411),()),((mpP (α:=(((Int×Int)×((Int×Int)×(Int×Int)))×Int)) ([]) a2 (((0,0),((0,0),(0,0))),411)),())))
          else opt (yg (x15.2.2.1.1,())) fun x19=>
           bif !(zg x19.2.1 0) then some (0,(((((0,0),((0,0),(0,0))),x19.2.1),()),((mpP (α:=(((Int×Int)×((Int×Int)×(Int×Int)))×Int)) ([]) a2 (((0,0),((0,0),(0,0))),x19.2.1)),())))
           else opt (wF ((x19.1::[]),(x18.1,()))) fun x20=>
            bif !(zg x20.2.1 0) then some (0,(((((0,0),((0,0),(0,0))),x20.2.1),()),((mpP (α:=(((Int×Int)×((Int×Int)×(Int×Int)))×Int)) ([]) a2 (((0,0),((0,0),(0,0))),x20.2.1)),())))
            else opt (jw (x19.1,(x18.1,()))) fun x21=>
             bif !(zg x21.2.1 0) then some (0,(((((0,0),((0,0),(0,0))),x21.2.1),()),((mpP (α:=(((Int×Int)×((Int×Int)×(Int×Int)))×Int)) ([]) a2 (((0,0),((0,0),(0,0))),x21.2.1)),())))
             else some (0,((((x19.1,(x18.1,(x20.1,x21.1))),0),()),((mpP (α:=(((Int×Int)×((Int×Int)×(Int×Int)))×Int)) ([]) a2 ((x19.1,(x18.1,(x20.1,x21.1))),0)),())))
       else bif (zg ((x15.2.2.1.1.length:Nat):Int) 0) then some (0,(((((0,0),((0,0),(0,0))),4),()),((mpP (α:=(((Int×Int)×((Int×Int)×(Int×Int)))×Int)) ([]) a2 (((0,0),((0,0),(0,0))),4)),())))
        else opt (xG (a0.1,(a2,()))) fun x22=>
         bif !(zg x22.2.1 0) then some (0,(((((0,0),((0,0),(0,0))),x22.2.1),()),((mpP (α:=(((Int×Int)×((Int×Int)×(Int×Int)))×Int)) ([]) a2 (((0,0),((0,0),(0,0))),x22.2.1)),())))
         else opt (atI a0.2.2.1 a2) fun x23=>
          opt (yf (x23,(x22.1,(a0.2.2.2,())))) fun x24=>
          bif !(zg x24.2.1 0) then some (0,(((((0,0),((0,0),(0,0))),411),()),((mpP (α:=(((Int×Int)×((Int×Int)×(Int×Int)))×Int)) ([]) a2 (((0,0),((0,0),(0,0))),411)),())))
          else opt (yg (x15.2.2.1.1,())) fun x25=>
           bif !(zg x25.2.1 0) then some (0,(((((0,0),((0,0),(0,0))),x25.2.1),()),((mpP (α:=(((Int×Int)×((Int×Int)×(Int×Int)))×Int)) ([]) a2 (((0,0),((0,0),(0,0))),x25.2.1)),())))
           else opt (wF ((x25.1::[]),(x24.1,()))) fun x26=>
            bif !(zg x26.2.1 0) then some (0,(((((0,0),((0,0),(0,0))),x26.2.1),()),((mpP (α:=(((Int×Int)×((Int×Int)×(Int×Int)))×Int)) ([]) a2 (((0,0),((0,0),(0,0))),x26.2.1)),())))
            else opt (jw (x25.1,(x24.1,()))) fun x27=>
             bif !(zg x27.2.1 0) then some (0,(((((0,0),((0,0),(0,0))),x27.2.1),()),((mpP (α:=(((Int×Int)×((Int×Int)×(Int×Int)))×Int)) ([]) a2 (((0,0),((0,0),(0,0))),x27.2.1)),())))
             else some (0,((((x25.1,(x24.1,(x26.1,x27.1))),0),()),((mpP (α:=(((Int×Int)×((Int×Int)×(Int×Int)))×Int)) ([]) a2 ((x25.1,(x24.1,(x26.1,x27.1))),0)),())))
      else some (0,(((mpD (α:=(((Int×Int)×((Int×Int)×(Int×Int)))×Int)) ([]) a2 (((0,0),((0,0),(0,0))),0)),()),([],())))) fun x28=>
     some (x28.2.1.1.1,(x28.2.1.1.2,()))
    else some (x8.2.1.1,(x8.2.1.2.1,()))
   else bif !(zg x7.2.1.2.1 0) then some (((0,0),((0,0),(0,0))),(x7.2.1.2.1,()))
    else opt (bif zh a2 0 then some (1,((((0,0),((0,0),(0,0))),(2,())),()))
      else bif (!(zh a2 (wrF .i64 (2*((a0.1.2.2.length:Nat):Int))))) then some (1,((((0,0),((0,0),(0,0))),(2,())),()))
       else some (0,((((0,0),((0,0),(0,0))),(0,())),()))) fun x29=>
     bif Nat.beq x29.1 0 then none
     else some (x29.2.1.1,(x29.2.1.2.1,()))
abbrev zih:Type:=(qx×(List zY)×Int×Unit)→Option (WM×Int×Unit)
def zpz:ve→gu→wc→Ub→YW→YX→Wh→ZX→zih:=fun qw jA qh xG yf yg wF jw=>sF Tryz.prog [(13,⟨qS,qT,qw⟩),(72,⟨yu,yv,jA⟩),(136,⟨qD,qE,qh⟩),(100,⟨ZB,ZC,xG⟩),(101,⟨xM,xN,yf⟩),(102,⟨uz,uA,yg⟩),(103,⟨vH,vI,wF⟩),(104,⟨xt,xu,jw⟩)] zzx (zN []) 30 15 kN kO
theorem zAu (qw) (jA) (qh) (xG) (yf) (yg) (wF) (jw) (a0) (a1) (a2):zpz qw jA qh xG yf yg wF jw (a0,a1,a2,())=zig qw jA qh xG yf yg wF jw a0 a1 a2:=by kernel_rfl
def ZD:zih:=zpz jo xa qy vj wJ yS wX jO
theorem zuP:Con.Ok Tryz.prog 15 ⟨kN,kO,ZD⟩:=zv (zd Yd (zd zbm (zd QC (zd zk4 (zd zhC (zd zhD (zd zgu (zd zdM zk)))))))) zo (by kernel_rfl)
theorem zuQ (a0) (a1) (a2):ZD (a0,a1,a2,())=zig jo xa qy vj wJ yS wX jO a0 a1 a2:=zAu jo xa qy vj wJ yS wX jO a0 a1 a2
abbrev GV:List VT:=[⟨true,zx⟩,⟨false,(.list zD)⟩]
abbrev GW:List VT:=[⟨false,I⟩]
def zoX:zR:=zM [cdF zD,cdF zx,cdF zO,cdF zq] [] [] [] [40,83]
def GX (yD:JX) (yB:JV) (a0:zK) (a1:(List zY)):Option (Int×Unit):=
 opt (yD (a0,())) fun x0=>
 bif !x0.1 then some (260,())
 else bif (zh 12 ((a1.length:Nat):Int)) then some (3,())
  else opt (zy (fun s1:((Int×(Int×Unit))×Unit)=>
    bif (zh s1.1.2.1 ((a1.length:Nat):Int)) then opt (atI a1 s1.1.2.1) fun x2=>
     opt (yB (a0,(x2,()))) fun x3=>
     bif !x3.1 then some (.inl (1,((321,(s1.1.2.1,())),())))
     else some (.inr ((s1.1.1,((wrF .i64 (s1.1.2.1+1)),())),()))
    else some (.inl (0,((s1.1.1,(s1.1.2.1,())),())))) zH ((0,(0,())),())) fun x4=>
   bif Nat.beq x4.1 0 then opt (zy (fun s5:((Int×(Int×Unit))×Unit)=>
     bif (zh s5.1.2.1 ((a1.length:Nat):Int)) then opt (zy (fun s6:((Int×(Int×Unit))×Unit)=>
       bif zh s6.1.2.1 s5.1.2.1 then opt (atI a1 s6.1.2.1) fun x7=>
        opt (atI a1 s5.1.2.1) fun x8=>
        bif zg x7.1 x8.1 then some (.inl (1,((322,(s6.1.2.1,())),())))
        else some (.inr ((s6.1.1,((wrF .i64 (s6.1.2.1+1)),())),()))
       else some (.inl (0,((s6.1.1,(s6.1.2.1,())),())))) zH ((s5.1.1,(0,())),())) fun x9=>
      bif Nat.beq x9.1 0 then some (.inr ((x9.2.1.1,((wrF .i64 (s5.1.2.1+1)),())),()))
      else some (.inl (1,((x9.2.1.1,(s5.1.2.1,())),())))
     else some (.inl (0,((s5.1.1,(s5.1.2.1,())),())))) zH ((x4.2.1.1,(0,())),())) fun x10=>
    bif Nat.beq x10.1 0 then some (0,())
    else some (x10.2.1.1,())
   else some (x4.2.1.1,())
abbrev Va:Type:=(zK×(List zY)×Unit)→Option (Int×Unit)
def zgv:JX→JV→Va:=fun yD yB=>sF Tryz.prog [(40,⟨Gb,Gc,yD⟩),(83,⟨UY,UZ,yB⟩)] zoX (zN []) 30 74 GV GW
theorem zqX (yD) (yB) (a0) (a1):zgv yD yB (a0,a1,())=GX yD yB a0 a1:=by kernel_rfl
def Zm:Va:=zgv uK uI
theorem zlL:Con.Ok Tryz.prog 74 ⟨GV,GW,Zm⟩:=zv (zd zgd (zd zf6 zk)) zo (by kernel_rfl)
theorem zlM (a0) (a1):Zm (a0,a1,())=GX uK uI a0 a1:=zqX uK uI a0 a1
abbrev zbw:List VT:=[⟨true,qn⟩,⟨false,(.list zD)⟩]
abbrev zbx:List VT:=[⟨false,I⟩]
def zw6:zR:=zM [cdF qn,cdF zD,cdF zx,cdF zO,cdF zL,cdF qg] [] [] [] [14,74]
def zgw (jr:gV) (Zu:Va) (a0:qx) (a1:(List zY)):Option (Int×Unit):=
 opt (jr (a0,())) fun x0=>
 opt (bif zg x0.1 0 then opt (Zu (a0.1,(a1,()))) fun x1=>
   some (0,((x1.1,()),()))
  else some (0,((x0.1,()),()))) fun x2=>
 bif !(zg x2.2.1.1 0) then some (x2.2.1.1,())
 else opt (zy (fun s3:((Int×(Int×Unit))×Unit)=>
   bif (zh s3.1.2.1 ((a1.length:Nat):Int)) then opt (opt (atI a1 s3.1.2.1) fun x4=>
     bif !(zg x4.2.2.2.1 6) then some (1,((2,()),()))
     else opt (atI a1 s3.1.2.1) fun x5=>
      bif zh a0.2.2.2 x5.2.2.2.2.1 then some (1,((2,()),()))
      else some (0,((s3.1.1,()),()))) fun x6=>
    bif Nat.beq x6.1 0 then some (.inr ((x6.2.1.1,((wrF .i64 (s3.1.2.1+1)),())),()))
    else some (.inl (1,((x6.2.1.1,(s3.1.2.1,())),())))
   else some (.inl (0,((s3.1.1,(s3.1.2.1,())),())))) zH ((0,(0,())),())) fun x7=>
  bif Nat.beq x7.1 0 then some (0,())
  else some (x7.2.1.1,())
abbrev Xa:Type:=(qx×(List zY)×Unit)→Option (Int×Unit)
def znw:gV→Va→Xa:=fun jr Zu=>sF Tryz.prog [(14,⟨gT,gU,jr⟩),(74,⟨GV,GW,Zu⟩)] zw6 (zN []) 30 45 zbw zbx
theorem zzy (jr) (Zu) (a0) (a1):znw jr Zu (a0,a1,())=zgw jr Zu a0 a1:=by kernel_rfl
def gm:Xa:=znw yl Zm
theorem zhH:Con.Ok Tryz.prog 45 ⟨zbw,zbx,gm⟩:=zv (zd UE (zd zlL zk)) zo (by kernel_rfl)
theorem zsU (a0) (a1):gm (a0,a1,())=zgw yl Zm a0 a1:=zzy yl Zm a0 a1
abbrev zcQ:List VT:=[⟨true,zD⟩,⟨false,I⟩]
abbrev zcR:List VT:=[⟨false,.bool⟩]
def zsV:zR:=zM [cdF zD,cdF zq] [] [] [] []
def zcS (a0:zY) (a1:Int):Option (Bool×Unit):=
 opt (zy (fun s0:((Bool×(Int×Unit))×Unit)=>
  bif (zh s0.1.2.1 ((a0.2.2.2.2.2.2.2.2.length:Nat):Int)) then opt (zy (fun s1:((Bool×(Int×Unit))×Unit)=>
    opt (atI a0.2.2.2.2.2.2.2.2 s0.1.2.1) fun x2=>
    bif (zh s1.1.2.1 ((x2.length:Nat):Int)) then opt (atI a0.2.2.2.2.2.2.2.2 s0.1.2.1) fun x3=>
     opt (atI x3 s1.1.2.1) fun x4=>
     bif zg x4 a1 then some (.inl (1,((true,(s1.1.2.1,())),())))
     else some (.inr ((s1.1.1,((wrF .i64 (s1.1.2.1+1)),())),()))
    else some (.inl (0,((s1.1.1,(s1.1.2.1,())),())))) zH ((s0.1.1,(0,())),())) fun x5=>
   bif Nat.beq x5.1 0 then some (.inr ((x5.2.1.1,((wrF .i64 (s0.1.2.1+1)),())),()))
   else some (.inl (1,((x5.2.1.1,(s0.1.2.1,())),())))
  else some (.inl (0,((s0.1.1,(s0.1.2.1,())),())))) zH ((false,(0,())),())) fun x6=>
 bif Nat.beq x6.1 0 then some (false,())
 else some (x6.2.1.1,())
abbrev Uc:Type:=(zY×Int×Unit)→Option (Bool×Unit)
def zjb:Uc:=sF Tryz.prog [] zsV (zN []) 30 27 zcQ zcR
theorem zuR (a0) (a1):zjb (a0,a1,())=zcS a0 a1:=by kernel_rfl
def QM:Uc:=zjb
theorem zoY:Con.Ok Tryz.prog 27 ⟨zcQ,zcR,QM⟩:=zv zk zo (by kernel_rfl)
theorem zoZ (a0) (a1):QM (a0,a1,())=zcS  a0 a1:=zuR  a0 a1
abbrev zii:List VT:=[⟨true,zx⟩,⟨false,I⟩]
abbrev zij:List VT:=[⟨false,I⟩]
def zzz:zR:=zM [cdF zx,cdF zO] [] [] [] []
def zik (a0:zK) (a1:Int):Option (Int×Unit):=
 opt (atI a0.2.2 (wrF .i64 (Int.tdiv a1 2))) fun x0=>
 some (x0.2.2.1,())
abbrev zde:Type:=(zK×Int×Unit)→Option (Int×Unit)
def zpA:zde:=sF Tryz.prog [] zzz (zN []) 30 76 zii zij
theorem zAv (a0) (a1):zpA (a0,a1,())=zik a0 a1:=by kernel_rfl
def Vy:zde:=zpA
theorem zuS:Con.Ok Tryz.prog 76 ⟨zii,zij,Vy⟩:=zv zk zo (by kernel_rfl)
theorem zuT (a0) (a1):Vy (a0,a1,())=zik  a0 a1:=zAv  a0 a1
abbrev zgx:List VT:=[⟨true,zL⟩,⟨false,I⟩,⟨false,I⟩]
abbrev zgy:List VT:=[⟨false,I⟩]
def zw7:zR:=zM [cdF zL,cdF qg] [] [] [] [42]
def zgz (yE:JZ) (a0:qq) (a1:Int) (a2:Int):Option (Int×Unit):=
 opt (yE (a0,())) fun x0=>
 bif !x0.1 then some (370,())
 else opt (bif zh a1 1 then some (1,((2,()),()))
   else bif zh 1000 a1 then some (1,((2,()),()))
    else bif zh a2 84 then some (1,((2,()),()))
     else bif zh 1542 a2 then some (1,((2,()),()))
      else some (0,((0,()),()))) fun x1=>
  bif Nat.beq x1.1 0 then some (0,())
  else some (x1.2.1.1,())
abbrev zby:Type:=(qq×Int×Int×Unit)→Option (Int×Unit)
def znx:JZ→zby:=fun yE=>sF Tryz.prog [(42,⟨Ge,Gf,yE⟩)] zw7 (zN []) 30 105 zgx zgy
theorem zzA (yE) (a0) (a1) (a2):znx yE (a0,a1,a2,())=zgz yE a0 a1 a2:=by kernel_rfl
def Xb:zby:=znx uL
theorem zsW:Con.Ok Tryz.prog 105 ⟨zgx,zgy,Xb⟩:=zv (zd zge zk) zo (by kernel_rfl)
theorem zsX (a0) (a1) (a2):Xb (a0,a1,a2,())=zgz uL a0 a1 a2:=zzA uL a0 a1 a2
abbrev UF:List VT:=[⟨false,I⟩,⟨false,I⟩]
abbrev UG:List VT:=[⟨false,.bool⟩]
def zzB:zR:=zM [] [] [] [] []
def zil (a0:Int) (a1:Int):Option (Bool×Unit):=
 bif zh (wrF .u64 a1) 0 then none
 else some ((zg (Int.tmod (wk .i64 a0 (wrF .u64 a1)) 2) 1),())
abbrev QJ:Type:=(Int×Int×Unit)→Option (Bool×Unit)
def zpB:QJ:=sF Tryz.prog [] zzB (zN []) 30 152 UF UG
theorem zAw (a0) (a1):zpB (a0,a1,())=zil a0 a1:=by kernel_rfl
def vJ:QJ:=zpB
theorem zcT:Con.Ok Tryz.prog 152 ⟨UF,UG,vJ⟩:=zv zk zo (by kernel_rfl)
theorem zuU (a0) (a1):vJ (a0,a1,())=zil  a0 a1:=zAw  a0 a1
abbrev Xc:List VT:=[⟨true,zL⟩]
abbrev Xd:List VT:=[⟨false,.bool⟩]
def zsY:zR:=zM [cdF zL,cdF qg] [] [] [] [152]
def zcU (jG:QJ) (a0:qq):Option (Bool×Unit):=
 opt (zy (fun s0:((Bool×(Int×Unit))×Unit)=>
  bif (zh s0.1.2.1 ((a0.1.length:Nat):Int)) then opt (atI a0.1 s0.1.2.1) fun x1=>
   opt (jG (x1.1,(6,()))) fun x2=>
   bif !x2.1 then some (.inl (1,((false,(s0.1.2.1,())),())))
   else some (.inr ((s0.1.1,((wrF .i64 (s0.1.2.1+1)),())),()))
  else some (.inl (0,((s0.1.1,(s0.1.2.1,())),())))) zH ((false,(0,())),())) fun x3=>
 bif Nat.beq x3.1 0 then some (true,())
 else some (x3.2.1.1,())
abbrev kG:Type:=(qq×Unit)→Option (Bool×Unit)
def zjc:QJ→kG:=fun jG=>sF Tryz.prog [(152,⟨UF,UG,jG⟩)] zsY (zN []) 30 107 Xc Xd
theorem zuV (jG) (a0):zjc jG (a0,())=zcU jG a0:=by kernel_rfl
def yz:kG:=zjc vJ
theorem Ur:Con.Ok Tryz.prog 107 ⟨Xc,Xd,yz⟩:=zv (zd zcT zk) zo (by kernel_rfl)
theorem zo0 (a0):yz (a0,())=zcU vJ a0:=zuV vJ a0
abbrev zkt:List VT:=[⟨true,zL⟩,⟨false,I⟩]
abbrev zku:List VT:=[⟨false,I⟩,⟨false,I⟩]
def zAx:zR:=zM [cdF zL,cdF qg] [] [] [] []
def zkv (a0:qq) (a1:Int):Option (Int×Int×Unit):=
 bif zg a0.2 0 then none
 else opt (bif zh (Int.tmod a1 a0.2) 0 then some (0,(((wrF .i64 ((Int.tmod a1 a0.2)+a0.2)),()),()))
   else some (0,(((Int.tmod a1 a0.2),()),()))) fun x0=>
  opt (zy (fun s1:((Int×(Int×Unit))×Unit)=>
   opt (atI a0.1 s1.1.2.1) fun x2=>
   bif !(zh s1.1.1 x2.2) then opt (atI a0.1 s1.1.2.1) fun x3=>
    some (.inr (((wrF .i64 (s1.1.1 - x3.2)),((wrF .i64 (s1.1.2.1+1)),())),()))
   else some (.inl (0,((s1.1.1,(s1.1.2.1,())),())))) zH ((x0.2.1.1,(0,())),())) fun x4=>
  some (x4.2.1.2.1,(x4.2.1.1,()))
abbrev zfl:Type:=(qq×Int×Unit)→Option (Int×Int×Unit)
def zsZ:zfl:=sF Tryz.prog [] zAx (zN []) 30 172 zkt zku
theorem zCv (a0) (a1):zsZ (a0,a1,())=zkv a0 a1:=by kernel_rfl
def Vb:zfl:=zsZ
theorem zw8:Con.Ok Tryz.prog 172 ⟨zkt,zku,Vb⟩:=zv zk zo (by kernel_rfl)
theorem zw9 (a0) (a1):Vb (a0,a1,())=zkv  a0 a1:=zCv  a0 a1
abbrev Vc:List VT:=[⟨true,zL⟩,⟨false,I⟩,⟨false,I⟩]
abbrev Vd:List VT:=[⟨false,(.list qU)⟩]
def zo1:zR:=zM [cdF zL,cdF qg] [] [⟨4,68,some 6,qU,false⟩,⟨4,68,some 7,qU,true⟩,⟨8,68,some 6,qU,false⟩,⟨8,68,some 7,qU,true⟩,⟨10,68,some 6,qU,false⟩,⟨10,68,some 7,qU,true⟩] [] [172,152]
def GY (Ug:zfl) (jG:QJ) (a0:qq) (a1:Int) (a2:Int):Option ((List xT)×Unit):=
 opt (zy (fun s0:((Bool×(Int×Unit))×((List (Int×Int))×Unit))=>
  bif zh s0.1.2.1 a2 then opt (Ug (a0,(s0.1.2.1,()))) fun x1=>
   opt (atI a0.1 x1.1) fun x2=>
   opt (atI a0.1 x1.1) fun x3=>
   opt (jG (x3.1,(6,()))) fun x4=>
   opt (bif x4.1 then bif s0.1.1 then opt (atI s0.2.1 (wrF .i64 (((s0.2.1.length:Nat):Int) - 1))) fun x5=>
      opt (gl s0.2.1 (Int.toNat (wrF .i64 (((s0.2.1.length:Nat):Int) - 1)))) fun x6=>
      some (0,((),((s0.2.1.set (Int.toNat (wrF .i64 (((s0.2.1.length:Nat):Int) - 1))) (x6.1,(jt (wrF .i64 ((wrF .i64 (s0.1.2.1 - x1.2.1))+x2.2)) a2))),())))
     else some (0,((),(s0.2.1,())))
    else some (0,((),(s0.2.1,())))) fun x7=>
   opt (bif x4.1 then bif !s0.1.1 then bif (qW x7.2.2.1.length (((s0.1.2.1,(jt (wrF .i64 ((wrF .i64 (s0.1.2.1 - x1.2.1))+x2.2)) a2))::[]).length) 16) then some (0,((),((x7.2.2.1++((s0.1.2.1,(jt (wrF .i64 ((wrF .i64 (s0.1.2.1 - x1.2.1))+x2.2)) a2))::[])),())))
      else none
     else some (0,((),(x7.2.2.1,())))
    else some (0,((),(x7.2.2.1,())))) fun x8=>
   some (.inr ((x4.1,((jt (wrF .i64 ((wrF .i64 (s0.1.2.1 - x1.2.1))+x2.2)) a2),())),(x8.2.2.1,())))
  else some (.inl (0,((s0.1.1,(s0.1.2.1,())),(s0.2.1,()))))) zH ((false,(a1,())),([],()))) fun x9=>
 some (x9.2.2.1,())
abbrev Zn:Type:=(qq×Int×Int×Unit)→Option ((List xT)×Unit)
def zgA:zfl→QJ→Zn:=fun Ug jG=>sF Tryz.prog [(172,⟨zkt,zku,Ug⟩),(152,⟨UF,UG,jG⟩)] zo1 (zN []) 30 153 Vc Vd
theorem zqY (Ug) (jG) (a0) (a1) (a2):zgA Ug jG (a0,a1,a2,())=GY Ug jG a0 a1 a2:=by kernel_rfl
def yX:Zn:=zgA Vb vJ
theorem zce:Con.Ok Tryz.prog 153 ⟨Vc,Vd,yX⟩:=zv (zd zw8 (zd zcT zk)) zo (by kernel_rfl)
theorem zlN (a0) (a1) (a2):yX (a0,a1,a2,())=GY Vb vJ a0 a1 a2:=zqY Vb vJ a0 a1 a2
abbrev Gl:List VT:=[⟨true,zL⟩]
abbrev Gm:List VT:=[⟨false,(.list qU)⟩]
def zuW:zR:=zM [cdF zL,cdF qg] [] [⟨3,36,some 2,qU,false⟩] [] [152]
def zep (jG:QJ) (jV:Zn) (a0:qq):Option ((List xT)×Unit):=
 opt (zy (fun s0:((Int×(Int×Unit))×Unit)=>
  bif (zh s0.1.2.1 ((a0.1.length:Nat):Int)) then opt (atI a0.1 s0.1.2.1) fun x1=>
   opt (jG (x1.1,(6,()))) fun x2=>
   bif x2.1 then opt (atI a0.1 s0.1.2.1) fun x3=>
    some (.inr (((wrF .i64 (s0.1.1+x3.2)),((wrF .i64 (s0.1.2.1+1)),())),()))
   else some (.inl (0,((s0.1.1,(s0.1.2.1,())),())))
  else some (.inl (0,((s0.1.1,(s0.1.2.1,())),())))) zH ((0,(0,())),())) fun x4=>
 opt (jV (a0,(x4.2.1.1,((wrF .i64 (x4.2.1.1+a0.2)),())))) fun x5=>
 some (x5.1,())
abbrev Wi:Type:=(qq×Unit)→Option ((List xT)×Unit)
def zlb:QJ→Zn→Wi:=fun jG jV=>sF Tryz.prog [(152,⟨UF,UG,jG⟩),(153,⟨Vc,Vd,jV⟩)] zuW (zN []) 30 108 Gl Gm
theorem zxa (jG) (jV) (a0):zlb jG jV (a0,())=zep jG jV a0:=by kernel_rfl
def xO:Wi:=zlb vJ yX
theorem zgB:Con.Ok Tryz.prog 108 ⟨Gl,Gm,xO⟩:=zv (zd zcT (zd zce zk)) zo (by kernel_rfl)
theorem zqZ (a0):xO (a0,())=zep vJ yX a0:=zxa vJ yX a0
abbrev zdf:List VT:=[⟨false,(.list qU)⟩,⟨false,I⟩]
abbrev zdg:List VT:=[⟨false,I⟩]
def zzC:zR:=zM [cdF qU] [] [] [] []
def zim (a0:(List xT)) (a1:Int):Option (Int×Unit):=
 opt (zy (fun s0:((Int×(Int×Unit))×Unit)=>
  bif (zh s0.1.2.1 ((a0.length:Nat):Int)) then opt (atI a0 s0.1.2.1) fun x1=>
   opt (atI a0 s0.1.2.1) fun x2=>
   some (.inr (((wrF .i64 (s0.1.1+(uv 0 (wrF .i64 ((wrF .i64 (x1.2 - x2.1)) - a1))))),((wrF .i64 (s0.1.2.1+1)),())),()))
  else some (.inl (0,((s0.1.1,(s0.1.2.1,())),())))) zH ((0,(0,())),())) fun x3=>
 some (x3.2.1.1,())
abbrev Vz:Type:=((List xT)×Int×Unit)→Option (Int×Unit)
def zpC:Vz:=sF Tryz.prog [] zzC (zN []) 30 151 zdf zdg
theorem zAy (a0) (a1):zpC (a0,a1,())=zim a0 a1:=by kernel_rfl
def ZE:Vz:=zpC
theorem zjd:Con.Ok Tryz.prog 151 ⟨zdf,zdg,ZE⟩:=zv zk zo (by kernel_rfl)
theorem zuX (a0) (a1):ZE (a0,a1,())=zim  a0 a1:=zAy  a0 a1
abbrev zeq:List VT:=[⟨true,zL⟩,⟨false,I⟩,⟨false,I⟩]
abbrev zer:List VT:=[⟨false,I⟩]
def zuY:zR:=zM [cdF zL,cdF qg] [] [] [] [107,151]
def Gn (qN:kG) (yI:Wi) (xV:Vz) (a0:qq) (a1:Int) (a2:Int):Option (Int×Unit):=
 opt (qN (a0,())) fun x0=>
 bif x0.1 then some (a0.2,())
 else opt (yI (a0,())) fun x1=>
  opt (xV (x1.1,((wrF .i64 (a2*a1)),()))) fun x2=>
  some (x2.1,())
abbrev Gp:Type:=(qq×Int×Int×Unit)→Option (Int×Unit)
def zlc:kG→Wi→Vz→Gp:=fun qN yI xV=>sF Tryz.prog [(107,⟨Xc,Xd,qN⟩),(108,⟨Gl,Gm,yI⟩),(151,⟨zdf,zdg,xV⟩)] zuY (zN []) 30 106 zeq zer
theorem zxb (qN) (yI) (xV) (a0) (a1) (a2):zlc qN yI xV (a0,a1,a2,())=Gn qN yI xV a0 a1 a2:=by kernel_rfl
def Qv:Gp:=zlc yz xO ZE
theorem zq0:Con.Ok Tryz.prog 106 ⟨zeq,zer,Qv⟩:=zv (zd Ur (zd zgB (zd zjd zk))) zo (by kernel_rfl)
theorem zgC (a0) (a1) (a2):Qv (a0,a1,a2,())=Gn yz xO ZE a0 a1 a2:=zxb yz xO ZE a0 a1 a2
abbrev zes:List VT:=[⟨true,zL⟩,⟨false,I⟩,⟨false,I⟩,⟨false,I⟩,⟨false,I⟩]
abbrev zet:List VT:=[⟨false,I⟩]
def zuZ:zR:=zM [cdF zL,cdF qg] [] [] [] [107,151]
def zeu (qN:kG) (jV:Zn) (xV:Vz) (a0:qq) (a1:Int) (a2:Int) (a3:Int) (a4:Int):Option (Int×Unit):=
 opt (qN (a0,())) fun x0=>
 bif x0.1 then some ((wrF .i64 (a4 - (wrF .i64 (127*a1)))),())
 else opt (jV (a0,(a3,((wrF .i64 (a3+a4)),())))) fun x1=>
  opt (xV (x1.1,((wrF .i64 (a2*a1)),()))) fun x2=>
  some ((wrF .i64 (x2.1 - (wrF .i64 (127*a1)))),())
abbrev Gq:Type:=(qq×Int×Int×Int×Int×Unit)→Option (Int×Unit)
def zld:kG→Zn→Vz→Gq:=fun qN jV xV=>sF Tryz.prog [(107,⟨Xc,Xd,qN⟩),(153,⟨Vc,Vd,jV⟩),(151,⟨zdf,zdg,xV⟩)] zuZ (zN []) 30 109 zes zet
theorem zxc (qN) (jV) (xV) (a0) (a1) (a2) (a3) (a4):zld qN jV xV (a0,a1,a2,a3,a4,())=zeu qN jV xV a0 a1 a2 a3 a4:=by kernel_rfl
def Wj:Gq:=zld yz yX ZE
theorem zq1:Con.Ok Tryz.prog 109 ⟨zes,zet,Wj⟩:=zv (zd Ur (zd zce (zd zjd zk))) zo (by kernel_rfl)
theorem zq2 (a0) (a1) (a2) (a3) (a4):Wj (a0,a1,a2,a3,a4,())=zeu yz yX ZE a0 a1 a2 a3 a4:=zxc yz yX ZE a0 a1 a2 a3 a4
abbrev zkw:List VT:=[⟨true,zL⟩,⟨false,I⟩,⟨false,I⟩]
abbrev zkx:List VT:=[⟨true,xr⟩,⟨false,I⟩]
def zAz:zR:=zM [cdF zL,cdF qg] [] [] [] [105,106,107,109]
def zbz (XA:zby) (Wx:Gp) (qN:kG) (yI:Wi) (Wy:Gq) (a0:qq) (a1:Int) (a2:Int):Option (wO×Int×Unit):=
 opt (XA (a0,(a1,(a2,())))) fun x0=>
 bif !(zg x0.1 0) then some ((0,0),(x0.1,()))
 else opt (Wx (a0,(a1,(a2,())))) fun x1=>
  bif (zg (wrF .i64 (a0.2*a1)) 0) then none
  else bif (zh (wrF .i64 (Int.tdiv (wrF .i64 (x1.1*1048576)) (wrF .i64 (a0.2*a1)))) 1) then some ((0,0),(4,()))
   else opt (opt (qN (a0,())) fun x2=>
     bif !x2.1 then opt (yI (a0,())) fun x3=>
      opt (zy (fun s4:((Int×(Int×Unit))×Unit)=>
       bif (zh s4.1.2.1 ((x3.1.length:Nat):Int)) then opt (atI x3.1 s4.1.2.1) fun x5=>
        opt (atI x3.1 s4.1.2.1) fun x6=>
        opt (atI x3.1 s4.1.2.1) fun x7=>
        opt (zy (fun s8:((Int×(Int×Unit))×Unit)=>
         bif (zh s8.1.2.1 (wrF .i64 (2*((x3.1.length:Nat):Int)))) then bif (zg ((x3.1.length:Nat):Int) 0) then none
          else opt (atI x3.1 (Int.tmod s8.1.2.1 ((x3.1.length:Nat):Int))) fun x9=>
           bif (zg ((x3.1.length:Nat):Int) 0) then none
           else opt (bif (zh (wrF .i64 (x5.2 - (jt (wrF .i64 (x6.2 - x7.1)) (wrF .i64 (a2*a1))))) (wrF .i64 ((wrF .i64 (x9.1+(jt (wrF .i64 (x9.2 - x9.1)) (wrF .i64 (a2*a1)))))+(wrF .i64 ((wrF .i64 (Int.tdiv s8.1.2.1 ((x3.1.length:Nat):Int)))*a0.2))))) then opt (Wy (a0,(a1,(a2,((wrF .i64 (x5.2 - (jt (wrF .i64 (x6.2 - x7.1)) (wrF .i64 (a2*a1))))),((wrF .i64 ((wrF .i64 ((wrF .i64 (x9.1+(jt (wrF .i64 (x9.2 - x9.1)) (wrF .i64 (a2*a1)))))+(wrF .i64 ((wrF .i64 (Int.tdiv s8.1.2.1 ((x3.1.length:Nat):Int)))*a0.2)))) - (wrF .i64 (x5.2 - (jt (wrF .i64 (x6.2 - x7.1)) (wrF .i64 (a2*a1))))))),())))))) fun x10=>
              some (0,(((uv s8.1.1 (wrF .i64 ((wrF .i64 ((wrF .i64 ((wrF .i64 ((wrF .i64 ((wrF .i64 (x9.1+(jt (wrF .i64 (x9.2 - x9.1)) (wrF .i64 (a2*a1)))))+(wrF .i64 ((wrF .i64 (Int.tdiv s8.1.2.1 ((x3.1.length:Nat):Int)))*a0.2)))) - (wrF .i64 (x5.2 - (jt (wrF .i64 (x6.2 - x7.1)) (wrF .i64 (a2*a1)))))))*(wrF .i64 (Int.tdiv (wrF .i64 (x1.1*1048576)) (wrF .i64 (a0.2*a1))))))*a1)) - (wrF .i64 (x10.1*1048576))))),()),()))
             else some (0,((s8.1.1,()),()))) fun x11=>
            some (.inr ((x11.2.1.1,((wrF .i64 (s8.1.2.1+1)),())),()))
         else some (.inl (0,((s8.1.1,(s8.1.2.1,())),())))) zH ((s4.1.1,(0,())),())) fun x12=>
        some (.inr ((x12.2.1.1,((wrF .i64 (s4.1.2.1+1)),())),()))
       else some (.inl (0,((s4.1.1,(s4.1.2.1,())),())))) zH (((wrF .i64 ((wrF .i64 (127*a1))*1048576)),(0,())),())) fun x13=>
      some (0,((a0,(x13.2.1.1,())),()))
     else some (0,((a0,((wrF .i64 ((wrF .i64 (127*a1))*1048576)),())),()))) fun x14=>
    bif (zg (wrF .i64 ((wrF .i64 (Int.tdiv (wrF .i64 (x1.1*1048576)) (wrF .i64 (a0.2*a1))))*a1)) 0) then none
    else some (((wrF .i64 (Int.tdiv (wrF .i64 (x1.1*1048576)) (wrF .i64 (a0.2*a1)))),(wrF .i64 (Int.tdiv (wrF .i64 ((wrF .i64 (x14.2.1.2.1+(wrF .i64 ((wrF .i64 (Int.tdiv (wrF .i64 (x1.1*1048576)) (wrF .i64 (a0.2*a1))))*a1)))) - 1)) (wrF .i64 ((wrF .i64 (Int.tdiv (wrF .i64 (x1.1*1048576)) (wrF .i64 (a0.2*a1))))*a1))))),(0,()))
abbrev zfm:Type:=(qq×Int×Int×Unit)→Option (wO×Int×Unit)
def zs0:zby→Gp→kG→Wi→Gq→zfm:=fun XA Wx qN yI Wy=>sF Tryz.prog [(105,⟨zgx,zgy,XA⟩),(106,⟨zeq,zer,Wx⟩),(107,⟨Xc,Xd,qN⟩),(108,⟨Gl,Gm,yI⟩),(109,⟨zes,zet,Wy⟩)] zAz (zN []) 30 75 zkw zkx
theorem zCw (XA) (Wx) (qN) (yI) (Wy) (a0) (a1) (a2):zs0 XA Wx qN yI Wy (a0,a1,a2,())=zbz XA Wx qN yI Wy a0 a1 a2:=by kernel_rfl
def QE:zfm:=zs0 Xb Qv yz xO Wj
theorem zxd:Con.Ok Tryz.prog 75 ⟨zkw,zkx,QE⟩:=zv (zd zsW (zd zq0 (zd Ur (zd zgB (zd zq1 zk))))) zo (by kernel_rfl)
theorem zev (a0) (a1) (a2):QE (a0,a1,a2,())=zbz Xb Qv yz xO Wj a0 a1 a2:=zCw Xb Qv yz xO Wj a0 a1 a2
abbrev Gr:List VT:=[⟨true,zq⟩]
abbrev Gs:List VT:=[⟨false,.bool⟩]
def zu0:zR:=zM [cdF zq] [] [] [] []
def zew (a0:qC):Option (Bool×Unit):=
 bif !(zh a0.1 1) then bif !(zh 1048576 a0.1) then bif !(zh a0.2 1) then some ((!(zh 2097152 a0.2)),())
   else some (false,())
  else some (false,())
 else some (false,())
abbrev Wk:Type:=(qC×Unit)→Option (Bool×Unit)
def zle:Wk:=sF Tryz.prog [] zu0 (zN []) 30 110 Gr Gs
theorem zxe (a0):zle (a0,())=zew a0:=by kernel_rfl
def uW:Wk:=zle
theorem zgD:Con.Ok Tryz.prog 110 ⟨Gr,Gs,uW⟩:=zv zk zo (by kernel_rfl)
theorem zq3 (a0):uW (a0,())=zew  a0:=zxe  a0
abbrev zin:List VT:=[⟨false,(.list zq)⟩]
abbrev zio:List VT:=[⟨true,zq⟩,⟨false,I⟩]
def zzD:zR:=zM [cdF zq] [] [] [] [110]
def ziq (ya:Wk) (a0:(List qC)):Option (qC×Int×Unit):=
 bif (zg ((a0.length:Nat):Int) 0) then some ((0,0),(2,()))
 else bif (zh 12 ((a0.length:Nat):Int)) then some ((0,0),(3,()))
  else opt (zy (fun s0:(((Int×Int)×((Int×Int)×(Int×(Int×Unit))))×Unit)=>
    bif (zh s0.1.2.2.2.1 ((a0.length:Nat):Int)) then opt (atI a0 s0.1.2.2.2.1) fun x1=>
     opt (ya (x1,())) fun x2=>
     bif !x2.1 then some (.inl (1,(((0,0),(s0.1.2.1,(130,(s0.1.2.2.2.1,())))),())))
     else opt (atI a0 s0.1.2.2.2.1) fun x3=>
      opt (atI a0 s0.1.2.2.2.1) fun x4=>
      some (.inr ((s0.1.1,(((wrF .i64 (s0.1.2.1.1+x3.1)),(wrF .i64 (s0.1.2.1.2+x4.2))),(s0.1.2.2.1,((wrF .i64 (s0.1.2.2.2.1+1)),())))),()))
    else some (.inl (0,((s0.1.1,(s0.1.2.1,(s0.1.2.2.1,(s0.1.2.2.2.1,())))),())))) zH (((0,0),((0,0),(0,(0,())))),())) fun x5=>
   bif Nat.beq x5.1 0 then opt (ya (x5.2.1.2.1,())) fun x6=>
    bif !x6.1 then some ((0,0),(6,()))
    else some (x5.2.1.2.1,(0,()))
   else some (x5.2.1.1,(x5.2.1.2.2.1,()))
abbrev zdh:Type:=((List qC)×Unit)→Option (qC×Int×Unit)
def zpD:Wk→zdh:=fun ya=>sF Tryz.prog [(110,⟨Gr,Gs,ya⟩)] zzD (zN []) 30 77 zin zio
theorem zAA (ya) (a0):zpD ya (a0,())=ziq ya a0:=by kernel_rfl
def VA:zdh:=zpD uW
theorem zu1:Con.Ok Tryz.prog 77 ⟨zin,zio,VA⟩:=zv (zd zgD zk) zo (by kernel_rfl)
theorem zu2 (a0):VA (a0,())=ziq uW a0:=zAA uW a0
abbrev zex:List VT:=[⟨true,xr⟩]
abbrev zey:List VT:=[⟨false,.bool⟩]
def zu3:zR:=zM [cdF xr] [] [] [] []
def zez (a0:wO):Option (Bool×Unit):=
 bif !(zh a0.1 1) then bif !(zh 2097152 a0.1) then bif !(zh a0.2 0) then some ((!(zh 268435456 a0.2)),())
   else some (false,())
  else some (false,())
 else some (false,())
abbrev Gt:Type:=(wO×Unit)→Option (Bool×Unit)
def zlf:Gt:=sF Tryz.prog [] zu3 (zN []) 30 111 zex zey
theorem zxf (a0):zlf (a0,())=zez a0:=by kernel_rfl
def Wl:Gt:=zlf
theorem zq4:Con.Ok Tryz.prog 111 ⟨zex,zey,Wl⟩:=zv zk zo (by kernel_rfl)
theorem zq5 (a0):Wl (a0,())=zez  a0:=zxf  a0
abbrev zgE:List VT:=[⟨false,(.list zq)⟩,⟨false,I⟩]
abbrev zgF:List VT:=[⟨false,.bool⟩]
def zxg:zR:=zM [cdF zq] [] [] [] []
def zgG (a0:(List qC)) (a1:Int):Option (Bool×Unit):=
 opt (zy (fun s0:((Bool×(Int×Unit))×Unit)=>
  bif (zh s0.1.2.1 ((a0.length:Nat):Int)) then opt (atI a0 s0.1.2.1) fun x1=>
   bif !(zh a1 x1.2) then some (.inl (1,((true,(s0.1.2.1,())),())))
   else some (.inr ((s0.1.1,((wrF .i64 (s0.1.2.1+1)),())),()))
  else some (.inl (0,((s0.1.1,(s0.1.2.1,())),())))) zH ((false,(0,())),())) fun x2=>
 bif Nat.beq x2.1 0 then some (false,())
 else some (x2.2.1.1,())
abbrev zbA:Type:=((List qC)×Int×Unit)→Option (Bool×Unit)
def zny:zbA:=sF Tryz.prog [] zxg (zN []) 30 112 zgE zgF
theorem zzE (a0) (a1):zny (a0,a1,())=zgG a0 a1:=by kernel_rfl
def Xe:zbA:=zny
theorem zs1:Con.Ok Tryz.prog 112 ⟨zgE,zgF,Xe⟩:=zv zk zo (by kernel_rfl)
theorem zs2 (a0) (a1):Xe (a0,a1,())=zgG  a0 a1:=zzE  a0 a1
abbrev zbB:List VT:=[⟨false,I⟩,⟨false,I⟩]
abbrev zbC:List VT:=[⟨false,I⟩]
def zxh:zR:=zM [] [] [] [] []
def zgH (a0:Int) (a1:Int):Option (Int×Unit):=
 bif zg a1 0 then none
 else opt (bif (zh (wrF .i64 ((wrF .i64 (Int.tdiv a0 a1))*a1)) a0) then some (0,(((wrF .i64 ((wrF .i64 (Int.tdiv a0 a1))+1)),()),()))
   else some (0,(((wrF .i64 (Int.tdiv a0 a1)),()),()))) fun x0=>
  some (x0.2.1.1,())
abbrev Xf:Type:=(Int×Int×Unit)→Option (Int×Unit)
def znz:Xf:=sF Tryz.prog [] zxh (zN []) 30 114 zbB zbC
theorem zzF (a0) (a1):znz (a0,a1,())=zgH a0 a1:=by kernel_rfl
def gn:Xf:=znz
theorem zhI:Con.Ok Tryz.prog 114 ⟨zbB,zbC,gn⟩:=zv zk zo (by kernel_rfl)
theorem zs3 (a0) (a1):gn (a0,a1,())=zgH  a0 a1:=zzF  a0 a1
abbrev GZ:List VT:=[⟨false,(.list zq)⟩,⟨false,I⟩]
abbrev zaa:List VT:=[⟨false,I⟩]
def zo2:zR:=zM [cdF zq] [] [] [] [114]
def zab (yV:Xf) (a0:(List qC)) (a1:Int):Option (Int×Unit):=
 opt (zy (fun s0:((Int×(Int×Unit))×Unit)=>
  bif (zh s0.1.2.1 ((a0.length:Nat):Int)) then opt (atI a0 s0.1.2.1) fun x1=>
   bif zh a1 x1.2 then some (.inr ((s0.1.1,((wrF .i64 (s0.1.2.1+1)),())),()))
   else opt (yV ((wrF .i64 (x1.1*1048576)),(a1,()))) fun x2=>
    opt (bif zh s0.1.1 0 then some (0,((x2.1,()),()))
     else bif zh x2.1 s0.1.1 then some (0,((x2.1,()),()))
      else some (0,((s0.1.1,()),()))) fun x3=>
    opt (zy (fun s4:((Int×(Int×Unit))×Unit)=>
     bif (zh s4.1.2.1 ((a0.length:Nat):Int)) then opt (atI a0 s4.1.2.1) fun x5=>
      opt (bif zh a1 x5.2 then bif zh x5.1 x1.1 then opt (yV ((wrF .i64 ((wrF .i64 ((wrF .i64 ((wrF .i64 (x5.2 - a1))*x1.1))+(wrF .i64 ((wrF .i64 (a1 - x1.2))*x5.1))))*1048576)),((wrF .i64 (a1*(wrF .i64 (x5.2 - x1.2)))),()))) fun x6=>
         some (0,(((jt s4.1.1 x6.1),()),()))
        else some (0,((s4.1.1,()),()))
       else some (0,((s4.1.1,()),()))) fun x7=>
      some (.inr ((x7.2.1.1,((wrF .i64 (s4.1.2.1+1)),())),()))
     else some (.inl (0,((s4.1.1,(s4.1.2.1,())),())))) zH ((x3.2.1.1,(0,())),())) fun x8=>
    some (.inr ((x8.2.1.1,((wrF .i64 (s0.1.2.1+1)),())),()))
  else some (.inl (0,((s0.1.1,(s0.1.2.1,())),())))) zH (((-1),(0,())),())) fun x9=>
 some (x9.2.1.1,())
abbrev Ve:Type:=((List qC)×Int×Unit)→Option (Int×Unit)
def zgI:Xf→Ve:=fun yV=>sF Tryz.prog [(114,⟨zbB,zbC,yV⟩)] zo2 (zN []) 30 113 GZ zaa
theorem zq6 (yV) (a0) (a1):zgI yV (a0,a1,())=zab yV a0 a1:=by kernel_rfl
def Zo:Ve:=zgI gn
theorem zlO:Con.Ok Tryz.prog 113 ⟨GZ,zaa,Zo⟩:=zv (zd zhI zk) zo (by kernel_rfl)
theorem zlP (a0) (a1):Zo (a0,a1,())=zab gn a0 a1:=zq6 gn a0 a1
abbrev Gu:List VT:=[⟨false,(.list zq)⟩,⟨true,xr⟩]
abbrev Gv:List VT:=[⟨false,I⟩,⟨false,I⟩]
def zu4:zR:=zM [cdF xr] [] [] [] [110,111,112,113]
def zeA (ya:Wk) (Wz:Gt) (XB:zbA) (Zv:Ve) (a0:(List qC)) (a1:wO):Option (Int×Int×Unit):=
 bif (zg ((a0.length:Nat):Int) 0) then some (0,(2,()))
 else bif (zh 12 ((a0.length:Nat):Int)) then some (0,(3,()))
  else opt (zy (fun s0:((Int×(Int×(Int×Unit)))×Unit)=>
    bif (zh s0.1.2.2.1 ((a0.length:Nat):Int)) then opt (atI a0 s0.1.2.2.1) fun x1=>
     opt (ya (x1,())) fun x2=>
     bif !x2.1 then some (.inl (1,((0,(130,(s0.1.2.2.1,()))),())))
     else some (.inr ((s0.1.1,(s0.1.2.1,((wrF .i64 (s0.1.2.2.1+1)),()))),()))
    else some (.inl (0,((s0.1.1,(s0.1.2.1,(s0.1.2.2.1,()))),())))) zH ((0,(0,(0,()))),())) fun x3=>
   bif Nat.beq x3.1 0 then opt (Wz (a1,())) fun x4=>
    bif !x4.1 then some (0,(140,()))
    else opt (XB (a0,(a1.1,()))) fun x5=>
     bif !x5.1 then some (0,(141,()))
     else opt (Zv (a0,(a1.1,()))) fun x6=>
      some ((wrF .i64 (a1.2+x6.1)),(0,()))
   else some (x3.2.1.1,(x3.2.1.2.1,()))
abbrev Wm:Type:=((List qC)×wO×Unit)→Option (Int×Int×Unit)
def zlg:Wk→Gt→zbA→Ve→Wm:=fun ya Wz XB Zv=>sF Tryz.prog [(110,⟨Gr,Gs,ya⟩),(111,⟨zex,zey,Wz⟩),(112,⟨zgE,zgF,XB⟩),(113,⟨GZ,zaa,Zv⟩)] zu4 (zN []) 30 78 Gu Gv
theorem zxi (ya) (Wz) (XB) (Zv) (a0) (a1):zlg ya Wz XB Zv (a0,a1,())=zeA ya Wz XB Zv a0 a1:=by kernel_rfl
def uX:Wm:=zlg uW Wl Xe Zo
theorem zgJ:Con.Ok Tryz.prog 78 ⟨Gu,Gv,uX⟩:=zv (zd zgD (zd zq4 (zd zs1 (zd zlO zk)))) zo (by kernel_rfl)
theorem zq7 (a0) (a1):uX (a0,a1,())=zeA uW Wl Xe Zo a0 a1:=zxi uW Wl Xe Zo a0 a1
abbrev zbD:List VT:=[⟨true,zq⟩,⟨true,xr⟩]
abbrev zbE:List VT:=[⟨false,I⟩,⟨false,I⟩]
def zq8:zR:=zM [cdF zq] [] [] [] [78,114]
def zbF (yJ:Wm) (yV:Xf) (a0:qC) (a1:wO):Option (Int×Int×Unit):=
 opt (yJ ((a0::[]),(a1,()))) fun x0=>
 bif !(zg x0.2.1 0) then some (0,(x0.2.1,()))
 else opt (yV ((wrF .i64 (a0.2*a1.2)),(1048576,()))) fun x1=>
  some ((wrF .i64 (a0.1+x1.1)),(0,()))
abbrev VZ:Type:=(qC×wO×Unit)→Option (Int×Int×Unit)
def zhJ:Wm→Xf→VZ:=fun yJ yV=>sF Tryz.prog [(78,⟨Gu,Gv,yJ⟩),(114,⟨zbB,zbC,yV⟩)] zq8 (zN []) 30 79 zbD zbE
theorem zs4 (yJ) (yV) (a0) (a1):zhJ yJ yV (a0,a1,())=zbF yJ yV a0 a1:=by kernel_rfl
def ZY:VZ:=zhJ uX gn
theorem znA:Con.Ok Tryz.prog 79 ⟨zbD,zbE,ZY⟩:=zv (zd zgJ (zd zhI zk)) zo (by kernel_rfl)
theorem znB (a0) (a1):ZY (a0,a1,())=zbF uX gn a0 a1:=zs4 uX gn a0 a1
abbrev zdi:List VT:=[⟨true,qn⟩,⟨false,(.list zD)⟩,⟨false,I⟩]
abbrev zdj:List VT:=[⟨true,kM⟩,⟨false,I⟩]
def zzG:zR:=zM [cdF qn,cdF zD,cdF kM,cdF zx,cdF zO,cdF zL,cdF qg] [] [⟨3,87,some 8,zq,true⟩,⟨5,87,some 8,zq,true⟩,⟨7,87,some 8,zq,true⟩,⟨10,87,some 8,zq,true⟩,⟨13,87,some 8,zq,true⟩,⟨16,87,some 8,zq,true⟩] [] [27,76,75,77,78,79]
def zir (QU:Uc) (VE:zde) (Uh:zfm) (VF:zdh) (yJ:Wm) (Qe:VZ) (a0:qx) (a1:(List zY)) (a2:Int):Option (WM×Int×Unit):=
 opt (zy (fun s0:((Int×Unit)×((List (Int×Int))×Unit))=>
  bif (zh s0.1.1 ((a1.length:Nat):Int)) then opt (opt (atI a1 s0.1.1) fun x1=>
    opt (QU (x1,(a2,()))) fun x2=>
    bif x2.1 then opt (atI a1 s0.1.1) fun x3=>
     bif (qW s0.2.1.length ((x3.2.2.2.2.2.2.1::[]).length) 16) then some (0,((),((s0.2.1++(x3.2.2.2.2.2.2.1::[])),())))
     else none
    else some (0,((),(s0.2.1,())))) fun x4=>
   some (.inr (((wrF .i64 (s0.1.1+1)),()),(x4.2.2.1,())))
  else some (.inl (0,((s0.1.1,()),(s0.2.1,()))))) zH ((0,()),([],()))) fun x5=>
 bif (zg ((x5.2.2.1.length:Nat):Int) 0) then some (((0,0),((0,0),(0,0))),(4,()))
 else opt (atI a0.2.2.1 a2) fun x6=>
  opt (VE (a0.1,(a2,()))) fun x7=>
  opt (Uh (x6,(x7.1,(a0.2.2.2,())))) fun x8=>
  bif !(zg x8.2.1 0) then some (((0,0),((0,0),(0,0))),(411,()))
  else opt (VF (x5.2.2.1,())) fun x9=>
   bif !(zg x9.2.1 0) then some (((0,0),((0,0),(0,0))),(6,()))
   else opt (yJ ((x9.1::[]),(x8.1,()))) fun x10=>
    bif !(zg x10.2.1 0) then some (((0,0),((0,0),(0,0))),(141,()))
    else opt (Qe (x9.1,(x8.1,()))) fun x11=>
     some ((x9.1,(x8.1,(x10.1,x11.1))),(0,()))
abbrev VB:Type:=(qx×(List zY)×Int×Unit)→Option (WM×Int×Unit)
def zpE:Uc→zde→zfm→zdh→Wm→VZ→VB:=fun QU VE Uh VF yJ Qe=>sF Tryz.prog [(27,⟨zcQ,zcR,QU⟩),(76,⟨zii,zij,VE⟩),(75,⟨zkw,zkx,Uh⟩),(77,⟨zin,zio,VF⟩),(78,⟨Gu,Gv,yJ⟩),(79,⟨zbD,zbE,Qe⟩)] zzG (zN []) 30 46 zdi zdj
theorem zAB (QU) (VE) (Uh) (VF) (yJ) (Qe) (a0) (a1) (a2):zpE QU VE Uh VF yJ Qe (a0,a1,a2,())=zir QU VE Uh VF yJ Qe a0 a1 a2:=by kernel_rfl
def ZF:VB:=zpE QM Vy QE VA uX ZY
theorem zje:Con.Ok Tryz.prog 46 ⟨zdi,zdj,ZF⟩:=zv (zd zoY (zd zuS (zd zxd (zd zu1 (zd zgJ (zd znA zk)))))) zo (by kernel_rfl)
theorem zu5 (a0) (a1) (a2):ZF (a0,a1,a2,())=zir QM Vy QE VA uX ZY a0 a1 a2:=zAB QM Vy QE VA uX ZY a0 a1 a2
abbrev zdk:List VT:=[⟨true,qn⟩,⟨false,(.list zD)⟩,⟨false,I⟩]
abbrev zdl:List VT:=[⟨true,kM⟩,⟨false,I⟩]
def zzH:zR:=zM [cdF qn,cdF kM,cdF zx,cdF zO,cdF zL,cdF qg] [] [] [] [45,46]
def zis (xn:Xa) (xW:VB) (a0:qx) (a1:(List zY)) (a2:Int):Option (WM×Int×Unit):=
 opt (xn (a0,(a1,()))) fun x0=>
 bif !(zg x0.1 0) then some (((0,0),((0,0),(0,0))),(x0.1,()))
 else opt (bif zh a2 0 then some (1,((((0,0),((0,0),(0,0))),(2,())),()))
   else bif (!(zh a2 ((a0.2.2.1.length:Nat):Int))) then some (1,((((0,0),((0,0),(0,0))),(2,())),()))
    else some (0,((((0,0),((0,0),(0,0))),(0,())),()))) fun x1=>
  bif Nat.beq x1.1 0 then opt (xW (a0,(a1,(a2,())))) fun x2=>
   some (x2.1,(x2.2.1,()))
  else some (x1.2.1.1,(x1.2.1.2.1,()))
abbrev zit:Type:=(qx×(List zY)×Int×Unit)→Option (WM×Int×Unit)
def zpF:Xa→VB→zit:=fun xn xW=>sF Tryz.prog [(45,⟨zbw,zbx,xn⟩),(46,⟨zdi,zdj,xW⟩)] zzH (zN []) 30 16 zdk zdl
theorem zAC (xn) (xW) (a0) (a1) (a2):zpF xn xW (a0,a1,a2,())=zis xn xW a0 a1 a2:=by kernel_rfl
def ZG:zit:=zpF gm ZF
theorem zu6:Con.Ok Tryz.prog 16 ⟨zdk,zdl,ZG⟩:=zv (zd zhH (zd zje zk)) zo (by kernel_rfl)
theorem zu7 (a0) (a1) (a2):ZG (a0,a1,a2,())=zis gm ZF a0 a1 a2:=zAC gm ZF a0 a1 a2
abbrev Zp:List VT:=[⟨false,(.list zD)⟩,⟨false,I⟩]
abbrev Zq:List VT:=[⟨false,I⟩,⟨false,I⟩]
def zs5:zR:=zM [cdF zD,cdF zq] [] [] [] []
def zcV (a0:(List zY)) (a1:Int):Option (Int×Int×Unit):=
 opt (zy (fun s0:((Int×(Int×(Int×Unit)))×Unit)=>
  bif (zh s0.1.2.2.1 ((a0.length:Nat):Int)) then opt (atI a0 s0.1.2.2.1) fun x1=>
   bif zg x1.1 a1 then some (.inl (1,((s0.1.2.2.1,(0,(s0.1.2.2.1,()))),())))
   else some (.inr ((s0.1.1,(s0.1.2.1,((wrF .i64 (s0.1.2.2.1+1)),()))),()))
  else some (.inl (0,((s0.1.1,(s0.1.2.1,(s0.1.2.2.1,()))),())))) zH ((0,(0,(0,()))),())) fun x2=>
 bif Nat.beq x2.1 0 then some (0,(4,()))
 else some (x2.2.1.1,(x2.2.1.2.1,()))
abbrev Ud:Type:=((List zY)×Int×Unit)→Option (Int×Int×Unit)
def zjf:Ud:=sF Tryz.prog [] zs5 (zN []) 30 47 Zp Zq
theorem zu8 (a0) (a1):zjf (a0,a1,())=zcV a0 a1:=by kernel_rfl
def kI:Ud:=zjf
theorem zo3:Con.Ok Tryz.prog 47 ⟨Zp,Zq,kI⟩:=zv zk zo (by kernel_rfl)
theorem zeU (a0) (a1):kI (a0,a1,())=zcV  a0 a1:=zu8  a0 a1
abbrev kq:List VT:=[⟨true,KR⟩]
abbrev kr:List VT:=[⟨false,I⟩]
def zo4:zR:=zM [cdF KR,cdF zO] [] [] [] []
def zac (a0:zhv):Option (Int×Unit):=
 some (a0.1.2.2.2,())
abbrev Vf:Type:=(zhv×Unit)→Option (Int×Unit)
def zgK:Vf:=sF Tryz.prog [] zo4 (zN []) 30 116 kq kr
theorem zq9 (a0):zgK (a0,())=zac a0:=by kernel_rfl
def Jt:Vf:=zgK
theorem zlQ:Con.Ok Tryz.prog 116 ⟨kq,kr,Jt⟩:=zv zk zo (by kernel_rfl)
theorem zlR (a0):Jt (a0,())=zac  a0:=zq9  a0
abbrev ZL:List VT:=[⟨true,zx⟩,⟨false,I⟩]
abbrev ZM:List VT:=[⟨false,I⟩,⟨false,I⟩]
def zxj:zR:=zM [cdF zx,cdF KR,cdF zO] [] [] [] [37,116]
def zgL (ql:xJ) (Zw:Vf) (a0:zK) (a1:Int):Option (Int×Int×Unit):=
 opt (ql (a0,())) fun x0=>
 bif !(zg x0.1 0) then some (0,(x0.1,()))
 else opt (bif zh a1 0 then some (1,((0,(2,())),()))
   else bif (!(zh a1 (wrF .i64 (2*((a0.2.2.length:Nat):Int))))) then some (1,((0,(2,())),()))
    else some (0,((0,(0,())),()))) fun x1=>
  bif Nat.beq x1.1 0 then opt (atI a0.2.2 (wrF .i64 (Int.tdiv a1 2))) fun x2=>
   opt (Zw ((x2,a1),())) fun x3=>
   some (x3.1,(0,()))
  else some (x1.2.1.1,(x1.2.1.2.1,()))
abbrev zbG:Type:=(zK×Int×Unit)→Option (Int×Int×Unit)
def znC:xJ→Vf→zbG:=fun ql Zw=>sF Tryz.prog [(37,⟨jI,jJ,ql⟩),(116,⟨kq,kr,Zw⟩)] zxj (zN []) 30 80 ZL ZM
theorem zzI (ql) (Zw) (a0) (a1):znC ql Zw (a0,a1,())=zgL ql Zw a0 a1:=by kernel_rfl
def Ju:zbG:=znC jK Jt
theorem zs6:Con.Ok Tryz.prog 80 ⟨ZL,ZM,Ju⟩:=zv (zd WS (zd zlQ zk)) zo (by kernel_rfl)
theorem zs7 (a0) (a1):Ju (a0,a1,())=zgL jK Jt a0 a1:=zzI jK Jt a0 a1
abbrev uC:List VT:=[⟨true,qn⟩,⟨false,(.list zD)⟩,⟨false,I⟩,⟨false,I⟩]
abbrev uD:List VT:=[⟨false,I⟩,⟨false,I⟩]
def zxk:zR:=zM [cdF qn,cdF zD,cdF ziW,cdF kM,cdF zx,cdF zO,cdF zL,cdF qg] [] [⟨8,44,some 4,.unit,true⟩,⟨10,44,some 4,.unit,true⟩,⟨5,98,none,zq,true⟩,⟨8,98,none,zq,true⟩,⟨12,98,none,zq,true⟩,⟨15,98,none,zq,true⟩,⟨18,98,none,zq,true⟩,⟨21,98,none,zq,true⟩,⟨5,98,some 6,zq,false⟩,⟨8,98,some 6,zq,false⟩,⟨12,98,some 6,zq,false⟩,⟨15,98,some 6,zq,false⟩,⟨18,98,some 6,zq,false⟩,⟨21,98,some 6,zq,false⟩,⟨2,55,none,zq,true⟩,⟨5,55,none,zq,true⟩,⟨7,55,none,zq,true⟩,⟨2,44,none,zq,true⟩,⟨5,44,none,zq,true⟩,⟨8,44,none,zq,true⟩,⟨10,44,none,zq,true⟩,⟨3,55,none,zq,true⟩,⟨6,55,none,zq,true⟩,⟨9,55,none,zq,true⟩,⟨2,37,none,zq,true⟩,⟨1,28,none,zq,true⟩,⟨4,28,none,zq,true⟩,⟨2,19,none,zq,true⟩,⟨4,19,none,zq,true⟩] [] [13,72,47,136,100,101,102,103,104,80]
def zgM (qw:ve) (jA:gu) (vP:Ud) (qh:wc) (xG:Ub) (yf:YW) (yg:YX) (wF:Wh) (jw:ZX) (XC:zbG) (a0:qx) (a1:(List zY)) (a2:Int) (a3:Int):Option (Int×Int×Unit):=
 opt (qw (a0,())) fun x0=>
 bif !(zg x0.1 0) then bif !(zg x0.1 0) then some (0,(x0.1,()))
  else opt (vP (a1,(a2,()))) fun x1=>
   bif !(zg x1.2.1 0) then some (0,(x1.2.1,()))
   else opt (bif zh a3 0 then some (1,((0,(2,())),()))
     else opt (atI a1 x1.1) fun x2=>
      bif (!(zh a3 ((x2.2.2.2.2.2.2.2.2.length:Nat):Int))) then some (1,((0,(2,())),()))
      else some (0,((0,(0,())),()))) fun x3=>
    bif Nat.beq x3.1 0 then opt (atI a1 x1.1) fun x4=>
     opt (atI x4.2.2.2.2.2.2.2.2 a3) fun x5=>
     opt (zy (fun s6:((Int×(Int×(Int×(Int×Unit))))×Unit)=>
      bif (zh s6.1.2.2.2.1 ((x5.length:Nat):Int)) then opt (atI x5 s6.1.2.2.2.1) fun x7=>
       none
      else some (.inl (0,((s6.1.1,(s6.1.2.1,(s6.1.2.2.1,(s6.1.2.2.2.1,())))),())))) zH ((0,(0,(0,(0,())))),())) fun x8=>
     bif Nat.beq x8.1 0 then some (x8.2.1.2.2.1,(0,()))
     else some (x8.2.1.1,(x8.2.1.2.1,()))
    else some (x3.2.1.1,(x3.2.1.2.1,()))
 else opt (jA (a0.1,(a1,()))) fun x9=>
  bif !(zg x9.1 0) then bif !(zg x9.1 0) then some (0,(x9.1,()))
   else opt (vP (a1,(a2,()))) fun x10=>
    bif !(zg x10.2.1 0) then some (0,(x10.2.1,()))
    else opt (bif zh a3 0 then some (1,((0,(2,())),()))
      else opt (atI a1 x10.1) fun x11=>
       bif (!(zh a3 ((x11.2.2.2.2.2.2.2.2.length:Nat):Int))) then some (1,((0,(2,())),()))
       else some (0,((0,(0,())),()))) fun x12=>
     bif Nat.beq x12.1 0 then opt (atI a1 x10.1) fun x13=>
      opt (atI x13.2.2.2.2.2.2.2.2 a3) fun x14=>
      opt (zy (fun s15:((Int×(Int×(Int×(Int×Unit))))×Unit)=>
       bif (zh s15.1.2.2.2.1 ((x14.length:Nat):Int)) then opt (atI x14 s15.1.2.2.2.1) fun x16=>
        none
       else some (.inl (0,((s15.1.1,(s15.1.2.1,(s15.1.2.2.1,(s15.1.2.2.2.1,())))),())))) zH ((0,(0,(0,(0,())))),())) fun x17=>
      bif Nat.beq x17.1 0 then some (x17.2.1.2.2.1,(0,()))
      else some (x17.2.1.1,(x17.2.1.2.1,()))
     else some (x12.2.1.1,(x12.2.1.2.1,()))
  else opt (zy (fun s18:((Unit×(Int×(Int×Unit)))×Unit)=>
    bif (zh s18.1.2.2.1 ((a1.length:Nat):Int)) then opt (atI a1 s18.1.2.2.1) fun x19=>
     opt (bif !(zg x19.2.2.2.1 6) then some (1,(((),(2,())),()))
      else bif zh a0.2.2.2 x19.2.2.2.2.1 then some (1,(((),(2,())),()))
       else some (0,(((),(s18.1.2.1,())),()))) fun x20=>
     bif Nat.beq x20.1 0 then some (.inr (((),(x20.2.1.2.1,((wrF .i64 (s18.1.2.2.1+1)),()))),()))
     else some (.inl (1,(((),(x20.2.1.2.1,(s18.1.2.2.1,()))),())))
    else some (.inl (0,(((),(s18.1.2.1,(s18.1.2.2.1,()))),())))) zH (((),(0,(0,()))),())) fun x21=>
   bif Nat.beq x21.1 0 then opt (vP (a1,(a2,()))) fun x22=>
    bif !(zg x22.2.1 0) then some (0,(x22.2.1,()))
    else opt (bif zh a3 0 then some (1,((0,(2,())),()))
      else opt (atI a1 x22.1) fun x23=>
       bif (!(zh a3 ((x23.2.2.2.2.2.2.2.2.length:Nat):Int))) then some (1,((0,(2,())),()))
       else some (0,((0,(0,())),()))) fun x24=>
     bif Nat.beq x24.1 0 then opt (atI a1 x22.1) fun x25=>
      opt (atI x25.2.2.2.2.2.2.2.2 a3) fun x26=>
      opt (zy (fun s27:((Int×(Int×(Int×(Int×Unit))))×((List (Int×(((Int×Int)×((Int×Int)×(Int×Int)))×Int)))×Unit))=>
       bif (zh s27.1.2.2.2.1 ((x26.length:Nat):Int)) then opt (atI x26 s27.1.2.2.2.1) fun x28=>
        opt (bif (!(mpH (α:=(((Int×Int)×((Int×Int)×(Int×Int)))×Int)) s27.2.1 x28)) then opt (zy (fun s29:((Int×Unit)×(((List (Int×Int))×Unit)×(Unit×(Unit×Unit))))=>
           bif (zh s29.1.1 ((a1.length:Nat):Int)) then opt (atI a1 s29.1.1) fun x30=>
            opt (zy (fun s31:((Int×(Int×Unit))×(((List (Int×Int))×Unit)×(Unit×(Unit×Unit))))=>
             bif (zh s31.1.2.1 ((x30.2.2.2.2.2.2.2.2.length:Nat):Int)) then opt (atI x30.2.2.2.2.2.2.2.2 s31.1.2.1) fun x32=>
              opt (qh (x32,(x28,()))) fun x33=>
              bif x33.1 then some (.inl (1,((s31.1.2.1,(s31.1.2.1,())),((s31.2.1.1,()),((),((),()))))))
              else some (.inr ((s31.1.1,((wrF .i64 (s31.1.2.1+1)),())),((s31.2.1.1,()),((),((),())))))
             else some (.inl (0,((s31.1.1,(s31.1.2.1,())),((s31.2.1.1,()),((),((),()))))))) zH ((0,(0,())),((s29.2.1.1,()),((),((),()))))) fun x34=>
            bif Nat.beq x34.1 0 then some (.inr (((wrF .i64 (s29.1.1+1)),()),((x34.2.2.1.1,()),((),((),())))))
            else bif !(zh x34.2.1.1 0) then bif (qW x34.2.2.1.1.length ((x30.2.2.2.2.2.2.1::[]).length) 16) then some (.inr (((wrF .i64 (s29.1.1+1)),()),(((x34.2.2.1.1++(x30.2.2.2.2.2.2.1::[])),()),((),((),())))))
              else none
             else some (.inr (((wrF .i64 (s29.1.1+1)),()),((x34.2.2.1.1,()),((),((),())))))
           else some (.inl (0,((s29.1.1,()),((s29.2.1.1,()),((),((),()))))))) zH ((0,()),(([],()),((),((),()))))) fun x35=>
          bif Nat.beq x35.1 0 then bif (zg ((x35.2.2.1.1.length:Nat):Int) 0) then some (0,(((((0,0),((0,0),(0,0))),4),()),((mpP (α:=(((Int×Int)×((Int×Int)×(Int×Int)))×Int)) s27.2.1 x28 (((0,0),((0,0),(0,0))),4)),())))
           else opt (xG (a0.1,(x28,()))) fun x36=>
            bif !(zg x36.2.1 0) then some (0,(((((0,0),((0,0),(0,0))),x36.2.1),()),((mpP (α:=(((Int×Int)×((Int×Int)×(Int×Int)))×Int)) s27.2.1 x28 (((0,0),((0,0),(0,0))),x36.2.1)),())))
            else opt (atI a0.2.2.1 x28) fun x37=>
             opt (yf (x37,(x36.1,(a0.2.2.2,())))) fun x38=>
             bif !(zg x38.2.1 0) then some (0,(((((0,0),((0,0),(0,0))),411),()),((mpP (α:=(((Int×Int)×((Int×Int)×(Int×Int)))×Int)) s27.2.1 x28 (((0,0),((0,0),(0,0))),411)),())))
             else opt (yg (x35.2.2.1.1,())) fun x39=>
              bif !(zg x39.2.1 0) then some (0,(((((0,0),((0,0),(0,0))),x39.2.1),()),((mpP (α:=(((Int×Int)×((Int×Int)×(Int×Int)))×Int)) s27.2.1 x28 (((0,0),((0,0),(0,0))),x39.2.1)),())))
              else opt (wF ((x39.1::[]),(x38.1,()))) fun x40=>
               bif !(zg x40.2.1 0) then some (0,(((((0,0),((0,0),(0,0))),x40.2.1),()),((mpP (α:=(((Int×Int)×((Int×Int)×(Int×Int)))×Int)) s27.2.1 x28 (((0,0),((0,0),(0,0))),x40.2.1)),())))
               else opt (jw (x39.1,(x38.1,()))) fun x41=>
                bif !(zg x41.2.1 0) then some (0,(((((0,0),((0,0),(0,0))),x41.2.1),()),((mpP (α:=(((Int×Int)×((Int×Int)×(Int×Int)))×Int)) s27.2.1 x28 (((0,0),((0,0),(0,0))),x41.2.1)),())))
                else some (0,((((x39.1,(x38.1,(x40.1,x41.1))),0),()),((mpP (α:=(((Int×Int)×((Int×Int)×(Int×Int)))×Int)) s27.2.1 x28 ((x39.1,(x38.1,(x40.1,x41.1))),0)),())))
          else bif (zg ((x35.2.2.1.1.length:Nat):Int) 0) then some (0,(((((0,0),((0,0),(0,0))),4),()),((mpP (α:=(((Int×Int)×((Int×Int)×(Int×Int)))×Int)) s27.2.1 x28 (((0,0),((0,0),(0,0))),4)),())))
           else opt (xG (a0.1,(x28,()))) fun x42=>
            bif !(zg x42.2.1 0) then some (0,(((((0,0),((0,0),(0,0))),x42.2.1),()),((mpP (α:=(((Int×Int)×((Int×Int)×(Int×Int)))×Int)) s27.2.1 x28 (((0,0),((0,0),(0,0))),x42.2.1)),())))
            else opt (atI a0.2.2.1 x28) fun x43=>
             opt (yf (x43,(x42.1,(a0.2.2.2,())))) fun x44=>
             bif !(zg x44.2.1 0) then some (0,(((((0,0),((0,0),(0,0))),411),()),((mpP (α:=(((Int×Int)×((Int×Int)×(Int×Int)))×Int)) s27.2.1 x28 (((0,0),((0,0),(0,0))),411)),())))
             else opt (yg (x35.2.2.1.1,())) fun x45=>
              bif !(zg x45.2.1 0) then some (0,(((((0,0),((0,0),(0,0))),x45.2.1),()),((mpP (α:=(((Int×Int)×((Int×Int)×(Int×Int)))×Int)) s27.2.1 x28 (((0,0),((0,0),(0,0))),x45.2.1)),())))
              else opt (wF ((x45.1::[]),(x44.1,()))) fun x46=>
               bif !(zg x46.2.1 0) then some (0,(((((0,0),((0,0),(0,0))),x46.2.1),()),((mpP (α:=(((Int×Int)×((Int×Int)×(Int×Int)))×Int)) s27.2.1 x28 (((0,0),((0,0),(0,0))),x46.2.1)),())))
               else opt (jw (x45.1,(x44.1,()))) fun x47=>
                bif !(zg x47.2.1 0) then some (0,(((((0,0),((0,0),(0,0))),x47.2.1),()),((mpP (α:=(((Int×Int)×((Int×Int)×(Int×Int)))×Int)) s27.2.1 x28 (((0,0),((0,0),(0,0))),x47.2.1)),())))
                else some (0,((((x45.1,(x44.1,(x46.1,x47.1))),0),()),((mpP (α:=(((Int×Int)×((Int×Int)×(Int×Int)))×Int)) s27.2.1 x28 ((x45.1,(x44.1,(x46.1,x47.1))),0)),())))
         else some (0,(((mpD (α:=(((Int×Int)×((Int×Int)×(Int×Int)))×Int)) s27.2.1 x28 (((0,0),((0,0),(0,0))),0)),()),(s27.2.1,())))) fun x48=>
        bif !(zg x48.2.1.1.2 0) then some (.inl (1,((0,(x48.2.1.1.2,(s27.1.2.2.1,(s27.1.2.2.2.1,())))),(x48.2.2.1,()))))
        else opt (XC (a0.1,(x28,()))) fun x49=>
         bif !(zg x49.2.1 0) then some (.inl (1,((0,(x49.2.1,(s27.1.2.2.1,(s27.1.2.2.2.1,())))),(x48.2.2.1,()))))
         else some (.inr ((s27.1.1,(s27.1.2.1,((wrF .i64 (s27.1.2.2.1+(wrF .i64 ((wrF .i64 (x48.2.1.1.1.2.2.1+x49.1))+a0.2.1.2.2.1)))),((wrF .i64 (s27.1.2.2.2.1+1)),())))),(x48.2.2.1,())))
       else some (.inl (0,((s27.1.1,(s27.1.2.1,(s27.1.2.2.1,(s27.1.2.2.2.1,())))),(s27.2.1,()))))) zH ((0,(0,(0,(0,())))),([],()))) fun x50=>
      bif Nat.beq x50.1 0 then some (x50.2.1.2.2.1,(0,()))
      else some (x50.2.1.1,(x50.2.1.2.1,()))
     else some (x24.2.1.1,(x24.2.1.2.1,()))
   else bif !(zg x21.2.1.2.1 0) then some (0,(x21.2.1.2.1,()))
    else opt (vP (a1,(a2,()))) fun x51=>
     bif !(zg x51.2.1 0) then some (0,(x51.2.1,()))
     else opt (bif zh a3 0 then some (1,((0,(2,())),()))
       else opt (atI a1 x51.1) fun x52=>
        bif (!(zh a3 ((x52.2.2.2.2.2.2.2.2.length:Nat):Int))) then some (1,((0,(2,())),()))
        else some (0,((0,(0,())),()))) fun x53=>
      bif Nat.beq x53.1 0 then opt (atI a1 x51.1) fun x54=>
       opt (atI x54.2.2.2.2.2.2.2.2 a3) fun x55=>
       opt (zy (fun s56:((Int×(Int×(Int×(Int×Unit))))×Unit)=>
        bif (zh s56.1.2.2.2.1 ((x55.length:Nat):Int)) then opt (atI x55 s56.1.2.2.2.1) fun x57=>
         none
        else some (.inl (0,((s56.1.1,(s56.1.2.1,(s56.1.2.2.1,(s56.1.2.2.2.1,())))),())))) zH ((0,(0,(0,(0,())))),())) fun x58=>
       bif Nat.beq x58.1 0 then some (x58.2.1.2.2.1,(0,()))
       else some (x58.2.1.1,(x58.2.1.2.1,()))
      else some (x53.2.1.1,(x53.2.1.2.1,()))
abbrev zgN:Type:=(qx×(List zY)×Int×Int×Unit)→Option (Int×Int×Unit)
def znD:ve→gu→Ud→wc→Ub→YW→YX→Wh→ZX→zbG→zgN:=fun qw jA vP qh xG yf yg wF jw XC=>sF Tryz.prog [(13,⟨qS,qT,qw⟩),(72,⟨yu,yv,jA⟩),(47,⟨Zp,Zq,vP⟩),(136,⟨qD,qE,qh⟩),(100,⟨ZB,ZC,xG⟩),(101,⟨xM,xN,yf⟩),(102,⟨uz,uA,yg⟩),(103,⟨vH,vI,wF⟩),(104,⟨xt,xu,jw⟩),(80,⟨ZL,ZM,XC⟩)] zxk (zN []) 30 17 uC uD
theorem zzJ (qw) (jA) (vP) (qh) (xG) (yf) (yg) (wF) (jw) (XC) (a0) (a1) (a2) (a3):znD qw jA vP qh xG yf yg wF jw XC (a0,a1,a2,a3,())=zgM qw jA vP qh xG yf yg wF jw XC a0 a1 a2 a3:=by kernel_rfl
def jL:zgN:=znD jo xa kI qy vj wJ yS wX jO Ju
theorem zs8:Con.Ok Tryz.prog 17 ⟨uC,uD,jL⟩:=zv (zd Yd (zd zbm (zd zo3 (zd QC (zd zk4 (zd zhC (zd zhD (zd zgu (zd zdM (zd zs6 zk)))))))))) zo (by kernel_rfl)
theorem zs9 (a0) (a1) (a2) (a3):jL (a0,a1,a2,a3,())=zgM jo xa kI qy vj wJ yS wX jO Ju a0 a1 a2 a3:=zzJ jo xa kI qy vj wJ yS wX jO Ju a0 a1 a2 a3
abbrev zeB:List VT:=[⟨false,(.list zD)⟩,⟨false,I⟩]
abbrev zeC:List VT:=[⟨false,I⟩,⟨false,I⟩]
def zu9:zR:=zM [cdF zD,cdF zq] [] [] [] []
def zlh (a0:(List zY)) (a1:Int):Option (Int×Int×Unit):=
 opt (zy (fun s0:((Int×(Int×(Int×Unit)))×Unit)=>
  bif (zh s0.1.2.2.1 ((a0.length:Nat):Int)) then opt (atI a0 s0.1.2.2.1) fun x1=>
   bif zg x1.1 a1 then some (.inl (1,((s0.1.2.2.1,(0,(s0.1.2.2.1,()))),())))
   else some (.inr ((s0.1.1,(s0.1.2.1,((wrF .i64 (s0.1.2.2.1+1)),()))),()))
  else some (.inl (0,((s0.1.1,(s0.1.2.1,(s0.1.2.2.1,()))),())))) zH ((0,(0,(0,()))),())) fun x2=>
 bif Nat.beq x2.1 0 then some (0,(4,()))
 else some (x2.2.1.1,(x2.2.1.2.1,()))
abbrev Gw:Type:=((List zY)×Int×Unit)→Option (Int×Int×Unit)
def zli:Gw:=sF Tryz.prog [] zu9 (zN []) 30 49 zeB zeC
theorem zxl (a0) (a1):zli (a0,a1,())=zlh a0 a1:=by kernel_rfl
def gK:Gw:=zli
theorem zra:Con.Ok Tryz.prog 49 ⟨zeB,zeC,gK⟩:=zv zk zo (by kernel_rfl)
theorem zrb (a0) (a1):gK (a0,a1,())=zlh  a0 a1:=zxl  a0 a1
abbrev zeD:List VT:=[⟨true,zx⟩,⟨false,I⟩]
abbrev zeE:List VT:=[⟨false,I⟩]
def zva:zR:=zM [cdF zx,cdF zO] [] [] [] []
def zeF (a0:zK) (a1:Int):Option (Int×Unit):=
 opt (atI a0.2.2 (wrF .i64 (Int.tdiv a1 2))) fun x0=>
 some (x0.2.2.2,())
abbrev Gx:Type:=(zK×Int×Unit)→Option (Int×Unit)
def zlj:Gx:=sF Tryz.prog [] zva (zN []) 30 81 zeD zeE
theorem zxm (a0) (a1):zlj (a0,a1,())=zeF a0 a1:=by kernel_rfl
def Wn:Gx:=zlj
theorem zrc:Con.Ok Tryz.prog 81 ⟨zeD,zeE,Wn⟩:=zv zk zo (by kernel_rfl)
theorem zrd (a0) (a1):Wn (a0,a1,())=zeF  a0 a1:=zxm  a0 a1
abbrev zgO:List VT:=[⟨true,qn⟩,⟨false,(.list zD)⟩,⟨false,(.list I)⟩]
abbrev zgP:List VT:=[⟨false,I⟩,⟨false,I⟩]
def zxn:zR:=zM [cdF qn,cdF kM,cdF zx,cdF zO,cdF zL,cdF qg] [] [] [] [46,81]
def zgQ (xW:VB) (WA:Gx) (a0:qx) (a1:(List zY)) (a2:(List Int)):Option (Int×Int×Unit):=
 opt (zy (fun s0:((Int×(Int×(Int×(Int×Unit))))×Unit)=>
  bif (zh s0.1.2.2.2.1 ((a2.length:Nat):Int)) then opt (atI a2 s0.1.2.2.2.1) fun x1=>
   opt (xW (a0,(a1,(x1,())))) fun x2=>
   bif !(zg x2.2.1 0) then some (.inl (1,((0,(x2.2.1,(s0.1.2.2.1,(s0.1.2.2.2.1,())))),())))
   else opt (atI a2 s0.1.2.2.2.1) fun x3=>
    opt (WA (a0.1,(x3,()))) fun x4=>
    some (.inr ((s0.1.1,(s0.1.2.1,((wrF .i64 ((wrF .i64 ((wrF .i64 (s0.1.2.2.1+x2.1.2.2.1))+x4.1))+a0.2.1.2.2.1)),((wrF .i64 (s0.1.2.2.2.1+1)),())))),()))
  else some (.inl (0,((s0.1.1,(s0.1.2.1,(s0.1.2.2.1,(s0.1.2.2.2.1,())))),())))) zH ((0,(0,(0,(0,())))),())) fun x5=>
 bif Nat.beq x5.1 0 then some (x5.2.1.2.2.1,(0,()))
 else some (x5.2.1.1,(x5.2.1.2.1,()))
abbrev zbH:Type:=(qx×(List zY)×(List Int)×Unit)→Option (Int×Int×Unit)
def znE:VB→Gx→zbH:=fun xW WA=>sF Tryz.prog [(46,⟨zdi,zdj,xW⟩),(81,⟨zeD,zeE,WA⟩)] zxn (zN []) 30 50 zgO zgP
theorem zzK (xW) (WA) (a0) (a1) (a2):znE xW WA (a0,a1,a2,())=zgQ xW WA a0 a1 a2:=by kernel_rfl
def Xg:zbH:=znE ZF Wn
theorem zta:Con.Ok Tryz.prog 50 ⟨zgO,zgP,Xg⟩:=zv (zd zje (zd zrc zk)) zo (by kernel_rfl)
theorem ztb (a0) (a1) (a2):Xg (a0,a1,a2,())=zgQ ZF Wn a0 a1 a2:=zzK ZF Wn a0 a1 a2
abbrev zbI:List VT:=[⟨true,qn⟩,⟨false,(.list zD)⟩,⟨false,I⟩,⟨false,I⟩]
abbrev zbJ:List VT:=[⟨false,I⟩,⟨false,I⟩]
def zxo:zR:=zM [cdF qn,cdF zD,cdF zx,cdF zO,cdF zL,cdF qg] [] [] [] [45,49,50]
def zgR (xn:Xa) (WB:Gw) (XD:zbH) (a0:qx) (a1:(List zY)) (a2:Int) (a3:Int):Option (Int×Int×Unit):=
 opt (xn (a0,(a1,()))) fun x0=>
 bif !(zg x0.1 0) then some (0,(x0.1,()))
 else opt (WB (a1,(a2,()))) fun x1=>
  bif !(zg x1.2.1 0) then some (0,(x1.2.1,()))
  else opt (bif zh a3 0 then some (1,((0,(2,())),()))
    else opt (atI a1 x1.1) fun x2=>
     bif (!(zh a3 ((x2.2.2.2.2.2.2.2.2.length:Nat):Int))) then some (1,((0,(2,())),()))
     else some (0,((0,(0,())),()))) fun x3=>
   bif Nat.beq x3.1 0 then opt (atI a1 x1.1) fun x4=>
    opt (atI x4.2.2.2.2.2.2.2.2 a3) fun x5=>
    opt (XD (a0,(a1,(x5,())))) fun x6=>
    some (x6.1,(x6.2.1,()))
   else some (x3.2.1.1,(x3.2.1.2.1,()))
abbrev zgS:Type:=(qx×(List zY)×Int×Int×Unit)→Option (Int×Int×Unit)
def znF:Xa→Gw→zbH→zgS:=fun xn WB XD=>sF Tryz.prog [(45,⟨zbw,zbx,xn⟩),(49,⟨zeB,zeC,WB⟩),(50,⟨zgO,zgP,XD⟩)] zxo (zN []) 30 18 zbI zbJ
theorem zzL (xn) (WB) (XD) (a0) (a1) (a2) (a3):znF xn WB XD (a0,a1,a2,a3,())=zgR xn WB XD a0 a1 a2 a3:=by kernel_rfl
def jM:zgS:=znF gm gK Xg
theorem ztc:Con.Ok Tryz.prog 18 ⟨zbI,zbJ,jM⟩:=zv (zd zhH (zd zra (zd zta zk))) zo (by kernel_rfl)
theorem ztd (a0) (a1) (a2) (a3):jM (a0,a1,a2,a3,())=zgR gm gK Xg a0 a1 a2 a3:=zzL gm gK Xg a0 a1 a2 a3
abbrev zdm:List VT:=[]
abbrev zdn:List VT:=[⟨true,qn⟩]
abbrev Vg:List VT:=[⟨false,I⟩,⟨false,I⟩,⟨false,I⟩,⟨false,I⟩,⟨false,I⟩]
abbrev Vh:List VT:=[⟨true,zD⟩]
abbrev Qw:List VT:=[⟨true,qn⟩,⟨false,(.list zD)⟩]
abbrev Qx:List VT:=[⟨false,I⟩]
abbrev QN:List VT:=[⟨true,zx⟩,⟨true,zD⟩]
abbrev QO:List VT:=[⟨false,I⟩]
abbrev Wo:List VT:=[⟨true,qn⟩,⟨false,(.list zD)⟩,⟨true,zD⟩]
abbrev Wp:List VT:=[⟨false,(.list zD)⟩,⟨false,I⟩]
abbrev zbK:List VT:=[⟨false,(.list zD)⟩,⟨false,(.list zD)⟩]
abbrev zbL:List VT:=[⟨false,.bool⟩]
abbrev Qy:List VT:=[]
abbrev Qz:List VT:=[⟨false,.bool⟩]
abbrev nT:T zx:=(3,([true,false,true],[(0,(1,(8,5))),(1,(2,(8,5)))]))
abbrev nF:T qn:=(nT,((100,(2,(10,8000))),([([(127,100)],100),([(127,100)],100),([(127,100)],100),([(127,100)],100)],200)))
def zpG:T (zp zdm)→Option (T (zp zdn)):=sF Tryz.prog [] (fun _ _ _ _=>none) (fun _ _=>false) 100 28 zdm zdn
theorem zvb:Con.Ok Tryz.prog 28 ⟨zdm,zdn,zpG⟩:=zv zk zo (by kernel_rfl)
def zgT:T (zp Vg)→Option (T (zp Vh)):=sF Tryz.prog [] (fun _ _ _ _=>none) (fun _ _=>false) 100 29 Vg Vh
theorem zlS:Con.Ok Tryz.prog 29 ⟨Vg,Vh,zgT⟩:=zv zk zo (by kernel_rfl)
def zpH:T (zp Yb)→Option (T (zp Yc)):=sF Tryz.prog [] (fun _ _ _ _=>none) (fun _ _=>false) 100 92 Yb Yc
theorem zvc:Con.Ok Tryz.prog 92 ⟨Yb,Yc,zpH⟩:=zv zk zo (by kernel_rfl)
def znG:T (zp Jd)→Option (T (zp Je)):=sF Tryz.prog [(92,⟨Yb,Yc,zpH⟩)] (fun _ _ _ _=>none) (fun _ _=>false) 100 64 Jd Je
theorem zte:Con.Ok Tryz.prog 64 ⟨Jd,Je,znG⟩:=zv (zd zvc zk) zo (by kernel_rfl)
def znH:T (zp Jf)→Option (T (zp Jg)):=sF Tryz.prog [] (fun _ _ _ _=>none) (fun _ _=>false) 100 66 Jf Jg
theorem ztf:Con.Ok Tryz.prog 66 ⟨Jf,Jg,znH⟩:=zv zk zo (by kernel_rfl)
def Vs:T (zp wv)→Option (T (zp wA)):=sF Tryz.prog [] (fun _ _ _ _=>none) (fun _ _=>false) 100 96 wv wA
theorem zb5:Con.Ok Tryz.prog 96 ⟨wv,wA,Vs⟩:=zv zk zo (by kernel_rfl)
def Yl:T (zp jD)→Option (T (zp jE)):=sF Tryz.prog [(96,⟨wv,wA,Vs⟩)] (fun _ _ _ _=>none) (fun _ _=>false) 100 65 jD jE
theorem zad:Con.Ok Tryz.prog 65 ⟨jD,jE,Yl⟩:=zv (zd zb5 zk) zo (by kernel_rfl)
def zzM:T (zp jI)→Option (T (zp jJ)):=sF Tryz.prog [(64,⟨Jd,Je,znG⟩),(66,⟨Jf,Jg,znH⟩),(65,⟨jD,jE,Yl⟩)] (fun _ _ _ _=>none) (fun _ _=>false) 100 37 jI jJ
theorem ztg:Con.Ok Tryz.prog 37 ⟨jI,jJ,zzM⟩:=zv (zd zte (zd ztf (zd zad zk))) zo (by kernel_rfl)
def Jv:T (zp jI)→Option (T (zp jJ)):=Vq [((nT,()),(0,()))]
theorem ZZ:Con.Ok Tryz.prog 37 ⟨jI,jJ,Jv⟩:=XF ztg (yL (by kernel_rfl) Kr)
def Vi:T (zp yb)→Option (T (zp yc)):=sF Tryz.prog [] (fun _ _ _ _=>none) (fun _ _=>false) 100 67 yb yc
theorem VO:Con.Ok Tryz.prog 67 ⟨yb,yc,Vi⟩:=zv zk zo (by kernel_rfl)
def zcf:T (zp xY)→Option (T (zp xZ)):=sF Tryz.prog [(67,⟨yb,yc,Vi⟩)] (fun _ _ _ _=>none) (fun _ _=>false) 100 38 xY xZ
theorem ziu:Con.Ok Tryz.prog 38 ⟨xY,xZ,zcf⟩:=zv (zd VO zk) zo (by kernel_rfl)
def Gy:T (zp xK)→Option (T (zp xL)):=sF Tryz.prog [] (fun _ _ _ _=>none) (fun _ _=>false) 100 39 xK xL
theorem zae:Con.Ok Tryz.prog 39 ⟨xK,xL,Gy⟩:=zv zk zo (by kernel_rfl)
def zlT:T (zp qS)→Option (T (zp qT)):=sF Tryz.prog [(37,⟨jI,jJ,Jv⟩),(38,⟨xY,xZ,zcf⟩),(39,⟨xK,xL,Gy⟩)] (fun _ _ _ _=>none) (fun _ _=>false) 100 13 qS qT
theorem ziv:Con.Ok Tryz.prog 13 ⟨qS,qT,zlT⟩:=zv (zd ZZ (zd ziu (zd zae zk))) zo (by kernel_rfl)
def JG:T (zp qS)→Option (T (zp qT)):=Vq [((nF,()),(0,()))]
theorem Ye:Con.Ok Tryz.prog 13 ⟨qS,qT,JG⟩:=XF ziv (yL (by kernel_rfl) Kr)
def zgU:T (zp kh)→Option (T (zp kj)):=sF Tryz.prog [(67,⟨yb,yc,Vi⟩)] (fun _ _ _ _=>none) (fun _ _=>false) 100 119 kh kj
theorem zlU:Con.Ok Tryz.prog 119 ⟨kh,kj,zgU⟩:=zv (zd VO zk) zo (by kernel_rfl)
def zcg:T (zp vf)→Option (T (zp vg)):=sF Tryz.prog [] (fun _ _ _ _=>none) (fun _ _=>false) 100 86 vf vg
theorem ziw:Con.Ok Tryz.prog 86 ⟨vf,vg,zcg⟩:=zv zk zo (by kernel_rfl)
def Xh:T (zp wS)→Option (T (zp wT)):=sF Tryz.prog [(86,⟨vf,vg,zcg⟩)] (fun _ _ _ _=>none) (fun _ _=>false) 100 84 wS wT
theorem Yu:Con.Ok Tryz.prog 84 ⟨wS,wT,Xh⟩:=zv (zd ziw zk) zo (by kernel_rfl)
def Kz:T (zp yM)→Option (T (zp yN)):=sF Tryz.prog [] (fun _ _ _ _=>none) (fun _ _=>false) 100 176 yM yN
theorem zay:Con.Ok Tryz.prog 176 ⟨yM,yN,Kz⟩:=zv zk zo (by kernel_rfl)
def KB:T (zp yP)→Option (T (zp yQ)):=sF Tryz.prog [] (fun _ _ _ _=>none) (fun _ _=>false) 100 157 yP yQ
theorem zaz:Con.Ok Tryz.prog 157 ⟨yP,yQ,KB⟩:=zv zk zo (by kernel_rfl)
def zeG:T (zp uM)→Option (T (zp uN)):=sF Tryz.prog [(37,⟨jI,jJ,Jv⟩),(157,⟨yP,yQ,KB⟩)] (fun _ _ _ _=>none) (fun _ _=>false) 100 174 uM uN
theorem zgV:Con.Ok Tryz.prog 174 ⟨uM,uN,zeG⟩:=zv (zd ZZ (zd zaz zk)) zo (by kernel_rfl)
def zlk:T (zp Ql)→Option (T (zp Qm)):=sF Tryz.prog [(176,⟨yM,yN,Kz⟩),(174,⟨uM,uN,zeG⟩)] (fun _ _ _ _=>none) (fun _ _=>false) 100 173 Ql Qm
theorem zre:Con.Ok Tryz.prog 173 ⟨Ql,Qm,zlk⟩:=zv (zd zay (zd zgV zk)) zo (by kernel_rfl)
def znI:T (zp Ji)→Option (T (zp Jj)):=sF Tryz.prog [(173,⟨Ql,Qm,zlk⟩)] (fun _ _ _ _=>none) (fun _ _=>false) 100 154 Ji Jj
theorem zth:Con.Ok Tryz.prog 154 ⟨Ji,Jj,znI⟩:=zv (zd zre zk) zo (by kernel_rfl)
def zjg:T (zp Zb)→Option (T (zp Zc)):=sF Tryz.prog [(154,⟨Ji,Jj,znI⟩)] (fun _ _ _ _=>none) (fun _ _=>false) 100 125 Zb Zc
theorem zo5:Con.Ok Tryz.prog 125 ⟨Zb,Zc,zjg⟩:=zv (zd zth zk) zo (by kernel_rfl)
def zjh:T (zp Ze)→Option (T (zp Zf)):=sF Tryz.prog [] (fun _ _ _ _=>none) (fun _ _=>false) 100 158 Ze Zf
theorem zo6:Con.Ok Tryz.prog 158 ⟨Ze,Zf,zjh⟩:=zv zk zo (by kernel_rfl)
def KD:T (zp yd)→Option (T (zp ye)):=sF Tryz.prog [] (fun _ _ _ _=>none) (fun _ _=>false) 100 190 yd ye
theorem zdN:Con.Ok Tryz.prog 190 ⟨yd,ye,KD⟩:=zv zk zo (by kernel_rfl)
def XH:T (zp we)→Option (T (zp wh)):=sF Tryz.prog [(190,⟨yd,ye,KD⟩)] (fun _ _ _ _=>none) (fun _ _=>false) 100 177 we wh
theorem zbM:Con.Ok Tryz.prog 177 ⟨we,wh,XH⟩:=zv (zd zdN zk) zo (by kernel_rfl)
def zdO:T (zp vA)→Option (T (zp vB)):=sF Tryz.prog [(176,⟨yM,yN,Kz⟩),(177,⟨we,wh,XH⟩)] (fun _ _ _ _=>none) (fun _ _=>false) 100 159 vA vB
theorem zji:Con.Ok Tryz.prog 159 ⟨vA,vB,zdO⟩:=zv (zd zay (zd zbM zk)) zo (by kernel_rfl)
def zll:T (zp Qn)→Option (T (zp Qo)):=sF Tryz.prog [(157,⟨yP,yQ,KB⟩),(158,⟨Ze,Zf,zjh⟩),(159,⟨vA,vB,zdO⟩),(174,⟨uM,uN,zeG⟩)] (fun _ _ _ _=>none) (fun _ _=>false) 100 127 Qn Qo
theorem zrf:Con.Ok Tryz.prog 127 ⟨Qn,Qo,zll⟩:=zv (zd zaz (zd zo6 (zd zji (zd zgV zk)))) zo (by kernel_rfl)
def zcW:T (zp kD)→Option (T (zp kF)):=sF Tryz.prog [(67,⟨yb,yc,Vi⟩),(119,⟨kh,kj,zgU⟩),(84,⟨wS,wT,Xh⟩),(125,⟨Zb,Zc,zjg⟩),(127,⟨Qn,Qo,zll⟩)] (fun _ _ _ _=>none) (fun _ _=>false) 100 82 kD kF
theorem zeV:Con.Ok Tryz.prog 82 ⟨kD,kF,zcW⟩:=zv (zd VO (zd zlU (zd Yu (zd zo5 (zd zrf zk))))) zo (by kernel_rfl)
def Yv:T (zp yu)→Option (T (zp yv)):=sF Tryz.prog [(37,⟨jI,jJ,Jv⟩),(82,⟨kD,kF,zcW⟩)] (fun _ _ _ _=>none) (fun _ _=>false) 100 72 yu yv
theorem Vj:Con.Ok Tryz.prog 72 ⟨yu,yv,Yv⟩:=zv (zd ZZ (zd zeV zk)) zo (by kernel_rfl)
def Xi:T (zp jT)→Option (T (zp jU)):=sF Tryz.prog [] (fun _ _ _ _=>none) (fun _ _=>false) 100 162 jT jU
theorem zaF:Con.Ok Tryz.prog 162 ⟨jT,jU,Xi⟩:=zv zk zo (by kernel_rfl)
def xP:T (zp qD)→Option (T (zp qE)):=sF Tryz.prog [(162,⟨jT,jU,Xi⟩)] (fun _ _ _ _=>none) (fun _ _=>false) 100 136 qD qE
theorem ui:Con.Ok Tryz.prog 136 ⟨qD,qE,xP⟩:=zv (zd zaF zk) zo (by kernel_rfl)
def zjj:T (zp Zh)→Option (T (zp Zi)):=sF Tryz.prog [] (fun _ _ _ _=>none) (fun _ _=>false) 100 138 Zh Zi
theorem zo7:Con.Ok Tryz.prog 138 ⟨Zh,Zi,zjj⟩:=zv zk zo (by kernel_rfl)
def zfn:T (zp ZB)→Option (T (zp ZC)):=sF Tryz.prog [(37,⟨jI,jJ,Jv⟩),(138,⟨Zh,Zi,zjj⟩)] (fun _ _ _ _=>none) (fun _ _=>false) 100 100 ZB ZC
theorem zeH:Con.Ok Tryz.prog 100 ⟨ZB,ZC,zfn⟩:=zv (zd ZZ (zd zo7 zk)) zo (by kernel_rfl)
def zhK:T (zp ga)→Option (T (zp gb)):=sF Tryz.prog [(39,⟨xK,xL,Gy⟩)] (fun _ _ _ _=>none) (fun _ _=>false) 100 139 ga gb
theorem znJ:Con.Ok Tryz.prog 139 ⟨ga,gb,zhK⟩:=zv (zd zae zk) zo (by kernel_rfl)
def zlm:T (zp Qp)→Option (T (zp Qq)):=sF Tryz.prog [(39,⟨xK,xL,Gy⟩)] (fun _ _ _ _=>none) (fun _ _=>false) 100 191 Qp Qq
theorem zrg:Con.Ok Tryz.prog 191 ⟨Qp,Qq,zlm⟩:=zv (zd zae zk) zo (by kernel_rfl)
def znK:T (zp Jl)→Option (T (zp Jm)):=sF Tryz.prog [] (fun _ _ _ _=>none) (fun _ _=>false) 100 197 Jl Jm
theorem zti:Con.Ok Tryz.prog 197 ⟨Jl,Jm,znK⟩:=zv zk zo (by kernel_rfl)
def znL:T (zp Jn)→Option (T (zp Jo)):=sF Tryz.prog [(197,⟨Jl,Jm,znK⟩)] (fun _ _ _ _=>none) (fun _ _=>false) 100 192 Jn Jo
theorem ztj:Con.Ok Tryz.prog 192 ⟨Jn,Jo,znL⟩:=zv (zd zti zk) zo (by kernel_rfl)
def znM:T (zp Jp)→Option (T (zp Jq)):=sF Tryz.prog [(191,⟨Qp,Qq,zlm⟩),(192,⟨Jn,Jo,znL⟩)] (fun _ _ _ _=>none) (fun _ _=>false) 100 178 Jp Jq
theorem ztk:Con.Ok Tryz.prog 178 ⟨Jp,Jq,znM⟩:=zv (zd zrg (zd ztj zk)) zo (by kernel_rfl)
def zgW:T (zp km)→Option (T (zp kn)):=sF Tryz.prog [(178,⟨Jp,Jq,znM⟩)] (fun _ _ _ _=>none) (fun _ _=>false) 100 164 km kn
theorem zlV:Con.Ok Tryz.prog 164 ⟨km,kn,zgW⟩:=zv (zd ztk zk) zo (by kernel_rfl)
def zaf:T (zp xD)→Option (T (zp xE)):=sF Tryz.prog [] (fun _ _ _ _=>none) (fun _ _=>false) 100 180 xD xE
theorem zch:Con.Ok Tryz.prog 180 ⟨xD,xE,zaf⟩:=zv zk zo (by kernel_rfl)
def zeW:T (zp vT)→Option (T (zp vU)):=sF Tryz.prog [(164,⟨km,kn,zgW⟩),(180,⟨xD,xE,zaf⟩)] (fun _ _ _ _=>none) (fun _ _=>false) 100 140 vT vU
theorem zky:Con.Ok Tryz.prog 140 ⟨vT,vU,zeW⟩:=zv (zd zlV (zd zch zk)) zo (by kernel_rfl)
def zln:T (zp Qr)→Option (T (zp Qs)):=sF Tryz.prog [] (fun _ _ _ _=>none) (fun _ _=>false) 100 166 Qr Qs
theorem zrh:Con.Ok Tryz.prog 166 ⟨Qr,Qs,zln⟩:=zv zk zo (by kernel_rfl)
def zdP:T (zp vC)→Option (T (zp vD)):=sF Tryz.prog [(166,⟨Qr,Qs,zln⟩)] (fun _ _ _ _=>none) (fun _ _=>false) 100 142 vC vD
theorem zjk:Con.Ok Tryz.prog 142 ⟨vC,vD,zdP⟩:=zv (zd zrh zk) zo (by kernel_rfl)
def zzN:T (zp xM)→Option (T (zp xN)):=sF Tryz.prog [(139,⟨ga,gb,zhK⟩),(140,⟨vT,vU,zeW⟩),(142,⟨vC,vD,zdP⟩),(180,⟨xD,xE,zaf⟩)] (fun _ _ _ _=>none) (fun _ _=>false) 100 101 xM xN
theorem ztl:Con.Ok Tryz.prog 101 ⟨xM,xN,zzN⟩:=zv (zd znJ (zd zky (zd zjk (zd zch zk)))) zo (by kernel_rfl)
def zbN:T (zp xM)→Option (T (zp xN)):=Vq [((([(127,100)],100),8,200,()),((131072,1016),0,()))]
theorem zbO:Con.Ok Tryz.prog 101 ⟨xM,xN,zbN⟩:=XF ztl (yL (by kernel_rfl) Kr)
def zbP:T (zp uz)→Option (T (zp uA)):=sF Tryz.prog [(84,⟨wS,wT,Xh⟩)] (fun _ _ _ _=>none) (fun _ _=>false) 100 102 uz uA
theorem zbQ:Con.Ok Tryz.prog 102 ⟨uz,uA,zbP⟩:=zv (zd Yu zk) zo (by kernel_rfl)
def zeI:T (zp uP)→Option (T (zp uQ)):=sF Tryz.prog [] (fun _ _ _ _=>none) (fun _ _=>false) 100 59 uP uQ
theorem zgX:Con.Ok Tryz.prog 59 ⟨uP,uQ,zeI⟩:=zv zk zo (by kernel_rfl)
def zeJ:T (zp uS)→Option (T (zp uT)):=sF Tryz.prog [] (fun _ _ _ _=>none) (fun _ _=>false) 100 182 uS uT
theorem zgY:Con.Ok Tryz.prog 182 ⟨uS,uT,zeJ⟩:=zv zk zo (by kernel_rfl)
def zhL:T (zp gf)→Option (T (zp gg)):=sF Tryz.prog [] (fun _ _ _ _=>none) (fun _ _=>false) 100 184 gf gg
theorem znN:Con.Ok Tryz.prog 184 ⟨gf,gg,zhL⟩:=zv zk zo (by kernel_rfl)
def zeX:T (zp vX)→Option (T (zp vY)):=sF Tryz.prog [] (fun _ _ _ _=>none) (fun _ _=>false) 100 183 vX vY
theorem zkz:Con.Ok Tryz.prog 183 ⟨vX,vY,zeX⟩:=zv zk zo (by kernel_rfl)
def zeY:T (zp vZ)→Option (T (zp ud)):=sF Tryz.prog [] (fun _ _ _ _=>none) (fun _ _=>false) 100 196 vZ ud
theorem zkA:Con.Ok Tryz.prog 196 ⟨vZ,ud,zeY⟩:=zv zk zo (by kernel_rfl)
def Vt:T (zp wC)→Option (T (zp wD)):=sF Tryz.prog [(196,⟨vZ,ud,zeY⟩)] (fun _ _ _ _=>none) (fun _ _=>false) 100 193 wC wD
theorem zb6:Con.Ok Tryz.prog 193 ⟨wC,wD,Vt⟩:=zv (zd zkA zk) zo (by kernel_rfl)
def zeZ:T (zp ue)→Option (T (zp uf)):=sF Tryz.prog [(193,⟨wC,wD,Vt⟩)] (fun _ _ _ _=>none) (fun _ _=>false) 100 185 ue uf
theorem zkB:Con.Ok Tryz.prog 185 ⟨ue,uf,zeZ⟩:=zv (zd zb6 zk) zo (by kernel_rfl)
def zlo:T (zp Qt)→Option (T (zp Qu)):=sF Tryz.prog [(182,⟨uS,uT,zeJ⟩)] (fun _ _ _ _=>none) (fun _ _=>false) 100 186 Qt Qu
theorem zri:Con.Ok Tryz.prog 186 ⟨Qt,Qu,zlo⟩:=zv (zd zgY zk) zo (by kernel_rfl)
def znO:T (zp Jr)→Option (T (zp Js)):=sF Tryz.prog [(182,⟨uS,uT,zeJ⟩),(184,⟨gf,gg,zhL⟩),(183,⟨vX,vY,zeX⟩),(185,⟨ue,uf,zeZ⟩),(186,⟨Qt,Qu,zlo⟩)] (fun _ _ _ _=>none) (fun _ _=>false) 100 171 Jr Js
theorem ztm:Con.Ok Tryz.prog 171 ⟨Jr,Js,znO⟩:=zv (zd zgY (zd znN (zd zkz (zd zkB (zd zri zk))))) zo (by kernel_rfl)
def zgZ:T (zp gi)→Option (T (zp gk)):=sF Tryz.prog [(171,⟨Jr,Js,znO⟩)] (fun _ _ _ _=>none) (fun _ _=>false) 100 150 gi gk
theorem zhM:Con.Ok Tryz.prog 150 ⟨gi,gk,zgZ⟩:=zv (zd ztm zk) zo (by kernel_rfl)
def zg0:T (zp ko)→Option (T (zp kp)):=sF Tryz.prog [(150,⟨gi,gk,zgZ⟩)] (fun _ _ _ _=>none) (fun _ _=>false) 100 148 ko kp
theorem zlW:Con.Ok Tryz.prog 148 ⟨ko,kp,zg0⟩:=zv (zd zhM zk) zo (by kernel_rfl)
def Gz:T (zp vH)→Option (T (zp vI)):=sF Tryz.prog [(84,⟨wS,wT,Xh⟩),(59,⟨uP,uQ,zeI⟩),(148,⟨ko,kp,zg0⟩)] (fun _ _ _ _=>none) (fun _ _=>false) 100 103 vH vI
theorem zag:Con.Ok Tryz.prog 103 ⟨vH,vI,Gz⟩:=zv (zd Yu (zd zgX (zd zlW zk))) zo (by kernel_rfl)
def ze0:T (zp ug)→Option (T (zp uh)):=sF Tryz.prog [(84,⟨wS,wT,Xh⟩),(59,⟨uP,uQ,zeI⟩)] (fun _ _ _ _=>none) (fun _ _=>false) 100 149 ug uh
theorem zkC:Con.Ok Tryz.prog 149 ⟨ug,uh,ze0⟩:=zv (zd Yu (zd zgX zk)) zo (by kernel_rfl)
def Ka:T (zp xt)→Option (T (zp xu)):=sF Tryz.prog [(149,⟨ug,uh,ze0⟩),(150,⟨gi,gk,zgZ⟩)] (fun _ _ _ _=>none) (fun _ _=>false) 100 104 xt xu
theorem KE:Con.Ok Tryz.prog 104 ⟨xt,xu,Ka⟩:=zv (zd zkC (zd zhM zk)) zo (by kernel_rfl)
def zAD:T (zp kN)→Option (T (zp kO)):=sF Tryz.prog [(13,⟨qS,qT,JG⟩),(72,⟨yu,yv,Yv⟩),(136,⟨qD,qE,xP⟩),(100,⟨ZB,ZC,zfn⟩),(101,⟨xM,xN,zbN⟩),(102,⟨uz,uA,zbP⟩),(103,⟨vH,vI,Gz⟩),(104,⟨xt,xu,Ka⟩)] (fun _ _ _ _=>none) (fun _ _=>false) 100 15 kN kO
theorem zvd:Con.Ok Tryz.prog 15 ⟨kN,kO,zAD⟩:=zv (zd Ye (zd Vj (zd ui (zd zeH (zd zbO (zd zbQ (zd zag (zd KE zk)))))))) zo (by kernel_rfl)
def zpI:T (zp kN)→Option (T (zp kO)):=Vq [((nF,[(1,0,2,6,100,0,(200,16384),6000,[[0,2]])],0,()),(((200,16384),(131072,1016),2616,216),0,())),((nF,[(1,0,2,6,100,0,(200,16384),6000,[[0,2]])],1,()),(((0,0),(0,0),0,0),4,())),((nF,[(1,0,2,6,100,0,(200,131073),6000,[[0,2]])],0,()),(((0,0),(0,0),0,0),141,())),((nF,[(1,0,2,6,201,0,(300,16384),6000,[[0,2]])],0,()),(((0,0),(0,0),0,0),2,()))]
theorem zve:Con.Ok Tryz.prog 15 ⟨kN,kO,zpI⟩:=XF zvd (yL (by kernel_rfl) (yL (by kernel_rfl) (yL (by kernel_rfl) (yL (by kernel_rfl) Kr))))
def zjl:T (zp Zp)→Option (T (zp Zq)):=sF Tryz.prog [] (fun _ _ _ _=>none) (fun _ _=>false) 100 47 Zp Zq
theorem zo8:Con.Ok Tryz.prog 47 ⟨Zp,Zq,zjl⟩:=zv zk zo (by kernel_rfl)
def zg1:T (zp kq)→Option (T (zp kr)):=sF Tryz.prog [] (fun _ _ _ _=>none) (fun _ _=>false) 100 116 kq kr
theorem zlX:Con.Ok Tryz.prog 116 ⟨kq,kr,zg1⟩:=zv zk zo (by kernel_rfl)
def zg2:T (zp ZL)→Option (T (zp ZM)):=sF Tryz.prog [(37,⟨jI,jJ,Jv⟩),(116,⟨kq,kr,zg1⟩)] (fun _ _ _ _=>none) (fun _ _=>false) 100 80 ZL ZM
theorem zhN:Con.Ok Tryz.prog 80 ⟨ZL,ZM,zg2⟩:=zv (zd ZZ (zd zlX zk)) zo (by kernel_rfl)
def zzO:T (zp uC)→Option (T (zp uD)):=sF Tryz.prog [(13,⟨qS,qT,JG⟩),(72,⟨yu,yv,Yv⟩),(47,⟨Zp,Zq,zjl⟩),(136,⟨qD,qE,xP⟩),(100,⟨ZB,ZC,zfn⟩),(101,⟨xM,xN,zbN⟩),(102,⟨uz,uA,zbP⟩),(103,⟨vH,vI,Gz⟩),(104,⟨xt,xu,Ka⟩),(80,⟨ZL,ZM,zg2⟩)] (fun _ _ _ _=>none) (fun _ _=>false) 100 17 uC uD
theorem ztn:Con.Ok Tryz.prog 17 ⟨uC,uD,zzO⟩:=zv (zd Ye (zd Vj (zd zo8 (zd ui (zd zeH (zd zbO (zd zbQ (zd zag (zd KE (zd zhN zk)))))))))) zo (by kernel_rfl)
def znP:T (zp uC)→Option (T (zp uD)):=Vq [((nF,[(1,0,2,6,100,0,(200,16384),6000,[[0,2]])],1,0,()),(5262,0,()))]
theorem zto:Con.Ok Tryz.prog 17 ⟨uC,uD,znP⟩:=XF ztn (yL (by kernel_rfl) Kr)
def zxp:T (zp Qw)→Option (T (zp Qx)):=sF Tryz.prog [(13,⟨qS,qT,JG⟩),(72,⟨yu,yv,Yv⟩),(136,⟨qD,qE,xP⟩),(100,⟨ZB,ZC,zfn⟩),(101,⟨xM,xN,zbN⟩),(102,⟨uz,uA,zbP⟩),(103,⟨vH,vI,Gz⟩),(104,⟨xt,xu,Ka⟩),(80,⟨ZL,ZM,zg2⟩)] (fun _ _ _ _=>none) (fun _ _=>false) 100 20 Qw Qx
theorem zrj:Con.Ok Tryz.prog 20 ⟨Qw,Qx,zxp⟩:=zv (zd Ye (zd Vj (zd ui (zd zeH (zd zbO (zd zbQ (zd zag (zd KE (zd zhN zk))))))))) zo (by kernel_rfl)
def zeK:T (zp Qw)→Option (T (zp Qx)):=Vq [((nF,[],()),(0,())),((nF,[(1,0,2,6,100,0,(200,16384),6000,[[0,2]])],()),(0,())),((nF,[(1,0,2,6,100,0,(200,16384),6000,[[0,2]]),(2,0,2,6,100,0,(200,16384),6000,[[0,2]])],()),(412,())),((nF,[(1,0,2,6,100,0,(7985,16384),1099511627776,[[0,2]])],()),(7,()))]
theorem zg3:Con.Ok Tryz.prog 20 ⟨Qw,Qx,zeK⟩:=XF zrj (yL (by kernel_rfl) (yL (by kernel_rfl) (yL (by kernel_rfl) (yL (by kernel_rfl) Kr))))
def zvf:T (zp QN)→Option (T (zp QO)):=sF Tryz.prog [(37,⟨jI,jJ,Jv⟩),(82,⟨kD,kF,zcW⟩)] (fun _ _ _ _=>none) (fun _ _=>false) 100 51 QN QO
theorem zo9:Con.Ok Tryz.prog 51 ⟨QN,QO,zvf⟩:=zv (zd ZZ (zd zeV zk)) zo (by kernel_rfl)
def zjm:T (zp QN)→Option (T (zp QO)):=Vq [((nT,(1,0,2,6,100,0,(200,16384),6000,[[0,2]]),()),(0,())),((nT,(2,0,2,6,100,0,(200,16384),6000,[[0,2]]),()),(0,())),((nT,(1,0,2,6,100,0,(200,131073),6000,[[0,2]]),()),(0,())),((nT,(1,0,2,6,201,0,(300,16384),6000,[[0,2]]),()),(0,())),((nT,(1,0,2,6,100,0,(7985,16384),1099511627776,[[0,2]]),()),(0,()))]
theorem zpa:Con.Ok Tryz.prog 51 ⟨QN,QO,zjm⟩:=XF zo9 (yL (by kernel_rfl) (yL (by kernel_rfl) (yL (by kernel_rfl) (yL (by kernel_rfl) (yL (by kernel_rfl) Kr)))))
def zxq:T (zp Wo)→Option (T (zp Wp)):=sF Tryz.prog [(20,⟨Qw,Qx,zeK⟩),(51,⟨QN,QO,zjm⟩)] (fun _ _ _ _=>none) (fun _ _=>false) 100 22 Wo Wp
theorem zrk:Con.Ok Tryz.prog 22 ⟨Wo,Wp,zxq⟩:=zv (zd zg3 (zd zpa zk)) zo (by kernel_rfl)
def zlp:T (zp Wo)→Option (T (zp Wp)):=Vq [((nF,[],(1,0,2,6,100,0,(200,16384),6000,[[0,2]]),()),([(1,0,2,6,100,0,(200,16384),6000,[[0,2]])],0,())),((nF,[(1,0,2,6,100,0,(200,16384),6000,[[0,2]])],(2,0,2,6,100,0,(200,16384),6000,[[0,2]]),()),([],412,()))]
theorem zrl:Con.Ok Tryz.prog 22 ⟨Wo,Wp,zlp⟩:=XF zrk (yL (by kernel_rfl) (yL (by kernel_rfl) Kr))
def znQ:T (zp zbK)→Option (T (zp zbL)):=sF Tryz.prog [] (fun _ _ _ _=>none) (fun _ _=>false) 100 24 zbK zbL
theorem ztp:Con.Ok Tryz.prog 24 ⟨zbK,zbL,znQ⟩:=zv zk zo (by kernel_rfl)
def zlq:T (zp Qy)→Option (T (zp Qz)):=sF Tryz.prog [(28,⟨zdm,zdn,zpG⟩),(29,⟨Vg,Vh,zgT⟩),(15,⟨kN,kO,zpI⟩),(17,⟨uC,uD,znP⟩),(22,⟨Wo,Wp,zlp⟩),(24,⟨zbK,zbL,znQ⟩),(20,⟨Qw,Qx,zeK⟩)] (fun _ _ _ _=>none) (fun _ _=>false) 100 19 Qy Qz
theorem zg4:Con.Ok Tryz.prog 19 ⟨Qy,Qz,zlq⟩:=zv (zd zvb (zd zlS (zd zve (zd zto (zd zrl (zd ztp (zd zg3 zk))))))) zo (by kernel_rfl)
theorem zDJ:zlq ()=some (true,()):=by kernel_rfl
theorem zDK:Con.Ok Tryz.prog 19 ⟨Qy,Qz,fun _=>some (true,())⟩:=⟨zg4.1,fun x r h=>zg4.2 x r (by cases x;rw [←h];exact zDJ)⟩
def QA:(Unit)→Option (Bool×Unit):=fun _=>some (true,())
theorem zrm:Con.Ok Tryz.prog 19 ⟨Qy,Qz,QA⟩:=zDK
theorem zrn:QA ()=some (true,()):=rfl
abbrev Yw:List VT:=[⟨true,xh⟩,⟨true,kW⟩,⟨false,I⟩,⟨false,I⟩,⟨false,I⟩]
abbrev Us:List VT:=[⟨false,.bool⟩]
def zdQ:zR:=zM [⟨(.pair qn qn),QB (.pair qn qn),[]⟩,cdF xh,⟨(.pair (.list zD) (.list zD)),QB (.pair (.list zD) (.list zD)),[]⟩,cdF kW,cdF qn,cdF zD,cdF wq,cdF vp,cdF kM,cdF zx,cdF zO,⟨(.pair (.int .u8) (.pair (.int .u8) (.int .u8))),QB (.pair (.int .u8) (.pair (.int .u8) (.int .u8))),[]⟩,cdF zL,⟨(.pair I (.pair I I)),QB (.pair I (.pair I I)),[]⟩,cdF ZQ,cdF qg] [] [] [] [13,14,15,16,17,18,19]
def Ut (Yy:Ul) (Qf:YO) (Kc:zbf) (qw:ve) (jr:gV) (Yi:zih) (Yj:zit) (yh:zgN) (yi:zgS) (GC:(Unit)→Option (Bool×Unit)) (a0:jZ) (a1:xX) (a2:Int) (a3:Int) (a4:Int):Option (Bool×Unit):=
 opt (Yy (a0,())) fun x0=>
 opt (Qf (a0,())) fun x1=>
 opt (Kc (a1,(x0.1,(x1.1,())))) fun x2=>
 opt (zy (fun s3:((Bool×(Int×Unit))×Unit)=>
  bif zh s3.1.2.1 2 then bif zg s3.1.2.1 0 then opt (qw (x0.1,())) fun x4=>
    opt (jr (x0.1,())) fun x5=>
    bif !(zg x4.1 x5.1) then some (.inl (1,((false,(s3.1.2.1,())),())))
    else opt (zy (fun s6:((Bool×(Int×Unit))×Unit)=>
      bif zh s6.1.2.1 2 then bif zg s6.1.2.1 0 then opt (zy (fun s7:((Bool×(Int×Unit))×Unit)=>
         bif (zh s7.1.2.1 (wrF .i64 (2*((x0.1.1.2.2.length:Nat):Int)))) then opt (bif zh s7.1.2.1 0 then some (0,((a2,()),()))
           else some (0,((s7.1.2.1,()),()))) fun x8=>
          opt (Yi (x0.1,(x1.1,(x8.2.1.1,())))) fun x9=>
          opt (Yj (x0.1,(x1.1,(x8.2.1.1,())))) fun x10=>
          opt (bif (!(((zg x9.1.1.1 x10.1.1.1)&&((zg x9.1.1.2 x10.1.1.2)&&true))&&(((zg x9.1.2.1.1 x10.1.2.1.1)&&((zg x9.1.2.1.2 x10.1.2.1.2)&&true))&&((zg x9.1.2.2.1 x10.1.2.2.1)&&((zg x9.1.2.2.2 x10.1.2.2.2)&&true))))) then some (1,((false,()),()))
           else bif !(zg x9.2.1 x10.2.1) then some (1,((false,()),()))
            else some (0,((s7.1.1,()),()))) fun x11=>
          bif Nat.beq x11.1 0 then some (.inr ((x11.2.1.1,((wrF .i64 (s7.1.2.1+1)),())),()))
          else some (.inl (1,((x11.2.1.1,(s7.1.2.1,())),())))
         else some (.inl (0,((s7.1.1,(s7.1.2.1,())),())))) zH ((s6.1.1,((-1),())),())) fun x12=>
        bif Nat.beq x12.1 0 then opt (zy (fun s13:((Bool×(Int×Unit))×Unit)=>
          bif (!(zh ((x1.1.length:Nat):Int) s13.1.2.1)) then opt (zy (fun s14:((Bool×(Int×Unit))×Unit)=>
            bif zh s14.1.2.1 3 then bif zg s14.1.2.1 0 then opt (bif (zh s13.1.2.1 ((x1.1.length:Nat):Int)) then opt (atI x1.1 s13.1.2.1) fun x15=>
                some (0,((x15.1,()),()))
               else some (0,((a3,()),()))) fun x16=>
              opt (yh (x0.1,(x1.1,(x16.2.1.1,(0,()))))) fun x17=>
              opt (yi (x0.1,(x1.1,(x16.2.1.1,(0,()))))) fun x18=>
              opt (bif !(zg x17.1 x18.1) then some (1,((false,()),()))
               else bif !(zg x17.2.1 x18.2.1) then some (1,((false,()),()))
                else some (0,((s14.1.1,()),()))) fun x19=>
              bif Nat.beq x19.1 0 then some (.inr ((x19.2.1.1,((wrF .i64 (s14.1.2.1+1)),())),()))
              else some (.inl (1,((x19.2.1.1,(s14.1.2.1,())),())))
             else bif zg s14.1.2.1 1 then opt (bif (zh s13.1.2.1 ((x1.1.length:Nat):Int)) then opt (atI x1.1 s13.1.2.1) fun x20=>
                 some (0,((x20.1,()),()))
                else some (0,((a3,()),()))) fun x21=>
               opt (yh (x0.1,(x1.1,(x21.2.1.1,(1,()))))) fun x22=>
               opt (yi (x0.1,(x1.1,(x21.2.1.1,(1,()))))) fun x23=>
               opt (bif !(zg x22.1 x23.1) then some (1,((false,()),()))
                else bif !(zg x22.2.1 x23.2.1) then some (1,((false,()),()))
                 else some (0,((s14.1.1,()),()))) fun x24=>
               bif Nat.beq x24.1 0 then some (.inr ((x24.2.1.1,((wrF .i64 (s14.1.2.1+1)),())),()))
               else some (.inl (1,((x24.2.1.1,(s14.1.2.1,())),())))
              else bif zg s14.1.2.1 2 then opt (bif (zh s13.1.2.1 ((x1.1.length:Nat):Int)) then opt (atI x1.1 s13.1.2.1) fun x25=>
                  some (0,((x25.1,()),()))
                 else some (0,((a3,()),()))) fun x26=>
                opt (yh (x0.1,(x1.1,(x26.2.1.1,(a4,()))))) fun x27=>
                opt (yi (x0.1,(x1.1,(x26.2.1.1,(a4,()))))) fun x28=>
                opt (bif !(zg x27.1 x28.1) then some (1,((false,()),()))
                 else bif !(zg x27.2.1 x28.2.1) then some (1,((false,()),()))
                  else some (0,((s14.1.1,()),()))) fun x29=>
                bif Nat.beq x29.1 0 then some (.inr ((x29.2.1.1,((wrF .i64 (s14.1.2.1+1)),())),()))
                else some (.inl (1,((x29.2.1.1,(s14.1.2.1,())),())))
               else none
            else some (.inl (0,((s14.1.1,(s14.1.2.1,())),())))) zH ((s13.1.1,(0,())),())) fun x30=>
           bif Nat.beq x30.1 0 then some (.inr ((x30.2.1.1,((wrF .i64 (s13.1.2.1+1)),())),()))
           else some (.inl (1,((x30.2.1.1,(s13.1.2.1,())),())))
          else some (.inl (0,((s13.1.1,(s13.1.2.1,())),())))) zH ((x12.2.1.1,(0,())),())) fun x31=>
         bif Nat.beq x31.1 0 then some (.inr ((x31.2.1.1,((wrF .i64 (s6.1.2.1+1)),())),()))
         else some (.inl (1,((x31.2.1.1,(s6.1.2.1,())),())))
        else some (.inl (1,((x12.2.1.1,(s6.1.2.1,())),())))
       else bif zg s6.1.2.1 1 then opt (zy (fun s32:((Bool×(Int×Unit))×Unit)=>
          bif (zh s32.1.2.1 (wrF .i64 (2*((x0.1.1.2.2.length:Nat):Int)))) then opt (bif zh s32.1.2.1 0 then some (0,((a2,()),()))
            else some (0,((s32.1.2.1,()),()))) fun x33=>
           opt (Yi (x0.1,(x2.2.1,(x33.2.1.1,())))) fun x34=>
           opt (Yj (x0.1,(x2.2.1,(x33.2.1.1,())))) fun x35=>
           opt (bif (!(((zg x34.1.1.1 x35.1.1.1)&&((zg x34.1.1.2 x35.1.1.2)&&true))&&(((zg x34.1.2.1.1 x35.1.2.1.1)&&((zg x34.1.2.1.2 x35.1.2.1.2)&&true))&&((zg x34.1.2.2.1 x35.1.2.2.1)&&((zg x34.1.2.2.2 x35.1.2.2.2)&&true))))) then some (1,((false,()),()))
            else bif !(zg x34.2.1 x35.2.1) then some (1,((false,()),()))
             else some (0,((s32.1.1,()),()))) fun x36=>
           bif Nat.beq x36.1 0 then some (.inr ((x36.2.1.1,((wrF .i64 (s32.1.2.1+1)),())),()))
           else some (.inl (1,((x36.2.1.1,(s32.1.2.1,())),())))
          else some (.inl (0,((s32.1.1,(s32.1.2.1,())),())))) zH ((s6.1.1,((-1),())),())) fun x37=>
         bif Nat.beq x37.1 0 then opt (zy (fun s38:((Bool×(Int×Unit))×Unit)=>
           bif (!(zh ((x2.2.1.length:Nat):Int) s38.1.2.1)) then opt (zy (fun s39:((Bool×(Int×Unit))×Unit)=>
             bif zh s39.1.2.1 3 then bif zg s39.1.2.1 0 then opt (bif (zh s38.1.2.1 ((x2.2.1.length:Nat):Int)) then opt (atI x2.2.1 s38.1.2.1) fun x40=>
                 some (0,((x40.1,()),()))
                else some (0,((a3,()),()))) fun x41=>
               opt (yh (x0.1,(x2.2.1,(x41.2.1.1,(0,()))))) fun x42=>
               opt (yi (x0.1,(x2.2.1,(x41.2.1.1,(0,()))))) fun x43=>
               opt (bif !(zg x42.1 x43.1) then some (1,((false,()),()))
                else bif !(zg x42.2.1 x43.2.1) then some (1,((false,()),()))
                 else some (0,((s39.1.1,()),()))) fun x44=>
               bif Nat.beq x44.1 0 then some (.inr ((x44.2.1.1,((wrF .i64 (s39.1.2.1+1)),())),()))
               else some (.inl (1,((x44.2.1.1,(s39.1.2.1,())),())))
              else bif zg s39.1.2.1 1 then opt (bif (zh s38.1.2.1 ((x2.2.1.length:Nat):Int)) then opt (atI x2.2.1 s38.1.2.1) fun x45=>
                  some (0,((x45.1,()),()))
                 else some (0,((a3,()),()))) fun x46=>
                opt (yh (x0.1,(x2.2.1,(x46.2.1.1,(1,()))))) fun x47=>
                opt (yi (x0.1,(x2.2.1,(x46.2.1.1,(1,()))))) fun x48=>
                opt (bif !(zg x47.1 x48.1) then some (1,((false,()),()))
                 else bif !(zg x47.2.1 x48.2.1) then some (1,((false,()),()))
                  else some (0,((s39.1.1,()),()))) fun x49=>
                bif Nat.beq x49.1 0 then some (.inr ((x49.2.1.1,((wrF .i64 (s39.1.2.1+1)),())),()))
                else some (.inl (1,((x49.2.1.1,(s39.1.2.1,())),())))
               else bif zg s39.1.2.1 2 then opt (bif (zh s38.1.2.1 ((x2.2.1.length:Nat):Int)) then opt (atI x2.2.1 s38.1.2.1) fun x50=>
                   some (0,((x50.1,()),()))
                  else some (0,((a3,()),()))) fun x51=>
                 opt (yh (x0.1,(x2.2.1,(x51.2.1.1,(a4,()))))) fun x52=>
                 opt (yi (x0.1,(x2.2.1,(x51.2.1.1,(a4,()))))) fun x53=>
                 opt (bif !(zg x52.1 x53.1) then some (1,((false,()),()))
                  else bif !(zg x52.2.1 x53.2.1) then some (1,((false,()),()))
                   else some (0,((s39.1.1,()),()))) fun x54=>
                 bif Nat.beq x54.1 0 then some (.inr ((x54.2.1.1,((wrF .i64 (s39.1.2.1+1)),())),()))
                 else some (.inl (1,((x54.2.1.1,(s39.1.2.1,())),())))
                else none
             else some (.inl (0,((s39.1.1,(s39.1.2.1,())),())))) zH ((s38.1.1,(0,())),())) fun x55=>
            bif Nat.beq x55.1 0 then some (.inr ((x55.2.1.1,((wrF .i64 (s38.1.2.1+1)),())),()))
            else some (.inl (1,((x55.2.1.1,(s38.1.2.1,())),())))
           else some (.inl (0,((s38.1.1,(s38.1.2.1,())),())))) zH ((x37.2.1.1,(0,())),())) fun x56=>
          bif Nat.beq x56.1 0 then some (.inr ((x56.2.1.1,((wrF .i64 (s6.1.2.1+1)),())),()))
          else some (.inl (1,((x56.2.1.1,(s6.1.2.1,())),())))
         else some (.inl (1,((x37.2.1.1,(s6.1.2.1,())),())))
        else none
      else some (.inl (0,((s6.1.1,(s6.1.2.1,())),())))) zH ((s3.1.1,(0,())),())) fun x57=>
     bif Nat.beq x57.1 0 then some (.inr ((x57.2.1.1,((wrF .i64 (s3.1.2.1+1)),())),()))
     else some (.inl (1,((x57.2.1.1,(s3.1.2.1,())),())))
   else bif zg s3.1.2.1 1 then opt (qw (x2.1,())) fun x58=>
     opt (jr (x2.1,())) fun x59=>
     bif !(zg x58.1 x59.1) then some (.inl (1,((false,(s3.1.2.1,())),())))
     else opt (zy (fun s60:((Bool×(Int×Unit))×Unit)=>
       bif zh s60.1.2.1 2 then bif zg s60.1.2.1 0 then opt (zy (fun s61:((Bool×(Int×Unit))×Unit)=>
          bif (zh s61.1.2.1 (wrF .i64 (2*((x0.1.1.2.2.length:Nat):Int)))) then opt (bif zh s61.1.2.1 0 then some (0,((a2,()),()))
            else some (0,((s61.1.2.1,()),()))) fun x62=>
           opt (Yi (x2.1,(x1.1,(x62.2.1.1,())))) fun x63=>
           opt (Yj (x2.1,(x1.1,(x62.2.1.1,())))) fun x64=>
           opt (bif (!(((zg x63.1.1.1 x64.1.1.1)&&((zg x63.1.1.2 x64.1.1.2)&&true))&&(((zg x63.1.2.1.1 x64.1.2.1.1)&&((zg x63.1.2.1.2 x64.1.2.1.2)&&true))&&((zg x63.1.2.2.1 x64.1.2.2.1)&&((zg x63.1.2.2.2 x64.1.2.2.2)&&true))))) then some (1,((false,()),()))
            else bif !(zg x63.2.1 x64.2.1) then some (1,((false,()),()))
             else some (0,((s61.1.1,()),()))) fun x65=>
           bif Nat.beq x65.1 0 then some (.inr ((x65.2.1.1,((wrF .i64 (s61.1.2.1+1)),())),()))
           else some (.inl (1,((x65.2.1.1,(s61.1.2.1,())),())))
          else some (.inl (0,((s61.1.1,(s61.1.2.1,())),())))) zH ((s60.1.1,((-1),())),())) fun x66=>
         bif Nat.beq x66.1 0 then opt (zy (fun s67:((Bool×(Int×Unit))×Unit)=>
           bif (!(zh ((x1.1.length:Nat):Int) s67.1.2.1)) then opt (zy (fun s68:((Bool×(Int×Unit))×Unit)=>
             bif zh s68.1.2.1 3 then bif zg s68.1.2.1 0 then opt (bif (zh s67.1.2.1 ((x1.1.length:Nat):Int)) then opt (atI x1.1 s67.1.2.1) fun x69=>
                 some (0,((x69.1,()),()))
                else some (0,((a3,()),()))) fun x70=>
               opt (yh (x2.1,(x1.1,(x70.2.1.1,(0,()))))) fun x71=>
               opt (yi (x2.1,(x1.1,(x70.2.1.1,(0,()))))) fun x72=>
               opt (bif !(zg x71.1 x72.1) then some (1,((false,()),()))
                else bif !(zg x71.2.1 x72.2.1) then some (1,((false,()),()))
                 else some (0,((s68.1.1,()),()))) fun x73=>
               bif Nat.beq x73.1 0 then some (.inr ((x73.2.1.1,((wrF .i64 (s68.1.2.1+1)),())),()))
               else some (.inl (1,((x73.2.1.1,(s68.1.2.1,())),())))
              else bif zg s68.1.2.1 1 then opt (bif (zh s67.1.2.1 ((x1.1.length:Nat):Int)) then opt (atI x1.1 s67.1.2.1) fun x74=>
                  some (0,((x74.1,()),()))
                 else some (0,((a3,()),()))) fun x75=>
                opt (yh (x2.1,(x1.1,(x75.2.1.1,(1,()))))) fun x76=>
                opt (yi (x2.1,(x1.1,(x75.2.1.1,(1,()))))) fun x77=>
                opt (bif !(zg x76.1 x77.1) then some (1,((false,()),()))
                 else bif !(zg x76.2.1 x77.2.1) then some (1,((false,()),()))
                  else some (0,((s68.1.1,()),()))) fun x78=>
                bif Nat.beq x78.1 0 then some (.inr ((x78.2.1.1,((wrF .i64 (s68.1.2.1+1)),())),()))
                else some (.inl (1,((x78.2.1.1,(s68.1.2.1,())),())))
               else bif zg s68.1.2.1 2 then opt (bif (zh s67.1.2.1 ((x1.1.length:Nat):Int)) then opt (atI x1.1 s67.1.2.1) fun x79=>
                   some (0,((x79.1,()),()))
                  else some (0,((a3,()),()))) fun x80=>
                 opt (yh (x2.1,(x1.1,(x80.2.1.1,(a4,()))))) fun x81=>
                 opt (yi (x2.1,(x1.1,(x80.2.1.1,(a4,()))))) fun x82=>
                 opt (bif !(zg x81.1 x82.1) then some (1,((false,()),()))
                  else bif !(zg x81.2.1 x82.2.1) then some (1,((false,()),()))
                   else some (0,((s68.1.1,()),()))) fun x83=>
                 bif Nat.beq x83.1 0 then some (.inr ((x83.2.1.1,((wrF .i64 (s68.1.2.1+1)),())),()))
                 else some (.inl (1,((x83.2.1.1,(s68.1.2.1,())),())))
                else none
             else some (.inl (0,((s68.1.1,(s68.1.2.1,())),())))) zH ((s67.1.1,(0,())),())) fun x84=>
            bif Nat.beq x84.1 0 then some (.inr ((x84.2.1.1,((wrF .i64 (s67.1.2.1+1)),())),()))
            else some (.inl (1,((x84.2.1.1,(s67.1.2.1,())),())))
           else some (.inl (0,((s67.1.1,(s67.1.2.1,())),())))) zH ((x66.2.1.1,(0,())),())) fun x85=>
          bif Nat.beq x85.1 0 then some (.inr ((x85.2.1.1,((wrF .i64 (s60.1.2.1+1)),())),()))
          else some (.inl (1,((x85.2.1.1,(s60.1.2.1,())),())))
         else some (.inl (1,((x66.2.1.1,(s60.1.2.1,())),())))
        else bif zg s60.1.2.1 1 then opt (zy (fun s86:((Bool×(Int×Unit))×Unit)=>
           bif (zh s86.1.2.1 (wrF .i64 (2*((x0.1.1.2.2.length:Nat):Int)))) then opt (bif zh s86.1.2.1 0 then some (0,((a2,()),()))
             else some (0,((s86.1.2.1,()),()))) fun x87=>
            opt (Yi (x2.1,(x2.2.1,(x87.2.1.1,())))) fun x88=>
            opt (Yj (x2.1,(x2.2.1,(x87.2.1.1,())))) fun x89=>
            opt (bif (!(((zg x88.1.1.1 x89.1.1.1)&&((zg x88.1.1.2 x89.1.1.2)&&true))&&(((zg x88.1.2.1.1 x89.1.2.1.1)&&((zg x88.1.2.1.2 x89.1.2.1.2)&&true))&&((zg x88.1.2.2.1 x89.1.2.2.1)&&((zg x88.1.2.2.2 x89.1.2.2.2)&&true))))) then some (1,((false,()),()))
             else bif !(zg x88.2.1 x89.2.1) then some (1,((false,()),()))
              else some (0,((s86.1.1,()),()))) fun x90=>
            bif Nat.beq x90.1 0 then some (.inr ((x90.2.1.1,((wrF .i64 (s86.1.2.1+1)),())),()))
            else some (.inl (1,((x90.2.1.1,(s86.1.2.1,())),())))
           else some (.inl (0,((s86.1.1,(s86.1.2.1,())),())))) zH ((s60.1.1,((-1),())),())) fun x91=>
          bif Nat.beq x91.1 0 then opt (zy (fun s92:((Bool×(Int×Unit))×Unit)=>
            bif (!(zh ((x2.2.1.length:Nat):Int) s92.1.2.1)) then opt (zy (fun s93:((Bool×(Int×Unit))×Unit)=>
              bif zh s93.1.2.1 3 then bif zg s93.1.2.1 0 then opt (bif (zh s92.1.2.1 ((x2.2.1.length:Nat):Int)) then opt (atI x2.2.1 s92.1.2.1) fun x94=>
                  some (0,((x94.1,()),()))
                 else some (0,((a3,()),()))) fun x95=>
                opt (yh (x2.1,(x2.2.1,(x95.2.1.1,(0,()))))) fun x96=>
                opt (yi (x2.1,(x2.2.1,(x95.2.1.1,(0,()))))) fun x97=>
                opt (bif !(zg x96.1 x97.1) then some (1,((false,()),()))
                 else bif !(zg x96.2.1 x97.2.1) then some (1,((false,()),()))
                  else some (0,((s93.1.1,()),()))) fun x98=>
                bif Nat.beq x98.1 0 then some (.inr ((x98.2.1.1,((wrF .i64 (s93.1.2.1+1)),())),()))
                else some (.inl (1,((x98.2.1.1,(s93.1.2.1,())),())))
               else bif zg s93.1.2.1 1 then opt (bif (zh s92.1.2.1 ((x2.2.1.length:Nat):Int)) then opt (atI x2.2.1 s92.1.2.1) fun x99=>
                   some (0,((x99.1,()),()))
                  else some (0,((a3,()),()))) fun x100=>
                 opt (yh (x2.1,(x2.2.1,(x100.2.1.1,(1,()))))) fun x101=>
                 opt (yi (x2.1,(x2.2.1,(x100.2.1.1,(1,()))))) fun x102=>
                 opt (bif !(zg x101.1 x102.1) then some (1,((false,()),()))
                  else bif !(zg x101.2.1 x102.2.1) then some (1,((false,()),()))
                   else some (0,((s93.1.1,()),()))) fun x103=>
                 bif Nat.beq x103.1 0 then some (.inr ((x103.2.1.1,((wrF .i64 (s93.1.2.1+1)),())),()))
                 else some (.inl (1,((x103.2.1.1,(s93.1.2.1,())),())))
                else bif zg s93.1.2.1 2 then opt (bif (zh s92.1.2.1 ((x2.2.1.length:Nat):Int)) then opt (atI x2.2.1 s92.1.2.1) fun x104=>
                    some (0,((x104.1,()),()))
                   else some (0,((a3,()),()))) fun x105=>
                  opt (yh (x2.1,(x2.2.1,(x105.2.1.1,(a4,()))))) fun x106=>
                  opt (yi (x2.1,(x2.2.1,(x105.2.1.1,(a4,()))))) fun x107=>
                  opt (bif !(zg x106.1 x107.1) then some (1,((false,()),()))
                   else bif !(zg x106.2.1 x107.2.1) then some (1,((false,()),()))
                    else some (0,((s93.1.1,()),()))) fun x108=>
                  bif Nat.beq x108.1 0 then some (.inr ((x108.2.1.1,((wrF .i64 (s93.1.2.1+1)),())),()))
                  else some (.inl (1,((x108.2.1.1,(s93.1.2.1,())),())))
                 else none
              else some (.inl (0,((s93.1.1,(s93.1.2.1,())),())))) zH ((s92.1.1,(0,())),())) fun x109=>
             bif Nat.beq x109.1 0 then some (.inr ((x109.2.1.1,((wrF .i64 (s92.1.2.1+1)),())),()))
             else some (.inl (1,((x109.2.1.1,(s92.1.2.1,())),())))
            else some (.inl (0,((s92.1.1,(s92.1.2.1,())),())))) zH ((x91.2.1.1,(0,())),())) fun x110=>
           bif Nat.beq x110.1 0 then some (.inr ((x110.2.1.1,((wrF .i64 (s60.1.2.1+1)),())),()))
           else some (.inl (1,((x110.2.1.1,(s60.1.2.1,())),())))
          else some (.inl (1,((x91.2.1.1,(s60.1.2.1,())),())))
         else none
       else some (.inl (0,((s60.1.1,(s60.1.2.1,())),())))) zH ((s3.1.1,(0,())),())) fun x111=>
      bif Nat.beq x111.1 0 then some (.inr ((x111.2.1.1,((wrF .i64 (s3.1.2.1+1)),())),()))
      else some (.inl (1,((x111.2.1.1,(s3.1.2.1,())),())))
    else none
  else some (.inl (0,((s3.1.1,(s3.1.2.1,())),())))) zH ((false,(0,())),())) fun x112=>
 bif Nat.beq x112.1 0 then opt (GC ()) fun x113=>
  some (x113.1,())
 else some (x112.2.1.1,())
theorem zpb (Yy:(jZ×Unit)→Option (qx×Unit)) (Qf:(jZ×Unit)→Option ((List zY)×Unit)) (Kc:(xX×qx×(List zY)×Unit)→Option (qx×(List zY)×Unit)) (qw:(qx×Unit)→Option (Int×Unit)) (jr:(qx×Unit)→Option (Int×Unit)) (Yi:(qx×(List zY)×Int×Unit)→Option (WM×Int×Unit)) (Yj:(qx×(List zY)×Int×Unit)→Option (WM×Int×Unit)) (yh:(qx×(List zY)×Int×Int×Unit)→Option (Int×Int×Unit)) (yi:(qx×(List zY)×Int×Int×Unit)→Option (Int×Int×Unit)) (GC:(Unit)→Option (Bool×Unit)) (a0:jZ) (a1:xX) (a2:Int) (a3:Int) (a4:Int):sF Tryz.prog [(10,⟨Ym,Yn,Yy⟩),(11,⟨ZU,ZV,Qf⟩),(12,⟨VU,VV,Kc⟩),(13,⟨qS,qT,qw⟩),(14,⟨gT,gU,jr⟩),(15,⟨kN,kO,Yi⟩),(16,⟨zdk,zdl,Yj⟩),(17,⟨uC,uD,yh⟩),(18,⟨zbI,zbJ,yi⟩),(19,⟨Qy,Qz,GC⟩)] zdQ (zN []) 30 3 Yw Us (a0,a1,a2,a3,a4,())=Ut Yy Qf Kc qw jr Yi Yj yh yi GC a0 a1 a2 a3 a4:=by kernel_rfl
def Yx:(jZ×xX×Int×Int×Int×Unit)→Option (Bool×Unit):=sF Tryz.prog [(10,⟨Ym,Yn,vS⟩),(11,⟨ZU,ZV,xk⟩),(12,⟨VU,VV,kY⟩),(13,⟨qS,qT,jo⟩),(14,⟨gT,gU,yl⟩),(15,⟨kN,kO,ZD⟩),(16,⟨zdk,zdl,ZG⟩),(17,⟨uC,uD,jL⟩),(18,⟨zbI,zbJ,jM⟩),(19,⟨Qy,Qz,QA⟩)] zdQ (zN []) 30 3 Yw Us
theorem zkD:Con.Ok Tryz.prog 3 ⟨Yw,Us,Yx⟩:=zv (zd zj9 (zd zf7 (zd zm5 (zd Yd (zd UE (zd zuP (zd zu6 (zd zs8 (zd ztc (zd zrm zk)))))))))) zo (by kernel_rfl)
theorem zkE (a0:jZ) (a1:xX) (a2:Int) (a3:Int) (a4:Int):Yx (a0,a1,a2,a3,a4,())=Ut vS xk kY jo yl ZD ZG jL jM QA a0 a1 a2 a3 a4:=zpb vS xk kY jo yl ZD ZG jL jM QA a0 a1 a2 a3 a4
abbrev wP:=Int×Int×Int×Int
abbrev qm:=Int×List Bool×List wP
def jg (t:qm) (n:Int):Prop:=0≤n∧n < t.1
def stn (t:qm) (n:Int):Bool:=(t.2.1[n.toNat]?).getD false
def zcX (t:qm) (l:wP):Prop:=jg t l.1∧jg t l.2.1∧l.1≠l.2.1∧¬(stn t l.1=true∧stn t l.2.1=true)∧1≤l.2.2.1∧l.2.2.1≤1000∧0≤l.2.2.2∧l.2.2.2≤10000
def uY (o:wP) (a b:Int):Prop:=(o.1=a∧o.2.1=b)∨(o.1=b∧o.2.1=a)
structure szP (t:qm):Prop where
 n0:2≤t.1
 n1:t.1≤12
 st:(t.2.1.length:Int)=t.1
 ls:t.2.2.length≤24
def zdo (t:qm):Prop:=∀(i:Nat) l,t.2.2[i]?=some l→zcX t l∧∀(k:Nat) o,k < i→t.2.2[k]?=some o→¬uY o l.1 l.2.1
def one (a:Int) (n:Nat):Int:=if a=(n:Int) then 1 else 0
def cnt (ls:List wP) (n:Nat):Int:=(ls.map fun l=>one l.1 n+one l.2.1 n).sum
def stp (r:List Bool) (l:wP):List Bool:=bif (r[l.1.toNat]?).getD false||(r[l.2.1.toNat]?).getD false then (r.set l.1.toNat true).set l.2.1.toNat true else r
def Uu (ls:List wP):Nat→List Bool→List Bool
 |0,r=>r
 |n+1,r=>Uu ls n (ls.foldl stp r)
def reachS (t:qm) (a:Nat):List Bool:=Uu t.2.2 t.1.toNat ((List.replicate t.1.toNat false).set a true)
structure jP (t:qm):Prop where
 sz:szP t
 ls:zdo t
 re:∀(n:Nat),(n:Int) < t.1→(reachS t 0)[n]?=some true
 ct:∀(n:Nat),(n:Int) < t.1→stn t n=true→1≤cnt t.2.2 n∧cnt t.2.2 n≤2
theorem zDL {t:qm} {n:Nat} {b:Bool} (h:t.2.1[n]?=some b):stn t n=b:=by unfold stn;simp [h]
theorem zjn {t:qm} {n:Int} {b:Bool} (h:t.2.1[n.toNat]?=some b):stn t n=b:=by unfold stn;simp [h]
theorem zvg (t:qm) (n:Int):YK (t,n,())=some (tv (jg t n),()):=by
 rw [zsg];unfold zfT jg
 refine wb ?_
 refine zj (fun h=>?_) (fun h=>?_)<;>refine za ?_<;>simp only [xz] at *<;>grind
theorem zlr (t:qm) (n:Int):Vx (t,n,())=some (tv (jg t n),()):=by
 rw [zuv];unfold zh9 jg
 refine wb ?_
 refine zj (fun h=>?_) (fun h=>?_)<;>refine za ?_<;>simp only [xz] at *<;>grind
theorem zbR (l:wP) (a b:Int):xH (l,a,b,())=some (tv (uY l a b),()):=by
 rw [zqj];unfold zdX uY
 refine wb ?_
 repeat' first | refine zj (fun h=>?_) (fun h=>?_) | refine za ?_
 all_goals simp only [jF] at *
 all_goals grind
theorem jg.lt {t:qm} {n:Int} (h:jg t n) (hs:szP t):n.toNat < t.2.1.length:=by
 have:=hs.st;have:=h.1;have:=h.2;omega
theorem jg.lt' {t:qm} {n:Int} (h:jg t n) (hs:szP t):n < (t.2.1.length:Int):=by
 have:=hs.st;have:=h.1;have:=h.2;omega
theorem zjo {t:qm} (hs:szP t) (l:wP):ux (t,l,())=some (tv (zcX t l),()):=by
 rw [zsh];unfold zfU
 simp only [zvg,zw]
 refine wb (zm (J:=fun x=>(x.1=0∧jg t l.1∧jg t l.2.1∧l.1≠l.2.1∧¬(stn t l.1=true∧stn t l.2.1=true))∨(x.1=1∧x.2.1.1=false∧¬(jg t l.1∧jg t l.2.1∧l.1≠l.2.1∧¬(stn t l.1=true∧stn t l.2.1=true)))) ?_ ?_)
 ·refine zj (fun h=>?_) (fun h=>?_)
  ·have:¬jg t l.1:=by intro hn;rw [zU hn] at h;cases h
   exact za (.inr ⟨rfl,rfl,by grind⟩)
  have h1:jg t l.1:=xg h
  refine zj (fun h=>?_) (fun h=>?_)
  ·have:¬jg t l.2.1:=by intro hn;rw [zU hn] at h;cases h
   exact za (.inr ⟨rfl,rfl,by grind⟩)
  have h2:jg t l.2.1:=xg h
  refine zj (fun h=>?_) (fun h=>?_)
  ·have:=qR h
   exact za (.inr ⟨rfl,rfl,by grind⟩)
  have h3:=qX h
  refine zi (qH h1.1 (h1.lt' hs) fun x hx=>?_)
  have e1:=zjn hx
  refine zj (fun h=>?_) (fun h=>?_)
  ·refine zi (qH h2.1 (h2.lt' hs) fun y hy=>?_)
   have e2:=zjn hy
   refine zj (fun h=>?_) (fun h=>?_)
   ·exact za (.inr ⟨rfl,rfl,by grind⟩)
   ·exact za (.inl ⟨rfl,by grind⟩)
  ·exact za (.inl ⟨rfl,by grind⟩)
 ·rintro ⟨j,⟨v,⟨⟩⟩,⟨⟩⟩ (⟨rfl,hp⟩ | ⟨rfl,rfl,hp⟩)
  ·rw [show (Nat.beq 0 0)=true from rfl,cond_true]
   unfold zcX
   repeat' first | refine zj (fun h=>?_) (fun h=>?_) | refine za ?_
   all_goals simp only [xz] at *
   all_goals grind
  ·rw [show (Nat.beq 1 0)=false from rfl,cond_false]
   unfold zcX
   exact za (by grind)
theorem zbS {l:List Int} (hn:l.length≤1000000000000000000) (x:Int):yZ (l,x,())=some (tv (x∈l),()):=by
 rw [zwy];unfold zkc
 refine wb (zm (J:=fun r=>(r.1=0∧¬x∈l)∨(r.1=1∧r.2.1.1=true∧x∈l)) (qM l.length (fun i=>l[i]?≠some x) hn ?_ ?_) ?_)
 ·intro i hi hp
  have hx:l[i]?=some l[i]:=List.getElem?_eq_getElem hi
  refine ze (zQ (show (i:Int) < _ by omega)) (zi (zC (n:=i) hx (zj (fun h=>?_) (fun h=>?_))))
  ·have:=qR h
   exact za (zr (.inr ⟨rfl,rfl,by rw [←this];exact List.getElem_mem hi⟩))
  ·have:=qX h
   exact za (jX (by omega) (by grind))
 ·intro hp
  refine zf (zJ (show ¬(l.length:Int) < _ by omega)) (za (zr (.inl ⟨rfl,fun hm=>?_⟩)))
  obtain ⟨k,hk⟩:=List.getElem?_of_mem hm
  exact hp k (by grind) hk
 ·rintro ⟨j,⟨v,w,⟨⟩⟩,⟨⟩⟩ (⟨rfl,hp⟩ | ⟨rfl,rfl,hp⟩)
  ·exact za (by simp [hp])
  ·exact za (by simp [hp])
theorem zGA (r:List Bool) (l:wP):(stp r l).length=r.length:=by
 unfold stp
 cases (r[l.1.toNat]?).getD false||(r[l.2.1.toNat]?).getD false<;>simp
theorem zg5 (ls:List wP):∀r:List Bool,(ls.foldl stp r).length=r.length:=by
 induction ls with
 |nil=>intro r;rfl
 |cons l ls ih=>intro r;rw [List.foldl_cons,ih,zGA]
theorem zg6 (ls:List wP):∀(n:Nat) (r:List Bool),(Uu ls n r).length=r.length
 |0,r=>rfl
 |n+1,r=>by rw [Uu,zg6 ls n,zg5]
theorem znR (ls:List wP):∀(n:Nat) (r:List Bool),Uu ls (n+1) r=ls.foldl stp (Uu ls n r)
 |0,r=>rfl
 |n+1,r=>by rw [Uu,znR ls n,Uu]
theorem ztq {t:qm} (hs:szP t) (hl:∀(i:Nat) l,t.2.2[i]?=some l→jg t l.1∧jg t l.2.1) {a:Nat} (ha:(a:Int) < t.1):JW (t,(a:Int),[],())=some (reachS t a,()):=by
 have h0:=hs.n0;have h1:=hs.n1;have h3:=hs.ls;have h4:=hs.st
 have e1:t.1.toNat=t.2.1.length:=by omega
 rw [zqx];unfold zea
 simp only [zbS (l:=[]) (by simp),zw]
 refine xf ?_
 refine ze (by unfold zh1;rw [zJ (by omega),zJ (by omega),zJ (by omega)];rfl) ?_
 refine zi (qH (by omega) (by simp;omega) fun _ _=>zi (jy (by simp;omega) fun _ _=>?_))
 refine zm (J:=fun x=>x.2.2.1=reachS t a) (zT t.1.toNat (fun i s=>s=(((i:Int),()),(Uu t.2.2 i ((List.replicate t.1.toNat false).set a true),()))) (by omega) rfl ?_ ?_) ?_
 ·rintro i _ hi rfl
  refine ze (zQ (show (i:Int) < _ by omega)) ?_
  generalize hr:Uu t.2.2 i ((List.replicate t.1.toNat false).set a true)=r
  have hrl:r.length=t.1.toNat:=by rw [←hr,zg6];simp
  refine zm (J:=fun x=>x.2.2.1=t.2.2.foldl stp r) (zT t.2.2.length (fun i s=>s=(((i:Int),()),((t.2.2.take i).foldl stp r,()))) (by omega) rfl ?_ ?_) ?_
  ·rintro k _ hk rfl
   refine ze (zQ (show (k:Int) < _ by omega)) ?_
   have hx:t.2.2[k]?=some t.2.2[k]:=List.getElem?_eq_getElem hk
   obtain ⟨⟨a0,a1⟩,⟨b0,b1⟩⟩:=hl k _ hx
   have hnx:(t.2.2.take (k+1)).foldl stp r=stp ((t.2.2.take k).foldl stp r) t.2.2[k]:=by
    rw [List.take_add_one,hx,List.foldl_append];rfl
   have hlen:((t.2.2.take k).foldl stp r).length=t.1.toNat:=by rw [zg5,hrl]
   generalize (t.2.2.take k).foldl stp r=q at hnx hlen
   refine zi (zC (n:=k) hx ?_)
   refine zm (J:=fun x=>x.2.2.1=stp q t.2.2[k]) ?_ ?_
   ·refine ze (by rw [qd (by simp)];rfl) ?_
    refine zi (qH a0 (by show _ < ((q.length:Nat):Int);omega) fun x hx=>zi (jy (by show _ < q.length;omega) fun x' hx'=>?_))
    have ex:x'=x:=Option.some.inj (hx'.symm.trans hx)
    subst ex
    refine zj (fun h=>?_) (fun h=>?_)
    ·subst h
     refine zi (qH a0 (by show _ < ((q.length:Nat):Int);omega) fun _ _=>zi (jy (by show _ < q.length;omega) fun _ _=>?_))
     refine zi (qH b0 (by show _ < (((q.set _ _).length:Nat):Int);simp;omega) fun _ _=>zi (jy (by show _ < (q.set _ _).length;simp;omega) fun _ _=>?_))
     refine za ?_
     show _=stp q _
     unfold stp
     simp only at hx'
     rw [hx'];rfl
    ·subst h
     refine zi (qH b0 (by show _ < ((q.length:Nat):Int);omega) fun y hy=>zi (jy (by show _ < q.length;omega) fun y' hy'=>?_))
     have ey:y'=y:=Option.some.inj (hy'.symm.trans hy)
     subst ey
     refine zj (fun h=>?_) (fun h=>?_)
     ·subst h
      refine zi (qH a0 (by show _ < ((q.length:Nat):Int);omega) fun _ _=>zi (jy (by show _ < q.length;omega) fun _ _=>?_))
      refine zi (qH b0 (by show _ < (((q.set _ _).length:Nat):Int);simp;omega) fun _ _=>zi (jy (by show _ < (q.set _ _).length;simp;omega) fun _ _=>?_))
      refine za ?_
      show _=stp q _
      unfold stp
      simp only at hx' hy'
      rw [hx',hy'];rfl
     ·subst h
      refine za ?_
      show q=stp q _
      unfold stp
      simp only at hx' hy'
      rw [hx',hy'];rfl
   ·rintro ⟨j,⟨⟩,q',⟨⟩⟩ hq
    refine za (qj ?_)
    simp only at hq
    rw [hnx,←hq]
    exact congrArg (fun z=>(((z,()),(q',())):(Int×Unit)×(List Bool×Unit))) (qu (by omega))
  ·rintro _ rfl
   refine zf (zJ (show ¬(t.2.2.length:Int) < _ by omega)) (za (zr ?_))
   simp
  ·rintro ⟨j,⟨z,⟨⟩⟩,q',⟨⟩⟩ hq
   refine za (qj ?_)
   simp only at hq
   rw [znR,hr,←hq]
   exact congrArg (fun z=>(((z,()),(q',())):(Int×Unit)×(List Bool×Unit))) (qu (by omega))
 ·rintro _ rfl
  exact zf (zJ (show ¬((t.1.toNat:Nat):Int) < _ by omega)) (za (zr rfl))
 ·rintro ⟨j,⟨z,⟨⟩⟩,q',⟨⟩⟩ hq
  exact za hq
def vo (t:qm) (i:Nat):List Int:=(List.range t.1.toNat).map (cnt (t.2.2.take i))
theorem zDM (a:Int) (n:Nat):0≤one a n∧one a n≤1:=by unfold one;split<;>omega
theorem zDN (ls:List wP) (n:Nat):0≤cnt ls n∧cnt ls n≤2*ls.length:=by
 unfold cnt
 induction ls with
 |nil=>simp
 |cons l ls ih=>
  have:=zDM l.1 n;have:=zDM l.2.1 n
  simp only [List.map_cons,List.sum_cons,List.length_cons]
  omega
theorem zzP {ls:List wP} {i:Nat} {l:wP} (h:ls[i]?=some l) (n:Nat):cnt (ls.take (i+1)) n=cnt (ls.take i) n+(one l.1 n+one l.2.1 n):=by
 unfold cnt
 rw [List.take_add_one,h];simp
theorem Yf (t:qm) (i:Nat):(vo t i).length=t.1.toNat:=by simp [vo]
theorem zcY {t:qm} {i n:Nat} (h:n < t.1.toNat):(vo t i)[n]?=some (cnt (t.2.2.take i) n):=by simp [vo,h]
theorem zv9 {t:qm} {i:Nat} {l:wP} (h:t.2.2[i]?=some l) (hl:t.2.2.length≤24) (ha:jg t l.1) (hb:jg t l.2.1) (hab:l.1≠l.2.1) {u v:Int}
  (hu:(vo t i)[l.1.toNat]?=some u) (hv:((vo t i).set l.1.toNat (wrF .i64 (u+1)))[l.2.1.toNat]?=some v) :
  ((vo t i).set l.1.toNat (wrF .i64 (u+1))).set l.2.1.toNat (wrF .i64 (v+1))=vo t (i+1):=by
 obtain ⟨a0,a1⟩:=ha;obtain ⟨b0,b1⟩:=hb
 have hne:l.1.toNat≠l.2.1.toNat:=by omega
 rw [zcY (by omega)] at hu
 rw [List.getElem?_set_ne hne,zcY (by omega)] at hv
 have hu:=Option.some.inj hu;have hv:=Option.some.inj hv
 have k1:=zDN (t.2.2.take i) l.1.toNat;have k2:=zDN (t.2.2.take i) l.2.1.toNat
 have k3:(t.2.2.take i).length≤24:=by simp;omega
 rw [zE (by omega) (by omega),zE (by omega) (by omega)]
 apply List.ext_getElem?
 intro n
 by_cases hn:n < t.1.toNat
 ·rw [zcY hn,zzP h,List.getElem?_set,List.getElem?_set,zcY hn]
  unfold one
  simp only [List.length_set,Yf]
  grind
 ·rw [List.getElem?_eq_none (by simp [Yf];omega),List.getElem?_eq_none (by simp [Yf];omega)]
theorem zDO (t:qm):List.replicate t.1.toNat (0:Int)=vo t 0:=by
 apply List.ext_getElem?
 intro n
 by_cases hn:n < t.1.toNat
 ·rw [zcY hn];simp [hn,cnt]
 ·rw [List.getElem?_eq_none (by simp;omega),List.getElem?_eq_none (by simp [Yf];omega)]
theorem zzQ (t:qm) {n:Nat} (h:n < t.1.toNat):(vo t t.2.2.length)[n]?=some (cnt t.2.2 n):=by rw [zcY h,List.take_length]
theorem zcX.nodes {t:qm} {l:wP} (h:zcX t l):jg t l.1∧jg t l.2.1:=⟨h.1,h.2.1⟩
theorem zpJ {t:qm} (h:¬szP t):¬jP t:=fun h'=>h h'.sz
theorem zpK {t:qm} (h:¬zdo t):¬jP t:=fun h'=>h h'.ls
theorem zhO (t:qm):uK (t,())=some (tv (jP t),()):=by
 rw [zqy];unfold zeb
 refine wb (zm (J:=fun x=>(x.1=0∧x.2.1.1=false∧szP t)∨(x.1=1∧x.2.1.1=false∧¬szP t)) ?_ ?_)
 ·refine zj (fun h=>za (.inr ⟨rfl,rfl,fun hs=>?_⟩)) (fun h1=>zj (fun h=>za (.inr ⟨rfl,rfl,fun hs=>?_⟩)) (fun h2=>zj (fun h=>za (.inr ⟨rfl,rfl,fun hs=>?_⟩)) (fun h3=>zj (fun h=>za (.inr ⟨rfl,rfl,fun hs=>?_⟩)) (fun h4=>za (.inl ⟨rfl,rfl,?_⟩)))))
  ·have:=qi h;have:=hs.n0;omega
  ·have:=qi h;have:=hs.n1;omega
  ·have:=hs.st;rw [kK this] at h;cases h
  ·have:=qi h;have:=hs.ls;omega
  ·have h1:=qz h1;have h2:=qz h2;have h4:=qz h4
   have h3:=qR (by simpa using h3)
   exact ⟨h1,h2,h3,by omega⟩
 rintro ⟨j,⟨v,⟨⟩⟩,⟨⟩⟩ (⟨rfl,rfl,hs⟩ | ⟨rfl,rfl,hs⟩)
 rotate_left
 ·exact zf rfl (za ⟨fun h=>(by cases h),fun h=>absurd h (zpJ hs)⟩)
 have n0:=hs.n0;have n1:=hs.n1;have h3:=hs.ls;have h4:=hs.st
 refine ze rfl (ze (zov (by omega) (by omega) (by omega)) ?_)
 refine zm (J:=fun x=>(x.1=0∧x.2.1.1=false∧x.2.2.1=vo t t.2.2.length∧zdo t)∨(x.1=1∧x.2.1.1=false∧¬zdo t))
  (zT t.2.2.length (fun i s=>s=((false,((i:Int),())),(vo t i,()))∧∀(k:Nat),k < i→∀l,t.2.2[k]?=some l→zcX t l∧∀(k':Nat) o,k' < k→t.2.2[k']?=some o→¬uY o l.1 l.2.1) (by omega) ⟨by rw [zDO];rfl,fun k hk=>by omega⟩ ?_ ?_) ?_
 ·rintro i _ hi ⟨rfl,hp⟩
  have hx:t.2.2[i]?=some t.2.2[i]:=List.getElem?_eq_getElem hi
  refine ze (zQ (show (i:Int) < _ by omega)) (zi (zC (n:=i) hx ?_))
  rw [zjo hs]
  generalize hgl:t.2.2[i]=l at hx
  refine zj (fun h=>?_) (fun h=>?_)
  ·have hn:=yn h
   exact za (zr (.inr ⟨rfl,rfl,fun hq=>hn (hq i l hx).1⟩))
  have hl:=xg h
  refine zm (J:=fun x=>(x.1=0∧x.2.1.1=false∧∀(k':Nat) o,k' < i→t.2.2[k']?=some o→¬uY o l.1 l.2.1)∨(x.1=1∧x.2.1.1=false∧∃(k':Nat) (o:wP),k' < i∧t.2.2[k']?=some o∧uY o l.1 l.2.1))
   (qM i (fun k=>∀o,t.2.2[k]?=some o→¬uY o l.1 l.2.1) (by omega) ?_ ?_) ?_
  ·intro k hk hpk
   have hy:t.2.2[k]?=some t.2.2[k]:=List.getElem?_eq_getElem (by omega)
   refine ze (zQ (show (k:Int) < (i:Int) by omega)) (zi (zC (n:=k) hy ?_))
   rw [zbR]
   refine zj (fun h=>?_) (fun h=>?_)
   ·exact za (zr (.inr ⟨rfl,rfl,k,_,hk,hy,Zy h⟩))
   ·exact za (jX (by omega) fun o ho=>by rw [hy] at ho;cases ho;exact gS h)
  ·intro hpk
   exact zf (zJ (show ¬(i:Int) < (i:Int) by omega)) (za (zr (.inl ⟨rfl,rfl,fun k' o hk'=>hpk k' hk' o⟩)))
  ·rintro ⟨j,⟨v,w,⟨⟩⟩,⟨⟩⟩ (⟨rfl,rfl,hpk⟩ | ⟨rfl,rfl,k',o,hk',ho,hj⟩)
   ·refine ze rfl ?_
    obtain ⟨⟨a0,a1⟩,⟨b0,b1⟩⟩:=hl.nodes
    have lc:=Yf t i
    refine zi (qH a0 (by show _ < (((vo t i).length:Nat):Int);omega) fun _ _=>zi (jy (by show _ < (vo t i).length;omega) fun u hu=>zi (qH a0 (by show _ < (((vo t i).length:Nat):Int);omega) fun _ _=>zi (jy (by show _ < (vo t i).length;omega) fun _ _=>?_))))
    refine zi (qH b0 (by show _ < ((((vo t i).set _ _).length:Nat):Int);simp;omega) fun _ _=>zi (jy (by show _ < ((vo t i).set _ _).length;simp;omega) fun w hw=>zi (qH b0 (by show _ < ((((vo t i).set _ _).length:Nat):Int);simp;omega) fun _ _=>zi (jy (by show _ < ((vo t i).set _ _).length;simp;omega) fun _ _=>?_))))
    refine za (qj ⟨?_,?_⟩)
    ·have e:=zv9 hx hs.ls hl.1 hl.2.1 hl.2.2.1 hu hw
     show ((false,(wrF .i64 ((i:Int)+1),())),((((vo t i).set l.1.toNat (wrF .i64 (u+1))).set l.2.1.toNat (wrF .i64 (w+1))),()))=_
     rw [e,qu (by omega)]
    ·intro k hk l' hl'
     rcases Nat.lt_or_ge k i with hki | hki
     ·exact hp k hki l' hl'
     ·have:k=i:=by omega
      subst this
      rw [hx] at hl';cases hl'
      exact ⟨hl,fun k' o hk'=>hpk k' o hk'⟩
   ·exact zf rfl (za (zr (.inr ⟨rfl,rfl,fun hq=>(hq i l hx).2 k' o hk' ho hj⟩)))
 ·rintro _ ⟨rfl,hp⟩
  exact zf (zJ (show ¬(t.2.2.length:Int) < _ by omega)) (za (zr (.inl ⟨rfl,rfl,rfl,fun i l hl=>hp i (by grind) l hl⟩)))
 rintro ⟨j,⟨v,w,⟨⟩⟩,c,⟨⟩⟩ (⟨rfl,rfl,rfl,hls⟩ | ⟨rfl,rfl,hls⟩)
 rotate_left
 ·exact zf rfl (za ⟨fun h=>(by cases h),fun h=>absurd h (zpK hls)⟩)
 refine ze rfl ?_
 have hre:=ztq (a:=0) hs (fun i l hl=>(hls i l hl).1.nodes) (by omega)
 simp only [Int.natCast_zero] at hre
 rw [hre,zw]
 have hrl:(reachS t 0).length=t.1.toNat:=by unfold reachS;rw [zg6];simp
 refine zm (J:=fun x=>(x.1=0∧jP t)∨(x.1=1∧x.2.1.1=false∧¬jP t)) (qM t.1.toNat (fun n=>(reachS t 0)[n]?=some true∧(stn t n=true→1≤cnt t.2.2 n∧cnt t.2.2 n≤2)) (by omega) ?_ ?_) ?_
 ·intro n hn hp
  refine ze (zQ (show (n:Int) < _ by omega)) ?_
  have hr:(reachS t 0)[n]?=some (reachS t 0)[n]:=List.getElem?_eq_getElem (by omega)
  have hst:t.2.1[n]?=some t.2.1[n]:=List.getElem?_eq_getElem (by omega)
  have e1:=zDL hst
  have e2:=zzQ t hn
  refine zm (J:=fun x=>(x.1=0∧x.2.1.1=false∧(reachS t 0)[n]?=some true∧(stn t n=true→1≤cnt t.2.2 n∧cnt t.2.2 n≤2))∨(x.1=1∧x.2.1.1=false∧¬jP t)) ?_ ?_
  ·refine zi (zC (n:=n) hr ?_)
   refine zj (fun h=>?_) (fun h=>?_)
   ·exact za (.inr ⟨rfl,rfl,fun ht=>by have:=ht.re n (by omega);grind⟩)
   refine zi (zC (n:=n) hst (zj (fun h5=>?_) (fun h5=>?_)))
   ·refine zi (zC (n:=n) e2 (zi (jy (by show n < _;rw [Yf];exact hn) fun u hu=>?_)))
    have hu:u=cnt t.2.2 n:=by have hu:(vo t t.2.2.length)[n]?=some u:=hu;rw [e2] at hu;exact (Option.some.inj hu).symm
    subst hu
    refine zj (fun h6=>?_) (fun h6=>?_)
    ·have:=qi h6
     exact za (.inr ⟨rfl,rfl,fun ht=>by have:=ht.ct n (by omega) (by grind);omega⟩)
    refine zi (zC (n:=n) e2 (zi (jy (by show n < _;rw [Yf];exact hn) fun u hu=>?_)))
    have hu:u=cnt t.2.2 n:=by have hu:(vo t t.2.2.length)[n]?=some u:=hu;rw [e2] at hu;exact (Option.some.inj hu).symm
    subst hu
    refine zj (fun h7=>?_) (fun h7=>?_)
    ·have:=qi h7
     exact za (.inr ⟨rfl,rfl,fun ht=>by have:=ht.ct n (by omega) (by grind);omega⟩)
    ·have:=qz h6;have:=qz h7
     exact za (.inl ⟨rfl,rfl,by grind,fun _=>⟨by omega,by omega⟩⟩)
   ·exact za (.inl ⟨rfl,rfl,by grind,fun hc=>by grind⟩)
  ·rintro ⟨j,⟨v,⟨⟩⟩,⟨⟩⟩ (⟨rfl,rfl,hq⟩ | ⟨rfl,rfl,hq⟩)
   ·exact ze rfl (za (jX (by omega) hq))
   ·exact zf rfl (za (zr (.inr ⟨rfl,rfl,hq⟩)))
 ·intro hp
  exact zf (zJ (show ¬((t.1.toNat:Nat):Int) < _ by omega)) (za (zr (.inl ⟨rfl,⟨hs,hls,fun n hn=>(hp n (by omega)).1,fun n hn=>(hp n (by omega)).2⟩⟩)))
 ·rintro ⟨j,⟨v,w,⟨⟩⟩,⟨⟩⟩ (⟨rfl,hq⟩ | ⟨rfl,rfl,hq⟩)
  ·exact ze rfl (za ⟨fun _=>hq,fun _=>rfl⟩)
  ·exact zf rfl (za ⟨fun h=>(by cases h),fun h=>absurd h hq⟩)
def chk (t:qm) (i:Nat) (l:wP) (c:Nat):Prop:=match c with
 |0=>jg t l.1∧jg t l.2.1∧l.1≠l.2.1
 |1=>¬(stn t l.1=true∧stn t l.2.1=true)
 |2=>∀(k:Nat) o,k < i→t.2.2[k]?=some o→¬uY o l.1 l.2.1
 |_=>1≤l.2.2.1∧l.2.2.1≤1000∧0≤l.2.2.2∧l.2.2.2≤10000
theorem zvh {t:qm} (hs:szP t):YP (t,())=some (tv (zdo t),()):=by
 have n0:=hs.n0;have n1:=hs.n1;have h3:=hs.ls;have h4:=hs.st
 rw [zsv];unfold zf9
 refine wb (zm (J:=fun x=>(x.1=0∧zdo t)∨(x.1=1∧x.2.1.1=false∧¬zdo t))
  (qM t.2.2.length (fun i=>∀l,t.2.2[i]?=some l→zcX t l∧∀(k:Nat) o,k < i→t.2.2[k]?=some o→¬uY o l.1 l.2.1) (by omega) ?_ ?_) ?_)
 ·intro i hi hp
  have hx:t.2.2[i]?=some t.2.2[i]:=List.getElem?_eq_getElem hi
  generalize hgl:t.2.2[i]=l at hx
  refine ze (zQ (show (i:Int) < (t.2.2.length:Int) by omega)) ?_
  refine zm (J:=fun x=>(x.1=0∧x.2.1.1=false∧∀c,c < 4→chk t i l c)∨(x.1=1∧x.2.1.1=false∧∃c,¬chk t i l c)) (qM 4 (chk t i l) (by omega) ?_ ?_) ?_
  ·intro c hc hpc
   refine ze (zQ (show (c:Int) < 4 by omega)) ?_
   have:c=0∨c=1∨c=2∨c=3:=by omega
   rcases this with rfl | rfl | rfl | rfl
   ·refine ze (kK rfl) (zi (zC (n:=i) hx ?_))
    rw [zlr]
    refine zj (fun h1=>?_) (fun h1=>?_)
    ·rw [zlr]
     refine zj (fun h2=>?_) (fun h2=>?_)
     ·refine zj (fun h=>?_) (fun h=>?_)
      ·have:=qR (show zg l.1 l.2.1=true by simpa using h)
       exact za (zr (.inr ⟨rfl,rfl,0,fun hq=>hq.2.2 this⟩))
      ·have:=qX (show zg l.1 l.2.1=false by simpa using h)
       exact za (jX (by omega) ⟨Zy h1,Zy h2,this⟩)
     ·exact za (zr (.inr ⟨rfl,rfl,0,fun hq=>gS h2 hq.2.1⟩))
    ·exact za (zr (.inr ⟨rfl,rfl,0,fun hq=>gS h1 hq.1⟩))
   ·obtain ⟨⟨a0,a1⟩,⟨b0,b1⟩,hab⟩:=hpc 0 (by omega)
    refine zf rfl (ze (kK rfl) (zi (zC (n:=i) hx ?_)))
    refine zi (qH a0 (by show l.1 < _;omega) fun x hx1=>?_)
    have e1:=zjn hx1
    refine zj (fun h1=>?_) (fun h1=>?_)
    ·exact za (jX (by omega) (by show ¬_;grind))
    ·refine zi (qH b0 (by show l.2.1 < _;omega) fun y hy1=>?_)
     have e2:=zjn hy1
     refine zj (fun h2=>?_) (fun h2=>?_)
     ·exact za (zr (.inr ⟨rfl,rfl,1,fun hq=>hq (by grind)⟩))
     ·exact za (jX (by omega) (by show ¬_;grind))
   ·refine zf rfl (zf rfl (ze (kK rfl) (zi (zC (n:=i) hx ?_))))
    refine zi (qf (zun t.2.2 i (by omega)) ?_)
    have lt:(t.2.2.take i).length=i:=by simp;omega
    refine zm (J:=fun x=>(x.1=0∧∀(k:Nat) o,k < i→t.2.2[k]?=some o→¬uY o l.1 l.2.1)∨(x.1=1∧x.2.1.1=false∧∃(k:Nat) (o:wP),k < i∧t.2.2[k]?=some o∧uY o l.1 l.2.1))
     (qM i (fun k=>∀o,t.2.2[k]?=some o→¬uY o l.1 l.2.1) (by omega) ?_ ?_) ?_
    ·intro k hk hpk
     have hy:t.2.2[k]?=some t.2.2[k]:=List.getElem?_eq_getElem (by omega)
     have hy':(t.2.2.take i)[k]?=some t.2.2[k]:=by rw [List.getElem?_take];simp [hk,hy]
     generalize hgo:t.2.2[k]=o at hy hy'
     refine ze (zQ (show (k:Int) < (((t.2.2.take i).length:Nat):Int) by omega)) (zi (zC (n:=k) hy' ?_))
     refine zm (J:=fun x=>(x.1=0∧x.2.1.1=false∧¬uY o l.1 l.2.1)∨(x.1=1∧x.2.1.1=false∧uY o l.1 l.2.1)) ?_ ?_
     ·unfold uY
      repeat' first | refine zj (fun h=>?_) (fun h=>?_) | refine za ?_
      all_goals simp only [jF] at *
      all_goals grind
     ·rintro ⟨j,⟨v,⟨⟩⟩,⟨⟩⟩ (⟨rfl,rfl,hq⟩ | ⟨rfl,rfl,hq⟩)
      ·exact ze rfl (za (jX (by omega) fun o' ho=>by rw [hy] at ho;cases ho;exact hq))
      ·exact zf rfl (za (zr (.inr ⟨rfl,rfl,k,o,hk,hy,hq⟩)))
    ·intro hpk
     exact zf (zJ (show ¬(i:Int) < (((t.2.2.take i).length:Nat):Int) by omega)) (za (zr (.inl ⟨rfl,fun k' o hk'=>hpk k' hk' o⟩)))
    ·rintro ⟨j,⟨v,w,⟨⟩⟩,⟨⟩⟩ (⟨rfl,hq⟩ | ⟨rfl,rfl,k,o,hk,ho,hj⟩)
     ·exact ze rfl (za (jX (by omega) hq))
     ·exact zf rfl (ze rfl (za (zr (.inr ⟨rfl,rfl,2,fun hq=>hq k o hk ho hj⟩))))
   ·refine zf rfl (zf rfl (zf rfl (ze (kK rfl) (zi (zC (n:=i) hx ?_)))))
    refine zj (fun h1=>?_) (fun h1=>?_)
    ·refine zj (fun h2=>?_) (fun h2=>?_)
     ·refine zj (fun h3=>?_) (fun h3=>?_)
      ·refine zj (fun h4=>?_) (fun h4=>?_)
       ·have:=qi (show zh 10000 l.2.2.2=true by simpa using h4)
        exact za (zr (.inr ⟨rfl,rfl,3,fun hq=>by have:=hq.2.2.2;omega⟩))
       ·have:=qz (show zh l.2.2.1 1=false by simpa using h1)
        have:=qz (show zh 1000 l.2.2.1=false by simpa using h2)
        have:=qz (show zh l.2.2.2 0=false by simpa using h3)
        have:=qz (show zh 10000 l.2.2.2=false by simpa using h4)
        exact za (jX (by omega) ⟨by omega,by omega,by omega,by omega⟩)
      ·have:=qi (show zh l.2.2.2 0=true by simpa using h3)
       exact za (zr (.inr ⟨rfl,rfl,3,fun hq=>by have:=hq.2.2.1;omega⟩))
     ·have:=qi (show zh 1000 l.2.2.1=true by simpa using h2)
      exact za (zr (.inr ⟨rfl,rfl,3,fun hq=>by have:=hq.2.1;omega⟩))
    ·have:=qi (show zh l.2.2.1 1=true by simpa using h1)
     exact za (zr (.inr ⟨rfl,rfl,3,fun hq=>by have:=hq.1;omega⟩))
  ·intro hpc
   exact zf (zJ (show ¬((4:Nat):Int) < 4 by omega)) (za (zr (.inl ⟨rfl,rfl,hpc⟩)))
  ·rintro ⟨j,⟨v,w,⟨⟩⟩,⟨⟩⟩ (⟨rfl,rfl,hq⟩ | ⟨rfl,rfl,c,hq⟩)
   ·obtain ⟨c0,c0',c0''⟩:=hq 0 (by omega)
    have c1:=hq 1 (by omega);have c2:=hq 2 (by omega)
    obtain ⟨d1,d2,d3,d4⟩:=hq 3 (by omega)
    exact ze rfl (za (jX (by omega) fun l' hl'=>by rw [hx] at hl';cases hl';exact ⟨⟨c0,c0',c0'',c1,d1,d2,d3,d4⟩,c2⟩))
   ·refine zf rfl (za (zr (.inr ⟨rfl,rfl,fun ht=>hq ?_⟩)))
    obtain ⟨⟨c0,c0',c0'',c1,d1,d2,d3,d4⟩,c2⟩:=ht i l hx
    unfold chk
    split
    ·exact ⟨c0,c0',c0''⟩
    ·exact c1
    ·exact c2
    ·exact ⟨d1,d2,d3,d4⟩
 ·intro hp
  exact zf (zJ (show ¬(t.2.2.length:Int) < (t.2.2.length:Int) by omega)) (za (zr (.inl ⟨rfl,fun i l hl=>hp i (by grind) l hl⟩)))
 ·rintro ⟨j,⟨v,w,⟨⟩⟩,⟨⟩⟩ (⟨rfl,hq⟩ | ⟨rfl,rfl,hq⟩)
  ·exact ze rfl (za ⟨fun _=>hq,fun _=>rfl⟩)
  ·exact zf rfl (za ⟨fun h=>(by cases h),fun h=>absurd h hq⟩)
abbrev zHF:Bool×Bool×Bool×Bool×Bool×Bool×Bool×Bool×Bool×Bool×Bool×Bool×Bool×Bool×Bool×Bool×Bool×Bool×Bool×Bool×Bool×Bool×Bool×Bool:=(false,(false,(false,(false,(false,(false,(false,(false,(false,(false,(false,(false,(false,(false,(false,(false,(false,(false,(false,(false,(false,(false,(false,false)))))))))))))))))))))))
noncomputable def zFT (q:List Bool) (x4:wP):Option (Nat×(Unit×(List Bool×Unit))):=opt (atI q x4.1) fun x5=>
 opt (gl q (Int.toNat x4.1)) fun x6=>
 opt (atI q x4.2.1) fun x7=>
 opt (gl q (Int.toNat x4.2.1)) fun x8=>
 bif (!(x6 == x8)) then opt (atI q x4.1) fun x9=>
  opt (gl q (Int.toNat x4.1)) fun x10=>
  opt (atI (q.set (Int.toNat x4.1) true) x4.2.1) fun x11=>
  opt (gl (q.set (Int.toNat x4.1) true) (Int.toNat x4.2.1)) fun x12=>
  some (0,((),(((q.set (Int.toNat x4.1) true).set (Int.toNat x4.2.1) true),())))
 else some (0,((),(q,())))
theorem zGB {q:List Bool} {l:wP} {n:Nat} (hq:q.length=n) (a0:0≤l.1) (a1:l.1 < n) (b0:0≤l.2.1) (b1:l.2.1 < n):qp (zFT q l) fun x=>x.2.2.1=stp q l:=by
 unfold zFT
 refine zi (qH a0 (by omega) fun _ _=>zi (jy (by omega) fun x hx=>zi (qH b0 (by omega) fun _ _=>zi (jy (by omega) fun y hy=>?_))))
 refine zj (fun h=>?_) (fun h=>?_)
 ·refine zi (qH a0 (by omega) fun _ _=>zi (jy (by omega) fun _ _=>?_))
  refine zi (qH b0 (by simp;omega) fun _ _=>zi (jy (by simp;omega) fun _ _=>?_))
  refine za ?_
  show _=stp q l
  unfold stp
  rw [hx,hy]
  cases x<;>cases y<;>simp at h ⊢
 ·refine za ?_
  show q=stp q l
  unfold stp
  rw [hx,hy]
  cases x<;>cases y<;>simp at h ⊢
  apply List.ext_getElem?
  intro k
  simp only [List.getElem?_set]
  grind
theorem zvi {t:qm} (hs:szP t) (hl:∀(i:Nat) l,t.2.2[i]?=some l→jg t l.1∧jg t l.2.1):Jh (t,0,zHF,())=some (reachS t 0,()):=by
 have h0:=hs.n0;have h1:=hs.n1;have h3:=hs.ls;have h4:=hs.st
 have e1:t.1.toNat=t.2.1.length:=by omega
 rw [zsx];unfold zga
 refine xf ?_
 refine ze (zov (by omega) (by omega) (by omega)) ?_
 refine zi (qH (by omega) (by simp;omega) fun _ _=>zi (jy (by simp;omega) fun _ _=>?_))
 refine zm (J:=fun x=>x.2.2.1=reachS t 0) (zT t.1.toNat (fun i s=>s=(((i:Int),()),(Uu t.2.2 i ((List.replicate t.1.toNat false).set 0 true),()))) (by omega) rfl ?_ ?_) ?_
 ·rintro i _ hi rfl
  refine ze (zQ (show (i:Int) < _ by omega)) ?_
  generalize hr:Uu t.2.2 i ((List.replicate t.1.toNat false).set 0 true)=r
  have hrl:r.length=t.1.toNat:=by rw [←hr,zg6];simp
  refine zm (J:=fun x=>x.2.2.1=t.2.2.foldl stp r) (zT t.2.2.length (fun i s=>s=(((i:Int),()),((t.2.2.take i).foldl stp r,()))) (by omega) rfl ?_ ?_) ?_
  ·rintro k _ hk rfl
   refine ze (zQ (show (k:Int) < _ by omega)) ?_
   have hx:t.2.2[k]?=some t.2.2[k]:=List.getElem?_eq_getElem hk
   obtain ⟨⟨a0,a1⟩,⟨b0,b1⟩⟩:=hl k _ hx
   have hnx:(t.2.2.take (k+1)).foldl stp r=stp ((t.2.2.take k).foldl stp r) t.2.2[k]:=by
    rw [List.take_add_one,hx,List.foldl_append];rfl
   have hlen:((t.2.2.take k).foldl stp r).length=t.1.toNat:=by rw [zg5,hrl]
   generalize (t.2.2.take k).foldl stp r=q at hnx hlen
   generalize t.2.2[k]=l at hx hnx a0 a1 b0 b1
   refine zi (zC (n:=k) hx ?_)
   have key:=zGB hlen a0 (show l.1 < (t.1.toNat:Nat) by omega) b0 (show l.2.1 < (t.1.toNat:Nat) by omega)
   refine zm (J:=fun x=>x.2.2.1=stp q l) ?_ ?_
   ·rcases (by omega:k=0∨k=1∨k=2∨k=3∨k=4∨k=5∨k=6∨k=7∨k=8∨k=9∨k=10∨k=11∨k=12∨k=13∨k=14∨k=15∨k=16∨k=17∨k=18∨k=19∨k=20∨k=21∨k=22∨k=23) with rfl | rfl | rfl | rfl | rfl | rfl | rfl | rfl | rfl | rfl | rfl | rfl | rfl | rfl | rfl | rfl | rfl | rfl | rfl | rfl | rfl | rfl | rfl | rfl
    all_goals exact key
   ·rintro ⟨j,⟨⟩,q',⟨⟩⟩ hq
    refine za (qj ?_)
    simp only at hq
    rw [hnx,←hq]
    exact congrArg (fun z=>(((z,()),(q',())):(Int×Unit)×(List Bool×Unit))) (qu (by omega))
  ·rintro _ rfl
   refine zf (zJ (show ¬(t.2.2.length:Int) < _ by omega)) (za (zr ?_))
   simp
  ·rintro ⟨j,⟨z,⟨⟩⟩,q',⟨⟩⟩ hq
   refine za (qj ?_)
   simp only at hq
   rw [znR,hr,←hq]
   exact congrArg (fun z=>(((z,()),(q',())):(Int×Unit)×(List Bool×Unit))) (qu (by omega))
 ·rintro _ rfl
  exact zf (zJ (show ¬((t.1.toNat:Nat):Int) < _ by omega)) (za (zr rfl))
 ·rintro ⟨j,⟨z,⟨⟩⟩,q',⟨⟩⟩ hq
  exact za hq
theorem zcZ {l:List Bool} (hn:l.length≤1000000000000000000) (b:Bool):qp (yy (l,b,())) fun r=>(0≤r.1∧b∈l)∨(r.1 = -1∧¬b∈l):=by
 rw [zb1];unfold Qk
 refine zm (J:=fun x=>(x.1=0∧¬b∈l)∨(x.1=1∧0≤x.2.1.1∧b∈l)) (qM l.length (fun i=>l[i]?≠some b) hn ?_ ?_) ?_
 ·intro i hi hp
  have hx:l[i]?=some l[i]:=List.getElem?_eq_getElem hi
  refine ze (zQ (show (i:Int) < (l.length:Int) by omega)) (zi (zC (n:=i) hx (zj (fun h=>?_) (fun h=>?_))))
  ·have:b=l[i]:=eq_of_beq h
   exact za (zr (.inr ⟨rfl,by show (0:Int)≤(i:Int);omega,by rw [this];exact List.getElem_mem hi⟩))
  ·exact za (jX (by omega) (by rw [hx];intro e;cases e;simp at h))
 ·intro hp
  refine zf (zJ (show ¬(l.length:Int) < (l.length:Int) by omega)) (za (zr (.inl ⟨rfl,fun hm=>?_⟩)))
  obtain ⟨k,hk⟩:=List.getElem?_of_mem hm
  exact hp k (by grind) hk
 ·rintro ⟨j,⟨v,w,⟨⟩⟩,⟨⟩⟩ (⟨rfl,hp⟩ | ⟨rfl,h0,hp⟩)
  ·exact ze rfl (za (.inr ⟨rfl,hp⟩))
  ·exact zf rfl (za (.inl ⟨h0,hp⟩))
theorem zaG {l:List Bool} (hn:l.length≤1000000000000000000) (b:Bool):wK (l,b,())=some (tv (b∈l),()):=by
 rw [GN];unfold gM
 refine wb (zm (zcZ hn b) ?_)
 rintro ⟨v,⟨⟩⟩ (⟨h,hm⟩ | ⟨rfl,hm⟩)
 ·refine za ⟨fun _=>hm,fun _=>?_⟩
  show (!zh v 0)=true
  rw [zJ (by simp only at h;omega)];rfl
 ·exact za ⟨fun h=>(by cases h),fun h=>absurd h hm⟩
theorem Xj (t:qm):jK (t,())=some (bif tv (jP t) then 0 else 260,()):=by
 have good:∀{v:Int},jP t→v=0→v=bif tv (jP t) then 0 else 260:=fun h e=>by rw [zU h,e];rfl
 have bad:∀{v:Int},¬jP t→v=260→v=bif tv (jP t) then 0 else 260:=fun h e=>by rw [qd h,e];rfl
 rw [zsy];unfold zgb
 refine xf (zm (J:=fun x=>(x.1=0∧x.2.1.1=0∧2≤t.1∧t.1≤12∧(t.2.1.length:Int)=t.1)∨(x.1=1∧x.2.1.1=260∧¬szP t)) ?_ ?_)
 ·refine zj (fun h=>za (.inr ⟨rfl,rfl,fun hs=>?_⟩)) (fun h1=>zj (fun h=>za (.inr ⟨rfl,rfl,fun hs=>?_⟩)) (fun h2=>zj (fun h=>za (.inr ⟨rfl,rfl,fun hs=>?_⟩)) (fun h3=>za (.inl ⟨rfl,rfl,?_⟩))))
  ·have:=qi h;have:=hs.n0;omega
  ·have:=qi h;have:=hs.n1;omega
  ·have:=hs.st;rw [kK this] at h;cases h
  ·have h1:=qz h1;have h2:=qz h2
   exact ⟨h1,h2,qR (by simpa using h3)⟩
 rintro ⟨j,⟨v,⟨⟩⟩,⟨⟩⟩ (⟨rfl,rfl,h1,h2,h3⟩ | ⟨rfl,rfl,hs⟩)
 rotate_left
 ·exact zf rfl (za (bad (zpJ hs) rfl))
 refine ze rfl (zm (J:=fun x=>(x.1=0∧x.2.1.1=0∧szP t∧zdo t)∨(x.1=1∧x.2.1.1=260∧¬jP t)) ?_ ?_)
 ·refine zj (fun h=>za (.inr ⟨rfl,rfl,fun hs=>?_⟩)) (fun h4=>?_)
  ·have:=qi h;have:=hs.sz.ls;omega
  have h4:=qz h4
  have hs:szP t:=⟨h1,h2,h3,by omega⟩
  rw [zvh hs]
  refine zj (fun h=>?_) (fun h=>?_)
  ·exact za (.inr ⟨rfl,rfl,zpK (yn h)⟩)
  ·exact za (.inl ⟨rfl,rfl,hs,xg h⟩)
 rintro ⟨j,⟨v,⟨⟩⟩,⟨⟩⟩ (⟨rfl,rfl,hs,hls⟩ | ⟨rfl,rfl,ht⟩)
 rotate_left
 ·exact zf rfl (za (bad ht rfl))
 have h5:=hs.ls
 refine ze rfl (ze (zov (by omega) (by omega) (by omega)) ?_)
 refine zm (J:=fun x=>x.2.2.1=vo t t.2.2.length) (zT t.2.2.length (fun i s=>s=(((i:Int),()),(vo t i,()))) (by omega) (by rw [zDO];rfl) ?_ ?_) ?_
 ·rintro i _ hi rfl
  have hx:t.2.2[i]?=some t.2.2[i]:=List.getElem?_eq_getElem hi
  refine ze (zQ (show (i:Int) < (t.2.2.length:Int) by omega)) (zi (zC (n:=i) hx ?_))
  generalize t.2.2[i]=l at hx
  have hl:=(hls i l hx).1
  obtain ⟨⟨a0,a1⟩,⟨b0,b1⟩⟩:=hl.nodes
  have lc:=Yf t i
  refine zi (qH a0 (by show _ < (((vo t i).length:Nat):Int);omega) fun _ _=>zi (jy (by show _ < (vo t i).length;omega) fun u hu=>zi (qH a0 (by show _ < (((vo t i).length:Nat):Int);omega) fun _ _=>zi (jy (by show _ < (vo t i).length;omega) fun _ _=>?_))))
  refine zi (qH b0 (by show _ < ((((vo t i).set _ _).length:Nat):Int);simp;omega) fun _ _=>zi (jy (by show _ < ((vo t i).set _ _).length;simp;omega) fun w hw=>zi (qH b0 (by show _ < ((((vo t i).set _ _).length:Nat):Int);simp;omega) fun _ _=>zi (jy (by show _ < ((vo t i).set _ _).length;simp;omega) fun _ _=>?_))))
  refine za (qj ?_)
  have e:=zv9 hx hs.ls hl.1 hl.2.1 hl.2.2.1 hu hw
  show (((wrF .i64 ((i:Int)+1)),()),((((vo t i).set l.1.toNat (wrF .i64 (u+1))).set l.2.1.toNat (wrF .i64 (w+1))),()))=_
  rw [e,qu (by omega)]
 ·rintro _ rfl
  exact zf (zJ (show ¬(t.2.2.length:Int) < (t.2.2.length:Int) by omega)) (za (zr rfl))
 rintro ⟨j,⟨z,⟨⟩⟩,c,⟨⟩⟩ hc
 simp only at hc
 subst hc
 refine zm (J:=fun x=>(x.1=0∧∀(n:Nat),(n:Int) < t.1→stn t n=true→1≤cnt t.2.2 n∧cnt t.2.2 n≤2)∨(x.1=1∧x.2.1.1=260∧¬jP t)) (qM t.2.1.length (fun n=>stn t n=true→1≤cnt t.2.2 n∧cnt t.2.2 n≤2) (by omega) ?_ ?_) ?_
 ·intro n hn hp
  have hst:t.2.1[n]?=some t.2.1[n]:=List.getElem?_eq_getElem (by omega)
  have e1:=zDL hst
  have hn':n < t.1.toNat:=by omega
  have e2:=zzQ t hn'
  refine ze (zQ (show (n:Int) < (t.2.1.length:Int) by omega)) (zi (zC (n:=n) hst ?_))
  refine zm (J:=fun x=>(x.1=0∧x.2.1.1=0∧(stn t n=true→1≤cnt t.2.2 n∧cnt t.2.2 n≤2))∨(x.1=1∧x.2.1.1=260∧¬jP t)) (zj (fun h5=>?_) (fun h5=>?_)) ?_
  ·refine zi (zC (n:=n) e2 (zi (jy (by show n < _;rw [Yf];exact hn') fun u hu=>?_)))
   have hu:u=cnt t.2.2 n:=by have hu:(vo t t.2.2.length)[n]?=some u:=hu;rw [e2] at hu;exact (Option.some.inj hu).symm
   subst hu
   refine zj (fun h6=>?_) (fun h6=>?_)
   ·have:=qi h6
    exact za (.inr ⟨rfl,rfl,fun ht=>by have:=ht.ct n (by omega) (by grind);omega⟩)
   refine zi (zC (n:=n) e2 (zi (jy (by show n < _;rw [Yf];exact hn') fun u hu=>?_)))
   have hu:u=cnt t.2.2 n:=by have hu:(vo t t.2.2.length)[n]?=some u:=hu;rw [e2] at hu;exact (Option.some.inj hu).symm
   subst hu
   refine zj (fun h7=>?_) (fun h7=>?_)
   ·have:=qi h7
    exact za (.inr ⟨rfl,rfl,fun ht=>by have:=ht.ct n (by omega) (by grind);omega⟩)
   ·have:=qz h6;have:=qz h7
    exact za (.inl ⟨rfl,rfl,fun _=>⟨by omega,by omega⟩⟩)
  ·exact za (.inl ⟨rfl,rfl,fun hc=>by grind⟩)
  ·rintro ⟨j,⟨v,⟨⟩⟩,⟨⟩⟩ (⟨rfl,rfl,hq⟩ | ⟨rfl,rfl,hq⟩)
   ·exact ze rfl (za (jX (by omega) hq))
   ·exact zf rfl (za (zr (.inr ⟨rfl,rfl,hq⟩)))
 ·intro hp
  exact zf (zJ (show ¬(t.2.1.length:Int) < (t.2.1.length:Int) by omega)) (za (zr (.inl ⟨rfl,fun n hn=>hp n (by omega)⟩)))
 rintro ⟨j,⟨v,w,⟨⟩⟩,⟨⟩⟩ (⟨rfl,hct⟩ | ⟨rfl,rfl,hq⟩)
 rotate_left
 ·exact zf rfl (za (bad hq rfl))
 have hrl:(reachS t 0).length=t.1.toNat:=by unfold reachS;rw [zg6];simp
 refine ze rfl ?_
 rw [show Jh (t,0,_,())=some (reachS t 0,()) from zvi hs (fun i l hl=>(hls i l hl).1.nodes),zw]
 rw [zaG (by show (reachS t 0).length≤_;omega),zw]
 refine zj (fun h=>?_) (fun h=>?_)
 ·refine za (bad (fun ht=>?_) rfl)
  obtain ⟨k,hk⟩:=List.getElem?_of_mem (Zy h)
  have:=ht.re k (by grind)
  rw [this] at hk;cases hk
 ·refine za (good ⟨hs,hls,fun n hn=>?_,hct⟩ rfl)
  have hr:(reachS t 0)[n]?=some (reachS t 0)[n]:=List.getElem?_eq_getElem (by omega)
  rw [hr]
  cases e:(reachS t 0)[n] with
  |true=>rfl
  |false=>exact absurd (by rw [←e];exact List.getElem_mem _) (gS h)
def wa (t:qm) (p:Int):Prop:=0≤p∧p < 2*(t.2.2.length:Int)
def lnk (t:qm) (p:Int):wP:=(t.2.2[p.toNat / 2]?).getD (0,0,0,0)
def frm (t:qm) (p:Int):Int:=if p % 2=1 then (lnk t p).2.1 else (lnk t p).1
def too (t:qm) (p:Int):Int:=if p % 2=1 then (lnk t p).1 else (lnk t p).2.1
theorem znS {p:Int} (h:0≤p) (h2:p≤1000000000000000000):wrF .i64 (Int.tdiv p 2)=((p.toNat / 2:Nat):Int):=by
 rw [Int.tdiv_eq_ediv_of_nonneg h,zE (by omega) (by omega)];omega
theorem par {p:Int} (h:0≤p):Int.tmod p 2=p % 2:=Int.tmod_eq_emod_of_nonneg h
theorem Xk {t:qm} {p:Int} (h:wa t p):t.2.2[p.toNat / 2]?=some (lnk t p):=by
 have:=h.1;have:=h.2
 have hx:t.2.2[p.toNat / 2]?=some (t.2.2[p.toNat / 2]'(by omega)):=List.getElem?_eq_getElem (by omega)
 unfold lnk;rw [hx];rfl
theorem tw (t:qm) (h:t.2.2.length≤1000000000000000):wrF .i64 (2*(t.2.2.length:Int))=2*(t.2.2.length:Int):=zE (by omega) (by omega)
theorem zah {t:qm} (hl:zdo t) {p:Int} (h:wa t p):jg t (frm t p)∧jg t (too t p)∧frm t p≠too t p:=by
 have:=(hl _ _ (Xk h)).1
 have h1:=this.1;have h2:=this.2.1;have h3:=this.2.2.1
 unfold frm too
 split
 ·exact ⟨h2,h1,fun e=>h3 e.symm⟩
 ·exact ⟨h1,h2,h3⟩
theorem zvj {t:qm} (h:t.2.2.length≤1000000000000000) (p:Int):YM (t,p,())=some (tv (wa t p),()):=by
 rw [zsp];unfold zf2 wa
 refine wb (zj (fun h=>?_) (fun h=>?_))<;>refine za ?_<;>simp only [xz] at *
 ·have:=tw t ‹_›;grind
 ·grind
theorem QP {t:qm} (h:t.2.2.length≤1000000000000000) {p:Int} (hp:wa t p):ju (t,p,())=some (frm t p,()):=by
 have:=hp.1;have:=hp.2
 rw [zsj];unfold zfW
 simp only [znS hp.1 (by omega),par hp.1,jx (Xk hp),zw,jF]
 unfold frm
 by_cases e:p % 2=1
 ·simp [e]
 ·have e2:(p % 2 == 1)=false:=by simpa using e
  rw [e2,if_neg e];rfl
theorem Jw {t:qm} (h:t.2.2.length≤1000000000000000) {p:Int} (hp:wa t p):yk (t,p,())=some (too t p,()):=by
 have:=hp.1;have:=hp.2
 rw [zwx];unfold zkb
 simp only [znS hp.1 (by omega),par hp.1,jx (Xk hp),zw,jF]
 unfold too
 by_cases e:p % 2=1
 ·simp [e]
 ·have e2:(p % 2 == 1)=false:=by simpa using e
  rw [e2,if_neg e];rfl
theorem zxr {t:qm} (h:t.2.2.length≤1000000000000000) {p:Int} (hp:wa t p):Vy (t,p,())=some ((lnk t p).2.2.1,()):=by
 have:=hp.1;have:=hp.2
 rw [zuT];unfold zik
 simp only [znS hp.1 (by omega),jx (Xk hp),zw]
theorem ztr {t:qm} (h:t.2.2.length≤1000000000000000) {p:Int} (hp:wa t p):Wn (t,p,())=some ((lnk t p).2.2.2,()):=by
 have:=hp.1;have:=hp.2
 rw [zrd];unfold zeF
 simp only [znS hp.1 (by omega),jx (Xk hp),zw]
theorem zkF {t:qm} (h:t.2.2.length≤1000000000000000) {p:Int} (hp:wa t p):zh p 0=false∧(!zh p (wrF .i64 (2*(t.2.2.length:Int))))=false:=by
 have:=hp.1;have:=hp.2
 rw [tw t h,zJ (by omega),zQ (by omega)];simp
theorem zzR {t:qm} (ht:jP t) {p:Int} (hp:wa t p):vj (t,p,())=some ((lnk t p).2.2.1,0,()):=by
 have hl:t.2.2.length≤1000000000000000:=by have:=ht.sz.ls;omega
 have:=hp.1;have:=hp.2
 obtain ⟨e1,e2⟩:=zkF hl hp
 rw [zwS];unfold zkk
 simp only [Xj,zw,zU ht,cond_true,kK,Bool.not_true,cond_false,e1,e2,znS hp.1 (show p≤1000000000000000000 by omega),jx (Xk hp),zoP,zcP]
 rfl
theorem zvk {t:qm} (ht:jP t) {p:Int} (hp:wa t p):Ju (t,p,())=some ((lnk t p).2.2.2,0,()):=by
 have hl:t.2.2.length≤1000000000000000:=by have:=ht.sz.ls;omega
 have:=hp.1;have:=hp.2
 obtain ⟨e1,e2⟩:=zkF hl hp
 rw [zs7];unfold zgL
 simp only [Xj,zw,zU ht,cond_true,kK,Bool.not_true,cond_false,e1,e2,znS hp.1 (show p≤1000000000000000000 by omega),jx (Xk hp),zlR,zac]
 rfl
def zV (t:qm) (r:List Int):List Int:=match r with
 |[]=>[]
 |p::_=>frm t p::r.map (too t)
theorem ZN (t:qm) {r:List Int} (h:r≠[]):(zV t r).length=r.length+1:=by
 cases r with
 |nil=>exact absurd rfl h
 |cons p r=>simp [zV]
theorem zvl (t:qm) {r:List Int} {p:Int} (h:r[0]?=some p):(zV t r)[0]?=some (frm t p):=by
 cases r with
 |nil=>cases h
 |cons q r=>simp at h;subst h;rfl
theorem WV (t:qm) {r:List Int} {i:Nat} {p:Int} (h:r[i]?=some p):(zV t r)[i+1]?=some (too t p):=by
 cases r with
 |nil=>cases h
 |cons q r=>simp only [zV,List.getElem?_cons_succ,List.getElem?_map,h,Option.map_some]
theorem zbT {t:qm} (h:t.2.2.length≤1000000000000000) {r:List Int} (h0:r≠[]) (h8:r.length≤8) (hp:∀p∈r,wa t p):uF (t,r,())=some (zV t r,()):=by
 have hl:0 < r.length:=List.length_pos_iff.2 h0
 have hx0:r[0]?=some r[0]:=List.getElem?_eq_getElem hl
 rw [zqn];unfold zd1
 refine xf (zi (zC (n:=0) hx0 ?_))
 rw [QP h (hp _ (List.getElem_mem hl)),zw]
 refine zm (J:=fun x=>x.2.2.1=zV t r) (zT r.length (fun i s=>s=(((i:Int),()),((zV t r).take (i+1),()))) (by omega) ?_ ?_ ?_) ?_
 ·have:=zvl t hx0
  have e:(zV t r).take 1=[frm t r[0]]:=by
   rw [show (1:Nat)=0+1 from rfl,List.take_add_one,this];simp
  rw [show (0:Nat)+1=1 from rfl,e];rfl
 ·rintro i _ hi rfl
  have hx:r[i]?=some r[i]:=List.getElem?_eq_getElem hi
  refine ze (zQ (show (i:Int) < (r.length:Int) by omega)) (zi (zC (n:=i) hx ?_))
  rw [Jw h (hp _ (List.getElem_mem hi)),zw]
  have hl:=ZN t h0
  refine ze (yx (by show (((zV t r).take (i+1)).length+1)*8≤_;simp;omega) (by show ((zV t r).take (i+1)).length+1≤_;simp;omega)) ?_
  refine za (qj ?_)
  have e:(zV t r).take (i+1+1)=(zV t r).take (i+1)++[too t r[i]]:=by
   rw [List.take_add_one,WV t hx];rfl
  rw [e,←qu (by omega)]
 ·rintro _ rfl
  refine zf (zJ (show ¬(r.length:Int) < (r.length:Int) by omega)) (za (zr ?_))
  show (zV t r).take (r.length+1)=_
  rw [List.take_of_length_le (by rw [ZN t h0];omega)]
 ·rintro ⟨j,⟨z,⟨⟩⟩,c,⟨⟩⟩ hc
  exact za hc
theorem Vk {t:qm} (h:t.2.2.length≤1000000000000000) {r:List Int} (h0:r≠[]) (h8:r.length≤8) (hp:∀p∈r,wa t p):yO (t,r,())=some (zV t r,()):=by
 rw [zi1];unfold Kt
 rw [show wrF .i64 ((r.length:Int)+1)=(r.length:Int)+1 from zE (by omega) (by omega)]
 refine xf (ze (zov (by omega) (by omega) (by omega)) ?_)
 refine zm (J:=fun x=>x.2.2.1.1=zV t r) (zT r.length (fun i s=>s=(((i:Int),()),((((zV t r).take (if i=0 then 0 else i+1)),()),((),((),()))))) (by omega) rfl ?_ ?_) ?_
 ·rintro i _ hi rfl
  have hx:r[i]?=some r[i]:=List.getElem?_eq_getElem hi
  have hpi:=hp _ (List.getElem_mem hi)
  generalize r[i]=p at hx hpi
  have:=hpi.1;have:=hpi.2
  refine ze (zQ (show (i:Int) < (r.length:Int) by omega)) (zi (zC (n:=i) hx ?_))
  obtain ⟨e1,e2⟩:=zkF h hpi
  refine zf e1 (zf e2 ?_)
  rw [znS hpi.1 (by omega),jx (Xk hpi),zw]
  refine zm (J:=fun x=>x.2.1.1.2.1=frm t p∧x.2.1.1.2.2=too t p) ?_ ?_
  ·rw [par hpi.1]
   unfold frm too
   refine zj (fun h=>?_) (fun h=>?_)
   ·have:=qR h
    exact za (by simp [this])
   ·have:=qX h
    exact za (by simp [this])
  rintro ⟨j,⟨⟨u,v,w⟩,⟨⟩⟩,⟨⟩,⟨⟩,⟨⟩⟩ ⟨rfl,rfl⟩
  have hl:=ZN t h0
  refine zm (J:=fun x=>x.2.2.1.1=(zV t r).take (i+1)) (zj (fun h=>?_) (fun h=>?_)) ?_
  ·have:=qR h
   have hi0:i=0:=by simp only at this;omega
   subst hi0
   refine ze (yx (by simp) (by simp)) (za ?_)
   show List.take 0 (zV t r)++[frm t p]=_
   rw [List.take_add_one,zvl t hx];rfl
  ·have:=qX h
   have hi0:i≠0:=by intro e;apply this;simp only [e];rfl
   exact za (by show (zV t r).take (if i=0 then 0 else i+1)=_;rw [if_neg hi0])
  ·rintro ⟨j,⟨⟩,⟨⟨c,⟨⟩⟩,⟨⟩,⟨⟩⟩⟩ hc
   simp only at hc
   subst hc
   refine ze (yx (by show (((zV t r).take (i+1)).length+1)*8≤_;simp;omega) (by show ((zV t r).take (i+1)).length+1≤_;simp;omega)) (za (qj ?_))
   have e:(zV t r).take (i+1+1)=(zV t r).take (i+1)++[too t p]:=by
    rw [List.take_add_one,WV t hx];rfl
   have e2:(if i+1=0 then 0 else i+1+1)=i+1+1:=if_neg (by omega)
   rw [e2,e,←qu (by omega)]
 ·rintro _ rfl
  refine zf (zJ (show ¬(r.length:Int) < (r.length:Int) by omega)) (za (zr ?_))
  have:r.length≠0:=fun e=>h0 (List.length_eq_zero_iff.1 e)
  show (zV t r).take (if r.length=0 then 0 else r.length+1)=_
  rw [if_neg this,List.take_of_length_le (by rw [ZN t h0];omega)]
 ·rintro ⟨j,⟨z,⟨⟩⟩,⟨c,⟨⟩⟩,⟨⟩,⟨⟩,⟨⟩⟩ hc
  exact za hc
def zFU (t:qm) (r:List Int) (i:Nat) (p:Int):Prop:=¬too t p∈(zV t r).take (i+1)∧(0 < i→∀n,(zV t r)[i]?=some n→stn t n=false∧frm t p=n)
structure qV (t:qm) (r:List Int):Prop where
 n0:1≤r.length
 n1:r.length≤8
 pt:∀p∈r,wa t p
 st:∀(i:Nat) p,r[i]?=some p→zFU t r i p
theorem qV.ne {t:qm} {r:List Int} (h:qV t r):r≠[]:=by
 intro e;have:=h.n0;rw [e] at this;simp at this
theorem jP.ll {t:qm} (h:jP t):t.2.2.length≤1000000000000000:=by have:=h.sz.ls;omega
theorem zGC {t:qm} (ht:jP t) {r:List Int} (hp:∀p∈r,wa t p):∀n∈zV t r,jg t n:=by
 intro n hn
 cases r with
 |nil=>cases hn
 |cons q r=>
  simp only [zV,List.mem_cons,List.mem_map] at hn
  rcases hn with rfl | ⟨p,hp',rfl⟩
  ·exact (zah ht.ls (hp q (by simp))).1
  ·exact (zah ht.ls (hp p (by simpa using hp'))).2.1
theorem jg.get {t:qm} (hs:szP t) {n:Int} (h:jg t n):t.2.1[n.toNat]?=some (stn t n):=by
 have hx:t.2.1[n.toNat]?=some (t.2.1[n.toNat]'(h.lt hs)):=List.getElem?_eq_getElem (h.lt hs)
 rw [hx,zjn hx]
theorem zhP {t:qm} (ht:jP t) (r:List Int):vG (t,r,())=some (tv (qV t r),()):=by
 have hll:=ht.ll
 rw [zqo];unfold zd2
 refine wb (zm (J:=fun x=>(x.1=0∧x.2.1.1=false∧1≤r.length∧r.length≤8)∨(x.1=1∧x.2.1.1=false∧¬qV t r)) ?_ ?_)
 ·refine zj (fun h=>za (.inr ⟨rfl,rfl,fun hs=>?_⟩)) (fun h1=>zj (fun h=>za (.inr ⟨rfl,rfl,fun hs=>?_⟩)) (fun h2=>za (.inl ⟨rfl,rfl,?_⟩)))
  ·have:=qi h;have:=hs.n0;omega
  ·have:=qi h;have:=hs.n1;omega
  ·have h1:=qz h1;have h2:=qz h2;omega
 rintro ⟨j,⟨v,⟨⟩⟩,⟨⟩⟩ (⟨rfl,rfl,h1,h8⟩ | ⟨rfl,rfl,hq⟩)
 rotate_left
 ·exact zf rfl (za ⟨fun h=>(by cases h),fun h=>absurd h hq⟩)
 refine ze rfl (zm (J:=fun x=>(x.1=0∧x.2.1.1=false∧∀p∈r,wa t p)∨(x.1=1∧x.2.1.1=false∧¬qV t r)) (qM r.length (fun i=>∀p,r[i]?=some p→wa t p) (by omega) ?_ ?_) ?_)
 ·intro i hi hp
  have hx:r[i]?=some r[i]:=List.getElem?_eq_getElem hi
  refine ze (zQ (show (i:Int) < (r.length:Int) by omega)) (zi (zC (n:=i) hx ?_))
  rw [zvj hll]
  refine zj (fun h=>?_) (fun h=>?_)
  ·exact za (zr (.inr ⟨rfl,rfl,fun hr=>yn h (hr.pt _ (List.getElem_mem hi))⟩))
  ·exact za (jX (by omega) fun p hp=>by rw [hx] at hp;cases hp;exact xg h)
 ·intro hp
  refine zf (zJ (show ¬(r.length:Int) < (r.length:Int) by omega)) (za (zr (.inl ⟨rfl,rfl,fun p hm=>?_⟩)))
  obtain ⟨k,hk⟩:=List.getElem?_of_mem hm
  exact hp k (by grind) p hk
 rintro ⟨j,⟨v,w,⟨⟩⟩,⟨⟩⟩ (⟨rfl,rfl,hpt⟩ | ⟨rfl,rfl,hq⟩)
 rotate_left
 ·exact zf rfl (za ⟨fun h=>(by cases h),fun h=>absurd h hq⟩)
 have hne:r≠[]:=by intro e;rw [e] at h1;simp at h1
 have hnl:=ZN t hne
 have hnP:=zGC ht hpt
 refine ze rfl ?_
 rw [zbT hll hne h8 hpt,zw]
 refine zm (J:=fun x=>(x.1=0∧qV t r)∨(x.1=1∧x.2.1.1=false∧¬qV t r)) (qM (zV t r).length (fun i=>(∀n,(zV t r)[i]?=some n→¬n∈(zV t r).take i)∧∀p,r[i]?=some p→0 < i→∀n,(zV t r)[i]?=some n→stn t n=false∧frm t p=n) (by omega) ?_ ?_) ?_
 ·intro i hi hp
  have hx:(zV t r)[i]?=some (zV t r)[i]:=List.getElem?_eq_getElem hi
  have hn:=hnP _ (List.getElem_mem hi)
  generalize (zV t r)[i]=n at hx hn
  refine ze (zQ (show (i:Int) < ((zV t r).length:Int) by omega)) (zi (qf (zun (zV t r) i (by omega)) (zi (zC (n:=i) hx ?_))))
  rw [zbS (by simp;omega)]
  refine zj (fun h=>?_) (fun h=>?_)
  ·refine za (zr (.inr ⟨rfl,rfl,fun hr=>?_⟩))
   have hm:=Zy h
   cases i with
   |zero=>simp at hm
   |succ i=>
    have hy:r[i]?=some r[i]:=List.getElem?_eq_getElem (by omega)
    have e:=WV t hy
    rw [hx] at e
    have:=(hr.st i _ hy).1
    rw [←Option.some.inj e] at this
    exact this hm
  have hin:=gS h
  refine zm (J:=fun x=>(x.1=0∧x.2.1.1=false∧∀p,r[i]?=some p→0 < i→stn t n=false∧frm t p=n)∨(x.1=1∧x.2.1.1=false∧¬qV t r)) ?_ ?_
  ·refine zj (fun h2=>?_) (fun h2=>?_)
   ·have h2:=qi (show zh 0 (i:Int)=true from h2)
    refine zj (fun h3=>?_) (fun h3=>?_)
    ·have h3:=qi (show zh (i:Int) (r.length:Int)=true from h3)
     have hy:r[i]?=some r[i]:=List.getElem?_eq_getElem (by omega)
     have hpy:=hpt _ (List.getElem_mem (show i < r.length by omega))
     generalize r[i]=p at hy hpy
     refine zi (zC (n:=i) hx (zi (qf (a:=stn t n) (by rw [show n=((n.toNat:Nat):Int) from (by have:=hn.1;omega),jx (n:=n.toNat)];exact hn.get ht.sz) ?_)))
     refine zj (fun h4=>?_) (fun h4=>?_)
     ·refine za (.inr ⟨rfl,rfl,fun hr=>?_⟩)
      have:=((hr.st i p hy).2 (by omega) n hx).1
      rw [this] at h4;cases h4
     ·refine zi (zC (n:=i) hy ?_)
      rw [QP hll hpy,zw]
      refine zi (zC (n:=i) hx (zj (fun h5=>?_) (fun h5=>?_)))
      ·refine za (.inr ⟨rfl,rfl,fun hr=>?_⟩)
       have:=((hr.st i p hy).2 (by omega) n hx).2
       rw [kK this] at h5;cases h5
      ·have:=qR (show zg (frm t p) n=true by simpa using h5)
       exact za (.inl ⟨rfl,rfl,fun p' hp' _=>by rw [hy] at hp';cases hp';exact ⟨h4,this⟩⟩)
    ·have h3:=qz (show zh (i:Int) (r.length:Int)=false from h3)
     exact za (.inl ⟨rfl,rfl,fun p hp=>by rw [List.getElem?_eq_none (by omega)] at hp;cases hp⟩)
   ·have h2:=qz (show zh 0 (i:Int)=false from h2)
    exact za (.inl ⟨rfl,rfl,fun p hp h0=>by omega⟩)
  ·rintro ⟨j,⟨v,⟨⟩⟩,⟨⟩⟩ (⟨rfl,rfl,hq⟩ | ⟨rfl,rfl,hq⟩)
   ·exact ze rfl (za (jX (by omega) ⟨fun m hm=>by rw [hx] at hm;cases hm;exact hin,fun p hp h0 m hm=>by rw [hx] at hm;cases hm;exact hq p hp h0⟩))
   ·exact zf rfl (za (zr (.inr ⟨rfl,rfl,hq⟩)))
 ·intro hp
  refine zf (zJ (show ¬((zV t r).length:Int) < ((zV t r).length:Int) by omega)) (za (zr (.inl ⟨rfl,h1,h8,hpt,fun i p hi=>⟨?_,fun h0 n hn=>?_⟩⟩)))
  ·have hil:i < r.length:=by grind
   exact (hp (i+1) (by omega)).1 _ (WV t hi)
  ·have hil:i < r.length:=by grind
   exact (hp i (by omega)).2 p hi h0 n hn
 ·rintro ⟨j,⟨v,w,⟨⟩⟩,⟨⟩⟩ (⟨rfl,hq⟩ | ⟨rfl,rfl,hq⟩)
  ·exact ze rfl (za ⟨fun _=>hq,fun _=>rfl⟩)
  ·exact zf rfl (za ⟨fun h=>(by cases h),fun h=>absurd h hq⟩)
def zbU (t:qm) (r:List Int) (i:Nat):List Bool:=(List.range 12).map fun n=>decide (((n:Nat):Int)∈(zV t r).take (if i=0 then 0 else i+1))
theorem zFt (t:qm) (r:List Int) (i:Nat):(zbU t r i).length=12:=by simp [zbU]
def atS (t:qm) (r:List Int) (i:Nat):Int:=if i=0 then 0 else ((zV t r)[i]?).getD 0
theorem zwa {f g:Nat→Bool} (h:∀n,n < 12→f n=g n):(List.range 12).map f=(List.range 12).map g:=List.map_congr_left fun n hn=>h n (List.mem_range.1 hn)
theorem zwb {f:Nat→Bool} {k:Nat} (hk:k < 12):((List.range 12).map f).set k true=(List.range 12).map fun n=>(f n||n == k):=by
 apply List.ext_getElem?
 intro n
 rw [List.getElem?_set]
 by_cases h:n < 12
 ·by_cases e:k=n
  ·subst e;simp [h]
  ·have:(n == k)=false:=by simp;omega
   simp [h,e,this]
 ·rw [List.getElem?_eq_none (by simp;omega),List.getElem?_eq_none (by simp;omega)]
  split<;>simp<;>omega
theorem zbV {t:qm} (ht:jP t) (r:List Int):yR (t,r,())=some (tv (qV t r),()):=by
 have hll:=ht.ll
 have n1:=ht.sz.n1
 rw [zi2];unfold Ku
 refine wb (zm (J:=fun x=>(x.1=0∧x.2.1.1=false∧1≤r.length∧r.length≤8)∨(x.1=1∧x.2.1.1=false∧¬qV t r)) ?_ ?_)
 ·refine zj (fun h=>za (.inr ⟨rfl,rfl,fun hs=>?_⟩)) (fun h1=>zj (fun h=>za (.inr ⟨rfl,rfl,fun hs=>?_⟩)) (fun h2=>za (.inl ⟨rfl,rfl,?_⟩)))
  ·have:=qi h;have:=hs.n0;omega
  ·have:=qi h;have:=hs.n1;omega
  ·have h1:=qz h1;have h2:=qz h2;omega
 rintro ⟨j,⟨v,⟨⟩⟩,⟨⟩⟩ (⟨rfl,rfl,h1,h8⟩ | ⟨rfl,rfl,hq⟩)
 rotate_left
 ·exact zf rfl (za ⟨fun h=>(by cases h),fun h=>absurd h hq⟩)
 have hne:r≠[]:=by intro e;rw [e] at h1;simp at h1
 have hnl:=ZN t hne
 refine ze rfl (zm (J:=fun x=>(x.2.1.2.1=(r.length:Int)∧qV t r)∨(x.2.1.2.1 < (r.length:Int)∧¬qV t r))
  (zT r.length (fun i s=>s=((atS t r i,((i:Int),((i:Int),()))),(zbU t r i,((),((),()))))∧∀(k:Nat),k < i→∀p,r[k]?=some p→wa t p∧zFU t r k p) (by omega) ⟨rfl,fun k hk=>by omega⟩ ?_ ?_) ?_)
 ·rintro i _ hi ⟨rfl,hp⟩
  have hx:r[i]?=some r[i]:=List.getElem?_eq_getElem hi
  have hmem:=List.getElem_mem hi
  generalize r[i]=p at hx hmem
  have bad:∀{x:Nat×((Int×(Int×(Int×Unit)))×(List Bool×(Unit×(Unit×Unit))))},x.2.1.2.1=(i:Int)→¬qV t r→(x.2.1.2.1=(r.length:Int)∧qV t r)∨(x.2.1.2.1 < (r.length:Int)∧¬qV t r):=fun e hq=>.inr ⟨by rw [e];omega,hq⟩
  refine ze (zQ (show (i:Int) < (r.length:Int) by omega)) (zi (zC (n:=i) hx ?_))
  refine zj (fun h=>za (zr (bad rfl fun hr=>?_))) (fun hp0=>zj (fun h=>za (zr (bad rfl fun hr=>?_))) (fun hp1=>?_))
  ·have:=qi h;have:=(hr.pt p hmem).1;omega
  ·have:=hr.pt p hmem
   rw [(zkF hll this).2] at h;cases h
  have hpi:wa t p:=by
   have:=qz hp0
   rw [tw t hll] at hp1
   have:=qi (show zh p (2*(t.2.2.length:Int))=true by simpa using hp1)
   exact ⟨by omega,by omega⟩
  have:=hpi.1;have:=hpi.2
  obtain ⟨⟨f0,f1⟩,⟨g0,g1⟩,hfg⟩:=zah ht.ls hpi
  rw [znS hpi.1 (by omega),jx (Xk hpi),zw]
  refine zm (J:=fun x=>x.1=0∧x.2.1.1.2.1=frm t p∧x.2.1.1.2.2=too t p) ?_ ?_
  ·rw [par hpi.1]
   unfold frm too
   refine zj (fun h=>?_) (fun h=>?_)
   ·have:=qR h
    exact za (by simp [this])
   ·have:=qX h
    exact za (by simp [this])
  rintro ⟨j,⟨⟨u,v,w⟩,⟨⟩⟩,⟨⟩,⟨⟩,⟨⟩⟩ ⟨rfl,rfl,rfl⟩
  have hsl:=zFt t r i
  have htk:(zV t r).take (i+1+1)=(zV t r).take (i+1)++[too t p]:=by
   rw [List.take_add_one,WV t hx];rfl
  refine ze rfl (zm (J:=fun x=>(x.1=0∧x.2.2.1=(List.range 12).map (fun n=>decide (((n:Nat):Int)∈(zV t r).take (i+1)))∧(0 < i→∀n,(zV t r)[i]?=some n→stn t n=false∧frm t p=n))∨(x.1=1∧¬qV t r)) (zj (fun h=>?_) (fun h=>?_)) ?_)
  ·have h0:=qR (show zg (i:Int) 0=true from h)
   have hi0:i=0:=by omega
   subst hi0
   refine ze (zQ (show frm t p < 12 by omega)) (zi (qH f0 (by show frm t p < (((zbU t r 0).length:Nat):Int);omega) fun _ _=>zi (jy (by show (frm t p).toNat < (zbU t r 0).length;omega) fun _ _=>?_)))
   refine za (.inl ⟨rfl,?_,fun h=>by omega⟩)
   show (zbU t r 0).set (frm t p).toNat true=_
   unfold zbU
   rw [zwb (by omega)]
   refine zwa fun n hn=>?_
   rw [List.take_add_one,zvl t hx]
   simp only [if_true,List.take_zero,List.nil_append,Option.toList,List.mem_singleton,List.not_mem_nil,decide_false,Bool.false_or]
   rw [Bool.eq_iff_iff];simp only [beq_iff_eq,decide_eq_true_eq];omega
  ·have h0:=qX (show zg (i:Int) 0=false from h)
   have hi0:i≠0:=fun e=>h0 (by rw [e];rfl)
   have hxn:(zV t r)[i]?=some (zV t r)[i]:=List.getElem?_eq_getElem (by omega)
   have hat:atS t r i=(zV t r)[i]:=by unfold atS;rw [if_neg hi0,hxn];rfl
   have hn:jg t (zV t r)[i]:=by
    obtain ⟨m,rfl⟩:∃m,i=m+1:=⟨i - 1,by omega⟩
    have hy:r[m]?=some r[m]:=List.getElem?_eq_getElem (by omega)
    have e:=WV t hy
    rw [hxn] at e
    rw [Option.some.inj e]
    exact (zah ht.ls (hp m (by omega) _ hy).1).2.1
   generalize (zV t r)[i]=n at hxn hat hn
   refine zj (fun h2=>?_) (fun h2=>?_)
   ·refine za (.inr ⟨rfl,fun hr=>?_⟩)
    have:=((hr.st i p hx).2 (by omega) n hxn).2
    have h2':(!zg (frm t p) (atS t r i))=true:=h2
    rw [hat,kK this] at h2';cases h2'
   ·have h2':(!zg (frm t p) (atS t r i))=false:=h2
    have e1:=qR (show zg (frm t p) (atS t r i)=true by simpa using h2')
    refine zi (qf (a:=stn t n) (by show atI t.2.1 (atS t r i)=_;rw [hat,show n=((n.toNat:Nat):Int) from (by have:=hn.1;omega),jx (n:=n.toNat)];exact hn.get ht.sz) ?_)
    refine zj (fun h4=>?_) (fun h4=>?_)
    ·refine za (.inr ⟨rfl,fun hr=>?_⟩)
     have:=((hr.st i p hx).2 (by omega) n hxn).1
     rw [this] at h4;cases h4
    ·refine za (.inl ⟨rfl,?_,fun _ m hm=>by rw [hxn] at hm;cases hm;exact ⟨h4,by rw [e1,hat]⟩⟩)
     show zbU t r i=_
     unfold zbU
     rw [if_neg hi0]
  ·rintro ⟨j,⟨⟩,c,⟨⟩,⟨⟩⟩ (⟨rfl,hc,hst⟩ | ⟨rfl,hq⟩)
   rotate_left
   ·exact zf rfl (za (zr (bad rfl hq)))
   simp only at hc
   have hcl:c.length=12:=by rw [hc];simp
   refine ze rfl (ze (zQ (show too t p < 12 by omega)) (zi (qH g0 (by show too t p < ((c.length:Nat):Int);omega) fun _ _=>zi (jy (by show (too t p).toNat < c.length;omega) fun x hx2=>?_))))
   have hx2':c[(too t p).toNat]?=some x:=hx2
   have hmt:(((too t p).toNat:Nat):Int)=too t p:=by omega
   have hxe:x=decide (too t p∈(zV t r).take (i+1)):=by
    rw [hc] at hx2'
    simp only [List.getElem?_map,List.getElem?_range (show (too t p).toNat < 12 by omega),Option.map_some,hmt] at hx2'
    exact (Option.some.inj hx2').symm
   refine zj (fun h6=>?_) (fun h6=>?_)
   ·subst h6
    refine za (zr (bad rfl fun hr=>(hr.st i p hx).1 ?_))
    exact of_decide_eq_true hxe.symm
   ·subst h6
    have hnm:¬too t p∈(zV t r).take (i+1):=of_decide_eq_false hxe.symm
    refine ze (zQ (show too t p < 12 by omega)) (zi (qH g0 (by show too t p < ((c.length:Nat):Int);omega) fun _ _=>zi (jy (by show (too t p).toNat < c.length;omega) fun _ _=>?_)))
    refine za (qj ⟨?_,fun k hk q hq=>?_⟩)
    ·have e1:atS t r (i+1)=too t p:=by unfold atS;rw [if_neg (by omega),WV t hx];rfl
     have e2:c.set (too t p).toNat true=zbU t r (i+1):=by
      rw [hc,zwb (by omega)]
      unfold zbU
      rw [if_neg (by omega),htk]
      refine zwa fun n hn=>?_
      rw [Bool.eq_iff_iff]
      simp only [Bool.or_eq_true,decide_eq_true_eq,beq_iff_eq,List.mem_append,List.mem_singleton]
      constructor
      ·rintro (h | h)
       ·exact .inl h
       ·right;omega
      ·rintro (h | h)
       ·exact .inl h
       ·right;omega
     rw [e1,←e2,←qu (by omega)]
    ·rcases Nat.lt_or_ge k i with hki | hki
     ·exact hp k hki q hq
     ·have:k=i:=by omega
      subst this
      rw [hx] at hq;cases hq
      exact ⟨hpi,hnm,hst⟩
 ·rintro _ ⟨rfl,hp⟩
  refine zf (zJ (show ¬(r.length:Int) < (r.length:Int) by omega)) (za (zr (.inl ⟨rfl,h1,h8,fun p hm=>?_,fun i p hi=>(hp i (by grind) p hi).2⟩)))
  obtain ⟨k,hk⟩:=List.getElem?_of_mem hm
  exact (hp k (by grind) p hk).1
 ·rintro ⟨j,⟨v,w,z,⟨⟩⟩,c,⟨⟩,⟨⟩,⟨⟩⟩ (⟨hg,hr⟩ | ⟨hg,hr⟩)
  ·simp only at hg
   refine zj (fun _=>?_) (fun _=>?_)<;>exact za ⟨fun _=>hr,fun _=>kK hg⟩
  ·simp only at hg
   refine zj (fun _=>?_) (fun _=>?_)<;>exact za ⟨fun h=>by have:=qR h;simp only at this;omega,fun h=>absurd h hr⟩
def Xl (a b:List Int):Prop:=∃p∈a,∃q∈b,Int.tdiv p 2=Int.tdiv q 2
def Vl (a:List Int):List Int:=(a.take (a.length - 1)).drop 1
def JH (a b:List Int):Prop:=∃n∈Vl a,n∈b
def znT (t:qm) (a b:List Int):Prop:=¬Xl a b∧¬JH (zV t a) (zV t b)∧¬JH (zV t b) (zV t a)
theorem zHs {p:Int} (h : -9223372036854775808≤p) (h2:p≤9223372036854775807):wrF .i64 (Int.tdiv p 2)=Int.tdiv p 2:=by
 rcases Int.le_total 0 p with h0 | h0
 ·rw [Int.tdiv_eq_ediv_of_nonneg h0];exact zE (by omega) (by omega)
 ·have e:Int.tdiv p 2 = -((-p) / 2):=by
   rw [←Int.tdiv_eq_ediv_of_nonneg (by omega),Int.neg_tdiv,Int.neg_neg]
  rw [e];exact zE (by omega) (by omega)
theorem zow {t:qm} (h:t.2.2.length≤1000000000000000) {p:Int} (hp:wa t p):wrF .i64 (Int.tdiv p 2)=Int.tdiv p 2:=zHs (by have:=hp.1;omega) (by have:=hp.2;omega)
theorem wL {α:Type} {l:List α} {x:α} (h:x∈l):∃i,i < l.length∧l[i]?=some x:=by
 obtain ⟨i,hi⟩:=List.getElem?_of_mem h
 exact ⟨i,by grind,hi⟩
theorem zro {t:qm} (h:t.2.2.length≤1000000000000000) {a b:List Int} (ha:∀p∈a,wa t p) (hb:∀p∈b,wa t p) (la:a.length≤8) (lb:b.length≤8):QK (a,b,())=some (tv (Xl a b),()):=by
 rw [zoK];unfold zcL
 refine wb (zm (J:=fun x=>(x.1=0∧¬Xl a b)∨(x.1=1∧x.2.1.1=true∧Xl a b)) (qM a.length (fun i=>∀p,a[i]?=some p→¬∃q∈b,Int.tdiv p 2=Int.tdiv q 2) (by omega) ?_ ?_) ?_)
 ·intro i hi hp
  have hx:a[i]?=some a[i]:=List.getElem?_eq_getElem hi
  have hm:=List.getElem_mem hi
  generalize a[i]=p at hx hm
  refine ze (zQ (show (i:Int) < (a.length:Int) by omega)) (zi (zC (n:=i) hx ?_))
  refine zm (J:=fun x=>(x.1=0∧x.2.1.1=false∧¬∃q∈b,Int.tdiv p 2=Int.tdiv q 2)∨(x.1=1∧x.2.1.1=true∧∃q∈b,Int.tdiv p 2=Int.tdiv q 2)) (qM b.length (fun k=>∀q,b[k]?=some q→Int.tdiv p 2≠Int.tdiv q 2) (by omega) ?_ ?_) ?_
  ·intro k hk hq
   have hy:b[k]?=some b[k]:=List.getElem?_eq_getElem hk
   have hmk:=List.getElem_mem hk
   generalize b[k]=q at hy hmk
   refine ze (zQ (show (k:Int) < (b.length:Int) by omega)) (zi (zC (n:=k) hy ?_))
   rw [zow h (ha p hm),zow h (hb q hmk)]
   refine zj (fun h=>?_) (fun h=>?_)
   ·exact za (zr (.inr ⟨rfl,rfl,q,hmk,qR h⟩))
   ·exact za (jX (by omega) fun q' hq'=>by rw [hy] at hq';cases hq';exact qX h)
  ·intro hq
   refine zf (zJ (show ¬(b.length:Int) < (b.length:Int) by omega)) (za (zr (.inl ⟨rfl,rfl,fun ⟨q,hq1,hq2⟩=>?_⟩)))
   obtain ⟨k,hk,hk2⟩:=wL hq1
   exact hq k hk q hk2 hq2
  ·rintro ⟨j,⟨v,w,⟨⟩⟩,⟨⟩⟩ (⟨rfl,rfl,hq⟩ | ⟨rfl,rfl,hq⟩)
   ·exact ze rfl (za (jX (by omega) fun p' hp'=>by rw [hx] at hp';cases hp';exact hq))
   ·exact zf rfl (za (zr (.inr ⟨rfl,rfl,p,hm,hq⟩)))
 ·intro hp
  refine zf (zJ (show ¬(a.length:Int) < (a.length:Int) by omega)) (za (zr (.inl ⟨rfl,fun ⟨p,hp1,hp2⟩=>?_⟩)))
  obtain ⟨k,hk,hk2⟩:=wL hp1
  exact hp k hk p hk2 hp2
 ·rintro ⟨j,⟨v,w,⟨⟩⟩,⟨⟩⟩ (⟨rfl,hq⟩ | ⟨rfl,rfl,hq⟩)
  ·exact ze rfl (za ⟨fun h=>(by cases h),fun h=>absurd h hq⟩)
  ·exact zf rfl (za ⟨fun _=>hq,fun _=>rfl⟩)
theorem zwc {a:List Int} {i:Nat} (h:1≤i) (h2:i < a.length - 1):(Vl a)[i - 1]?=a[i]?:=by
 unfold Vl
 rw [List.getElem?_drop,List.getElem?_take]
 rw [if_pos (by omega)]
 congr 1;omega
theorem zwd (a:List Int):(Vl a).length=a.length - 1 - 1:=by unfold Vl;simp
theorem zwe {a:List Int} {n:Int}:n∈Vl a↔∃i,1≤i∧i < a.length - 1∧a[i]?=some n:=by
 constructor
 ·intro h
  obtain ⟨k,hk,hk2⟩:=wL h
  rw [zwd] at hk
  refine ⟨k+1,by omega,by omega,?_⟩
  rw [←zwc (by omega) (by omega)];exact hk2
 ·rintro ⟨i,h1,h2,h3⟩
  rw [←zwc h1 h2] at h3
  exact List.mem_of_getElem? h3
theorem ze1 {a b:List Int} (la:1≤a.length) (la2:a.length≤100) (lb:b.length≤100):ZS (a,b,())=some (tv (JH a b),()):=by
 have e1:wrF .i64 ((a.length:Int) - 1)=(a.length:Int) - 1:=zE (by omega) (by omega)
 rw [zm2];unfold za7
 rw [e1]
 refine wb (zm (J:=fun x=>(x.1=0∧¬JH a b)∨(x.1=1∧x.2.1.1=true∧JH a b))
  (zT (a.length - 1 - 1) (fun i s=>s=((false,(((i+1:Nat):Int),())),())∧∀k,1≤k→k < i+1→∀n,a[k]?=some n→¬n∈b) (by omega) ⟨rfl,fun k h1 h2=>by omega⟩ ?_ ?_) ?_)
 ·rintro i _ hi ⟨rfl,hp⟩
  have hx:a[i+1]?=some a[i+1]:=List.getElem?_eq_getElem (by omega)
  generalize a[i+1]=n at hx
  refine ze (zQ (show ((i+1:Nat):Int) < (a.length:Int) - 1 by omega)) (zi (zC (n:=i+1) hx ?_))
  rw [zbS (by show b.length≤_;omega)]
  refine zj (fun h=>?_) (fun h=>?_)
  ·exact za (zr (.inr ⟨rfl,rfl,n,zwe.2 ⟨i+1,by omega,by omega,hx⟩,Zy h⟩))
  ·refine za (qj ⟨congrArg (fun z=>((false,(z,())),())) (qu (i:=i+1) (by omega)),fun k h1 h2 m hm=>?_⟩)
   rcases Nat.lt_or_ge k (i+1) with hk | hk
   ·exact hp k h1 hk m hm
   ·have:k=i+1:=by omega
    subst this
    rw [hx] at hm;cases hm
    exact gS h
 ·rintro _ ⟨rfl,hp⟩
  refine zf (zJ (show ¬((a.length - 1 - 1+1:Nat):Int) < (a.length:Int) - 1 by omega)) (za (zr (.inl ⟨rfl,fun ⟨n,h1,h2⟩=>?_⟩)))
  obtain ⟨i,i1,i2,i3⟩:=zwe.1 h1
  exact hp i i1 (by omega) n i3 h2
 ·rintro ⟨j,⟨v,w,⟨⟩⟩,⟨⟩⟩ (⟨rfl,hq⟩ | ⟨rfl,rfl,hq⟩)
  ·exact ze rfl (za ⟨fun h=>(by cases h),fun h=>absurd h hq⟩)
  ·exact zf rfl (za ⟨fun _=>hq,fun _=>rfl⟩)
theorem zhQ {t:qm} (ht:jP t) {a b:List Int} (ha:qV t a) (hb:qV t b):uG (t,a,b,())=some (tv (znT t a b),()):=by
 have hll:=ht.ll
 have na:=ZN t ha.ne;have nb:=ZN t hb.ne
 have a0:=ha.n0;have a8:=ha.n1;have b0:=hb.n0;have b8:=hb.n1
 rw [zqq];unfold zd3
 refine wb (zm (J:=fun x=>(x.1=0∧¬Xl a b)∨(x.1=1∧x.2.1.1=false∧Xl a b)) (qM a.length (fun i=>∀p,a[i]?=some p→¬∃q∈b,Int.tdiv p 2=Int.tdiv q 2) (by omega) ?_ ?_) ?_)
 ·intro i hi hp
  have hx:a[i]?=some a[i]:=List.getElem?_eq_getElem hi
  have hm:=List.getElem_mem hi
  generalize a[i]=p at hx hm
  refine ze (zQ (show (i:Int) < (a.length:Int) by omega)) ?_
  refine zm (J:=fun x=>(x.1=0∧x.2.1.1=false∧¬∃q∈b,Int.tdiv p 2=Int.tdiv q 2)∨(x.1=1∧x.2.1.1=false∧∃q∈b,Int.tdiv p 2=Int.tdiv q 2)) (qM b.length (fun k=>∀q,b[k]?=some q→Int.tdiv p 2≠Int.tdiv q 2) (by omega) ?_ ?_) ?_
  ·intro k hk hq
   have hy:b[k]?=some b[k]:=List.getElem?_eq_getElem hk
   have hmk:=List.getElem_mem hk
   generalize b[k]=q at hy hmk
   refine ze (zQ (show (k:Int) < (b.length:Int) by omega)) (zi (zC (n:=i) hx (zi (zC (n:=k) hy ?_))))
   rw [zow hll (ha.pt p hm),zow hll (hb.pt q hmk)]
   refine zj (fun h=>?_) (fun h=>?_)
   ·exact za (zr (.inr ⟨rfl,rfl,q,hmk,qR h⟩))
   ·exact za (jX (by omega) fun q' hq'=>by rw [hy] at hq';cases hq';exact qX h)
  ·intro hq
   refine zf (zJ (show ¬(b.length:Int) < (b.length:Int) by omega)) (za (zr (.inl ⟨rfl,rfl,fun ⟨q,hq1,hq2⟩=>?_⟩)))
   obtain ⟨k,hk,hk2⟩:=wL hq1
   exact hq k hk q hk2 hq2
  ·rintro ⟨j,⟨v,w,⟨⟩⟩,⟨⟩⟩ (⟨rfl,rfl,hq⟩ | ⟨rfl,rfl,hq⟩)
   ·exact ze rfl (za (jX (by omega) fun p' hp'=>by rw [hx] at hp';cases hp';exact hq))
   ·exact zf rfl (za (zr (.inr ⟨rfl,rfl,p,hm,hq⟩)))
 ·intro hp
  refine zf (zJ (show ¬(a.length:Int) < (a.length:Int) by omega)) (za (zr (.inl ⟨rfl,fun ⟨p,hp1,hp2⟩=>?_⟩)))
  obtain ⟨k,hk,hk2⟩:=wL hp1
  exact hp k hk p hk2 hp2
 ·rintro ⟨j,⟨v,w,⟨⟩⟩,⟨⟩⟩ (⟨rfl,hq⟩ | ⟨rfl,rfl,hq⟩)
  ·refine ze rfl ?_
   simp only [zbT hll ha.ne ha.n1 ha.pt,zbT hll hb.ne hb.n1 hb.pt,zw]
   rw [ze1 (by omega) (by omega) (by omega)]
   refine zj (fun h=>?_) (fun h=>?_)
   ·rw [ze1 (by omega) (by omega) (by omega)]
    refine za ⟨fun h2=>⟨hq,yn h,yn h2⟩,fun h2=>?_⟩
    show (!tv _)=true
    rw [qd h2.2.2];rfl
   ·exact za ⟨fun h2=>(by cases h2),fun h2=>absurd (xg h) h2.2.1⟩
  ·exact zf rfl (za ⟨fun h=>(by cases h),fun h=>absurd hq h.1⟩)
theorem zeL {l:List Int} (hn:l.length≤1000000000000000000) (b:Int):qp (xl (l,b,())) fun r=>(0≤r.1∧b∈l)∨(r.1 = -1∧¬b∈l):=by
 rw [zdG];unfold Jk
 refine zm (J:=fun x=>(x.1=0∧¬b∈l)∨(x.1=1∧0≤x.2.1.1∧b∈l)) (qM l.length (fun i=>l[i]?≠some b) hn ?_ ?_) ?_
 ·intro i hi hp
  have hx:l[i]?=some l[i]:=List.getElem?_eq_getElem hi
  refine ze (zQ (show (i:Int) < (l.length:Int) by omega)) (zi (zC (n:=i) hx (zj (fun h=>?_) (fun h=>?_))))
  ·have:b=l[i]:=qR h
   exact za (zr (.inr ⟨rfl,by show (0:Int)≤(i:Int);omega,by rw [this];exact List.getElem_mem hi⟩))
  ·have:=qX (show zg b l[i]=false from h)
   exact za (jX (by omega) (by rw [hx];intro e;cases e;exact this rfl))
 ·intro hp
  refine zf (zJ (show ¬(l.length:Int) < (l.length:Int) by omega)) (za (zr (.inl ⟨rfl,fun hm=>?_⟩)))
  obtain ⟨k,hk,hk2⟩:=wL hm
  exact hp k hk hk2
 ·rintro ⟨j,⟨v,w,⟨⟩⟩,⟨⟩⟩ (⟨rfl,hp⟩ | ⟨rfl,h0,hp⟩)
  ·exact ze rfl (za (.inr ⟨rfl,hp⟩))
  ·exact zf rfl (za (.inl ⟨h0,hp⟩))
theorem zb7 {l:List Int} (hn:l.length≤1000000000000000000) (b:Int):yp (l,b,())=some (tv (b∈l),()):=by
 rw [zbl];unfold ZK
 refine wb (zm (zeL hn b) ?_)
 rintro ⟨v,⟨⟩⟩ (⟨h,hm⟩ | ⟨rfl,hm⟩)
 ·refine za ⟨fun _=>hm,fun _=>?_⟩
  show (!zh v 0)=true
  rw [zJ (by simp only at h;omega)];rfl
 ·exact za ⟨fun h=>(by cases h),fun h=>absurd h hm⟩
theorem zbW {l:List Int} (hn:l.length≤1000000000000000000) (b:Int):qp (wU (l,b,())) fun r=>(0≤r.1∧b∈l)∨(r.1 = -1∧¬b∈l):=by
 rw [zaD];unfold Zg
 refine zm (J:=fun x=>(x.1=0∧¬b∈l)∨(x.1=1∧0≤x.2.1.1∧b∈l)) (qM l.length (fun i=>l[i]?≠some b) hn ?_ ?_) ?_
 ·intro i hi hp
  have hx:l[i]?=some l[i]:=List.getElem?_eq_getElem hi
  refine ze (zQ (show (i:Int) < (l.length:Int) by omega)) (zi (zC (n:=i) hx (zj (fun h=>?_) (fun h=>?_))))
  ·have:b=l[i]:=qR h
   exact za (zr (.inr ⟨rfl,by show (0:Int)≤(i:Int);omega,by rw [this];exact List.getElem_mem hi⟩))
  ·have:=qX (show zg b l[i]=false from h)
   exact za (jX (by omega) (by rw [hx];intro e;cases e;exact this rfl))
 ·intro hp
  refine zf (zJ (show ¬(l.length:Int) < (l.length:Int) by omega)) (za (zr (.inl ⟨rfl,fun hm=>?_⟩)))
  obtain ⟨k,hk,hk2⟩:=wL hm
  exact hp k hk hk2
 ·rintro ⟨j,⟨v,w,⟨⟩⟩,⟨⟩⟩ (⟨rfl,hp⟩ | ⟨rfl,h0,hp⟩)
  ·exact ze rfl (za (.inr ⟨rfl,hp⟩))
  ·exact zf rfl (za (.inl ⟨h0,hp⟩))
theorem UH {l:List Int} (hn:l.length≤1000000000000000000) (b:Int):qy (l,b,())=some (tv (b∈l),()):=by
 rw [Un];unfold kL
 refine wb (zm (zbW hn b) ?_)
 rintro ⟨v,⟨⟩⟩ (⟨h,hm⟩ | ⟨rfl,hm⟩)
 ·refine za ⟨fun _=>hm,fun _=>?_⟩
  show (!zh v 0)=true
  rw [zJ (by simp only at h;omega)];rfl
 ·exact za ⟨fun h=>(by cases h),fun h=>absurd h hm⟩
theorem zbX {t:qm} (ht:jP t) {a b:List Int} (ha:qV t a) (hb:qV t b):kC (t,a,b,())=some (tv (JH (zV t a) (zV t b)),()):=by
 have hll:=ht.ll
 have na:=ZN t ha.ne;have nb:=ZN t hb.ne
 have a0:=ha.n0;have a8:=ha.n1;have b0:=hb.n0;have b8:=hb.n1
 rw [zi6];unfold Kw
 simp only [Vk hll ha.ne ha.n1 ha.pt,Vk hll hb.ne hb.n1 hb.pt,zw]
 generalize zV t a=A at na
 generalize zV t b=B at nb
 have e1:wrF .i64 ((A.length:Int) - 1)=((A.length - 1:Nat):Int):=by rw [zE]<;>omega
 have e2:Kk A (some 1) (some (((A.length - 1:Nat):Int))) (some (((A.length - 1:Nat):Int)))=some (Vl A):=zFs A 1 (A.length - 1) (by omega) (by omega)
 rw [e1,e2,zw]
 have il:=zwd A
 refine wb (zm (J:=fun x=>(x.1=0∧¬JH A B)∨(x.1=1∧x.2.1.1=true∧JH A B)) (qM (Vl A).length (fun i=>∀n,(Vl A)[i]?=some n→¬n∈B) (by omega) ?_ ?_) ?_)
 ·intro i hi hp
  have hx:(Vl A)[i]?=some (Vl A)[i]:=List.getElem?_eq_getElem hi
  have hm:=List.getElem_mem hi
  generalize (Vl A)[i]=n at hx hm
  refine ze (zQ (show (i:Int) < ((Vl A).length:Int) by omega)) (zi (zC (n:=i) hx ?_))
  rw [zb7 (by omega)]
  refine zj (fun h=>?_) (fun h=>?_)
  ·exact za (zr (.inr ⟨rfl,rfl,n,hm,Zy h⟩))
  ·exact za (jX (by omega) fun m hm=>by rw [hx] at hm;cases hm;exact gS h)
 ·intro hp
  refine zf (zJ (show ¬((Vl A).length:Int) < ((Vl A).length:Int) by omega)) (za (zr (.inl ⟨rfl,fun ⟨n,h1,h2⟩=>?_⟩)))
  obtain ⟨k,hk,hk2⟩:=wL h1
  exact hp k hk n hk2 h2
 ·rintro ⟨j,⟨v,w,⟨⟩⟩,⟨⟩⟩ (⟨rfl,hq⟩ | ⟨rfl,rfl,hq⟩)
  ·exact ze rfl (za ⟨fun h=>(by cases h),fun h=>absurd h hq⟩)
  ·exact zf rfl (za ⟨fun _=>hq,fun _=>rfl⟩)
theorem zhR {t:qm} (ht:jP t) (r:List Int):uO (t,r,())=some (bif tv (qV t r) then 0 else 310,()):=by
 rw [zqD];unfold zeg
 simp only [Xj,zw,zU ht,cond_true,zbV ht]
 rw [show (!zg 0 0)=false from rfl,cond_false]
 cases tv (qV t r)<;>rfl
theorem zts {t:qm} (ht:jP t) {a b:List Int} (ha:qV t a) (hb:qV t b):gJ (t,a,b,())=some (tv (znT t a b),0,()):=by
 rw [zqH];unfold zei
 simp only [zhR ht,zw,zU ha,zU hb,cond_true,zbV ht,zro ht.ll ha.pt hb.pt ha.n1 hb.n1,zbX ht ha hb,zbX ht hb ha]
 rw [show (!zg 0 0)=false from rfl,cond_false]
 simp only [Bool.not_true,cond_false]
 unfold znT
 by_cases h1:Xl a b
 ·simp [zU h1,qd (show ¬(¬Xl a b∧¬JH (zV t a) (zV t b)∧¬JH (zV t b) (zV t a)) from fun h=>h.1 h1)]
 ·by_cases h2:JH (zV t a) (zV t b)
  ·simp [qd h1,zU h2,qd (show ¬(¬Xl a b∧¬JH (zV t a) (zV t b)∧¬JH (zV t b) (zV t a)) from fun h=>h.2.1 h2)]
  ·by_cases h3:JH (zV t b) (zV t a)
   ·simp [qd h1,qd h2,zU h3,qd (show ¬(¬Xl a b∧¬JH (zV t a) (zV t b)∧¬JH (zV t b) (zV t a)) from fun h=>h.2.2 h3)]
   ·simp [qd h1,qd h2,qd h3,zU (show ¬Xl a b∧¬JH (zV t a) (zV t b)∧¬JH (zV t b) (zV t a) from ⟨h1,h2,h3⟩)]
def Vu (t:qm) (r:List Int):Int:=frm t ((r[0]?).getD 0)
def Ue (t:qm) (r:List Int):Int:=too t ((r[r.length - 1]?).getD 0)
theorem ztt {t:qm} (ht:jP t) (r:List Int):Wb (t,r,())=some (bif tv (qV t r) then (zV t r,0,()) else ([],310,())):=by
 rw [zqF];unfold zeh
 simp only [zhR ht,zw]
 by_cases h:qV t r
 ·simp only [zU h,cond_true,Vk ht.ll h.ne h.n1 h.pt,zw];rfl
 ·simp only [qd h,cond_false];rfl
theorem zAE (t:qm) {r:List Int} (h:r≠[]):(zV t r)[0]?=some (Vu t r):=by
 cases r with
 |nil=>exact absurd rfl h
 |cons p r=>rfl
theorem zCx (t:qm) {r:List Int} (h:r≠[]):(zV t r)[r.length]?=some (Ue t r):=by
 have hl:0 < r.length:=List.length_pos_iff.2 h
 have hx:r[r.length - 1]?=some (r[r.length - 1]'(by omega)):=List.getElem?_eq_getElem (by omega)
 have:=WV t hx
 rw [show r.length - 1+1=r.length by omega] at this
 rw [this];unfold Ue;rw [hx];rfl
theorem zvm {t:qm} (ht:jP t) (r:List Int):YQ (t,r,())=some (bif tv (qV t r) then (Vu t r,Ue t r,0,()) else (0,0,310,())):=by
 rw [zsB];unfold zgh
 simp only [ztt ht,zw]
 by_cases h:qV t r
 ·have hn:=ZN t h.ne
  have:=h.n1
  simp only [zU h,cond_true]
  rw [show (!zg 0 0)=false from rfl,cond_false]
  rw [show wrF .i64 (((zV t r).length:Int) - 1)=((r.length:Nat):Int) from by rw [zE]<;>omega]
  rw [show (0:Int)=((0:Nat):Int) from rfl,jx (zAE t h.ne),zw,jx (zCx t h.ne),zw]
 ·simp only [qd h,cond_false];rfl
theorem zrp {t:qm} (ht:jP t) (r:List Int) (a b:Int):Zd (t,r,a,b,())=some (tv (qV t r∧Vu t r=a∧Ue t r=b),()):=by
 rw [zoI];unfold zcK
 simp only [zvm ht,zw]
 by_cases h:qV t r
 ·simp only [zU h,cond_true]
  rw [show zg 0 0=true from rfl,cond_true]
  refine wb (zj (fun h1=>?_) (fun h1=>?_))
  ·exact za ⟨fun h2=>⟨h,qR h1,qR h2⟩,fun h2=>kK h2.2.2⟩
  ·exact za ⟨fun h2=>(by cases h2),fun h2=>absurd h2.2.1 (qX h1)⟩
 ·simp only [qd h,cond_false]
  rw [show zg 310 0=false from rfl,cond_false,qd fun h2=>h h2.1]
abbrev jl:=Int×Int×Int×Int×Int×Int×(Int×Int)×Int×List (List Int)
structure Zr (t:qm) (s:jl):Prop where
 id:1≤s.1∧s.1≤4095
 ta:jg t s.2.1∧stn t s.2.1=true
 li:jg t s.2.2.1∧stn t s.2.2.1=true
 tl:s.2.1≠s.2.2.1
 sz:84≤s.2.2.2.2.1∧s.2.2.2.2.1≤1542
 dl:1≤s.2.2.2.2.2.2.2.1∧s.2.2.2.2.2.2.2.1≤1099511627776
 cl:(s.2.2.2.1=7∧(1≤s.2.2.2.2.2.1∧s.2.2.2.2.2.1≤240)∧s.2.2.2.2.2.2.1=(0,0))∨(s.2.2.2.1=6∧s.2.2.2.2.2.1=0∧(s.2.2.2.2.1≤s.2.2.2.2.2.2.1.1∧s.2.2.2.2.2.2.1.1≤1048576)∧(1≤s.2.2.2.2.2.2.1.2∧s.2.2.2.2.2.2.1.2≤2097152))
 rn:1≤s.2.2.2.2.2.2.2.2.length∧s.2.2.2.2.2.2.2.2.length≤2
 rt:∀r∈s.2.2.2.2.2.2.2.2,qV t r∧Vu t r=s.2.1∧Ue t r=s.2.2.1
 ap:∀a b,s.2.2.2.2.2.2.2.2[0]?=some a→s.2.2.2.2.2.2.2.2[1]?=some b→znT t a b
theorem zkG {a b c:Int} {R:Int→Int→Int→Option (Bool×Unit)} (hR:R a b c=(bif (!(zh (a) (b))) then some ((!(zh (c) (a))),()) else some (false,()))):R a b c=some (tv (b≤a∧a≤c),()):=by
 rw [hR]
 refine wb (zj (fun h=>?_) (fun h=>?_))<;>refine za ?_<;>simp only [xz] at *<;>grind
theorem KF (a b c:Int):wB (a,b,c,())=some (tv (b≤a∧a≤c),()):=by
 rw [zlw];exact zkG (R:=GO) rfl
theorem zg7 (a b c:Int):uH (a,b,c,())=some (tv (b≤a∧a≤c),()):=by
 rw [zwE];exact zkG (R:=zkd) rfl
theorem zjp (a b c:Int):ur (a,b,c,())=some (tv (b≤a∧a≤c),()):=by
 rw [zif];exact zkG (R:=VM) rfl
theorem zA6 {n:Int} (h : -1000000≤n) (h2:n≤1000000):wrF .i64 (n - 1)=n - 1:=zE (by omega) (by omega)
theorem znU {t:qm} (hs:szP t) (n:Int):Za (t,n,())=some (tv (jg t n∧stn t n=true),()):=by
 have h0:=hs.n0;have h1:=hs.n1
 rw [zlB];unfold GQ
 simp only [KF,zw,zA6 (show -1000000≤t.1 by omega) (by omega)]
 refine wb (zj (fun h=>?_) (fun h=>?_))
 ·obtain ⟨h2,h3⟩:=Zy h
  have hn:jg t n:=⟨h2,by omega⟩
  refine zi (qf (a:=stn t n) (by show atI t.2.1 n=_;rw [show n=((n.toNat:Nat):Int) from (by omega),jx (n:=n.toNat)];exact hn.get hs) ?_)
  exact za ⟨fun h=>⟨hn,h⟩,fun h=>h.2⟩
 ·have:=gS h
  exact za ⟨fun h=>(by cases h),fun h=>absurd ⟨h.1.1,by have:=h.1.2;omega⟩ this⟩
theorem zpc {t:qm} (hs:szP t) (n:Int):ZT (t,n,())=some (tv (jg t n∧stn t n=true),()):=by
 have h0:=hs.n0;have h1:=hs.n1
 rw [zm4];unfold zbc
 simp only [zg7,zw,zA6 (show -1000000≤t.1 by omega) (by omega)]
 refine wb (zj (fun h=>?_) (fun h=>?_))
 ·obtain ⟨h2,h3⟩:=Zy h
  have hn:jg t n:=⟨h2,by omega⟩
  refine zi (qf (a:=stn t n) (by show atI t.2.1 n=_;rw [show n=((n.toNat:Nat):Int) from (by omega),jx (n:=n.toNat)];exact hn.get hs) ?_)
  exact za ⟨fun h=>⟨hn,h⟩,fun h=>h.2⟩
 ·have:=gS h
  exact za ⟨fun h=>(by cases h),fun h=>absurd ⟨h.1.1,by have:=h.1.2;omega⟩ this⟩
def yq (b:Int×Int):Prop:=(1≤b.1∧b.1≤1048576)∧(1≤b.2∧b.2≤2097152)
theorem Jx (b:Int×Int):jS (b,())=some (bif tv (yq b) then 0 else 130,()):=by
 rw [zoG];unfold zcJ yq
 simp only [zjp,zw]
 by_cases h1:1≤b.1∧b.1≤1048576
 ·by_cases h2:1≤b.2∧b.2≤2097152
  ·simp only [zU h1,zU h2,zU (And.intro h1 h2)];rfl
  ·simp only [zU h1,qd h2,qd (fun h:(1≤b.1∧b.1≤1048576)∧(1≤b.2∧b.2≤2097152)=>h2 h.2)];rfl
 ·simp only [qd h1,qd (fun h:(1≤b.1∧b.1≤1048576)∧(1≤b.2∧b.2≤2097152)=>h1 h.1)];rfl
theorem zDP (b:Int×Int):((zg b.1 0)&&((zg b.2 0)&&true))=tv (b=(0,0)):=by
 obtain ⟨x,y⟩:=b
 rw [zHd,jF,jF]
 simp only [Bool.and_true]
 rw [Bool.eq_iff_iff]
 simp [Prod.ext_iff]
theorem zpL {t:qm} (ht:jP t) {s:jl} {Q:Prop} (hn:1≤s.2.2.2.2.2.2.2.2.length∧s.2.2.2.2.2.2.2.2.length≤2) {B:((Bool×(Int×Unit))×Unit)→Option ((Nat×((Bool×(Int×Unit))×Unit)) ⊕ ((Bool×(Int×Unit))×Unit))}
  {K:(Nat×((Bool×(Int×Unit))×Unit))→Option (Bool×Unit)}
  (hB
    : B=fun s7=>bif (zh (s7.1.2.1) ((((s.2.2.2.2.2.2.2.2).length:Nat):Int))) then opt (atI (s.2.2.2.2.2.2.2.2) (s7.1.2.1)) fun x8=>
    opt (Zd ((t,(x8,(s.2.1,(s.2.2.1,())))))) fun x9=>
    bif (!x9.1) then some (.inl (1,((false,(s7.1.2.1,())),())))
    else some (.inr ((s7.1.1,((wrF .i64 ((s7.1.2.1+1))),())),()))
   else some (.inl (0,((s7.1.1,(s7.1.2.1,())),()))))
  (hK :
     ∀x,K x=bif (Nat.beq x.1 0) then bif (zh ((((s.2.2.2.2.2.2.2.2).length:Nat):Int)) (2)) then some (true,())
     else opt (atI (s.2.2.2.2.2.2.2.2) (0)) fun x11=>opt (atI (s.2.2.2.2.2.2.2.2) (1)) fun x12=>opt (gJ ((t,(x11,(x12,()))))) fun x13=>
      bif (zg (x13.2.1) (0)) then bif (!x13.1) then some (false,()) else some (true,()) else some (false,())
    else bif (!x.2.1.1) then some (false,())
     else bif (zh ((((s.2.2.2.2.2.2.2.2).length:Nat):Int)) (2)) then some (true,())
      else opt (atI (s.2.2.2.2.2.2.2.2) (0)) fun x14=>opt (atI (s.2.2.2.2.2.2.2.2) (1)) fun x15=>opt (gJ ((t,(x14,(x15,()))))) fun x16=>
       bif (zg (x16.2.1) (0)) then bif (!x16.1) then some (false,()) else some (true,()) else some (false,()))
  (hQ:Q↔(∀r∈s.2.2.2.2.2.2.2.2,qV t r∧Vu t r=s.2.1∧Ue t r=s.2.2.1)∧∀a b,s.2.2.2.2.2.2.2.2[0]?=some a→s.2.2.2.2.2.2.2.2[1]?=some b→znT t a b) :
  qp (opt (zy B zH ((false,(0,())),())) K) fun r=>(r.1=true↔Q):=by
 subst hB
 obtain ⟨n0,n2⟩:=hn
 refine zm (J:=fun x=>(x.1=0∧∀r∈s.2.2.2.2.2.2.2.2,qV t r∧Vu t r=s.2.1∧Ue t r=s.2.2.1)∨(x.1=1∧x.2.1.1=false∧¬Q)) (qM s.2.2.2.2.2.2.2.2.length (fun i=>∀r,s.2.2.2.2.2.2.2.2[i]?=some r→qV t r∧Vu t r=s.2.1∧Ue t r=s.2.2.1) (by omega) ?_ ?_) ?_
 ·intro i hi hp
  have hx:s.2.2.2.2.2.2.2.2[i]?=some s.2.2.2.2.2.2.2.2[i]:=List.getElem?_eq_getElem hi
  have hm:=List.getElem_mem hi
  generalize s.2.2.2.2.2.2.2.2[i]=r at hx hm
  refine ze (zQ (show (i:Int) < (s.2.2.2.2.2.2.2.2.length:Int) by omega)) (zi (zC (n:=i) hx ?_))
  rw [zrp ht]
  refine zj (fun h=>?_) (fun h=>?_)
  ·exact za (zr (.inr ⟨rfl,rfl,fun hq=>yn h ((hQ.1 hq).1 r hm)⟩))
  ·exact za (jX (by omega) fun r' hr'=>by rw [hx] at hr';cases hr';exact xg h)
 ·intro hp
  refine zf (zJ (show ¬(s.2.2.2.2.2.2.2.2.length:Int) < (s.2.2.2.2.2.2.2.2.length:Int) by omega)) (za (zr (.inl ⟨rfl,fun r hr=>?_⟩)))
  obtain ⟨k,hk,hk2⟩:=wL hr
  exact hp k hk r hk2
 ·rintro ⟨j,⟨v,w,⟨⟩⟩,⟨⟩⟩ (⟨rfl,hq⟩ | ⟨rfl,rfl,hq⟩)
  ·rw [hK]
   refine ze rfl (zj (fun h=>?_) (fun h=>?_))
   ·have h:=qi h
    have h:s.2.2.2.2.2.2.2.2.length < 2:=by omega
    exact za ⟨fun _=>hQ.2 ⟨hq,fun a b _ hb=>by rw [List.getElem?_eq_none (by omega)] at hb;cases hb⟩,fun _=>rfl⟩
   ·have h:=qz h
    have h:2≤s.2.2.2.2.2.2.2.2.length:=by omega
    have hx0:s.2.2.2.2.2.2.2.2[0]?=some s.2.2.2.2.2.2.2.2[0]:=List.getElem?_eq_getElem (by omega)
    have hx1:s.2.2.2.2.2.2.2.2[1]?=some s.2.2.2.2.2.2.2.2[1]:=List.getElem?_eq_getElem (by omega)
    have r0:=(hq _ (List.getElem_mem (show 0 < s.2.2.2.2.2.2.2.2.length by omega))).1
    have r1:=(hq _ (List.getElem_mem (show 1 < s.2.2.2.2.2.2.2.2.length by omega))).1
    generalize s.2.2.2.2.2.2.2.2[0]=a at hx0 r0
    generalize s.2.2.2.2.2.2.2.2[1]=b at hx1 r1
    refine zi (zC (n:=0) hx0 (zi (zC (n:=1) hx1 ?_)))
    rw [zts ht r0 r1]
    refine zj (fun h=>?_) (fun h=>?_)
    ·exact za ⟨fun h=>(by cases h),fun hq2=>absurd ((hQ.1 hq2).2 a b hx0 hx1) (yn h)⟩
    ·exact za ⟨fun _=>hQ.2 ⟨hq,fun a' b' ha hb=>by rw [hx0] at ha;rw [hx1] at hb;cases ha;cases hb;exact xg h⟩,fun _=>rfl⟩
  ·rw [hK]
   exact zf rfl (ze rfl (za ⟨fun h=>(by cases h),fun h=>absurd h hq⟩))
theorem zrq {t:qm} (ht:jP t) (s:jl):QL (t,s,())=some (tv (Zr t s),()):=by
 have no:¬Zr t s→qp (some ((false,()):Bool×Unit)) fun r=>(r.1=true↔Zr t s):=fun h=>za ⟨fun h=>(by cases h),fun h2=>absurd h2 h⟩
 rw [zoM];unfold zcN
 simp only [KF,znU ht.sz,Jx,zw,zDP]
 refine wb (zj (fun h=>no fun hs=>yn h hs.id) fun h1=>zj (fun h2=>zj (fun h3=>zj (fun h=>no fun hs=>?_) fun h4=>zj (fun h=>no fun hs=>yn h hs.sz) fun h5=>zj (fun h=>no fun hs=>yn h hs.dl) fun h6=>?_) fun h=>no fun hs=>gS h hs.li) fun h=>no fun hs=>gS h hs.ta)
 ·exact hs.tl (qR (show zg s.2.1 s.2.2.1=true by simpa using h))
 have h1:=xg h1;have h2:=Zy h2;have h3:=Zy h3;have h5:=xg h5;have h6:=xg h6
 have h4:=qX (show zg s.2.1 s.2.2.1=false by simpa using h4)
 refine zj (fun c7=>?_) (fun c7=>zj (fun c6=>?_) (fun c6=>no fun hs=>?_))
 ·have c7:=qR c7
  refine zj (fun h7=>zj (fun h=>no fun hs=>?_) fun h8=>zj (fun h=>no fun hs=>?_) fun h9=>?_) (fun h=>no fun hs=>?_)
  ·rcases hs.cl with ⟨_,_,hb⟩ | ⟨h6',_⟩
   ·exact yn h hb
   ·omega
  ·have:=yn h
   have:=hs.rn
   omega
  ·have h9:=xg h9
   refine zpL ht ⟨by omega,by omega⟩ rfl (fun _=>rfl) ⟨fun hs=>⟨hs.rt,hs.ap⟩,fun hr=>⟨h1,h2,h3,h4,h5,h6,.inl ⟨c7,Zy h7,xg h8⟩,⟨by omega,by omega⟩,hr.1,hr.2⟩⟩
  ·rcases hs.cl with ⟨_,hb,_⟩ | ⟨h6',_⟩
   ·exact gS h hb
   ·omega
 ·have c6:=qR c6
  refine zj (fun h7=>zj (fun h8=>zj (fun h=>no fun hs=>?_) fun h9=>zj (fun h=>no fun hs=>?_) fun h10=>?_) (fun h=>no fun hs=>?_)) (fun h=>no fun hs=>?_)
  ·rcases hs.cl with ⟨h7',_⟩ | ⟨_,_,hb,_⟩
   ·omega
   ·have:=qi (show zh s.2.2.2.2.2.2.1.1 s.2.2.2.2.1=true by simpa using h)
    omega
  ·have:=yn h
   have:=hs.rn
   omega
  ·have h10:=xg h10
   have h7:=qR h7
   have h8:yq s.2.2.2.2.2.2.1:=by
    apply Classical.byContradiction
    intro hb
    rw [qd hb] at h8;cases h8
   have h9:=qz (show zh s.2.2.2.2.2.2.1.1 s.2.2.2.2.1=false by simpa using h9)
   refine zpL ht ⟨by omega,by omega⟩ rfl (fun _=>rfl) ⟨fun hs=>⟨hs.rt,hs.ap⟩,fun hr=>⟨h1,h2,h3,h4,h5,h6,.inr ⟨c6,h7,⟨h9,h8.1.2⟩,h8.2⟩,⟨by omega,by omega⟩,hr.1,hr.2⟩⟩
  ·rcases hs.cl with ⟨h7',_⟩ | ⟨_,_,hb,hr⟩
   ·omega
   ·have:=hs.sz
    have hbp:yq s.2.2.2.2.2.2.1:=⟨⟨by omega,hb.2⟩,hr⟩
    rw [zU hbp] at h;cases h
  ·rcases hs.cl with ⟨h7',_⟩ | ⟨_,hp,_⟩
   ·omega
   ·exact qX h hp
 ·rcases hs.cl with ⟨h7,_⟩ | ⟨h6',_⟩
  ·exact qX c7 h7
  ·exact qX c6 h6'
theorem zhS {t:qm} (ht:jP t) (s:jl):uI (t,s,())=some (tv (Zr t s),()):=by
 have hll:=ht.ll
 rw [zqs];unfold zd5
 simp only [zg7,zpc ht.sz,zw,zDP]
 refine wb (zm (J:=fun x=>(x.1=0∧x.2.1.1=false∧(1≤s.1∧s.1≤4095)∧(jg t s.2.1∧stn t s.2.1=true)∧(jg t s.2.2.1∧stn t s.2.2.1=true)∧s.2.1≠s.2.2.1∧(84≤s.2.2.2.2.1∧s.2.2.2.2.1≤1542)∧(1≤s.2.2.2.2.2.2.2.1∧s.2.2.2.2.2.2.2.1≤1099511627776))∨(x.1=1∧x.2.1.1=false∧¬Zr t s)) ?_ ?_)
 ·refine zj (fun h=>za (.inr ⟨rfl,rfl,fun hs=>yn h hs.id⟩)) fun h1=>zj (fun h=>za (.inr ⟨rfl,rfl,fun hs=>yn h hs.ta⟩)) fun h2=>zj (fun h=>za (.inr ⟨rfl,rfl,fun hs=>yn h hs.li⟩)) fun h3=>zj (fun h=>za (.inr ⟨rfl,rfl,fun hs=>hs.tl (qR h)⟩)) fun h4=>zj (fun h=>za (.inr ⟨rfl,rfl,fun hs=>yn h hs.sz⟩)) fun h5=>zj (fun h=>za (.inr ⟨rfl,rfl,fun hs=>yn h hs.dl⟩)) fun h6=>?_
  exact za (.inl ⟨rfl,rfl,xg h1,xg h2,xg h3,qX h4,xg h5,xg h6⟩)
 rintro ⟨j,⟨v,⟨⟩⟩,⟨⟩⟩ (⟨rfl,rfl,h1,h2,h3,h4,h5,h6⟩ | ⟨rfl,rfl,hq⟩)
 rotate_left
 ·exact zf rfl (za ⟨fun h=>(by cases h),fun h=>absurd h hq⟩)
 refine ze rfl (zm (J:=fun x=>(x.1=0∧x.2.1.1=false∧((s.2.2.2.1=7∧(1≤s.2.2.2.2.2.1∧s.2.2.2.2.2.1≤240)∧s.2.2.2.2.2.2.1=(0,0))∨(s.2.2.2.1=6∧s.2.2.2.2.2.1=0∧(s.2.2.2.2.1≤s.2.2.2.2.2.2.1.1∧s.2.2.2.2.2.2.1.1≤1048576)∧(1≤s.2.2.2.2.2.2.1.2∧s.2.2.2.2.2.2.1.2≤2097152))))∨(x.1=1∧x.2.1.1=false∧¬Zr t s)) ?_ ?_)
 ·refine zj (fun c7=>?_) (fun c7=>zj (fun c6=>?_) (fun c6=>za (.inr ⟨rfl,rfl,fun hs=>?_⟩)))
  ·have c7:=qR c7
   refine zm (J:=fun x=>(x.1=0∧x.2.1.1=false∧(1≤s.2.2.2.2.2.1∧s.2.2.2.2.2.1≤240)∧s.2.2.2.2.2.2.1=(0,0))∨(x.1=1∧x.2.1.1=false∧¬Zr t s)) ?_ ?_
   ·refine zj (fun h=>za (.inr ⟨rfl,rfl,fun hs=>?_⟩)) fun h7=>zj (fun h=>za (.inr ⟨rfl,rfl,fun hs=>?_⟩)) fun h8=>za (.inl ⟨rfl,rfl,xg h7,xg h8⟩)
    ·rcases hs.cl with ⟨_,hb,_⟩ | ⟨h6',_⟩
     ·exact yn h hb
     ·omega
    ·rcases hs.cl with ⟨_,_,hb⟩ | ⟨h6',_⟩
     ·exact yn h hb
     ·omega
   ·rintro ⟨j,⟨v,⟨⟩⟩,⟨⟩⟩ (⟨rfl,rfl,h7,h8⟩ | ⟨rfl,rfl,hq⟩)
    ·exact ze rfl (za (.inl ⟨rfl,rfl,.inl ⟨c7,h7,h8⟩⟩))
    ·exact zf rfl (za (.inr ⟨rfl,rfl,hq⟩))
  ·have c6:=qR c6
   refine zm (J:=fun x=>(x.1=0∧x.2.1.1=false∧s.2.2.2.2.2.1=0∧(s.2.2.2.2.1≤s.2.2.2.2.2.2.1.1∧s.2.2.2.2.2.2.1.1≤1048576)∧(1≤s.2.2.2.2.2.2.1.2∧s.2.2.2.2.2.2.1.2≤2097152))∨(x.1=1∧x.2.1.1=false∧¬Zr t s)) ?_ ?_
   ·refine zj (fun h=>za (.inr ⟨rfl,rfl,fun hs=>?_⟩)) fun h7=>zj (fun h=>za (.inr ⟨rfl,rfl,fun hs=>?_⟩)) fun h8=>zj (fun h=>za (.inr ⟨rfl,rfl,fun hs=>?_⟩)) fun h9=>za (.inl ⟨rfl,rfl,qR (by simpa using h7),xg h8,xg h9⟩)
    ·rcases hs.cl with ⟨h7',_⟩ | ⟨_,hp,_⟩
     ·omega
     ·rw [kK hp] at h;cases h
    ·rcases hs.cl with ⟨h7',_⟩ | ⟨_,_,hb,_⟩
     ·omega
     ·exact yn h hb
    ·rcases hs.cl with ⟨h7',_⟩ | ⟨_,_,_,hb⟩
     ·omega
     ·exact yn h hb
   ·rintro ⟨j,⟨v,⟨⟩⟩,⟨⟩⟩ (⟨rfl,rfl,h7,h8⟩ | ⟨rfl,rfl,hq⟩)
    ·exact ze rfl (za (.inl ⟨rfl,rfl,.inr ⟨c6,h7,h8⟩⟩))
    ·exact zf rfl (za (.inr ⟨rfl,rfl,hq⟩))
  ·rcases hs.cl with ⟨h7,_⟩ | ⟨h6',_⟩
   ·exact qX c7 h7
   ·exact qX c6 h6'
 rintro ⟨j,⟨v,⟨⟩⟩,⟨⟩⟩ (⟨rfl,rfl,hcl⟩ | ⟨rfl,rfl,hq⟩)
 rotate_left
 ·exact zf rfl (za ⟨fun h=>(by cases h),fun h=>absurd h hq⟩)
 refine ze rfl (zm (J:=fun x=>(x.1=0∧x.2.1.1=false∧1≤s.2.2.2.2.2.2.2.2.length∧s.2.2.2.2.2.2.2.2.length≤2)∨(x.1=1∧x.2.1.1=false∧¬Zr t s)) ?_ ?_)
 ·refine zj (fun h=>za (.inr ⟨rfl,rfl,fun hs=>?_⟩)) fun h7=>zj (fun h=>za (.inr ⟨rfl,rfl,fun hs=>?_⟩)) fun h8=>za (.inl ⟨rfl,rfl,?_⟩)
  ·have:=qi h;have:=hs.rn;omega
  ·have:=qi h;have:=hs.rn;omega
  ·have h7:=qz h7;have h8:=qz h8;omega
 rintro ⟨j,⟨v,⟨⟩⟩,⟨⟩⟩ (⟨rfl,rfl,n0,n2⟩ | ⟨rfl,rfl,hq⟩)
 rotate_left
 ·exact zf rfl (za ⟨fun h=>(by cases h),fun h=>absurd h hq⟩)
 refine ze rfl (zm (J:=fun x=>(x.1=0∧∀r∈s.2.2.2.2.2.2.2.2,qV t r∧Vu t r=s.2.1∧Ue t r=s.2.2.1)∨(x.1=1∧x.2.1.1=false∧¬Zr t s)) (qM s.2.2.2.2.2.2.2.2.length (fun i=>∀r,s.2.2.2.2.2.2.2.2[i]?=some r→qV t r∧Vu t r=s.2.1∧Ue t r=s.2.2.1) (by omega) ?_ ?_) ?_)
 ·intro i hi hp
  have hx:s.2.2.2.2.2.2.2.2[i]?=some s.2.2.2.2.2.2.2.2[i]:=List.getElem?_eq_getElem hi
  have hm:=List.getElem_mem hi
  generalize s.2.2.2.2.2.2.2.2[i]=r at hx hm
  refine ze (zQ (show (i:Int) < (s.2.2.2.2.2.2.2.2.length:Int) by omega)) (zi (zC (n:=i) hx ?_))
  rw [zhP ht]
  refine zm (J:=fun x=>(x.1=0∧x.2.1.1=false∧qV t r∧Vu t r=s.2.1∧Ue t r=s.2.2.1)∨(x.1=1∧x.2.1.1=false∧¬Zr t s)) ?_ ?_
  ·refine zj (fun h=>za (.inr ⟨rfl,rfl,fun hs=>yn h (hs.rt r hm).1⟩)) fun h=>?_
   have hr:=xg h
   have r0:=hr.n0;have r8:=hr.n1
   have hy0:r[0]?=some r[0]:=List.getElem?_eq_getElem (by omega)
   have hy1:r[r.length - 1]?=some (r[r.length - 1]'(by omega)):=List.getElem?_eq_getElem (by omega)
   have e0:Vu t r=frm t r[0]:=by unfold Vu;rw [hy0];rfl
   have e1:Ue t r=too t (r[r.length - 1]'(by omega)):=by unfold Ue;rw [hy1];rfl
   have p0:=hr.pt _ (List.getElem_mem (show 0 < r.length by omega))
   have p1:=hr.pt _ (List.getElem_mem (show r.length - 1 < r.length by omega))
   generalize r[0]=p at hy0 e0 p0
   generalize (r[r.length - 1]'(by omega))=q at hy1 e1 p1
   refine zi (zC (n:=0) hy0 ?_)
   rw [QP hll p0,zw]
   refine zj (fun h=>za (.inr ⟨rfl,rfl,fun hs=>?_⟩)) fun h7=>?_
   ·rw [←e0,kK (hs.rt r hm).2.1] at h;cases h
   have h7:=qR (show zg (frm t p) s.2.1=true by simpa using h7)
   rw [show wrF .i64 ((r.length:Int) - 1)=((r.length - 1:Nat):Int) from by rw [zE]<;>omega]
   refine zi (zC (n:=r.length - 1) hy1 ?_)
   rw [Jw hll p1,zw]
   refine zj (fun h=>za (.inr ⟨rfl,rfl,fun hs=>?_⟩)) fun h8=>?_
   ·rw [←e1,kK (hs.rt r hm).2.2] at h;cases h
   have h8:=qR (show zg (too t q) s.2.2.1=true by simpa using h8)
   exact za (.inl ⟨rfl,rfl,hr,by rw [e0,h7],by rw [e1,h8]⟩)
  ·rintro ⟨j,⟨v,⟨⟩⟩,⟨⟩⟩ (⟨rfl,rfl,hq⟩ | ⟨rfl,rfl,hq⟩)
   ·exact ze rfl (za (jX (by omega) fun r' hr'=>by rw [hx] at hr';cases hr';exact hq))
   ·exact zf rfl (za (zr (.inr ⟨rfl,rfl,hq⟩)))
 ·intro hp
  refine zf (zJ (show ¬(s.2.2.2.2.2.2.2.2.length:Int) < (s.2.2.2.2.2.2.2.2.length:Int) by omega)) (za (zr (.inl ⟨rfl,fun r hr=>?_⟩)))
  obtain ⟨k,hk,hk2⟩:=wL hr
  exact hp k hk r hk2
 ·rintro ⟨j,⟨v,w,⟨⟩⟩,⟨⟩⟩ (⟨rfl,hrt⟩ | ⟨rfl,rfl,hq⟩)
  rotate_left
  ·exact zf rfl (za ⟨fun h=>(by cases h),fun h=>absurd h hq⟩)
  refine ze rfl (zj (fun h=>?_) (fun h=>?_))
  ·have h:=qR h
   have h:s.2.2.2.2.2.2.2.2.length=1:=by omega
   exact za ⟨fun _=>⟨h1,h2,h3,h4,h5,h6,hcl,⟨n0,n2⟩,hrt,fun a b _ hb=>by rw [List.getElem?_eq_none (by omega)] at hb;cases hb⟩,fun _=>rfl⟩
  ·have h:=qX h
   have h:s.2.2.2.2.2.2.2.2.length=2:=by omega
   have hx0:s.2.2.2.2.2.2.2.2[0]?=some s.2.2.2.2.2.2.2.2[0]:=List.getElem?_eq_getElem (by omega)
   have hx1:s.2.2.2.2.2.2.2.2[1]?=some s.2.2.2.2.2.2.2.2[1]:=List.getElem?_eq_getElem (by omega)
   have r0:=(hrt _ (List.getElem_mem (show 0 < s.2.2.2.2.2.2.2.2.length by omega))).1
   have r1:=(hrt _ (List.getElem_mem (show 1 < s.2.2.2.2.2.2.2.2.length by omega))).1
   generalize s.2.2.2.2.2.2.2.2[0]=a at hx0 r0
   generalize s.2.2.2.2.2.2.2.2[1]=b at hx1 r1
   refine zi (zC (n:=0) hx0 (zi (zC (n:=1) hx1 ?_)))
   rw [zhQ ht r0 r1,zw]
   exact za ⟨fun h=>⟨h1,h2,h3,h4,h5,h6,hcl,⟨n0,n2⟩,hrt,fun a' b' ha hb=>by rw [hx0] at ha;rw [hx1] at hb;cases ha;cases hb;exact Zy h⟩,fun hs=>zU (hs.ap a b hx0 hx1)⟩
end Go.Proofs.YtplhphmbkmpocaaGreat.ad
end
