/- Parts of a proof, joined. -/
import Derived.Test.YtplhphmbkmpocaaGreatE55
set_option linter.unusedSectionVars false
set_option linter.unusedVariables false
set_option linter.unusedSimpArgs false
set_option maxHeartbeats 0
set_option maxRecDepth 100000
noncomputable section
namespace Go.Proofs.YtplhphmbkmpocaaGreat.ad
open Go Go.Fz Go.Fz.Sy
abbrev kB:List VT:=[⟨true,qM⟩,⟨false,(.list zU)⟩,⟨false,I⟩]
abbrev kC:List VT:=[⟨true,Zl⟩,⟨false,I⟩]
def zyA:zT:=zM [cdF qM,cdF zU,cdF zhY,cdF Zl,cdF zv,cdF zO,cdF zN,cdF qh] [] [⟨8,44,some 4,.unit,true⟩,⟨10,44,some 4,.unit,true⟩,⟨5,98,none,zp,true⟩,⟨8,98,none,zp,true⟩,⟨12,98,none,zp,true⟩,⟨15,98,none,zp,true⟩,⟨18,98,none,zp,true⟩,⟨21,98,none,zp,true⟩,⟨5,98,some 6,zp,false⟩,⟨8,98,some 6,zp,false⟩,⟨12,98,some 6,zp,false⟩,⟨15,98,some 6,zp,false⟩,⟨18,98,some 6,zp,false⟩,⟨21,98,some 6,zp,false⟩,⟨2,37,none,zp,true⟩,⟨4,37,none,zp,true⟩,⟨2,44,none,zp,true⟩,⟨5,44,none,zp,true⟩,⟨8,44,none,zp,true⟩,⟨10,44,none,zp,true⟩,⟨1,28,none,zp,true⟩,⟨4,28,none,zp,true⟩,⟨2,19,none,zp,true⟩,⟨4,19,none,zp,true⟩] [] [13,72,136,100,101,102,103,104]
def zhk (ja:uk) (jx:kZ) (qa:wb) (yS:KI) (wj:YB) (wk:YC) (jy:JR) (qZ:ZI) (a0:js) (a1:(List qE)) (a2:Int):Option (zat×Int×Unit):=
 opt (ja (a0,())) fun x0=>
 bif !(zi x0.1 0) then bif !(zi x0.1 0) then some (((0,0),((0,0),(0,0))),(x0.1,()))
  else opt (bif zh a2 0 then some (1,((((0,0),((0,0),(0,0))),(2,())),()))
    else bif (!(zh a2 (wrF .i64 (2*((a0.1.2.2.length:Nat):Int))))) then some (1,((((0,0),((0,0),(0,0))),(2,())),()))
     else some (0,((((0,0),((0,0),(0,0))),(0,())),()))) fun x1=>
   bif Nat.beq x1.1 0 then none
   else some (x1.2.1.1,(x1.2.1.2.1,()))
 else opt (jx (a0.1,(a1,()))) fun x2=>
  bif !(zi x2.1 0) then bif !(zi x2.1 0) then some (((0,0),((0,0),(0,0))),(x2.1,()))
   else opt (bif zh a2 0 then some (1,((((0,0),((0,0),(0,0))),(2,())),()))
     else bif (!(zh a2 (wrF .i64 (2*((a0.1.2.2.length:Nat):Int))))) then some (1,((((0,0),((0,0),(0,0))),(2,())),()))
      else some (0,((((0,0),((0,0),(0,0))),(0,())),()))) fun x3=>
    bif Nat.beq x3.1 0 then none
    else some (x3.2.1.1,(x3.2.1.2.1,()))
  else opt (zC (fun s4:((Unit×(Int×(Int×Unit)))×Unit)=>
    bif (zh s4.1.2.2.1 ((a1.length:Nat):Int)) then opt (atI a1 s4.1.2.2.1) fun x5=>
     opt (bif !(zi x5.2.2.2.1 6) then some (1,(((),(2,())),()))
      else bif zh a0.2.2.2 x5.2.2.2.2.1 then some (1,(((),(2,())),()))
       else some (0,(((),(s4.1.2.1,())),()))) fun x6=>
     bif Nat.beq x6.1 0 then some (.inr (((),(x6.2.1.2.1,((wrF .i64 (s4.1.2.2.1+1)),()))),()))
     else some (.inl (1,(((),(x6.2.1.2.1,(s4.1.2.2.1,()))),())))
    else some (.inl (0,(((),(s4.1.2.1,(s4.1.2.2.1,()))),())))) zK (((),(0,(0,()))),())) fun x7=>
   bif Nat.beq x7.1 0 then opt (bif zh a2 0 then some (1,((((0,0),((0,0),(0,0))),(2,())),()))
     else bif (!(zh a2 (wrF .i64 (2*((a0.1.2.2.length:Nat):Int))))) then some (1,((((0,0),((0,0),(0,0))),(2,())),()))
      else some (0,((((0,0),((0,0),(0,0))),(0,())),()))) fun x8=>
    bif Nat.beq x8.1 0 then opt (bif (!(mpH (α:=(((Int×Int)×((Int×Int)×(Int×Int)))×Int)) ([]) a2)) then opt (zC (fun s9:((Int×Unit)×(((List (Int×Int))×Unit)×(Unit×(Unit×Unit))))=>
        bif (zh s9.1.1 ((a1.length:Nat):Int)) then opt (atI a1 s9.1.1) fun x10=>
         opt (zC (fun s11:((Int×(Int×Unit))×(((List (Int×Int))×Unit)×(Unit×(Unit×Unit))))=>
          bif (zh s11.1.2.1 ((x10.2.2.2.2.2.2.2.2.length:Nat):Int)) then opt (atI x10.2.2.2.2.2.2.2.2 s11.1.2.1) fun x12=>
           opt (qa (x12,(a2,()))) fun x13=>
           bif x13.1 then some (.inl (1,((s11.1.2.1,(s11.1.2.1,())),((s11.2.1.1,()),((),((),()))))))
           else some (.inr ((s11.1.1,((wrF .i64 (s11.1.2.1+1)),())),((s11.2.1.1,()),((),((),())))))
          else some (.inl (0,((s11.1.1,(s11.1.2.1,())),((s11.2.1.1,()),((),((),()))))))) zK ((0,(0,())),((s9.2.1.1,()),((),((),()))))) fun x14=>
         bif Nat.beq x14.1 0 then some (.inr (((wrF .i64 (s9.1.1+1)),()),((x14.2.2.1.1,()),((),((),())))))
         else bif !(zh x14.2.1.1 0) then bif (qT x14.2.2.1.1.length ((x10.2.2.2.2.2.2.1::[]).length) 16) then some (.inr (((wrF .i64 (s9.1.1+1)),()),(((x14.2.2.1.1++(x10.2.2.2.2.2.2.1::[])),()),((),((),())))))
           else none
          else some (.inr (((wrF .i64 (s9.1.1+1)),()),((x14.2.2.1.1,()),((),((),())))))
        else some (.inl (0,((s9.1.1,()),((s9.2.1.1,()),((),((),()))))))) zK ((0,()),(([],()),((),((),()))))) fun x15=>
       bif Nat.beq x15.1 0 then bif (zi ((x15.2.2.1.1.length:Nat):Int) 0) then some (0,(((((0,0),((0,0),(0,0))),4),()),((mpP (α:=(((Int×Int)×((Int×Int)×(Int×Int)))×Int)) ([]) a2 (((0,0),((0,0),(0,0))),4)),())))
        else opt (yS (a0.1,(a2,()))) fun x16=>
         bif !(zi x16.2.1 0) then some (0,(((((0,0),((0,0),(0,0))),x16.2.1),()),((mpP (α:=(((Int×Int)×((Int×Int)×(Int×Int)))×Int)) ([]) a2 (((0,0),((0,0),(0,0))),x16.2.1)),())))
         else opt (atI a0.2.2.1 a2) fun x17=>
          opt (wj (x17,(x16.1,(a0.2.2.2,())))) fun x18=>
          bif !(zi x18.2.1 0) then some (0,(((((0,0),((0,0),(0,0))),411),()),((mpP (α:=(((Int×Int)×((Int×Int)×(Int×Int)))×Int)) ([]) a2 (((0,0),((0,0),(0,0))),411)),())))
          else opt (wk (x15.2.2.1.1,())) fun x19=>
           bif !(zi x19.2.1 0) then some (0,(((((0,0),((0,0),(0,0))),x19.2.1),()),((mpP (α:=(((Int×Int)×((Int×Int)×(Int×Int)))×Int)) ([]) a2 (((0,0),((0,0),(0,0))),x19.2.1)),())))
           else opt (jy ((x19.1::[]),(x18.1,()))) fun x20=>
            bif !(zi x20.2.1 0) then some (0,(((((0,0),((0,0),(0,0))),x20.2.1),()),((mpP (α:=(((Int×Int)×((Int×Int)×(Int×Int)))×Int)) ([]) a2 (((0,0),((0,0),(0,0))),x20.2.1)),())))
            else opt (qZ (x19.1,(x18.1,()))) fun x21=>
             bif !(zi x21.2.1 0) then some (0,(((((0,0),((0,0),(0,0))),x21.2.1),()),((mpP (α:=(((Int×Int)×((Int×Int)×(Int×Int)))×Int)) ([]) a2 (((0,0),((0,0),(0,0))),x21.2.1)),())))
             else some (0,((((x19.1,(x18.1,(x20.1,x21.1))),0),()),((mpP (α:=(((Int×Int)×((Int×Int)×(Int×Int)))×Int)) ([]) a2 ((x19.1,(x18.1,(x20.1,x21.1))),0)),())))
       else bif (zi ((x15.2.2.1.1.length:Nat):Int) 0) then some (0,(((((0,0),((0,0),(0,0))),4),()),((mpP (α:=(((Int×Int)×((Int×Int)×(Int×Int)))×Int)) ([]) a2 (((0,0),((0,0),(0,0))),4)),())))
        else opt (yS (a0.1,(a2,()))) fun x22=>
         bif !(zi x22.2.1 0) then some (0,(((((0,0),((0,0),(0,0))),x22.2.1),()),((mpP (α:=(((Int×Int)×((Int×Int)×(Int×Int)))×Int)) ([]) a2 (((0,0),((0,0),(0,0))),x22.2.1)),())))
         else opt (atI a0.2.2.1 a2) fun x23=>
          opt (wj (x23,(x22.1,(a0.2.2.2,())))) fun x24=>
          bif !(zi x24.2.1 0) then some (0,(((((0,0),((0,0),(0,0))),411),()),((mpP (α:=(((Int×Int)×((Int×Int)×(Int×Int)))×Int)) ([]) a2 (((0,0),((0,0),(0,0))),411)),())))
          else opt (wk (x15.2.2.1.1,())) fun x25=>
           bif !(zi x25.2.1 0) then some (0,(((((0,0),((0,0),(0,0))),x25.2.1),()),((mpP (α:=(((Int×Int)×((Int×Int)×(Int×Int)))×Int)) ([]) a2 (((0,0),((0,0),(0,0))),x25.2.1)),())))
           else opt (jy ((x25.1::[]),(x24.1,()))) fun x26=>
            bif !(zi x26.2.1 0) then some (0,(((((0,0),((0,0),(0,0))),x26.2.1),()),((mpP (α:=(((Int×Int)×((Int×Int)×(Int×Int)))×Int)) ([]) a2 (((0,0),((0,0),(0,0))),x26.2.1)),())))
            else opt (qZ (x25.1,(x24.1,()))) fun x27=>
             bif !(zi x27.2.1 0) then some (0,(((((0,0),((0,0),(0,0))),x27.2.1),()),((mpP (α:=(((Int×Int)×((Int×Int)×(Int×Int)))×Int)) ([]) a2 (((0,0),((0,0),(0,0))),x27.2.1)),())))
             else some (0,((((x25.1,(x24.1,(x26.1,x27.1))),0),()),((mpP (α:=(((Int×Int)×((Int×Int)×(Int×Int)))×Int)) ([]) a2 ((x25.1,(x24.1,(x26.1,x27.1))),0)),())))
      else some (0,(((mpD (α:=(((Int×Int)×((Int×Int)×(Int×Int)))×Int)) ([]) a2 (((0,0),((0,0),(0,0))),0)),()),([],())))) fun x28=>
     some (x28.2.1.1.1,(x28.2.1.1.2,()))
    else some (x8.2.1.1,(x8.2.1.2.1,()))
   else bif !(zi x7.2.1.2.1 0) then some (((0,0),((0,0),(0,0))),(x7.2.1.2.1,()))
    else opt (bif zh a2 0 then some (1,((((0,0),((0,0),(0,0))),(2,())),()))
      else bif (!(zh a2 (wrF .i64 (2*((a0.1.2.2.length:Nat):Int))))) then some (1,((((0,0),((0,0),(0,0))),(2,())),()))
       else some (0,((((0,0),((0,0),(0,0))),(0,())),()))) fun x29=>
     bif Nat.beq x29.1 0 then none
     else some (x29.2.1.1,(x29.2.1.2.1,()))
abbrev zhl:Type:=(js×(List qE)×Int×Unit)→Option (zat×Int×Unit)
def zoN:uk→kZ→wb→KI→YB→YC→JR→ZI→zhl:=fun ja jx qa yS wj wk jy qZ=>sF Tryz.prog [(13,⟨jm,jn,ja⟩),(72,⟨yq,yr,jx⟩),(136,⟨qz,qA,qa⟩),(100,⟨Zo,Zp,yS⟩),(101,⟨xI,xJ,wj⟩),(102,⟨uw,ux,wk⟩),(103,⟨vC,vD,jy⟩),(104,⟨xm,xn,qZ⟩)] zyA (zL []) 30 15 kB kC
theorem zzy (ja) (jx) (qa) (yS) (wj) (wk) (jy) (qZ) (a0) (a1) (a2):zoN ja jx qa yS wj wk jy qZ (a0,a1,a2,())=zhk ja jx qa yS wj wk jy qZ a0 a1 a2:=by kernel_rfl
def Vb:zhl:=zoN yk yX qt xY wK yP wX jM
theorem ztY:Con.Ok Tryz.prog 15 ⟨kB,kC,Vb⟩:=zA (zf Uo (zf zaS (zf Qh (zf zj9 (zf zgF (zf zgG (zf zfF (zf zc1 zn)))))))) zt (by kernel_rfl)
theorem ztZ (a0) (a1) (a2):Vb (a0,a1,a2,())=zhk yk yX qt xY wK yP wX jM a0 a1 a2:=zzy yk yX qt xY wK yP wX jM a0 a1 a2
abbrev zfG:List VT:=[⟨true,zv⟩,⟨false,(.list zU)⟩]
abbrev zfH:List VT:=[⟨false,I⟩]
def zoe:zT:=zM [cdF zU,cdF zv,cdF zO,cdF zp] [] [] [] [40,83]
def Gr (yA:JI) (yy:JH) (a0:zJ) (a1:(List qE)):Option (Int×Unit):=
 opt (yA (a0,())) fun x0=>
 bif !x0.1 then some (260,())
 else bif (zh 12 ((a1.length:Nat):Int)) then some (3,())
  else opt (zC (fun s1:((Int×(Int×Unit))×Unit)=>
    bif (zh s1.1.2.1 ((a1.length:Nat):Int)) then opt (atI a1 s1.1.2.1) fun x2=>
     opt (yy (a0,(x2,()))) fun x3=>
     bif !x3.1 then some (.inl (1,((321,(s1.1.2.1,())),())))
     else some (.inr ((s1.1.1,((wrF .i64 (s1.1.2.1+1)),())),()))
    else some (.inl (0,((s1.1.1,(s1.1.2.1,())),())))) zK ((0,(0,())),())) fun x4=>
   bif Nat.beq x4.1 0 then opt (zC (fun s5:((Int×(Int×Unit))×Unit)=>
     bif (zh s5.1.2.1 ((a1.length:Nat):Int)) then opt (zC (fun s6:((Int×(Int×Unit))×Unit)=>
       bif zh s6.1.2.1 s5.1.2.1 then opt (atI a1 s6.1.2.1) fun x7=>
        opt (atI a1 s5.1.2.1) fun x8=>
        bif zi x7.1 x8.1 then some (.inl (1,((322,(s6.1.2.1,())),())))
        else some (.inr ((s6.1.1,((wrF .i64 (s6.1.2.1+1)),())),()))
       else some (.inl (0,((s6.1.1,(s6.1.2.1,())),())))) zK ((s5.1.1,(0,())),())) fun x9=>
      bif Nat.beq x9.1 0 then some (.inr ((x9.2.1.1,((wrF .i64 (s5.1.2.1+1)),())),()))
      else some (.inl (1,((x9.2.1.1,(s5.1.2.1,())),())))
     else some (.inl (0,((s5.1.1,(s5.1.2.1,())),())))) zK ((x4.2.1.1,(0,())),())) fun x10=>
    bif Nat.beq x10.1 0 then some (0,())
    else some (x10.2.1.1,())
   else some (x4.2.1.1,())
abbrev XA:Type:=(zJ×(List qE)×Unit)→Option (Int×Unit)
def zfI:JI→JH→XA:=fun yA yy=>sF Tryz.prog [(40,⟨zdo,zdp,yA⟩),(83,⟨UG,UH,yy⟩)] zoe (zL []) 30 74 zfG zfH
theorem zqd (yA) (yy) (a0) (a1):zfI yA yy (a0,a1,())=Gr yA yy a0 a1:=by kernel_rfl
def QZ:XA:=zfI gu uF
theorem zk0 (a0) (a1):QZ (a0,a1,())=Gr gu uF a0 a1:=zqd gu uF a0 a1
abbrev zmH:List VT:=[⟨true,qM⟩,⟨false,(.list zU)⟩]
abbrev zmI:List VT:=[⟨false,I⟩]
def zwd:zT:=zM [cdF qM,cdF zU,cdF zv,cdF zO,cdF zN,cdF qh] [] [] [] [14,74]
def zfJ (uq:Jp) (Zg:XA) (a0:js) (a1:(List qE)):Option (Int×Unit):=
 opt (uq (a0,())) fun x0=>
 opt (bif zi x0.1 0 then opt (Zg (a0.1,(a1,()))) fun x1=>
   some (0,((x1.1,()),()))
  else some (0,((x0.1,()),()))) fun x2=>
 bif !(zi x2.2.1.1 0) then some (x2.2.1.1,())
 else opt (zC (fun s3:((Int×(Int×Unit))×Unit)=>
   bif (zh s3.1.2.1 ((a1.length:Nat):Int)) then opt (opt (atI a1 s3.1.2.1) fun x4=>
     bif !(zi x4.2.2.2.1 6) then some (1,((2,()),()))
     else opt (atI a1 s3.1.2.1) fun x5=>
      bif zh a0.2.2.2 x5.2.2.2.2.1 then some (1,((2,()),()))
      else some (0,((s3.1.1,()),()))) fun x6=>
    bif Nat.beq x6.1 0 then some (.inr ((x6.2.1.1,((wrF .i64 (s3.1.2.1+1)),())),()))
    else some (.inl (1,((x6.2.1.1,(s3.1.2.1,())),())))
   else some (.inl (0,((s3.1.1,(s3.1.2.1,())),())))) zK ((0,(0,())),())) fun x7=>
  bif Nat.beq x7.1 0 then some (0,())
  else some (x7.2.1.1,())
abbrev za1:Type:=(js×(List qE)×Unit)→Option (Int×Unit)
def zmJ:Jp→XA→za1:=fun uq Zg=>sF Tryz.prog [(14,⟨zbz,zbA,uq⟩),(74,⟨zfG,zfH,Zg⟩)] zwd (zL []) 30 45 zmH zmI
theorem zyB (uq) (Zg) (a0) (a1):zmJ uq Zg (a0,a1,())=zfJ uq Zg a0 a1:=by kernel_rfl
def Kb:za1:=zmJ gK QZ
theorem zr8 (a0) (a1):Kb (a0,a1,())=zfJ gK QZ a0 a1:=zyB gK QZ a0 a1
abbrev zid:List VT:=[⟨true,zU⟩,⟨false,I⟩]
abbrev zie:List VT:=[⟨false,.bool⟩]
def zr9:zT:=zM [cdF zU,cdF zp] [] [] [] []
def zch (a0:qE) (a1:Int):Option (Bool×Unit):=
 opt (zC (fun s0:((Bool×(Int×Unit))×Unit)=>
  bif (zh s0.1.2.1 ((a0.2.2.2.2.2.2.2.2.length:Nat):Int)) then opt (zC (fun s1:((Bool×(Int×Unit))×Unit)=>
    opt (atI a0.2.2.2.2.2.2.2.2 s0.1.2.1) fun x2=>
    bif (zh s1.1.2.1 ((x2.length:Nat):Int)) then opt (atI a0.2.2.2.2.2.2.2.2 s0.1.2.1) fun x3=>
     opt (atI x3 s1.1.2.1) fun x4=>
     bif zi x4 a1 then some (.inl (1,((true,(s1.1.2.1,())),())))
     else some (.inr ((s1.1.1,((wrF .i64 (s1.1.2.1+1)),())),()))
    else some (.inl (0,((s1.1.1,(s1.1.2.1,())),())))) zK ((s0.1.1,(0,())),())) fun x5=>
   bif Nat.beq x5.1 0 then some (.inr ((x5.2.1.1,((wrF .i64 (s0.1.2.1+1)),())),()))
   else some (.inl (1,((x5.2.1.1,(s0.1.2.1,())),())))
  else some (.inl (0,((s0.1.1,(s0.1.2.1,())),())))) zK ((false,(0,())),())) fun x6=>
 bif Nat.beq x6.1 0 then some (false,())
 else some (x6.2.1.1,())
abbrev KJ:Type:=(qE×Int×Unit)→Option (Bool×Unit)
def zif:KJ:=sF Tryz.prog [] zr9 (zL []) 30 27 zid zie
theorem zt0 (a0) (a1):zif (a0,a1,())=zch a0 a1:=by kernel_rfl
def YF:KJ:=zif
theorem zof (a0) (a1):YF (a0,a1,())=zch  a0 a1:=zt0  a0 a1
abbrev zoO:List VT:=[⟨true,zv⟩,⟨false,I⟩]
abbrev zoP:List VT:=[⟨false,I⟩]
def zyC:zT:=zM [cdF zv,cdF zO] [] [] [] []
def zhm (a0:zJ) (a1:Int):Option (Int×Unit):=
 opt (atI a0.2.2 (wrF .i64 (Int.tdiv a1 2))) fun x0=>
 some (x0.2.2.1,())
abbrev zcy:Type:=(zJ×Int×Unit)→Option (Int×Unit)
def zoQ:zcy:=sF Tryz.prog [] zyC (zL []) 30 76 zoO zoP
theorem zzz (a0) (a1):zoQ (a0,a1,())=zhm a0 a1:=by kernel_rfl
def Up:zcy:=zoQ
theorem zt1 (a0) (a1):Up (a0,a1,())=zhm  a0 a1:=zzz  a0 a1
abbrev zmK:List VT:=[⟨true,zN⟩,⟨false,I⟩,⟨false,I⟩]
abbrev zmL:List VT:=[⟨false,I⟩]
def zwe:zT:=zM [cdF zN,cdF qh] [] [] [] [42]
def zfK (yB:JJ) (a0:qo) (a1:Int) (a2:Int):Option (Int×Unit):=
 opt (yB (a0,())) fun x0=>
 bif !x0.1 then some (370,())
 else opt (bif zh a1 1 then some (1,((2,()),()))
   else bif zh 1000 a1 then some (1,((2,()),()))
    else bif zh a2 84 then some (1,((2,()),()))
     else bif zh 1542 a2 then some (1,((2,()),()))
      else some (0,((0,()),()))) fun x1=>
  bif Nat.beq x1.1 0 then some (0,())
  else some (x1.2.1.1,())
abbrev za2:Type:=(qo×Int×Int×Unit)→Option (Int×Unit)
def zmM:JJ→za2:=fun yB=>sF Tryz.prog [(42,⟨zds,zdt,yB⟩)] zwe (zL []) 30 105 zmK zmL
theorem zyD (yB) (a0) (a1) (a2):zmM yB (a0,a1,a2,())=zfK yB a0 a1 a2:=by kernel_rfl
def Kc:za2:=zmM gv
theorem zsa (a0) (a1) (a2):Kc (a0,a1,a2,())=zfK gv a0 a1 a2:=zyD gv a0 a1 a2
abbrev zcz:List VT:=[⟨false,I⟩,⟨false,I⟩]
abbrev zcA:List VT:=[⟨false,.bool⟩]
def zyE:zT:=zM [] [] [] [] []
def zhn (a0:Int) (a1:Int):Option (Bool×Unit):=
 bif zh (wrF .u64 a1) 0 then none
 else some ((zi (Int.tmod (wo .i64 a0 (wrF .u64 a1)) 2) 1),())
abbrev Qn:Type:=(Int×Int×Unit)→Option (Bool×Unit)
def zoR:Qn:=sF Tryz.prog [] zyE (zL []) 30 152 zcz zcA
theorem zzA (a0) (a1):zoR (a0,a1,())=zhn a0 a1:=by kernel_rfl
def uA:Qn:=zoR
theorem zt2 (a0) (a1):uA (a0,a1,())=zhn  a0 a1:=zzA  a0 a1
abbrev KK:List VT:=[⟨true,zN⟩]
abbrev KL:List VT:=[⟨false,.bool⟩]
def zsb:zT:=zM [cdF zN,cdF qh] [] [] [] [152]
def zci (jF:Qn) (a0:qo):Option (Bool×Unit):=
 opt (zC (fun s0:((Bool×(Int×Unit))×Unit)=>
  bif (zh s0.1.2.1 ((a0.1.length:Nat):Int)) then opt (atI a0.1 s0.1.2.1) fun x1=>
   opt (jF (x1.1,(6,()))) fun x2=>
   bif !x2.1 then some (.inl (1,((false,(s0.1.2.1,())),())))
   else some (.inr ((s0.1.1,((wrF .i64 (s0.1.2.1+1)),())),()))
  else some (.inl (0,((s0.1.1,(s0.1.2.1,())),())))) zK ((false,(0,())),())) fun x3=>
 bif Nat.beq x3.1 0 then some (true,())
 else some (x3.2.1.1,())
abbrev ky:Type:=(qo×Unit)→Option (Bool×Unit)
def zig:Qn→ky:=fun jF=>sF Tryz.prog [(152,⟨zcz,zcA,jF⟩)] zsb (zL []) 30 107 KK KL
theorem zt3 (jF) (a0):zig jF (a0,())=zci jF a0:=by kernel_rfl
def xg:ky:=zig uA
theorem zog (a0):xg (a0,())=zci uA a0:=zt3 uA a0
abbrev zsc:List VT:=[⟨true,zN⟩,⟨false,I⟩]
abbrev zsd:List VT:=[⟨false,I⟩,⟨false,I⟩]
def zzB:zT:=zM [cdF zN,cdF qh] [] [] [] []
def zjy (a0:qo) (a1:Int):Option (Int×Int×Unit):=
 bif zi a0.2 0 then none
 else opt (bif zh (Int.tmod a1 a0.2) 0 then some (0,(((wrF .i64 ((Int.tmod a1 a0.2)+a0.2)),()),()))
   else some (0,(((Int.tmod a1 a0.2),()),()))) fun x0=>
  opt (zC (fun s1:((Int×(Int×Unit))×Unit)=>
   opt (atI a0.1 s1.1.2.1) fun x2=>
   bif !(zh s1.1.1 x2.2) then opt (atI a0.1 s1.1.2.1) fun x3=>
    some (.inr (((wrF .i64 (s1.1.1 - x3.2)),((wrF .i64 (s1.1.2.1+1)),())),()))
   else some (.inl (0,((s1.1.1,(s1.1.2.1,())),())))) zK ((x0.2.1.1,(0,())),())) fun x4=>
  some (x4.2.1.2.1,(x4.2.1.1,()))
abbrev zez:Type:=(qo×Int×Unit)→Option (Int×Int×Unit)
def zse:zez:=sF Tryz.prog [] zzB (zL []) 30 172 zsc zsd
theorem zBu (a0) (a1):zse (a0,a1,())=zjy a0 a1:=by kernel_rfl
def KM:zez:=zse
theorem zwf (a0) (a1):KM (a0,a1,())=zjy  a0 a1:=zBu  a0 a1
abbrev Gs:List VT:=[⟨true,zN⟩,⟨false,I⟩,⟨false,I⟩]
abbrev Gt:List VT:=[⟨false,(.list qU)⟩]
def zoh:zT:=zM [cdF zN,cdF qh] [] [⟨4,68,some 6,qU,false⟩,⟨4,68,some 7,qU,true⟩,⟨8,68,some 6,qU,false⟩,⟨8,68,some 7,qU,true⟩,⟨10,68,some 6,qU,false⟩,⟨10,68,some 7,qU,true⟩] [] [172,152]
def Gu (KS:zez) (jF:Qn) (a0:qo) (a1:Int) (a2:Int):Option ((List xP)×Unit):=
 opt (zC (fun s0:((Bool×(Int×Unit))×((List (Int×Int))×Unit))=>
  bif zh s0.1.2.1 a2 then opt (KS (a0,(s0.1.2.1,()))) fun x1=>
   opt (atI a0.1 x1.1) fun x2=>
   opt (atI a0.1 x1.1) fun x3=>
   opt (jF (x3.1,(6,()))) fun x4=>
   opt (bif x4.1 then bif s0.1.1 then opt (atI s0.2.1 (wrF .i64 (((s0.2.1.length:Nat):Int) - 1))) fun x5=>
      opt (gl s0.2.1 (Int.toNat (wrF .i64 (((s0.2.1.length:Nat):Int) - 1)))) fun x6=>
      some (0,((),((s0.2.1.set (Int.toNat (wrF .i64 (((s0.2.1.length:Nat):Int) - 1))) (x6.1,(jB (wrF .i64 ((wrF .i64 (s0.1.2.1 - x1.2.1))+x2.2)) a2))),())))
     else some (0,((),(s0.2.1,())))
    else some (0,((),(s0.2.1,())))) fun x7=>
   opt (bif x4.1 then bif !s0.1.1 then bif (qT x7.2.2.1.length (((s0.1.2.1,(jB (wrF .i64 ((wrF .i64 (s0.1.2.1 - x1.2.1))+x2.2)) a2))::[]).length) 16) then some (0,((),((x7.2.2.1++((s0.1.2.1,(jB (wrF .i64 ((wrF .i64 (s0.1.2.1 - x1.2.1))+x2.2)) a2))::[])),())))
      else none
     else some (0,((),(x7.2.2.1,())))
    else some (0,((),(x7.2.2.1,())))) fun x8=>
   some (.inr ((x4.1,((jB (wrF .i64 ((wrF .i64 (s0.1.2.1 - x1.2.1))+x2.2)) a2),())),(x8.2.2.1,())))
  else some (.inl (0,((s0.1.1,(s0.1.2.1,())),(s0.2.1,()))))) zK ((false,(a1,())),([],()))) fun x9=>
 some (x9.2.2.1,())
abbrev Zb:Type:=(qo×Int×Int×Unit)→Option ((List xP)×Unit)
def zfL:zez→Qn→Zb:=fun KS jF=>sF Tryz.prog [(172,⟨zsc,zsd,KS⟩),(152,⟨zcz,zcA,jF⟩)] zoh (zL []) 30 153 Gs Gt
theorem zqe (KS) (jF) (a0) (a1) (a2):zfL KS jF (a0,a1,a2,())=Gu KS jF a0 a1 a2:=by kernel_rfl
def xC:Zb:=zfL KM uA
theorem zk1 (a0) (a1) (a2):xC (a0,a1,a2,())=Gu KM uA a0 a1 a2:=zqe KM uA a0 a1 a2
abbrev zdE:List VT:=[⟨true,zN⟩]
abbrev zdF:List VT:=[⟨false,(.list qU)⟩]
def zt4:zT:=zM [cdF zN,cdF qh] [] [⟨3,36,some 2,qU,false⟩] [] [152]
def zdG (jF:Qn) (jW:Zb) (a0:qo):Option ((List xP)×Unit):=
 opt (zC (fun s0:((Int×(Int×Unit))×Unit)=>
  bif (zh s0.1.2.1 ((a0.1.length:Nat):Int)) then opt (atI a0.1 s0.1.2.1) fun x1=>
   opt (jF (x1.1,(6,()))) fun x2=>
   bif x2.1 then opt (atI a0.1 s0.1.2.1) fun x3=>
    some (.inr (((wrF .i64 (s0.1.1+x3.2)),((wrF .i64 (s0.1.2.1+1)),())),()))
   else some (.inl (0,((s0.1.1,(s0.1.2.1,())),())))
  else some (.inl (0,((s0.1.1,(s0.1.2.1,())),())))) zK ((0,(0,())),())) fun x4=>
 opt (jW (a0,(x4.2.1.1,((wrF .i64 (x4.2.1.1+a0.2)),())))) fun x5=>
 some (x5.1,())
abbrev JS:Type:=(qo×Unit)→Option ((List xP)×Unit)
def zkg:Qn→Zb→JS:=fun jF jW=>sF Tryz.prog [(152,⟨zcz,zcA,jF⟩),(153,⟨Gs,Gt,jW⟩)] zt4 (zL []) 30 108 zdE zdF
theorem zwg (jF) (jW) (a0):zkg jF jW (a0,())=zdG jF jW a0:=by kernel_rfl
def vE:JS:=zkg uA xC
theorem zqf (a0):vE (a0,())=zdG uA xC a0:=zwg uA xC a0
abbrev zho:List VT:=[⟨false,(.list qU)⟩,⟨false,I⟩]
abbrev zhp:List VT:=[⟨false,I⟩]
def zyF:zT:=zM [cdF qU] [] [] [] []
def zhq (a0:(List xP)) (a1:Int):Option (Int×Unit):=
 opt (zC (fun s0:((Int×(Int×Unit))×Unit)=>
  bif (zh s0.1.2.1 ((a0.length:Nat):Int)) then opt (atI a0 s0.1.2.1) fun x1=>
   opt (atI a0 s0.1.2.1) fun x2=>
   some (.inr (((wrF .i64 (s0.1.1+(ur 0 (wrF .i64 ((wrF .i64 (x1.2 - x2.1)) - a1))))),((wrF .i64 (s0.1.2.1+1)),())),()))
  else some (.inl (0,((s0.1.1,(s0.1.2.1,())),())))) zK ((0,(0,())),())) fun x3=>
 some (x3.2.1.1,())
abbrev Vc:Type:=((List xP)×Int×Unit)→Option (Int×Unit)
def zoS:Vc:=sF Tryz.prog [] zyF (zL []) 30 151 zho zhp
theorem zzC (a0) (a1):zoS (a0,a1,())=zhq a0 a1:=by kernel_rfl
def Qo:Vc:=zoS
theorem zt5 (a0) (a1):Qo (a0,a1,())=zhq  a0 a1:=zzC  a0 a1
abbrev zkh:List VT:=[⟨true,zN⟩,⟨false,I⟩,⟨false,I⟩]
abbrev zki:List VT:=[⟨false,I⟩]
def zt6:zT:=zM [cdF zN,cdF qh] [] [] [] [107,151]
def UP (qP:ky) (yF:JS) (xR:Vc) (a0:qo) (a1:Int) (a2:Int):Option (Int×Unit):=
 opt (qP (a0,())) fun x0=>
 bif x0.1 then some (a0.2,())
 else opt (yF (a0,())) fun x1=>
  opt (xR (x1.1,((wrF .i64 (a2*a1)),()))) fun x2=>
  some (x2.1,())
abbrev UQ:Type:=(qo×Int×Int×Unit)→Option (Int×Unit)
def zkj:ky→JS→Vc→UQ:=fun qP yF xR=>sF Tryz.prog [(107,⟨KK,KL,qP⟩),(108,⟨zdE,zdF,yF⟩),(151,⟨zho,zhp,xR⟩)] zt6 (zL []) 30 106 zkh zki
theorem zwh (qP) (yF) (xR) (a0) (a1) (a2):zkj qP yF xR (a0,a1,a2,())=UP qP yF xR a0 a1 a2:=by kernel_rfl
def JT:UQ:=zkj xg vE Qo
theorem zfM (a0) (a1) (a2):JT (a0,a1,a2,())=UP xg vE Qo a0 a1 a2:=zwh xg vE Qo a0 a1 a2
abbrev zkk:List VT:=[⟨true,zN⟩,⟨false,I⟩,⟨false,I⟩,⟨false,I⟩,⟨false,I⟩]
abbrev zkl:List VT:=[⟨false,I⟩]
def zt7:zT:=zM [cdF zN,cdF qh] [] [] [] [107,151]
def zdH (qP:ky) (jW:Zb) (xR:Vc) (a0:qo) (a1:Int) (a2:Int) (a3:Int) (a4:Int):Option (Int×Unit):=
 opt (qP (a0,())) fun x0=>
 bif x0.1 then some ((wrF .i64 (a4 - (wrF .i64 (127*a1)))),())
 else opt (jW (a0,(a3,((wrF .i64 (a3+a4)),())))) fun x1=>
  opt (xR (x1.1,((wrF .i64 (a2*a1)),()))) fun x2=>
  some ((wrF .i64 (x2.1 - (wrF .i64 (127*a1)))),())
abbrev UR:Type:=(qo×Int×Int×Int×Int×Unit)→Option (Int×Unit)
def zkm:ky→Zb→Vc→UR:=fun qP jW xR=>sF Tryz.prog [(107,⟨KK,KL,qP⟩),(153,⟨Gs,Gt,jW⟩),(151,⟨zho,zhp,xR⟩)] zt7 (zL []) 30 109 zkk zkl
theorem zwi (qP) (jW) (xR) (a0) (a1) (a2) (a3) (a4):zkm qP jW xR (a0,a1,a2,a3,a4,())=zdH qP jW xR a0 a1 a2 a3 a4:=by kernel_rfl
def XR:UR:=zkm xg xC Qo
theorem zqg (a0) (a1) (a2) (a3) (a4):XR (a0,a1,a2,a3,a4,())=zdH xg xC Qo a0 a1 a2 a3 a4:=zwi xg xC Qo a0 a1 a2 a3 a4
abbrev zsf:List VT:=[⟨true,zN⟩,⟨false,I⟩,⟨false,I⟩]
abbrev zsg:List VT:=[⟨true,xl⟩,⟨false,I⟩]
def zzD:zT:=zM [cdF zN,cdF qh] [] [] [] [105,106,107,109]
def za3 (YY:za2) (Wf:UQ) (qP:ky) (yF:JS) (Wg:UR) (a0:qo) (a1:Int) (a2:Int):Option (wO×Int×Unit):=
 opt (YY (a0,(a1,(a2,())))) fun x0=>
 bif !(zi x0.1 0) then some ((0,0),(x0.1,()))
 else opt (Wf (a0,(a1,(a2,())))) fun x1=>
  bif (zi (wrF .i64 (a0.2*a1)) 0) then none
  else bif (zh (wrF .i64 (Int.tdiv (wrF .i64 (x1.1*1048576)) (wrF .i64 (a0.2*a1)))) 1) then some ((0,0),(4,()))
   else opt (opt (qP (a0,())) fun x2=>
     bif !x2.1 then opt (yF (a0,())) fun x3=>
      opt (zC (fun s4:((Int×(Int×Unit))×Unit)=>
       bif (zh s4.1.2.1 ((x3.1.length:Nat):Int)) then opt (atI x3.1 s4.1.2.1) fun x5=>
        opt (atI x3.1 s4.1.2.1) fun x6=>
        opt (atI x3.1 s4.1.2.1) fun x7=>
        opt (zC (fun s8:((Int×(Int×Unit))×Unit)=>
         bif (zh s8.1.2.1 (wrF .i64 (2*((x3.1.length:Nat):Int)))) then bif (zi ((x3.1.length:Nat):Int) 0) then none
          else opt (atI x3.1 (Int.tmod s8.1.2.1 ((x3.1.length:Nat):Int))) fun x9=>
           bif (zi ((x3.1.length:Nat):Int) 0) then none
           else opt (bif (zh (wrF .i64 (x5.2 - (jB (wrF .i64 (x6.2 - x7.1)) (wrF .i64 (a2*a1))))) (wrF .i64 ((wrF .i64 (x9.1+(jB (wrF .i64 (x9.2 - x9.1)) (wrF .i64 (a2*a1)))))+(wrF .i64 ((wrF .i64 (Int.tdiv s8.1.2.1 ((x3.1.length:Nat):Int)))*a0.2))))) then opt (Wg (a0,(a1,(a2,((wrF .i64 (x5.2 - (jB (wrF .i64 (x6.2 - x7.1)) (wrF .i64 (a2*a1))))),((wrF .i64 ((wrF .i64 ((wrF .i64 (x9.1+(jB (wrF .i64 (x9.2 - x9.1)) (wrF .i64 (a2*a1)))))+(wrF .i64 ((wrF .i64 (Int.tdiv s8.1.2.1 ((x3.1.length:Nat):Int)))*a0.2)))) - (wrF .i64 (x5.2 - (jB (wrF .i64 (x6.2 - x7.1)) (wrF .i64 (a2*a1))))))),())))))) fun x10=>
              some (0,(((ur s8.1.1 (wrF .i64 ((wrF .i64 ((wrF .i64 ((wrF .i64 ((wrF .i64 ((wrF .i64 (x9.1+(jB (wrF .i64 (x9.2 - x9.1)) (wrF .i64 (a2*a1)))))+(wrF .i64 ((wrF .i64 (Int.tdiv s8.1.2.1 ((x3.1.length:Nat):Int)))*a0.2)))) - (wrF .i64 (x5.2 - (jB (wrF .i64 (x6.2 - x7.1)) (wrF .i64 (a2*a1)))))))*(wrF .i64 (Int.tdiv (wrF .i64 (x1.1*1048576)) (wrF .i64 (a0.2*a1))))))*a1)) - (wrF .i64 (x10.1*1048576))))),()),()))
             else some (0,((s8.1.1,()),()))) fun x11=>
            some (.inr ((x11.2.1.1,((wrF .i64 (s8.1.2.1+1)),())),()))
         else some (.inl (0,((s8.1.1,(s8.1.2.1,())),())))) zK ((s4.1.1,(0,())),())) fun x12=>
        some (.inr ((x12.2.1.1,((wrF .i64 (s4.1.2.1+1)),())),()))
       else some (.inl (0,((s4.1.1,(s4.1.2.1,())),())))) zK (((wrF .i64 ((wrF .i64 (127*a1))*1048576)),(0,())),())) fun x13=>
      some (0,((a0,(x13.2.1.1,())),()))
     else some (0,((a0,((wrF .i64 ((wrF .i64 (127*a1))*1048576)),())),()))) fun x14=>
    bif (zi (wrF .i64 ((wrF .i64 (Int.tdiv (wrF .i64 (x1.1*1048576)) (wrF .i64 (a0.2*a1))))*a1)) 0) then none
    else some (((wrF .i64 (Int.tdiv (wrF .i64 (x1.1*1048576)) (wrF .i64 (a0.2*a1)))),(wrF .i64 (Int.tdiv (wrF .i64 ((wrF .i64 (x14.2.1.2.1+(wrF .i64 ((wrF .i64 (Int.tdiv (wrF .i64 (x1.1*1048576)) (wrF .i64 (a0.2*a1))))*a1)))) - 1)) (wrF .i64 ((wrF .i64 (Int.tdiv (wrF .i64 (x1.1*1048576)) (wrF .i64 (a0.2*a1))))*a1))))),(0,()))
abbrev zeA:Type:=(qo×Int×Int×Unit)→Option (wO×Int×Unit)
def zsh:za2→UQ→ky→JS→UR→zeA:=fun YY Wf qP yF Wg=>sF Tryz.prog [(105,⟨zmK,zmL,YY⟩),(106,⟨zkh,zki,Wf⟩),(107,⟨KK,KL,qP⟩),(108,⟨zdE,zdF,yF⟩),(109,⟨zkk,zkl,Wg⟩)] zzD (zL []) 30 75 zsf zsg
theorem zBv (YY) (Wf) (qP) (yF) (Wg) (a0) (a1) (a2):zsh YY Wf qP yF Wg (a0,a1,a2,())=za3 YY Wf qP yF Wg a0 a1 a2:=by kernel_rfl
def Wz:zeA:=zsh Kc JT xg vE XR
theorem zdI (a0) (a1) (a2):Wz (a0,a1,a2,())=za3 Kc JT xg vE XR a0 a1 a2:=zBv Kc JT xg vE XR a0 a1 a2
abbrev zdJ:List VT:=[⟨true,zp⟩]
abbrev zdK:List VT:=[⟨false,.bool⟩]
def zt8:zT:=zM [cdF zp] [] [] [] []
def zdL (a0:qy):Option (Bool×Unit):=
 bif !(zh a0.1 1) then bif !(zh 1048576 a0.1) then bif !(zh a0.2 1) then some ((!(zh 2097152 a0.2)),())
   else some (false,())
  else some (false,())
 else some (false,())
abbrev JU:Type:=(qy×Unit)→Option (Bool×Unit)
def zkn:JU:=sF Tryz.prog [] zt8 (zL []) 30 110 zdJ zdK
theorem zwj (a0):zkn (a0,())=zdL a0:=by kernel_rfl
def gx:JU:=zkn
theorem zqh (a0):gx (a0,())=zdL  a0:=zwj  a0
abbrev zoT:List VT:=[⟨false,(.list zp)⟩]
abbrev zoU:List VT:=[⟨true,zp⟩,⟨false,I⟩]
def zyG:zT:=zM [cdF zp] [] [] [] [110]
def zhr (ya:JU) (a0:(List qy)):Option (qy×Int×Unit):=
 bif (zi ((a0.length:Nat):Int) 0) then some ((0,0),(2,()))
 else bif (zh 12 ((a0.length:Nat):Int)) then some ((0,0),(3,()))
  else opt (zC (fun s0:(((Int×Int)×((Int×Int)×(Int×(Int×Unit))))×Unit)=>
    bif (zh s0.1.2.2.2.1 ((a0.length:Nat):Int)) then opt (atI a0 s0.1.2.2.2.1) fun x1=>
     opt (ya (x1,())) fun x2=>
     bif !x2.1 then some (.inl (1,(((0,0),(s0.1.2.1,(130,(s0.1.2.2.2.1,())))),())))
     else opt (atI a0 s0.1.2.2.2.1) fun x3=>
      opt (atI a0 s0.1.2.2.2.1) fun x4=>
      some (.inr ((s0.1.1,(((wrF .i64 (s0.1.2.1.1+x3.1)),(wrF .i64 (s0.1.2.1.2+x4.2))),(s0.1.2.2.1,((wrF .i64 (s0.1.2.2.2.1+1)),())))),()))
    else some (.inl (0,((s0.1.1,(s0.1.2.1,(s0.1.2.2.1,(s0.1.2.2.2.1,())))),())))) zK (((0,0),((0,0),(0,(0,())))),())) fun x5=>
   bif Nat.beq x5.1 0 then opt (ya (x5.2.1.2.1,())) fun x6=>
    bif !x6.1 then some ((0,0),(6,()))
    else some (x5.2.1.2.1,(0,()))
   else some (x5.2.1.1,(x5.2.1.2.2.1,()))
abbrev zcB:Type:=((List qy)×Unit)→Option (qy×Int×Unit)
def zoV:JU→zcB:=fun ya=>sF Tryz.prog [(110,⟨zdJ,zdK,ya⟩)] zyG (zL []) 30 77 zoT zoU
theorem zzE (ya) (a0):zoV ya (a0,())=zhr ya a0:=by kernel_rfl
def Uq:zcB:=zoV gx
theorem zt9 (a0):Uq (a0,())=zhr gx a0:=zzE gx a0
abbrev zko:List VT:=[⟨true,xl⟩]
abbrev zkp:List VT:=[⟨false,.bool⟩]
def zua:zT:=zM [cdF xl] [] [] [] []
def zdM (a0:wO):Option (Bool×Unit):=
 bif !(zh a0.1 1) then bif !(zh 2097152 a0.1) then bif !(zh a0.2 0) then some ((!(zh 268435456 a0.2)),())
   else some (false,())
  else some (false,())
 else some (false,())
abbrev US:Type:=(wO×Unit)→Option (Bool×Unit)
def zkq:US:=sF Tryz.prog [] zua (zL []) 30 111 zko zkp
theorem zwk (a0):zkq (a0,())=zdM a0:=by kernel_rfl
def XS:US:=zkq
theorem zqi (a0):XS (a0,())=zdM  a0:=zwk  a0
abbrev zmN:List VT:=[⟨false,(.list zp)⟩,⟨false,I⟩]
abbrev zmO:List VT:=[⟨false,.bool⟩]
def zwl:zT:=zM [cdF zp] [] [] [] []
def zfN (a0:(List qy)) (a1:Int):Option (Bool×Unit):=
 opt (zC (fun s0:((Bool×(Int×Unit))×Unit)=>
  bif (zh s0.1.2.1 ((a0.length:Nat):Int)) then opt (atI a0 s0.1.2.1) fun x1=>
   bif !(zh a1 x1.2) then some (.inl (1,((true,(s0.1.2.1,())),())))
   else some (.inr ((s0.1.1,((wrF .i64 (s0.1.2.1+1)),())),()))
  else some (.inl (0,((s0.1.1,(s0.1.2.1,())),())))) zK ((false,(0,())),())) fun x2=>
 bif Nat.beq x2.1 0 then some (false,())
 else some (x2.2.1.1,())
abbrev za4:Type:=((List qy)×Int×Unit)→Option (Bool×Unit)
def zmP:za4:=sF Tryz.prog [] zwl (zL []) 30 112 zmN zmO
theorem zyH (a0) (a1):zmP (a0,a1,())=zfN a0 a1:=by kernel_rfl
def Kd:za4:=zmP
theorem zsi (a0) (a1):Kd (a0,a1,())=zfN  a0 a1:=zyH  a0 a1
abbrev zfO:List VT:=[⟨false,I⟩,⟨false,I⟩]
abbrev zfP:List VT:=[⟨false,I⟩]
def zwm:zT:=zM [] [] [] [] []
def zfQ (a0:Int) (a1:Int):Option (Int×Unit):=
 bif zi a1 0 then none
 else opt (bif (zh (wrF .i64 ((wrF .i64 (Int.tdiv a0 a1))*a1)) a0) then some (0,(((wrF .i64 ((wrF .i64 (Int.tdiv a0 a1))+1)),()),()))
   else some (0,(((wrF .i64 (Int.tdiv a0 a1)),()),()))) fun x0=>
  some (x0.2.1.1,())
abbrev YG:Type:=(Int×Int×Unit)→Option (Int×Unit)
def zmQ:YG:=sF Tryz.prog [] zwm (zL []) 30 114 zfO zfP
theorem zyI (a0) (a1):zmQ (a0,a1,())=zfQ a0 a1:=by kernel_rfl
def Zu:YG:=zmQ
theorem zsj (a0) (a1):Zu (a0,a1,())=zfQ  a0 a1:=zyI  a0 a1
abbrev zfR:List VT:=[⟨false,(.list zp)⟩,⟨false,I⟩]
abbrev zfS:List VT:=[⟨false,I⟩]
def zoi:zT:=zM [cdF zp] [] [] [] [114]
def Gv (yT:YG) (a0:(List qy)) (a1:Int):Option (Int×Unit):=
 opt (zC (fun s0:((Int×(Int×Unit))×Unit)=>
  bif (zh s0.1.2.1 ((a0.length:Nat):Int)) then opt (atI a0 s0.1.2.1) fun x1=>
   bif zh a1 x1.2 then some (.inr ((s0.1.1,((wrF .i64 (s0.1.2.1+1)),())),()))
   else opt (yT ((wrF .i64 (x1.1*1048576)),(a1,()))) fun x2=>
    opt (bif zh s0.1.1 0 then some (0,((x2.1,()),()))
     else bif zh x2.1 s0.1.1 then some (0,((x2.1,()),()))
      else some (0,((s0.1.1,()),()))) fun x3=>
    opt (zC (fun s4:((Int×(Int×Unit))×Unit)=>
     bif (zh s4.1.2.1 ((a0.length:Nat):Int)) then opt (atI a0 s4.1.2.1) fun x5=>
      opt (bif zh a1 x5.2 then bif zh x5.1 x1.1 then opt (yT ((wrF .i64 ((wrF .i64 ((wrF .i64 ((wrF .i64 (x5.2 - a1))*x1.1))+(wrF .i64 ((wrF .i64 (a1 - x1.2))*x5.1))))*1048576)),((wrF .i64 (a1*(wrF .i64 (x5.2 - x1.2)))),()))) fun x6=>
         some (0,(((jB s4.1.1 x6.1),()),()))
        else some (0,((s4.1.1,()),()))
       else some (0,((s4.1.1,()),()))) fun x7=>
      some (.inr ((x7.2.1.1,((wrF .i64 (s4.1.2.1+1)),())),()))
     else some (.inl (0,((s4.1.1,(s4.1.2.1,())),())))) zK ((x3.2.1.1,(0,())),())) fun x8=>
    some (.inr ((x8.2.1.1,((wrF .i64 (s0.1.2.1+1)),())),()))
  else some (.inl (0,((s0.1.1,(s0.1.2.1,())),())))) zK (((-1),(0,())),())) fun x9=>
 some (x9.2.1.1,())
abbrev XB:Type:=((List qy)×Int×Unit)→Option (Int×Unit)
def zfT:YG→XB:=fun yT=>sF Tryz.prog [(114,⟨zfO,zfP,yT⟩)] zoi (zL []) 30 113 zfR zfS
theorem zqj (yT) (a0) (a1):zfT yT (a0,a1,())=Gv yT a0 a1:=by kernel_rfl
def Ja:XB:=zfT Zu
theorem zk2 (a0) (a1):Ja (a0,a1,())=Gv Zu a0 a1:=zqj Zu a0 a1
abbrev zdN:List VT:=[⟨false,(.list zp)⟩,⟨true,xl⟩]
abbrev zdO:List VT:=[⟨false,I⟩,⟨false,I⟩]
def zub:zT:=zM [cdF xl] [] [] [] [110,111,112,113]
def zdP (ya:JU) (Wh:US) (YZ:za4) (Zh:XB) (a0:(List qy)) (a1:wO):Option (Int×Int×Unit):=
 bif (zi ((a0.length:Nat):Int) 0) then some (0,(2,()))
 else bif (zh 12 ((a0.length:Nat):Int)) then some (0,(3,()))
  else opt (zC (fun s0:((Int×(Int×(Int×Unit)))×Unit)=>
    bif (zh s0.1.2.2.1 ((a0.length:Nat):Int)) then opt (atI a0 s0.1.2.2.1) fun x1=>
     opt (ya (x1,())) fun x2=>
     bif !x2.1 then some (.inl (1,((0,(130,(s0.1.2.2.1,()))),())))
     else some (.inr ((s0.1.1,(s0.1.2.1,((wrF .i64 (s0.1.2.2.1+1)),()))),()))
    else some (.inl (0,((s0.1.1,(s0.1.2.1,(s0.1.2.2.1,()))),())))) zK ((0,(0,(0,()))),())) fun x3=>
   bif Nat.beq x3.1 0 then opt (Wh (a1,())) fun x4=>
    bif !x4.1 then some (0,(140,()))
    else opt (YZ (a0,(a1.1,()))) fun x5=>
     bif !x5.1 then some (0,(141,()))
     else opt (Zh (a0,(a1.1,()))) fun x6=>
      some ((wrF .i64 (a1.2+x6.1)),(0,()))
   else some (x3.2.1.1,(x3.2.1.2.1,()))
abbrev JV:Type:=((List qy)×wO×Unit)→Option (Int×Int×Unit)
def zkr:JU→US→za4→XB→JV:=fun ya Wh YZ Zh=>sF Tryz.prog [(110,⟨zdJ,zdK,ya⟩),(111,⟨zko,zkp,Wh⟩),(112,⟨zmN,zmO,YZ⟩),(113,⟨zfR,zfS,Zh⟩)] zub (zL []) 30 78 zdN zdO
theorem zwn (ya) (Wh) (YZ) (Zh) (a0) (a1):zkr ya Wh YZ Zh (a0,a1,())=zdP ya Wh YZ Zh a0 a1:=by kernel_rfl
def gy:JV:=zkr gx XS Kd Ja
theorem zqk (a0) (a1):gy (a0,a1,())=zdP gx XS Kd Ja a0 a1:=zwn gx XS Kd Ja a0 a1
abbrev zgK:List VT:=[⟨true,zp⟩,⟨true,xl⟩]
abbrev zgL:List VT:=[⟨false,I⟩,⟨false,I⟩]
def zql:zT:=zM [cdF zp] [] [] [] [78,114]
def za5 (yG:JV) (yT:YG) (a0:qy) (a1:wO):Option (Int×Int×Unit):=
 opt (yG ((a0::[]),(a1,()))) fun x0=>
 bif !(zi x0.2.1 0) then some (0,(x0.2.1,()))
 else opt (yT ((wrF .i64 (a0.2*a1.2)),(1048576,()))) fun x1=>
  some ((wrF .i64 (a0.1+x1.1)),(0,()))
abbrev Vz:Type:=(qy×wO×Unit)→Option (Int×Int×Unit)
def zgM:JV→YG→Vz:=fun yG yT=>sF Tryz.prog [(78,⟨zdN,zdO,yG⟩),(114,⟨zfO,zfP,yT⟩)] zql (zL []) 30 79 zgK zgL
theorem zsk (yG) (yT) (a0) (a1):zgM yG yT (a0,a1,())=za5 yG yT a0 a1:=by kernel_rfl
def WA:Vz:=zgM gy Zu
theorem zmR (a0) (a1):WA (a0,a1,())=za5 gy Zu a0 a1:=zsk gy Zu a0 a1
abbrev zhs:List VT:=[⟨true,qM⟩,⟨false,(.list zU)⟩,⟨false,I⟩]
abbrev zht:List VT:=[⟨true,Zl⟩,⟨false,I⟩]
def zyJ:zT:=zM [cdF qM,cdF zU,cdF Zl,cdF zv,cdF zO,cdF zN,cdF qh] [] [⟨3,87,some 8,zp,true⟩,⟨5,87,some 8,zp,true⟩,⟨7,87,some 8,zp,true⟩,⟨10,87,some 8,zp,true⟩,⟨13,87,some 8,zp,true⟩,⟨16,87,some 8,zp,true⟩] [] [27,76,75,77,78,79]
def zhu (QA:KJ) (Vg:zcy) (KT:zeA) (Vh:zcB) (yG:JV) (ZM:Vz) (a0:js) (a1:(List qE)) (a2:Int):Option (zat×Int×Unit):=
 opt (zC (fun s0:((Int×Unit)×((List (Int×Int))×Unit))=>
  bif (zh s0.1.1 ((a1.length:Nat):Int)) then opt (opt (atI a1 s0.1.1) fun x1=>
    opt (QA (x1,(a2,()))) fun x2=>
    bif x2.1 then opt (atI a1 s0.1.1) fun x3=>
     bif (qT s0.2.1.length ((x3.2.2.2.2.2.2.1::[]).length) 16) then some (0,((),((s0.2.1++(x3.2.2.2.2.2.2.1::[])),())))
     else none
    else some (0,((),(s0.2.1,())))) fun x4=>
   some (.inr (((wrF .i64 (s0.1.1+1)),()),(x4.2.2.1,())))
  else some (.inl (0,((s0.1.1,()),(s0.2.1,()))))) zK ((0,()),([],()))) fun x5=>
 bif (zi ((x5.2.2.1.length:Nat):Int) 0) then some (((0,0),((0,0),(0,0))),(4,()))
 else opt (atI a0.2.2.1 a2) fun x6=>
  opt (Vg (a0.1,(a2,()))) fun x7=>
  opt (KT (x6,(x7.1,(a0.2.2.2,())))) fun x8=>
  bif !(zi x8.2.1 0) then some (((0,0),((0,0),(0,0))),(411,()))
  else opt (Vh (x5.2.2.1,())) fun x9=>
   bif !(zi x9.2.1 0) then some (((0,0),((0,0),(0,0))),(6,()))
   else opt (yG ((x9.1::[]),(x8.1,()))) fun x10=>
    bif !(zi x10.2.1 0) then some (((0,0),((0,0),(0,0))),(141,()))
    else opt (ZM (x9.1,(x8.1,()))) fun x11=>
     some ((x9.1,(x8.1,(x10.1,x11.1))),(0,()))
abbrev Vd:Type:=(js×(List qE)×Int×Unit)→Option (zat×Int×Unit)
def zoW:KJ→zcy→zeA→zcB→JV→Vz→Vd:=fun QA Vg KT Vh yG ZM=>sF Tryz.prog [(27,⟨zid,zie,QA⟩),(76,⟨zoO,zoP,Vg⟩),(75,⟨zsf,zsg,KT⟩),(77,⟨zoT,zoU,Vh⟩),(78,⟨zdN,zdO,yG⟩),(79,⟨zgK,zgL,ZM⟩)] zyJ (zL []) 30 46 zhs zht
theorem zzF (QA) (Vg) (KT) (Vh) (yG) (ZM) (a0) (a1) (a2):zoW QA Vg KT Vh yG ZM (a0,a1,a2,())=zhu QA Vg KT Vh yG ZM a0 a1 a2:=by kernel_rfl
def Qp:Vd:=zoW YF Up Wz Uq gy WA
theorem zuc (a0) (a1) (a2):Qp (a0,a1,a2,())=zhu YF Up Wz Uq gy WA a0 a1 a2:=zzF YF Up Wz Uq gy WA a0 a1 a2
abbrev KN:List VT:=[⟨false,(.list zU)⟩,⟨false,I⟩]
abbrev KP:List VT:=[⟨false,I⟩,⟨false,I⟩]
abbrev kg:List VT:=[⟨true,Kx⟩]
abbrev kh:List VT:=[⟨false,I⟩]
def zoj:zT:=zM [cdF Kx,cdF zO] [] [] [] []
def Gw (a0:zgA):Option (Int×Unit):=
 some (a0.1.2.2.2,())
abbrev XC:Type:=(zgA×Unit)→Option (Int×Unit)
def zfU:XC:=sF Tryz.prog [] zoj (zL []) 30 116 kg kh
theorem zqm (a0):zfU (a0,())=Gw a0:=by kernel_rfl
def Jb:XC:=zfU
theorem zk3:Con.Ok Tryz.prog 116 ⟨kg,kh,Jb⟩:=zA zn zt (by kernel_rfl)
theorem zk4 (a0):Jb (a0,())=Gw  a0:=zqm  a0
abbrev Zv:List VT:=[⟨true,zv⟩,⟨false,I⟩]
abbrev Zw:List VT:=[⟨false,I⟩,⟨false,I⟩]
def zwo:zT:=zM [cdF zv,cdF Kx,cdF zO] [] [] [] [37,116]
def zfV (qg:xF) (Zi:XC) (a0:zJ) (a1:Int):Option (Int×Int×Unit):=
 opt (qg (a0,())) fun x0=>
 bif !(zi x0.1 0) then some (0,(x0.1,()))
 else opt (bif zh a1 0 then some (1,((0,(2,())),()))
   else bif (!(zh a1 (wrF .i64 (2*((a0.2.2.length:Nat):Int))))) then some (1,((0,(2,())),()))
    else some (0,((0,(0,())),()))) fun x1=>
  bif Nat.beq x1.1 0 then opt (atI a0.2.2 (wrF .i64 (Int.tdiv a1 2))) fun x2=>
   opt (Zi ((x2,a1),())) fun x3=>
   some (x3.1,(0,()))
  else some (x1.2.1.1,(x1.2.1.2.1,()))
abbrev za6:Type:=(zJ×Int×Unit)→Option (Int×Int×Unit)
def zmS:xF→XC→za6:=fun qg Zi=>sF Tryz.prog [(37,⟨jI,jJ,qg⟩),(116,⟨kg,kh,Zi⟩)] zwo (zL []) 30 80 Zv Zw
theorem zyK (qg) (Zi) (a0) (a1):zmS qg Zi (a0,a1,())=zfV qg Zi a0 a1:=by kernel_rfl
def Jc:za6:=zmS jK Jb
theorem zsl:Con.Ok Tryz.prog 80 ⟨Zv,Zw,Jc⟩:=zA (zf Ww (zf zk3 zn)) zt (by kernel_rfl)
theorem zsm (a0) (a1):Jc (a0,a1,())=zfV jK Jb a0 a1:=zyK jK Jb a0 a1
abbrev YH:List VT:=[⟨true,qM⟩,⟨false,(.list zU)⟩,⟨false,I⟩,⟨false,I⟩]
abbrev YI:List VT:=[⟨false,I⟩,⟨false,I⟩]
abbrev zks:List VT:=[⟨true,zv⟩,⟨false,I⟩]
abbrev zkt:List VT:=[⟨false,I⟩]
def zud:zT:=zM [cdF zv,cdF zO] [] [] [] []
def zdQ (a0:zJ) (a1:Int):Option (Int×Unit):=
 opt (atI a0.2.2 (wrF .i64 (Int.tdiv a1 2))) fun x0=>
 some (x0.2.2.2,())
abbrev UT:Type:=(zJ×Int×Unit)→Option (Int×Unit)
def zku:UT:=sF Tryz.prog [] zud (zL []) 30 81 zks zkt
theorem zwp (a0) (a1):zku (a0,a1,())=zdQ a0 a1:=by kernel_rfl
def XT:UT:=zku
theorem zqn (a0) (a1):XT (a0,a1,())=zdQ  a0 a1:=zwp  a0 a1
abbrev zmT:List VT:=[⟨true,qM⟩,⟨false,(.list zU)⟩,⟨false,(.list I)⟩]
abbrev zmU:List VT:=[⟨false,I⟩,⟨false,I⟩]
def zwq:zT:=zM [cdF qM,cdF Zl,cdF zv,cdF zO,cdF zN,cdF qh] [] [] [] [46,81]
def zfW (xS:Vd) (Wi:UT) (a0:js) (a1:(List qE)) (a2:(List Int)):Option (Int×Int×Unit):=
 opt (zC (fun s0:((Int×(Int×(Int×(Int×Unit))))×Unit)=>
  bif (zh s0.1.2.2.2.1 ((a2.length:Nat):Int)) then opt (atI a2 s0.1.2.2.2.1) fun x1=>
   opt (xS (a0,(a1,(x1,())))) fun x2=>
   bif !(zi x2.2.1 0) then some (.inl (1,((0,(x2.2.1,(s0.1.2.2.1,(s0.1.2.2.2.1,())))),())))
   else opt (atI a2 s0.1.2.2.2.1) fun x3=>
    opt (Wi (a0.1,(x3,()))) fun x4=>
    some (.inr ((s0.1.1,(s0.1.2.1,((wrF .i64 ((wrF .i64 ((wrF .i64 (s0.1.2.2.1+x2.1.2.2.1))+x4.1))+a0.2.1.2.2.1)),((wrF .i64 (s0.1.2.2.2.1+1)),())))),()))
  else some (.inl (0,((s0.1.1,(s0.1.2.1,(s0.1.2.2.1,(s0.1.2.2.2.1,())))),())))) zK ((0,(0,(0,(0,())))),())) fun x5=>
 bif Nat.beq x5.1 0 then some (x5.2.1.2.2.1,(0,()))
 else some (x5.2.1.1,(x5.2.1.2.1,()))
abbrev za7:Type:=(js×(List qE)×(List Int)×Unit)→Option (Int×Int×Unit)
def zmV:Vd→UT→za7:=fun xS Wi=>sF Tryz.prog [(46,⟨zhs,zht,xS⟩),(81,⟨zks,zkt,Wi⟩)] zwq (zL []) 30 50 zmT zmU
theorem zyL (xS) (Wi) (a0) (a1) (a2):zmV xS Wi (a0,a1,a2,())=zfW xS Wi a0 a1 a2:=by kernel_rfl
def Ke:za7:=zmV Qp XT
theorem zsn (a0) (a1) (a2):Ke (a0,a1,a2,())=zfW Qp XT a0 a1 a2:=zyL Qp XT a0 a1 a2
abbrev zcC:List VT:=[]
abbrev zcD:List VT:=[⟨true,qM⟩]
abbrev XD:List VT:=[⟨false,I⟩,⟨false,I⟩,⟨false,I⟩,⟨false,I⟩,⟨false,I⟩]
abbrev XE:List VT:=[⟨true,zU⟩]
abbrev xK:List VT:=[⟨true,qM⟩,⟨false,(.list zU)⟩]
abbrev xL:List VT:=[⟨false,I⟩]
def zue:zT:=zM [cdF qM,cdF zU,cdF zhY,cdF Zl,cdF zv,cdF zO,cdF zN,cdF qh] [] [⟨8,44,some 4,.unit,true⟩,⟨10,44,some 4,.unit,true⟩,⟨5,98,none,zp,true⟩,⟨8,98,none,zp,true⟩,⟨12,98,none,zp,true⟩,⟨15,98,none,zp,true⟩,⟨18,98,none,zp,true⟩,⟨21,98,none,zp,true⟩,⟨5,98,some 6,zp,false⟩,⟨8,98,some 6,zp,false⟩,⟨12,98,some 6,zp,false⟩,⟨15,98,some 6,zp,false⟩,⟨18,98,some 6,zp,false⟩,⟨21,98,some 6,zp,false⟩,⟨2,90,none,zp,true⟩,⟨6,90,none,zp,true⟩,⟨9,90,none,zp,true⟩,⟨10,90,none,zp,true⟩,⟨12,90,none,zp,true⟩,⟨15,90,none,zp,true⟩,⟨18,90,none,zp,true⟩,⟨21,90,none,zp,true⟩,⟨24,90,none,zp,true⟩,⟨26,90,none,zp,true⟩,⟨5,90,none,zp,true⟩,⟨2,44,none,zp,true⟩,⟨5,44,none,zp,true⟩,⟨8,44,none,zp,true⟩,⟨10,44,none,zp,true⟩,⟨2,37,none,zp,true⟩,⟨1,28,none,zp,true⟩,⟨4,28,none,zp,true⟩,⟨2,19,none,zp,true⟩,⟨4,19,none,zp,true⟩,⟨3,55,none,zp,true⟩,⟨6,55,none,zp,true⟩,⟨9,55,none,zp,true⟩] [] [13,72,136,100,101,102,103,104,80]
def zdR (ja:uk) (jx:kZ) (qa:wb) (yS:KI) (wj:YB) (wk:YC) (jy:JR) (qZ:ZI) (Xa:za6) (a0:js) (a1:(List qE)):Option (Int×Unit):=
 opt (ja (a0,())) fun x0=>
 bif !(zi x0.1 0) then bif !(zi x0.1 0) then some (x0.1,())
  else none
 else opt (jx (a0.1,(a1,()))) fun x1=>
  bif !(zi x1.1 0) then bif !(zi x1.1 0) then some (x1.1,())
   else none
  else opt (zC (fun s2:((Unit×(Int×(Int×Unit)))×Unit)=>
    bif (zh s2.1.2.2.1 ((a1.length:Nat):Int)) then opt (atI a1 s2.1.2.2.1) fun x3=>
     opt (bif !(zi x3.2.2.2.1 6) then some (1,(((),(2,())),()))
      else bif zh a0.2.2.2 x3.2.2.2.2.1 then some (1,(((),(2,())),()))
       else some (0,(((),(s2.1.2.1,())),()))) fun x4=>
     bif Nat.beq x4.1 0 then some (.inr (((),(x4.2.1.2.1,((wrF .i64 (s2.1.2.2.1+1)),()))),()))
     else some (.inl (1,(((),(x4.2.1.2.1,(s2.1.2.2.1,()))),())))
    else some (.inl (0,(((),(s2.1.2.1,(s2.1.2.2.1,()))),())))) zK (((),(0,(0,()))),())) fun x5=>
   bif Nat.beq x5.1 0 then opt (zC (fun s6:((Int×(Int×Unit))×((List (Int×(((Int×Int)×((Int×Int)×(Int×Int)))×Int)))×Unit))=>
     bif (zh s6.1.2.1 ((a0.2.2.1.length:Nat):Int)) then opt (bif (!(mpH (α:=(((Int×Int)×((Int×Int)×(Int×Int)))×Int)) s6.2.1 s6.1.2.1)) then opt (zC (fun s7:((Int×Unit)×(((List (Int×Int))×Unit)×(Unit×(Unit×Unit))))=>
         bif (zh s7.1.1 ((a1.length:Nat):Int)) then opt (atI a1 s7.1.1) fun x8=>
          opt (zC (fun s9:((Int×(Int×Unit))×(((List (Int×Int))×Unit)×(Unit×(Unit×Unit))))=>
           bif (zh s9.1.2.1 ((x8.2.2.2.2.2.2.2.2.length:Nat):Int)) then opt (atI x8.2.2.2.2.2.2.2.2 s9.1.2.1) fun x10=>
            opt (qa (x10,(s6.1.2.1,()))) fun x11=>
            bif x11.1 then some (.inl (1,((s9.1.2.1,(s9.1.2.1,())),((s9.2.1.1,()),((),((),()))))))
            else some (.inr ((s9.1.1,((wrF .i64 (s9.1.2.1+1)),())),((s9.2.1.1,()),((),((),())))))
           else some (.inl (0,((s9.1.1,(s9.1.2.1,())),((s9.2.1.1,()),((),((),()))))))) zK ((0,(0,())),((s7.2.1.1,()),((),((),()))))) fun x12=>
          bif Nat.beq x12.1 0 then some (.inr (((wrF .i64 (s7.1.1+1)),()),((x12.2.2.1.1,()),((),((),())))))
          else bif !(zh x12.2.1.1 0) then bif (qT x12.2.2.1.1.length ((x8.2.2.2.2.2.2.1::[]).length) 16) then some (.inr (((wrF .i64 (s7.1.1+1)),()),(((x12.2.2.1.1++(x8.2.2.2.2.2.2.1::[])),()),((),((),())))))
            else none
           else some (.inr (((wrF .i64 (s7.1.1+1)),()),((x12.2.2.1.1,()),((),((),())))))
         else some (.inl (0,((s7.1.1,()),((s7.2.1.1,()),((),((),()))))))) zK ((0,()),(([],()),((),((),()))))) fun x13=>
        bif Nat.beq x13.1 0 then bif (zi ((x13.2.2.1.1.length:Nat):Int) 0) then some (0,(((((0,0),((0,0),(0,0))),4),()),((mpP (α:=(((Int×Int)×((Int×Int)×(Int×Int)))×Int)) s6.2.1 s6.1.2.1 (((0,0),((0,0),(0,0))),4)),())))
         else opt (yS (a0.1,(s6.1.2.1,()))) fun x14=>
          bif !(zi x14.2.1 0) then some (0,(((((0,0),((0,0),(0,0))),x14.2.1),()),((mpP (α:=(((Int×Int)×((Int×Int)×(Int×Int)))×Int)) s6.2.1 s6.1.2.1 (((0,0),((0,0),(0,0))),x14.2.1)),())))
          else opt (atI a0.2.2.1 s6.1.2.1) fun x15=>
           opt (wj (x15,(x14.1,(a0.2.2.2,())))) fun x16=>
           bif !(zi x16.2.1 0) then some (0,(((((0,0),((0,0),(0,0))),411),()),((mpP (α:=(((Int×Int)×((Int×Int)×(Int×Int)))×Int)) s6.2.1 s6.1.2.1 (((0,0),((0,0),(0,0))),411)),())))
           else opt (wk (x13.2.2.1.1,())) fun x17=>
            bif !(zi x17.2.1 0) then some (0,(((((0,0),((0,0),(0,0))),x17.2.1),()),((mpP (α:=(((Int×Int)×((Int×Int)×(Int×Int)))×Int)) s6.2.1 s6.1.2.1 (((0,0),((0,0),(0,0))),x17.2.1)),())))
            else opt (jy ((x17.1::[]),(x16.1,()))) fun x18=>
             bif !(zi x18.2.1 0) then some (0,(((((0,0),((0,0),(0,0))),x18.2.1),()),((mpP (α:=(((Int×Int)×((Int×Int)×(Int×Int)))×Int)) s6.2.1 s6.1.2.1 (((0,0),((0,0),(0,0))),x18.2.1)),())))
             else opt (qZ (x17.1,(x16.1,()))) fun x19=>
              bif !(zi x19.2.1 0) then some (0,(((((0,0),((0,0),(0,0))),x19.2.1),()),((mpP (α:=(((Int×Int)×((Int×Int)×(Int×Int)))×Int)) s6.2.1 s6.1.2.1 (((0,0),((0,0),(0,0))),x19.2.1)),())))
              else some (0,((((x17.1,(x16.1,(x18.1,x19.1))),0),()),((mpP (α:=(((Int×Int)×((Int×Int)×(Int×Int)))×Int)) s6.2.1 s6.1.2.1 ((x17.1,(x16.1,(x18.1,x19.1))),0)),())))
        else bif (zi ((x13.2.2.1.1.length:Nat):Int) 0) then some (0,(((((0,0),((0,0),(0,0))),4),()),((mpP (α:=(((Int×Int)×((Int×Int)×(Int×Int)))×Int)) s6.2.1 s6.1.2.1 (((0,0),((0,0),(0,0))),4)),())))
         else opt (yS (a0.1,(s6.1.2.1,()))) fun x20=>
          bif !(zi x20.2.1 0) then some (0,(((((0,0),((0,0),(0,0))),x20.2.1),()),((mpP (α:=(((Int×Int)×((Int×Int)×(Int×Int)))×Int)) s6.2.1 s6.1.2.1 (((0,0),((0,0),(0,0))),x20.2.1)),())))
          else opt (atI a0.2.2.1 s6.1.2.1) fun x21=>
           opt (wj (x21,(x20.1,(a0.2.2.2,())))) fun x22=>
           bif !(zi x22.2.1 0) then some (0,(((((0,0),((0,0),(0,0))),411),()),((mpP (α:=(((Int×Int)×((Int×Int)×(Int×Int)))×Int)) s6.2.1 s6.1.2.1 (((0,0),((0,0),(0,0))),411)),())))
           else opt (wk (x13.2.2.1.1,())) fun x23=>
            bif !(zi x23.2.1 0) then some (0,(((((0,0),((0,0),(0,0))),x23.2.1),()),((mpP (α:=(((Int×Int)×((Int×Int)×(Int×Int)))×Int)) s6.2.1 s6.1.2.1 (((0,0),((0,0),(0,0))),x23.2.1)),())))
            else opt (jy ((x23.1::[]),(x22.1,()))) fun x24=>
             bif !(zi x24.2.1 0) then some (0,(((((0,0),((0,0),(0,0))),x24.2.1),()),((mpP (α:=(((Int×Int)×((Int×Int)×(Int×Int)))×Int)) s6.2.1 s6.1.2.1 (((0,0),((0,0),(0,0))),x24.2.1)),())))
             else opt (qZ (x23.1,(x22.1,()))) fun x25=>
              bif !(zi x25.2.1 0) then some (0,(((((0,0),((0,0),(0,0))),x25.2.1),()),((mpP (α:=(((Int×Int)×((Int×Int)×(Int×Int)))×Int)) s6.2.1 s6.1.2.1 (((0,0),((0,0),(0,0))),x25.2.1)),())))
              else some (0,((((x23.1,(x22.1,(x24.1,x25.1))),0),()),((mpP (α:=(((Int×Int)×((Int×Int)×(Int×Int)))×Int)) s6.2.1 s6.1.2.1 ((x23.1,(x22.1,(x24.1,x25.1))),0)),())))
       else some (0,(((mpD (α:=(((Int×Int)×((Int×Int)×(Int×Int)))×Int)) s6.2.1 s6.1.2.1 (((0,0),((0,0),(0,0))),0)),()),(s6.2.1,())))) fun x26=>
      bif zi x26.2.1.1.2 4 then some (.inr ((s6.1.1,((wrF .i64 (s6.1.2.1+1)),())),(x26.2.2.1,())))
      else bif !(zi x26.2.1.1.2 0) then some (.inl (0,((x26.2.1.1.2,(s6.1.2.1,())),(x26.2.2.1,()))))
       else bif zh a0.2.1.2.2.2 x26.2.1.1.1.2.2.2 then some (.inl (0,((7,(s6.1.2.1,())),(x26.2.2.1,()))))
        else some (.inr ((s6.1.1,((wrF .i64 (s6.1.2.1+1)),())),(x26.2.2.1,())))
     else some (.inl (0,((s6.1.1,(s6.1.2.1,())),(s6.2.1,()))))) zK ((0,(0,())),([],()))) fun x27=>
    bif !(zi x27.2.1.1 0) then some (x27.2.1.1,())
    else opt (zC (fun s28:((Int×(Int×Unit))×((List (Int×(((Int×Int)×((Int×Int)×(Int×Int)))×Int)))×Unit))=>
      bif (zh s28.1.2.1 ((a1.length:Nat):Int)) then opt (atI a1 s28.1.2.1) fun x29=>
       opt (zC (fun s30:((Int×(Int×Unit))×((List (Int×(((Int×Int)×((Int×Int)×(Int×Int)))×Int)))×Unit))=>
        bif (zh s30.1.2.1 ((x29.2.2.2.2.2.2.2.2.length:Nat):Int)) then opt (atI x29.2.2.2.2.2.2.2.2 s30.1.2.1) fun x31=>
         opt (zC (fun s32:((Int×(Int×(Int×(Int×Unit))))×((List (Int×(((Int×Int)×((Int×Int)×(Int×Int)))×Int)))×Unit))=>
          bif (zh s32.1.2.2.2.1 ((x31.length:Nat):Int)) then opt (atI x31 s32.1.2.2.2.1) fun x33=>
           opt (bif (!(mpH (α:=(((Int×Int)×((Int×Int)×(Int×Int)))×Int)) s32.2.1 x33)) then opt (zC (fun s34:((Int×Unit)×(((List (Int×Int))×Unit)×(Unit×(Unit×Unit))))=>
              bif (zh s34.1.1 ((a1.length:Nat):Int)) then opt (atI a1 s34.1.1) fun x35=>
               opt (zC (fun s36:((Int×(Int×Unit))×(((List (Int×Int))×Unit)×(Unit×(Unit×Unit))))=>
                bif (zh s36.1.2.1 ((x35.2.2.2.2.2.2.2.2.length:Nat):Int)) then opt (atI x35.2.2.2.2.2.2.2.2 s36.1.2.1) fun x37=>
                 opt (qa (x37,(x33,()))) fun x38=>
                 bif x38.1 then some (.inl (1,((s36.1.2.1,(s36.1.2.1,())),((s36.2.1.1,()),((),((),()))))))
                 else some (.inr ((s36.1.1,((wrF .i64 (s36.1.2.1+1)),())),((s36.2.1.1,()),((),((),())))))
                else some (.inl (0,((s36.1.1,(s36.1.2.1,())),((s36.2.1.1,()),((),((),()))))))) zK ((0,(0,())),((s34.2.1.1,()),((),((),()))))) fun x39=>
               bif Nat.beq x39.1 0 then some (.inr (((wrF .i64 (s34.1.1+1)),()),((x39.2.2.1.1,()),((),((),())))))
               else bif !(zh x39.2.1.1 0) then bif (qT x39.2.2.1.1.length ((x35.2.2.2.2.2.2.1::[]).length) 16) then some (.inr (((wrF .i64 (s34.1.1+1)),()),(((x39.2.2.1.1++(x35.2.2.2.2.2.2.1::[])),()),((),((),())))))
                 else none
                else some (.inr (((wrF .i64 (s34.1.1+1)),()),((x39.2.2.1.1,()),((),((),())))))
              else some (.inl (0,((s34.1.1,()),((s34.2.1.1,()),((),((),()))))))) zK ((0,()),(([],()),((),((),()))))) fun x40=>
             bif Nat.beq x40.1 0 then bif (zi ((x40.2.2.1.1.length:Nat):Int) 0) then some (0,(((((0,0),((0,0),(0,0))),4),()),((mpP (α:=(((Int×Int)×((Int×Int)×(Int×Int)))×Int)) s32.2.1 x33 (((0,0),((0,0),(0,0))),4)),())))
              else opt (yS (a0.1,(x33,()))) fun x41=>
               bif !(zi x41.2.1 0) then some (0,(((((0,0),((0,0),(0,0))),x41.2.1),()),((mpP (α:=(((Int×Int)×((Int×Int)×(Int×Int)))×Int)) s32.2.1 x33 (((0,0),((0,0),(0,0))),x41.2.1)),())))
               else opt (atI a0.2.2.1 x33) fun x42=>
                opt (wj (x42,(x41.1,(a0.2.2.2,())))) fun x43=>
                bif !(zi x43.2.1 0) then some (0,(((((0,0),((0,0),(0,0))),411),()),((mpP (α:=(((Int×Int)×((Int×Int)×(Int×Int)))×Int)) s32.2.1 x33 (((0,0),((0,0),(0,0))),411)),())))
                else opt (wk (x40.2.2.1.1,())) fun x44=>
                 bif !(zi x44.2.1 0) then some (0,(((((0,0),((0,0),(0,0))),x44.2.1),()),((mpP (α:=(((Int×Int)×((Int×Int)×(Int×Int)))×Int)) s32.2.1 x33 (((0,0),((0,0),(0,0))),x44.2.1)),())))
                 else opt (jy ((x44.1::[]),(x43.1,()))) fun x45=>
                  bif !(zi x45.2.1 0) then some (0,(((((0,0),((0,0),(0,0))),x45.2.1),()),((mpP (α:=(((Int×Int)×((Int×Int)×(Int×Int)))×Int)) s32.2.1 x33 (((0,0),((0,0),(0,0))),x45.2.1)),())))
                  else opt (qZ (x44.1,(x43.1,()))) fun x46=>
                   bif !(zi x46.2.1 0) then some (0,(((((0,0),((0,0),(0,0))),x46.2.1),()),((mpP (α:=(((Int×Int)×((Int×Int)×(Int×Int)))×Int)) s32.2.1 x33 (((0,0),((0,0),(0,0))),x46.2.1)),())))
                   else some (0,((((x44.1,(x43.1,(x45.1,x46.1))),0),()),((mpP (α:=(((Int×Int)×((Int×Int)×(Int×Int)))×Int)) s32.2.1 x33 ((x44.1,(x43.1,(x45.1,x46.1))),0)),())))
             else bif (zi ((x40.2.2.1.1.length:Nat):Int) 0) then some (0,(((((0,0),((0,0),(0,0))),4),()),((mpP (α:=(((Int×Int)×((Int×Int)×(Int×Int)))×Int)) s32.2.1 x33 (((0,0),((0,0),(0,0))),4)),())))
              else opt (yS (a0.1,(x33,()))) fun x47=>
               bif !(zi x47.2.1 0) then some (0,(((((0,0),((0,0),(0,0))),x47.2.1),()),((mpP (α:=(((Int×Int)×((Int×Int)×(Int×Int)))×Int)) s32.2.1 x33 (((0,0),((0,0),(0,0))),x47.2.1)),())))
               else opt (atI a0.2.2.1 x33) fun x48=>
                opt (wj (x48,(x47.1,(a0.2.2.2,())))) fun x49=>
                bif !(zi x49.2.1 0) then some (0,(((((0,0),((0,0),(0,0))),411),()),((mpP (α:=(((Int×Int)×((Int×Int)×(Int×Int)))×Int)) s32.2.1 x33 (((0,0),((0,0),(0,0))),411)),())))
                else opt (wk (x40.2.2.1.1,())) fun x50=>
                 bif !(zi x50.2.1 0) then some (0,(((((0,0),((0,0),(0,0))),x50.2.1),()),((mpP (α:=(((Int×Int)×((Int×Int)×(Int×Int)))×Int)) s32.2.1 x33 (((0,0),((0,0),(0,0))),x50.2.1)),())))
                 else opt (jy ((x50.1::[]),(x49.1,()))) fun x51=>
                  bif !(zi x51.2.1 0) then some (0,(((((0,0),((0,0),(0,0))),x51.2.1),()),((mpP (α:=(((Int×Int)×((Int×Int)×(Int×Int)))×Int)) s32.2.1 x33 (((0,0),((0,0),(0,0))),x51.2.1)),())))
                  else opt (qZ (x50.1,(x49.1,()))) fun x52=>
                   bif !(zi x52.2.1 0) then some (0,(((((0,0),((0,0),(0,0))),x52.2.1),()),((mpP (α:=(((Int×Int)×((Int×Int)×(Int×Int)))×Int)) s32.2.1 x33 (((0,0),((0,0),(0,0))),x52.2.1)),())))
                   else some (0,((((x50.1,(x49.1,(x51.1,x52.1))),0),()),((mpP (α:=(((Int×Int)×((Int×Int)×(Int×Int)))×Int)) s32.2.1 x33 ((x50.1,(x49.1,(x51.1,x52.1))),0)),())))
            else some (0,(((mpD (α:=(((Int×Int)×((Int×Int)×(Int×Int)))×Int)) s32.2.1 x33 (((0,0),((0,0),(0,0))),0)),()),(s32.2.1,())))) fun x53=>
           bif !(zi x53.2.1.1.2 0) then some (.inl (1,((0,(x53.2.1.1.2,(s32.1.2.2.1,(s32.1.2.2.2.1,())))),(x53.2.2.1,()))))
           else opt (Xa (a0.1,(x33,()))) fun x54=>
            bif !(zi x54.2.1 0) then some (.inl (1,((0,(x54.2.1,(s32.1.2.2.1,(s32.1.2.2.2.1,())))),(x53.2.2.1,()))))
            else some (.inr ((s32.1.1,(s32.1.2.1,((wrF .i64 (s32.1.2.2.1+(wrF .i64 ((wrF .i64 (x53.2.1.1.1.2.2.1+x54.1))+a0.2.1.2.2.1)))),((wrF .i64 (s32.1.2.2.2.1+1)),())))),(x53.2.2.1,())))
          else some (.inl (0,((s32.1.1,(s32.1.2.1,(s32.1.2.2.1,(s32.1.2.2.2.1,())))),(s32.2.1,()))))) zK ((0,(0,(0,(0,())))),(s30.2.1,()))) fun x55=>
         bif Nat.beq x55.1 0 then bif zh x29.2.2.2.2.2.2.2.1 x55.2.1.2.2.1 then some (.inl (1,((412,(s30.1.2.1,())),(x55.2.2.1,()))))
          else some (.inr ((s30.1.1,((wrF .i64 (s30.1.2.1+1)),())),(x55.2.2.1,())))
         else bif !(zi x55.2.1.2.1 0) then some (.inl (1,((x55.2.1.2.1,(s30.1.2.1,())),(x55.2.2.1,()))))
          else bif zh x29.2.2.2.2.2.2.2.1 x55.2.1.1 then some (.inl (1,((412,(s30.1.2.1,())),(x55.2.2.1,()))))
           else some (.inr ((s30.1.1,((wrF .i64 (s30.1.2.1+1)),())),(x55.2.2.1,())))
        else some (.inl (0,((s30.1.1,(s30.1.2.1,())),(s30.2.1,()))))) zK ((s28.1.1,(0,())),(s28.2.1,()))) fun x56=>
       bif Nat.beq x56.1 0 then some (.inr ((x56.2.1.1,((wrF .i64 (s28.1.2.1+1)),())),(x56.2.2.1,())))
       else some (.inl (1,((x56.2.1.1,(s28.1.2.1,())),(x56.2.2.1,()))))
      else some (.inl (0,((s28.1.1,(s28.1.2.1,())),(s28.2.1,()))))) zK ((0,(0,())),(x27.2.2.1,()))) fun x57=>
     bif Nat.beq x57.1 0 then some (0,())
     else some (x57.2.1.1,())
   else bif !(zi x5.2.1.2.1 0) then some (x5.2.1.2.1,())
    else none
abbrev zdS:Type:=(js×(List qE)×Unit)→Option (Int×Unit)
def zkv:uk→kZ→wb→KI→YB→YC→JR→ZI→za6→zdS:=fun ja jx qa yS wj wk jy qZ Xa=>sF Tryz.prog [(13,⟨jm,jn,ja⟩),(72,⟨yq,yr,jx⟩),(136,⟨qz,qA,qa⟩),(100,⟨Zo,Zp,yS⟩),(101,⟨xI,xJ,wj⟩),(102,⟨uw,ux,wk⟩),(103,⟨vC,vD,jy⟩),(104,⟨xm,xn,qZ⟩),(80,⟨Zv,Zw,Xa⟩)] zue (zL []) 30 20 xK xL
theorem zwr (ja) (jx) (qa) (yS) (wj) (wk) (jy) (qZ) (Xa) (a0) (a1):zkv ja jx qa yS wj wk jy qZ Xa (a0,a1,())=zdR ja jx qa yS wj wk jy qZ Xa a0 a1:=by kernel_rfl
def JW:zdS:=zkv yk yX qt xY wK yP wX jM Jc
theorem zqo:Con.Ok Tryz.prog 20 ⟨xK,xL,JW⟩:=zA (zf Uo (zf zaS (zf Qh (zf zj9 (zf zgF (zf zgG (zf zfF (zf zc1 (zf zsl zn))))))))) zt (by kernel_rfl)
theorem zqp (a0) (a1):JW (a0,a1,())=zdR yk yX qt xY wK yP wX jM Jc a0 a1:=zwr yk yX qt xY wK yP wX jM Jc a0 a1
abbrev Qs:List VT:=[⟨true,zv⟩,⟨true,zU⟩]
abbrev Qt:List VT:=[⟨false,I⟩]
abbrev JX:List VT:=[⟨true,qM⟩,⟨false,(.list zU)⟩,⟨true,zU⟩]
abbrev JY:List VT:=[⟨false,(.list zU)⟩,⟨false,I⟩]
abbrev za8:List VT:=[⟨false,(.list zU)⟩,⟨false,(.list zU)⟩]
abbrev za9:List VT:=[⟨false,.bool⟩]
abbrev Qd:List VT:=[]
abbrev Qe:List VT:=[⟨false,.bool⟩]
abbrev nT:T zv:=(3,([true,false,true],[(0,(1,(8,5))),(1,(2,(8,5)))]))
abbrev nF:T qM:=(nT,((100,(2,(10,8000))),([([(127,100)],100),([(127,100)],100),([(127,100)],100),([(127,100)],100)],200)))
def zoX:T (zo zcC)→Option (T (zo zcD)):=sF Tryz.prog [] (fun _ _ _ _=>none) (fun _ _=>false) 100 28 zcC zcD
theorem zuf:Con.Ok Tryz.prog 28 ⟨zcC,zcD,zoX⟩:=zA zn zt (by kernel_rfl)
def zfX:T (zo XD)→Option (T (zo XE)):=sF Tryz.prog [] (fun _ _ _ _=>none) (fun _ _=>false) 100 29 XD XE
theorem zk5:Con.Ok Tryz.prog 29 ⟨XD,XE,zfX⟩:=zA zn zt (by kernel_rfl)
def zoY:T (zo WL)→Option (T (zo WM)):=sF Tryz.prog [] (fun _ _ _ _=>none) (fun _ _=>false) 100 92 WL WM
theorem zug:Con.Ok Tryz.prog 92 ⟨WL,WM,zoY⟩:=zA zn zt (by kernel_rfl)
def zmW:T (zo QJ)→Option (T (zo QK)):=sF Tryz.prog [(92,⟨WL,WM,zoY⟩)] (fun _ _ _ _=>none) (fun _ _=>false) 100 64 QJ QK
theorem zso:Con.Ok Tryz.prog 64 ⟨QJ,QK,zmW⟩:=zA (zf zug zn) zt (by kernel_rfl)
def zmX:T (zo QL)→Option (T (zo QM)):=sF Tryz.prog [] (fun _ _ _ _=>none) (fun _ _=>false) 100 66 QL QM
theorem zsp:Con.Ok Tryz.prog 66 ⟨QL,QM,zmX⟩:=zA zn zt (by kernel_rfl)
def XU:T (zo wB)→Option (T (zo wC)):=sF Tryz.prog [] (fun _ _ _ _=>none) (fun _ _=>false) 100 96 wB wC
theorem zbu:Con.Ok Tryz.prog 96 ⟨wB,wC,XU⟩:=zA zn zt (by kernel_rfl)
def WS:T (zo jC)→Option (T (zo jD)):=sF Tryz.prog [(96,⟨wB,wC,XU⟩)] (fun _ _ _ _=>none) (fun _ _=>false) 100 65 jC jD
theorem Gx:Con.Ok Tryz.prog 65 ⟨jC,jD,WS⟩:=zA (zf zbu zn) zt (by kernel_rfl)
def zyM:T (zo jI)→Option (T (zo jJ)):=sF Tryz.prog [(64,⟨QJ,QK,zmW⟩),(66,⟨QL,QM,zmX⟩),(65,⟨jC,jD,WS⟩)] (fun _ _ _ _=>none) (fun _ _=>false) 100 37 jI jJ
theorem zsq:Con.Ok Tryz.prog 37 ⟨jI,jJ,zyM⟩:=zA (zf zso (zf zsp (zf Gx zn))) zt (by kernel_rfl)
def Jd:T (zo jI)→Option (T (zo jJ)):=XN [((nT,()),(0,()))]
theorem ZJ:Con.Ok Tryz.prog 37 ⟨jI,jJ,Jd⟩:=Xe zsq (yI (by kernel_rfl) VS)
def XF:T (zo yd)→Option (T (zo ye)):=sF Tryz.prog [] (fun _ _ _ _=>none) (fun _ _=>false) 100 67 yd ye
theorem Vr:Con.Ok Tryz.prog 67 ⟨yd,ye,XF⟩:=zA zn zt (by kernel_rfl)
def zbF:T (zo xT)→Option (T (zo xU)):=sF Tryz.prog [(67,⟨yd,ye,XF⟩)] (fun _ _ _ _=>none) (fun _ _=>false) 100 38 xT xU
theorem zhv:Con.Ok Tryz.prog 38 ⟨xT,xU,zbF⟩:=zA (zf Vr zn) zt (by kernel_rfl)
def UU:T (zo xG)→Option (T (zo xH)):=sF Tryz.prog [] (fun _ _ _ _=>none) (fun _ _=>false) 100 39 xG xH
theorem Gy:Con.Ok Tryz.prog 39 ⟨xG,xH,UU⟩:=zA zn zt (by kernel_rfl)
def zk6:T (zo jm)→Option (T (zo jn)):=sF Tryz.prog [(37,⟨jI,jJ,Jd⟩),(38,⟨xT,xU,zbF⟩),(39,⟨xG,xH,UU⟩)] (fun _ _ _ _=>none) (fun _ _=>false) 100 13 jm jn
theorem zhw:Con.Ok Tryz.prog 13 ⟨jm,jn,zk6⟩:=zA (zf ZJ (zf zhv (zf Gy zn))) zt (by kernel_rfl)
def Jr:T (zo jm)→Option (T (zo jn)):=XN [((nF,()),(0,()))]
theorem WN:Con.Ok Tryz.prog 13 ⟨jm,jn,Jr⟩:=Xe zhw (yI (by kernel_rfl) VS)
def zfY:T (zo uX)→Option (T (zo uY)):=sF Tryz.prog [(67,⟨yd,ye,XF⟩)] (fun _ _ _ _=>none) (fun _ _=>false) 100 119 uX uY
theorem zk7:Con.Ok Tryz.prog 119 ⟨uX,uY,zfY⟩:=zA (zf Vr zn) zt (by kernel_rfl)
def zbG:T (zo xV)→Option (T (zo xW)):=sF Tryz.prog [] (fun _ _ _ _=>none) (fun _ _=>false) 100 86 xV xW
theorem zhx:Con.Ok Tryz.prog 86 ⟨xV,xW,zbG⟩:=zA zn zt (by kernel_rfl)
def YJ:T (zo wS)→Option (T (zo wT)):=sF Tryz.prog [(86,⟨xV,xW,zbG⟩)] (fun _ _ _ _=>none) (fun _ _=>false) 100 84 wS wT
theorem Yb:Con.Ok Tryz.prog 84 ⟨wS,wT,YJ⟩:=zA (zf zhx zn) zt (by kernel_rfl)
def Kf:T (zo yJ)→Option (T (zo yK)):=sF Tryz.prog [] (fun _ _ _ _=>none) (fun _ _=>false) 100 176 yJ yK
theorem GU:Con.Ok Tryz.prog 176 ⟨yJ,yK,Kf⟩:=zA zn zt (by kernel_rfl)
def Kg:T (zo yM)→Option (T (zo yN)):=sF Tryz.prog [] (fun _ _ _ _=>none) (fun _ _=>false) 100 157 yM yN
theorem GV:Con.Ok Tryz.prog 157 ⟨yM,yN,Kg⟩:=zA zn zt (by kernel_rfl)
def zdT:T (zo uH)→Option (T (zo uI)):=sF Tryz.prog [(37,⟨jI,jJ,Jd⟩),(157,⟨yM,yN,Kg⟩)] (fun _ _ _ _=>none) (fun _ _=>false) 100 174 uH uI
theorem zfZ:Con.Ok Tryz.prog 174 ⟨uH,uI,zdT⟩:=zA (zf ZJ (zf GV zn)) zt (by kernel_rfl)
def zkw:T (zo ZT)→Option (T (zo ZU)):=sF Tryz.prog [(176,⟨yJ,yK,Kf⟩),(174,⟨uH,uI,zdT⟩)] (fun _ _ _ _=>none) (fun _ _=>false) 100 173 ZT ZU
theorem zqq:Con.Ok Tryz.prog 173 ⟨ZT,ZU,zkw⟩:=zA (zf GU (zf zfZ zn)) zt (by kernel_rfl)
def zmY:T (zo QO)→Option (T (zo QP)):=sF Tryz.prog [(173,⟨ZT,ZU,zkw⟩)] (fun _ _ _ _=>none) (fun _ _=>false) 100 154 QO QP
theorem zsr:Con.Ok Tryz.prog 154 ⟨QO,QP,zmY⟩:=zA (zf zqq zn) zt (by kernel_rfl)
def zih:T (zo gQ)→Option (T (zo gR)):=sF Tryz.prog [(154,⟨QO,QP,zmY⟩)] (fun _ _ _ _=>none) (fun _ _=>false) 100 125 gQ gR
theorem zok:Con.Ok Tryz.prog 125 ⟨gQ,gR,zih⟩:=zA (zf zsr zn) zt (by kernel_rfl)
def zii:T (zo gT)→Option (T (zo gU)):=sF Tryz.prog [] (fun _ _ _ _=>none) (fun _ _=>false) 100 158 gT gU
theorem zol:Con.Ok Tryz.prog 158 ⟨gT,gU,zii⟩:=zA zn zt (by kernel_rfl)
def Kh:T (zo yf)→Option (T (zo yg)):=sF Tryz.prog [] (fun _ _ _ _=>none) (fun _ _=>false) 100 190 yf yg
theorem zc2:Con.Ok Tryz.prog 190 ⟨yf,yg,Kh⟩:=zA zn zt (by kernel_rfl)
def Xg:T (zo we)→Option (T (zo wh)):=sF Tryz.prog [(190,⟨yf,yg,Kh⟩)] (fun _ _ _ _=>none) (fun _ _=>false) 100 177 we wh
theorem zba:Con.Ok Tryz.prog 177 ⟨we,wh,Xg⟩:=zA (zf zc2 zn) zt (by kernel_rfl)
def zc3:T (zo vr)→Option (T (zo vu)):=sF Tryz.prog [(176,⟨yJ,yK,Kf⟩),(177,⟨we,wh,Xg⟩)] (fun _ _ _ _=>none) (fun _ _=>false) 100 159 vr vu
theorem zij:Con.Ok Tryz.prog 159 ⟨vr,vu,zc3⟩:=zA (zf GU (zf zba zn)) zt (by kernel_rfl)
def zkx:T (zo ZV)→Option (T (zo ZW)):=sF Tryz.prog [(157,⟨yM,yN,Kg⟩),(158,⟨gT,gU,zii⟩),(159,⟨vr,vu,zc3⟩),(174,⟨uH,uI,zdT⟩)] (fun _ _ _ _=>none) (fun _ _=>false) 100 127 ZV ZW
theorem zqr:Con.Ok Tryz.prog 127 ⟨ZV,ZW,zkx⟩:=zA (zf GV (zf zol (zf zij (zf zfZ zn)))) zt (by kernel_rfl)
def zcj:T (zo ku)→Option (T (zo kx)):=sF Tryz.prog [(67,⟨yd,ye,XF⟩),(119,⟨uX,uY,zfY⟩),(84,⟨wS,wT,YJ⟩),(125,⟨gQ,gR,zih⟩),(127,⟨ZV,ZW,zkx⟩)] (fun _ _ _ _=>none) (fun _ _=>false) 100 82 ku kx
theorem zd9:Con.Ok Tryz.prog 82 ⟨ku,kx,zcj⟩:=zA (zf Vr (zf zk7 (zf Yb (zf zok (zf zqr zn))))) zt (by kernel_rfl)
def Yc:T (zo yq)→Option (T (zo yr)):=sF Tryz.prog [(37,⟨jI,jJ,Jd⟩),(82,⟨ku,kx,zcj⟩)] (fun _ _ _ _=>none) (fun _ _=>false) 100 72 yq yr
theorem XG:Con.Ok Tryz.prog 72 ⟨yq,yr,Yc⟩:=zA (zf ZJ (zf zd9 zn)) zt (by kernel_rfl)
def YK:T (zo jT)→Option (T (zo jU)):=sF Tryz.prog [] (fun _ _ _ _=>none) (fun _ _=>false) 100 162 jT jU
theorem zac:Con.Ok Tryz.prog 162 ⟨jT,jU,YK⟩:=zA zn zt (by kernel_rfl)
def xM:T (zo qz)→Option (T (zo qA)):=sF Tryz.prog [(162,⟨jT,jU,YK⟩)] (fun _ _ _ _=>none) (fun _ _=>false) 100 136 qz qA
theorem ud:Con.Ok Tryz.prog 136 ⟨qz,qA,xM⟩:=zA (zf zac zn) zt (by kernel_rfl)
def zik:T (zo gW)→Option (T (zo gX)):=sF Tryz.prog [] (fun _ _ _ _=>none) (fun _ _=>false) 100 138 gW gX
theorem zom:Con.Ok Tryz.prog 138 ⟨gW,gX,zik⟩:=zA zn zt (by kernel_rfl)
def zeB:T (zo Zo)→Option (T (zo Zp)):=sF Tryz.prog [(37,⟨jI,jJ,Jd⟩),(138,⟨gW,gX,zik⟩)] (fun _ _ _ _=>none) (fun _ _=>false) 100 100 Zo Zp
theorem zdU:Con.Ok Tryz.prog 100 ⟨Zo,Zp,zeB⟩:=zA (zf ZJ (zf zom zn)) zt (by kernel_rfl)
def zgN:T (zo kN)→Option (T (zo kO)):=sF Tryz.prog [(39,⟨xG,xH,UU⟩)] (fun _ _ _ _=>none) (fun _ _=>false) 100 139 kN kO
theorem zmZ:Con.Ok Tryz.prog 139 ⟨kN,kO,zgN⟩:=zA (zf Gy zn) zt (by kernel_rfl)
def zky:T (zo ZX)→Option (T (zo ZY)):=sF Tryz.prog [(39,⟨xG,xH,UU⟩)] (fun _ _ _ _=>none) (fun _ _=>false) 100 191 ZX ZY
theorem zqs:Con.Ok Tryz.prog 191 ⟨ZX,ZY,zky⟩:=zA (zf Gy zn) zt (by kernel_rfl)
def zm0:T (zo QR)→Option (T (zo QS)):=sF Tryz.prog [] (fun _ _ _ _=>none) (fun _ _=>false) 100 197 QR QS
theorem zss:Con.Ok Tryz.prog 197 ⟨QR,QS,zm0⟩:=zA zn zt (by kernel_rfl)
def zm1:T (zo QT)→Option (T (zo QU)):=sF Tryz.prog [(197,⟨QR,QS,zm0⟩)] (fun _ _ _ _=>none) (fun _ _=>false) 100 192 QT QU
theorem zst:Con.Ok Tryz.prog 192 ⟨QT,QU,zm1⟩:=zA (zf zss zn) zt (by kernel_rfl)
def zm2:T (zo QV)→Option (T (zo QW)):=sF Tryz.prog [(191,⟨ZX,ZY,zky⟩),(192,⟨QT,QU,zm1⟩)] (fun _ _ _ _=>none) (fun _ _=>false) 100 178 QV QW
theorem zsu:Con.Ok Tryz.prog 178 ⟨QV,QW,zm2⟩:=zA (zf zqs (zf zst zn)) zt (by kernel_rfl)
def zf0:T (zo uZ)→Option (T (zo ka)):=sF Tryz.prog [(178,⟨QV,QW,zm2⟩)] (fun _ _ _ _=>none) (fun _ _=>false) 100 164 uZ ka
theorem zk8:Con.Ok Tryz.prog 164 ⟨uZ,ka,zf0⟩:=zA (zf zsu zn) zt (by kernel_rfl)
def Gz:T (zo xz)→Option (T (zo xA)):=sF Tryz.prog [] (fun _ _ _ _=>none) (fun _ _=>false) 100 180 xz xA
theorem zbH:Con.Ok Tryz.prog 180 ⟨xz,xA,Gz⟩:=zA zn zt (by kernel_rfl)
def zea:T (zo vO)→Option (T (zo vP)):=sF Tryz.prog [(164,⟨uZ,ka,zf0⟩),(180,⟨xz,xA,Gz⟩)] (fun _ _ _ _=>none) (fun _ _=>false) 100 140 vO vP
theorem zjz:Con.Ok Tryz.prog 140 ⟨vO,vP,zea⟩:=zA (zf zk8 (zf zbH zn)) zt (by kernel_rfl)
def zkz:T (zo ZZ)→Option (T (zo Qa)):=sF Tryz.prog [] (fun _ _ _ _=>none) (fun _ _=>false) 100 166 ZZ Qa
theorem zqt:Con.Ok Tryz.prog 166 ⟨ZZ,Qa,zkz⟩:=zA zn zt (by kernel_rfl)
def zc4:T (zo vv)→Option (T (zo vy)):=sF Tryz.prog [(166,⟨ZZ,Qa,zkz⟩)] (fun _ _ _ _=>none) (fun _ _=>false) 100 142 vv vy
theorem zil:Con.Ok Tryz.prog 142 ⟨vv,vy,zc4⟩:=zA (zf zqt zn) zt (by kernel_rfl)
def zyN:T (zo xI)→Option (T (zo xJ)):=sF Tryz.prog [(139,⟨kN,kO,zgN⟩),(140,⟨vO,vP,zea⟩),(142,⟨vv,vy,zc4⟩),(180,⟨xz,xA,Gz⟩)] (fun _ _ _ _=>none) (fun _ _=>false) 100 101 xI xJ
theorem zsv:Con.Ok Tryz.prog 101 ⟨xI,xJ,zyN⟩:=zA (zf zmZ (zf zjz (zf zil (zf zbH zn)))) zt (by kernel_rfl)
def zbb:T (zo xI)→Option (T (zo xJ)):=XN [((([(127,100)],100),8,200,()),((131072,1016),0,()))]
theorem zbc:Con.Ok Tryz.prog 101 ⟨xI,xJ,zbb⟩:=Xe zsv (yI (by kernel_rfl) VS)
def zbd:T (zo uw)→Option (T (zo ux)):=sF Tryz.prog [(84,⟨wS,wT,YJ⟩)] (fun _ _ _ _=>none) (fun _ _=>false) 100 102 uw ux
theorem zbe:Con.Ok Tryz.prog 102 ⟨uw,ux,zbd⟩:=zA (zf Yb zn) zt (by kernel_rfl)
def zdV:T (zo uK)→Option (T (zo uL)):=sF Tryz.prog [] (fun _ _ _ _=>none) (fun _ _=>false) 100 59 uK uL
theorem zf1:Con.Ok Tryz.prog 59 ⟨uK,uL,zdV⟩:=zA zn zt (by kernel_rfl)
def zdW:T (zo uN)→Option (T (zo uO)):=sF Tryz.prog [] (fun _ _ _ _=>none) (fun _ _=>false) 100 182 uN uO
theorem zf2:Con.Ok Tryz.prog 182 ⟨uN,uO,zdW⟩:=zA zn zt (by kernel_rfl)
def zgO:T (zo kP)→Option (T (zo kQ)):=sF Tryz.prog [] (fun _ _ _ _=>none) (fun _ _=>false) 100 184 kP kQ
theorem zm3:Con.Ok Tryz.prog 184 ⟨kP,kQ,zgO⟩:=zA zn zt (by kernel_rfl)
def zeb:T (zo vR)→Option (T (zo vS)):=sF Tryz.prog [] (fun _ _ _ _=>none) (fun _ _=>false) 100 183 vR vS
theorem zjA:Con.Ok Tryz.prog 183 ⟨vR,vS,zeb⟩:=zA zn zt (by kernel_rfl)
def zec:T (zo vT)→Option (T (zo vU)):=sF Tryz.prog [] (fun _ _ _ _=>none) (fun _ _=>false) 100 196 vT vU
theorem zjB:Con.Ok Tryz.prog 196 ⟨vT,vU,zec⟩:=zA zn zt (by kernel_rfl)
def XV:T (zo wF)→Option (T (zo wG)):=sF Tryz.prog [(196,⟨vT,vU,zec⟩)] (fun _ _ _ _=>none) (fun _ _=>false) 100 193 wF wG
theorem zbv:Con.Ok Tryz.prog 193 ⟨wF,wG,XV⟩:=zA (zf zjB zn) zt (by kernel_rfl)
def zed:T (zo vW)→Option (T (zo vX)):=sF Tryz.prog [(193,⟨wF,wG,XV⟩)] (fun _ _ _ _=>none) (fun _ _=>false) 100 185 vW vX
theorem zjC:Con.Ok Tryz.prog 185 ⟨vW,vX,zed⟩:=zA (zf zbv zn) zt (by kernel_rfl)
def zkA:T (zo Qb)→Option (T (zo Qc)):=sF Tryz.prog [(182,⟨uN,uO,zdW⟩)] (fun _ _ _ _=>none) (fun _ _=>false) 100 186 Qb Qc
theorem zqu:Con.Ok Tryz.prog 186 ⟨Qb,Qc,zkA⟩:=zA (zf zf2 zn) zt (by kernel_rfl)
def zm4:T (zo QX)→Option (T (zo QY)):=sF Tryz.prog [(182,⟨uN,uO,zdW⟩),(184,⟨kP,kQ,zgO⟩),(183,⟨vR,vS,zeb⟩),(185,⟨vW,vX,zed⟩),(186,⟨Qb,Qc,zkA⟩)] (fun _ _ _ _=>none) (fun _ _=>false) 100 171 QX QY
theorem zsw:Con.Ok Tryz.prog 171 ⟨QX,QY,zm4⟩:=zA (zf zf2 (zf zm3 (zf zjA (zf zjC (zf zqu zn))))) zt (by kernel_rfl)
def zf3:T (zo kT)→Option (T (zo kU)):=sF Tryz.prog [(171,⟨QX,QY,zm4⟩)] (fun _ _ _ _=>none) (fun _ _=>false) 100 150 kT kU
theorem zgP:Con.Ok Tryz.prog 150 ⟨kT,kU,zf3⟩:=zA (zf zsw zn) zt (by kernel_rfl)
def zf4:T (zo ke)→Option (T (zo kf)):=sF Tryz.prog [(150,⟨kT,kU,zf3⟩)] (fun _ _ _ _=>none) (fun _ _=>false) 100 148 ke kf
theorem zk9:Con.Ok Tryz.prog 148 ⟨ke,kf,zf4⟩:=zA (zf zgP zn) zt (by kernel_rfl)
def UW:T (zo vC)→Option (T (zo vD)):=sF Tryz.prog [(84,⟨wS,wT,YJ⟩),(59,⟨uK,uL,zdV⟩),(148,⟨ke,kf,zf4⟩)] (fun _ _ _ _=>none) (fun _ _=>false) 100 103 vC vD
theorem GA:Con.Ok Tryz.prog 103 ⟨vC,vD,UW⟩:=zA (zf Yb (zf zf1 (zf zk9 zn))) zt (by kernel_rfl)
def zee:T (zo vY)→Option (T (zo vZ)):=sF Tryz.prog [(84,⟨wS,wT,YJ⟩),(59,⟨uK,uL,zdV⟩)] (fun _ _ _ _=>none) (fun _ _=>false) 100 149 vY vZ
theorem zjD:Con.Ok Tryz.prog 149 ⟨vY,vZ,zee⟩:=zA (zf Yb (zf zf1 zn)) zt (by kernel_rfl)
def VA:T (zo xm)→Option (T (zo xn)):=sF Tryz.prog [(149,⟨vY,vZ,zee⟩),(150,⟨kT,kU,zf3⟩)] (fun _ _ _ _=>none) (fun _ _=>false) 100 104 xm xn
theorem Ki:Con.Ok Tryz.prog 104 ⟨xm,xn,VA⟩:=zA (zf zjD (zf zgP zn)) zt (by kernel_rfl)
def zzG:T (zo kB)→Option (T (zo kC)):=sF Tryz.prog [(13,⟨jm,jn,Jr⟩),(72,⟨yq,yr,Yc⟩),(136,⟨qz,qA,xM⟩),(100,⟨Zo,Zp,zeB⟩),(101,⟨xI,xJ,zbb⟩),(102,⟨uw,ux,zbd⟩),(103,⟨vC,vD,UW⟩),(104,⟨xm,xn,VA⟩)] (fun _ _ _ _=>none) (fun _ _=>false) 100 15 kB kC
theorem zuh:Con.Ok Tryz.prog 15 ⟨kB,kC,zzG⟩:=zA (zf WN (zf XG (zf ud (zf zdU (zf zbc (zf zbe (zf GA (zf Ki zn)))))))) zt (by kernel_rfl)
def zoZ:T (zo kB)→Option (T (zo kC)):=XN [((nF,[(1,0,2,6,100,0,(200,16384),6000,[[0,2]])],0,()),(((200,16384),(131072,1016),2616,216),0,())),((nF,[(1,0,2,6,100,0,(200,16384),6000,[[0,2]])],1,()),(((0,0),(0,0),0,0),4,())),((nF,[(1,0,2,6,100,0,(200,131073),6000,[[0,2]])],0,()),(((0,0),(0,0),0,0),141,())),((nF,[(1,0,2,6,201,0,(300,16384),6000,[[0,2]])],0,()),(((0,0),(0,0),0,0),2,()))]
theorem zui:Con.Ok Tryz.prog 15 ⟨kB,kC,zoZ⟩:=Xe zuh (yI (by kernel_rfl) (yI (by kernel_rfl) (yI (by kernel_rfl) (yI (by kernel_rfl) VS))))
def zim:T (zo KN)→Option (T (zo KP)):=sF Tryz.prog [] (fun _ _ _ _=>none) (fun _ _=>false) 100 47 KN KP
theorem zon:Con.Ok Tryz.prog 47 ⟨KN,KP,zim⟩:=zA zn zt (by kernel_rfl)
def zf5:T (zo kg)→Option (T (zo kh)):=sF Tryz.prog [] (fun _ _ _ _=>none) (fun _ _=>false) 100 116 kg kh
theorem zla:Con.Ok Tryz.prog 116 ⟨kg,kh,zf5⟩:=zA zn zt (by kernel_rfl)
def zf6:T (zo Zv)→Option (T (zo Zw)):=sF Tryz.prog [(37,⟨jI,jJ,Jd⟩),(116,⟨kg,kh,zf5⟩)] (fun _ _ _ _=>none) (fun _ _=>false) 100 80 Zv Zw
theorem zgQ:Con.Ok Tryz.prog 80 ⟨Zv,Zw,zf6⟩:=zA (zf ZJ (zf zla zn)) zt (by kernel_rfl)
def zyO:T (zo YH)→Option (T (zo YI)):=sF Tryz.prog [(13,⟨jm,jn,Jr⟩),(72,⟨yq,yr,Yc⟩),(47,⟨KN,KP,zim⟩),(136,⟨qz,qA,xM⟩),(100,⟨Zo,Zp,zeB⟩),(101,⟨xI,xJ,zbb⟩),(102,⟨uw,ux,zbd⟩),(103,⟨vC,vD,UW⟩),(104,⟨xm,xn,VA⟩),(80,⟨Zv,Zw,zf6⟩)] (fun _ _ _ _=>none) (fun _ _=>false) 100 17 YH YI
theorem zsx:Con.Ok Tryz.prog 17 ⟨YH,YI,zyO⟩:=zA (zf WN (zf XG (zf zon (zf ud (zf zdU (zf zbc (zf zbe (zf GA (zf Ki (zf zgQ zn)))))))))) zt (by kernel_rfl)
def zm5:T (zo YH)→Option (T (zo YI)):=XN [((nF,[(1,0,2,6,100,0,(200,16384),6000,[[0,2]])],1,0,()),(5262,0,()))]
theorem zsy:Con.Ok Tryz.prog 17 ⟨YH,YI,zm5⟩:=Xe zsx (yI (by kernel_rfl) VS)
def zws:T (zo xK)→Option (T (zo xL)):=sF Tryz.prog [(13,⟨jm,jn,Jr⟩),(72,⟨yq,yr,Yc⟩),(136,⟨qz,qA,xM⟩),(100,⟨Zo,Zp,zeB⟩),(101,⟨xI,xJ,zbb⟩),(102,⟨uw,ux,zbd⟩),(103,⟨vC,vD,UW⟩),(104,⟨xm,xn,VA⟩),(80,⟨Zv,Zw,zf6⟩)] (fun _ _ _ _=>none) (fun _ _=>false) 100 20 xK xL
theorem zqv:Con.Ok Tryz.prog 20 ⟨xK,xL,zws⟩:=zA (zf WN (zf XG (zf ud (zf zdU (zf zbc (zf zbe (zf GA (zf Ki (zf zgQ zn))))))))) zt (by kernel_rfl)
def zdX:T (zo xK)→Option (T (zo xL)):=XN [((nF,[],()),(0,())),((nF,[(1,0,2,6,100,0,(200,16384),6000,[[0,2]])],()),(0,())),((nF,[(1,0,2,6,100,0,(200,16384),6000,[[0,2]]),(2,0,2,6,100,0,(200,16384),6000,[[0,2]])],()),(412,())),((nF,[(1,0,2,6,100,0,(7985,16384),1099511627776,[[0,2]])],()),(7,()))]
theorem zf7:Con.Ok Tryz.prog 20 ⟨xK,xL,zdX⟩:=Xe zqv (yI (by kernel_rfl) (yI (by kernel_rfl) (yI (by kernel_rfl) (yI (by kernel_rfl) VS))))
def zuj:T (zo Qs)→Option (T (zo Qt)):=sF Tryz.prog [(37,⟨jI,jJ,Jd⟩),(82,⟨ku,kx,zcj⟩)] (fun _ _ _ _=>none) (fun _ _=>false) 100 51 Qs Qt
theorem zoo:Con.Ok Tryz.prog 51 ⟨Qs,Qt,zuj⟩:=zA (zf ZJ (zf zd9 zn)) zt (by kernel_rfl)
def zin:T (zo Qs)→Option (T (zo Qt)):=XN [((nT,(1,0,2,6,100,0,(200,16384),6000,[[0,2]]),()),(0,())),((nT,(2,0,2,6,100,0,(200,16384),6000,[[0,2]]),()),(0,())),((nT,(1,0,2,6,100,0,(200,131073),6000,[[0,2]]),()),(0,())),((nT,(1,0,2,6,201,0,(300,16384),6000,[[0,2]]),()),(0,())),((nT,(1,0,2,6,100,0,(7985,16384),1099511627776,[[0,2]]),()),(0,()))]
theorem zop:Con.Ok Tryz.prog 51 ⟨Qs,Qt,zin⟩:=Xe zoo (yI (by kernel_rfl) (yI (by kernel_rfl) (yI (by kernel_rfl) (yI (by kernel_rfl) (yI (by kernel_rfl) VS)))))
def zwt:T (zo JX)→Option (T (zo JY)):=sF Tryz.prog [(20,⟨xK,xL,zdX⟩),(51,⟨Qs,Qt,zin⟩)] (fun _ _ _ _=>none) (fun _ _=>false) 100 22 JX JY
theorem zqw:Con.Ok Tryz.prog 22 ⟨JX,JY,zwt⟩:=zA (zf zf7 (zf zop zn)) zt (by kernel_rfl)
def zkB:T (zo JX)→Option (T (zo JY)):=XN [((nF,[],(1,0,2,6,100,0,(200,16384),6000,[[0,2]]),()),([(1,0,2,6,100,0,(200,16384),6000,[[0,2]])],0,())),((nF,[(1,0,2,6,100,0,(200,16384),6000,[[0,2]])],(2,0,2,6,100,0,(200,16384),6000,[[0,2]]),()),([],412,()))]
theorem zqx:Con.Ok Tryz.prog 22 ⟨JX,JY,zkB⟩:=Xe zqw (yI (by kernel_rfl) (yI (by kernel_rfl) VS))
def zm6:T (zo za8)→Option (T (zo za9)):=sF Tryz.prog [] (fun _ _ _ _=>none) (fun _ _=>false) 100 24 za8 za9
theorem zsz:Con.Ok Tryz.prog 24 ⟨za8,za9,zm6⟩:=zA zn zt (by kernel_rfl)
def zkC:T (zo Qd)→Option (T (zo Qe)):=sF Tryz.prog [(28,⟨zcC,zcD,zoX⟩),(29,⟨XD,XE,zfX⟩),(15,⟨kB,kC,zoZ⟩),(17,⟨YH,YI,zm5⟩),(22,⟨JX,JY,zkB⟩),(24,⟨za8,za9,zm6⟩),(20,⟨xK,xL,zdX⟩)] (fun _ _ _ _=>none) (fun _ _=>false) 100 19 Qd Qe
theorem zf8:Con.Ok Tryz.prog 19 ⟨Qd,Qe,zkC⟩:=zA (zf zuf (zf zk5 (zf zui (zf zsy (zf zqx (zf zsz (zf zf7 zn))))))) zt (by kernel_rfl)
theorem zCH:zkC ()=some (true,()):=by kernel_rfl
theorem zCI:Con.Ok Tryz.prog 19 ⟨Qd,Qe,fun _=>some (true,())⟩:=⟨zf8.1,fun x r h=>zf8.2 x r (by cases x;rw [←h];exact zCH)⟩
def Qf:(Unit)→Option (Bool×Unit):=fun _=>some (true,())
theorem zqy:Con.Ok Tryz.prog 19 ⟨Qd,Qe,Qf⟩:=zCI
theorem zqz:Qf ()=some (true,()):=rfl
abbrev zwu:List VT:=[⟨true,qM⟩,⟨false,(.list zU)⟩]
abbrev zwv:List VT:=[⟨false,I⟩]
def zuk:zT:=zM [cdF qM,cdF zU,cdF Zl,cdF zv,cdF zO,cdF zN,cdF qh] [] [] [] [45,46,50]
def zdY (Xb:za1) (xS:Vd) (Xc:za7) (a0:js) (a1:(List qE)):Option (Int×Unit):=
 opt (Xb (a0,(a1,()))) fun x0=>
 bif !(zi x0.1 0) then some (x0.1,())
 else opt (zC (fun s1:((Int×(Int×Unit))×Unit)=>
   bif (zh s1.1.2.1 ((a0.2.2.1.length:Nat):Int)) then opt (xS (a0,(a1,(s1.1.2.1,())))) fun x2=>
    bif zi x2.2.1 4 then some (.inr ((s1.1.1,((wrF .i64 (s1.1.2.1+1)),())),()))
    else bif !(zi x2.2.1 0) then some (.inl (1,((x2.2.1,(s1.1.2.1,())),())))
     else bif zh a0.2.1.2.2.2 x2.1.2.2.2 then some (.inl (1,((7,(s1.1.2.1,())),())))
      else some (.inr ((s1.1.1,((wrF .i64 (s1.1.2.1+1)),())),()))
   else some (.inl (0,((s1.1.1,(s1.1.2.1,())),())))) zK ((0,(0,())),())) fun x3=>
  bif Nat.beq x3.1 0 then opt (zC (fun s4:((Int×(Int×Unit))×Unit)=>
    bif (zh s4.1.2.1 ((a1.length:Nat):Int)) then opt (zC (fun s5:((Int×(Int×Unit))×Unit)=>
      opt (atI a1 s4.1.2.1) fun x6=>
      bif (zh s5.1.2.1 ((x6.2.2.2.2.2.2.2.2.length:Nat):Int)) then opt (atI a1 s4.1.2.1) fun x7=>
       opt (atI x7.2.2.2.2.2.2.2.2 s5.1.2.1) fun x8=>
       opt (Xc (a0,(a1,(x8,())))) fun x9=>
       bif !(zi x9.2.1 0) then some (.inl (1,((x9.2.1,(s5.1.2.1,())),())))
       else opt (atI a1 s4.1.2.1) fun x10=>
        bif zh x10.2.2.2.2.2.2.2.1 x9.1 then some (.inl (1,((412,(s5.1.2.1,())),())))
        else some (.inr ((s5.1.1,((wrF .i64 (s5.1.2.1+1)),())),()))
      else some (.inl (0,((s5.1.1,(s5.1.2.1,())),())))) zK ((s4.1.1,(0,())),())) fun x11=>
     bif Nat.beq x11.1 0 then some (.inr ((x11.2.1.1,((wrF .i64 (s4.1.2.1+1)),())),()))
     else some (.inl (1,((x11.2.1.1,(s4.1.2.1,())),())))
    else some (.inl (0,((s4.1.1,(s4.1.2.1,())),())))) zK ((x3.2.1.1,(0,())),())) fun x12=>
   bif Nat.beq x12.1 0 then some (0,())
   else some (x12.2.1.1,())
  else some (x3.2.1.1,())
abbrev zkD:Type:=(js×(List qE)×Unit)→Option (Int×Unit)
def zkE:za1→Vd→za7→zkD:=fun Xb xS Xc=>sF Tryz.prog [(45,⟨zmH,zmI,Xb⟩),(46,⟨zhs,zht,xS⟩),(50,⟨zmT,zmU,Xc⟩)] zuk (zL []) 30 21 zwu zwv
theorem zww (Xb) (xS) (Xc) (a0) (a1):zkE Xb xS Xc (a0,a1,())=zdY Xb xS Xc a0 a1:=by kernel_rfl
def zkF:zkD:=zkE Kb Qp Ke
theorem zqA (a0) (a1):zkF (a0,a1,())=zdY Kb Qp Ke a0 a1:=zww Kb Qp Ke a0 a1
abbrev WB:List VT:=[⟨true,xd⟩,⟨false,(.int .u8)⟩,⟨false,(.int .u8)⟩]
abbrev Kj:List VT:=[⟨false,.bool⟩]
def zbI:zT:=zM [cdF xd,cdF qM,cdF wv,cdF vg,cdF Zl,cdF zv,cdF zO,⟨(.pair (.int .u8) (.pair (.int .u8) (.int .u8))),Yn (.pair (.int .u8) (.pair (.int .u8) (.int .u8))),[]⟩,cdF zN,cdF ZB,cdF qh] [] [] [] [19,20,15]
def Kk (UZ:(Unit)→Option (Bool×Unit)) (Yd:KY) (ZN:Yt) (Qg:zdS) (Vi:zhl) (a0:jZ) (a1:Int) (a2:Int):Option (Bool×Unit):=
 opt (UZ ()) fun x0=>
 bif !x0.1 then some (false,())
 else opt (Yd (a0,())) fun x1=>
  opt (ZN (a0,())) fun x2=>
  bif (zi ((x2.1.length:Nat):Int) 0) then opt (Qg (x1.1,(x2.1,()))) fun x3=>
   some ((zi x3.1 0),())
  else bif (zi ((x2.1.length:Nat):Int) 0) then none
   else bif (zi ((x2.1.length:Nat):Int) 0) then none
    else opt (Vj x2.1 (some (Int.tmod (wrF .i64 a1) ((x2.1.length:Nat):Int))) none none) fun x4=>
     bif qT 0 x4.length 96 then opt (Vj x2.1 none (some (Int.tmod (wrF .i64 a1) ((x2.1.length:Nat):Int))) none) fun x5=>
      bif qT x4.length x5.length 96 then opt (Vj x2.1 none (some (Int.tmod (wrF .i64 a2) ((x2.1.length:Nat):Int))) none) fun x6=>
       bif qT 0 x6.length 96 then opt (Vj x2.1 (some (wrF .i64 ((Int.tmod (wrF .i64 a2) ((x2.1.length:Nat):Int))+1))) none none) fun x7=>
        bif qT x6.length x7.length 96 then opt (Qg (x1.1,(x2.1,()))) fun x8=>
         opt (opt (Qg (x1.1,((x4++x5),()))) fun x9=>
          bif (!((zi x8.1 0) == (zi x9.1 0))) then some (1,((false,()),((x4++x5),((x6++x7),()))))
          else bif zi x8.1 0 then opt (Qg (x1.1,((x6++x7),()))) fun x10=>
            bif !(zi x10.1 0) then some (1,((false,()),((x4++x5),((x6++x7),()))))
            else some (0,((false,()),((x4++x5),((x6++x7),()))))
           else some (0,((false,()),((x4++x5),((x6++x7),()))))) fun x11=>
         bif Nat.beq x11.1 0 then opt (zC (fun s12:((Bool×(Int×Unit))×((List (Int×(Int×(Int×(Int×(Int×(Int×((Int×Int)×(Int×(List (List Int)))))))))))×((List (Int×(Int×(Int×(Int×(Int×(Int×((Int×Int)×(Int×(List (List Int)))))))))))×Unit)))=>
           bif (zh s12.1.2.1 ((x1.1.2.2.1.length:Nat):Int)) then opt (Vi (x1.1,(x2.1,(s12.1.2.1,())))) fun x13=>
            opt (Vi (x1.1,(s12.2.1,(s12.1.2.1,())))) fun x14=>
            opt (Vi (x1.1,(s12.2.2.1,(s12.1.2.1,())))) fun x15=>
            opt (bif (!(((zi x13.1.1.1 x15.1.1.1)&&((zi x13.1.1.2 x15.1.1.2)&&true))&&(((zi x13.1.2.1.1 x15.1.2.1.1)&&((zi x13.1.2.1.2 x15.1.2.1.2)&&true))&&((zi x13.1.2.2.1 x15.1.2.2.1)&&((zi x13.1.2.2.2 x15.1.2.2.2)&&true))))) then some (1,((false,()),()))
             else bif (!((zi x13.2.1 0) == (zi x15.2.1 0))) then some (1,((false,()),()))
              else bif zi x13.2.1 0 then bif zi x14.2.1 0 then bif zh x13.1.2.2.1 x14.1.2.2.1 then some (1,((false,()),()))
                 else bif zh x13.1.2.2.2 x14.1.2.2.2 then some (1,((false,()),()))
                  else some (0,((s12.1.1,()),()))
                else some (0,((s12.1.1,()),()))
               else some (0,((s12.1.1,()),()))) fun x16=>
            bif Nat.beq x16.1 0 then some (.inr ((x16.2.1.1,((wrF .i64 (s12.1.2.1+1)),())),(s12.2.1,(s12.2.2.1,()))))
            else some (.inl (1,((x16.2.1.1,(s12.1.2.1,())),(s12.2.1,(s12.2.2.1,())))))
           else some (.inl (0,((s12.1.1,(s12.1.2.1,())),(s12.2.1,(s12.2.2.1,())))))) zK ((x11.2.1.1,(0,())),(x11.2.2.2.1,(x11.2.2.1,())))) fun x17=>
          bif Nat.beq x17.1 0 then some (true,())
          else some (x17.2.1.1,())
         else some (x11.2.1.1,())
        else none
       else none
      else none
     else none
theorem zm7 (UZ:(Unit)→Option (Bool×Unit)) (Yd:(jZ×Unit)→Option (js×Unit)) (ZN:(jZ×Unit)→Option ((List qE)×Unit)) (Qg:(js×(List qE)×Unit)→Option (Int×Unit)) (Vi:(js×(List qE)×Int×Unit)→Option (zat×Int×Unit)) (a0:jZ) (a1:Int) (a2:Int):sF Tryz.prog [(19,⟨Qd,Qe,UZ⟩),(10,⟨WT,WU,Yd⟩),(11,⟨ZF,ZG,ZN⟩),(20,⟨xK,xL,Qg⟩),(15,⟨kB,kC,Vi⟩)] zbI (zL []) 30 5 WB Kj (a0,a1,a2,())=Kk UZ Yd ZN Qg Vi a0 a1 a2:=by kernel_rfl
def WC:(jZ×Int×Int×Unit)→Option (Bool×Unit):=sF Tryz.prog [(19,⟨Qd,Qe,Qf⟩),(10,⟨WT,WU,vN⟩),(11,⟨ZF,ZG,xe⟩),(20,⟨xK,xL,JW⟩),(15,⟨kB,kC,Vb⟩)] zbI (zL []) 30 5 WB Kj
theorem zio:Con.Ok Tryz.prog 5 ⟨WB,Kj,WC⟩:=zA (zf zqy (zf zje (zf zfk (zf zqo (zf ztY zn))))) zt (by kernel_rfl)
theorem ziq (a0:jZ) (a1:Int) (a2:Int):WC (a0,a1,a2,())=Kk Qf vN xe JW Vb a0 a1 a2:=zm7 Qf vN xe JW Vb a0 a1 a2
abbrev yh:=Int×Int×Int×Int
abbrev qi:=Int×List Bool×List yh
def jf (t:qi) (n:Int):Prop:=0≤n∧n < t.1
def stn (t:qi) (n:Int):Bool:=(t.2.1[n.toNat]?).getD false
def zck (t:qi) (l:yh):Prop:=jf t l.1∧jf t l.2.1∧l.1≠l.2.1∧¬(stn t l.1=true∧stn t l.2.1=true)∧1≤l.2.2.1∧l.2.2.1≤1000∧0≤l.2.2.2∧l.2.2.2≤10000
def uR (o:yh) (a b:Int):Prop:=(o.1=a∧o.2.1=b)∨(o.1=b∧o.2.1=a)
structure szP (t:qi):Prop where
 n0:2≤t.1
 n1:t.1≤12
 st:(t.2.1.length:Int)=t.1
 ls:t.2.2.length≤24
def zcE (t:qi):Prop:=∀(i:Nat) l,t.2.2[i]?=some l→zck t l∧∀(k:Nat) o,k < i→t.2.2[k]?=some o→¬uR o l.1 l.2.1
def one (a:Int) (n:Nat):Int:=if a=(n:Int) then 1 else 0
def cnt (ls:List yh) (n:Nat):Int:=(ls.map fun l=>one l.1 n+one l.2.1 n).sum
def stp (r:List Bool) (l:yh):List Bool:=bif (r[l.1.toNat]?).getD false||(r[l.2.1.toNat]?).getD false then (r.set l.1.toNat true).set l.2.1.toNat true else r
def Ue (ls:List yh):Nat→List Bool→List Bool
 |0,r=>r
 |n+1,r=>Ue ls n (ls.foldl stp r)
def reachS (t:qi) (a:Nat):List Bool:=Ue t.2.2 t.1.toNat ((List.replicate t.1.toNat false).set a true)
structure jN (t:qi):Prop where
 sz:szP t
 ls:zcE t
 re:∀(n:Nat),(n:Int) < t.1→(reachS t 0)[n]?=some true
 ct:∀(n:Nat),(n:Int) < t.1→stn t n=true→1≤cnt t.2.2 n∧cnt t.2.2 n≤2
theorem zCJ {t:qi} {n:Nat} {b:Bool} (h:t.2.1[n]?=some b):stn t n=b:=by unfold stn;simp [h]
theorem zir {t:qi} {n:Int} {b:Bool} (h:t.2.1[n.toNat]?=some b):stn t n=b:=by unfold stn;simp [h]
theorem zul (t:qi) (n:Int):Yp (t,n,())=some (tv (jf t n),()):=by
 rw [zru];unfold ze8 jf
 refine wa ?_
 refine zj (fun h=>?_) (fun h=>?_)<;>refine za ?_<;>simp only [xu] at *<;>grind
theorem zkG (t:qi) (n:Int):Va (t,n,())=some (tv (jf t n),()):=by
 rw [ztE];unfold zhd jf
 refine wa ?_
 refine zj (fun h=>?_) (fun h=>?_)<;>refine za ?_<;>simp only [xu] at *<;>grind
theorem zbf (l:yh) (a b:Int):xD (l,a,b,())=some (tv (uR l a b),()):=by
 rw [zpB];unfold zdc uR
 refine wa ?_
 repeat' first | refine zj (fun h=>?_) (fun h=>?_) | refine za ?_
 all_goals simp only [jE] at *
 all_goals grind
theorem jf.lt {t:qi} {n:Int} (h:jf t n) (hs:szP t):n.toNat < t.2.1.length:=by
 have:=hs.st;have:=h.1;have:=h.2;omega
theorem jf.lt' {t:qi} {n:Int} (h:jf t n) (hs:szP t):n < (t.2.1.length:Int):=by
 have:=hs.st;have:=h.1;have:=h.2;omega
theorem zis {t:qi} (hs:szP t) (l:yh):uv (t,l,())=some (tv (zck t l),()):=by
 rw [zrw];unfold ze9
 simp only [zul,zw]
 refine wa (zk (J:=fun x=>(x.1=0∧jf t l.1∧jf t l.2.1∧l.1≠l.2.1∧¬(stn t l.1=true∧stn t l.2.1=true))∨(x.1=1∧x.2.1.1=false∧¬(jf t l.1∧jf t l.2.1∧l.1≠l.2.1∧¬(stn t l.1=true∧stn t l.2.1=true)))) ?_ ?_)
 ·refine zj (fun h=>?_) (fun h=>?_)
  ·have:¬jf t l.1:=by intro hn;rw [zF hn] at h;cases h
   exact za (.inr ⟨rfl,rfl,by grind⟩)
  have h1:jf t l.1:=xc h
  refine zj (fun h=>?_) (fun h=>?_)
  ·have:¬jf t l.2.1:=by intro hn;rw [zF hn] at h;cases h
   exact za (.inr ⟨rfl,rfl,by grind⟩)
  have h2:jf t l.2.1:=xc h
  refine zj (fun h=>?_) (fun h=>?_)
  ·have:=qL h
   exact za (.inr ⟨rfl,rfl,by grind⟩)
  have h3:=jR h
  refine zg (qK h1.1 (h1.lt' hs) fun x hx=>?_)
  have e1:=zir hx
  refine zj (fun h=>?_) (fun h=>?_)
  ·refine zg (qK h2.1 (h2.lt' hs) fun y hy=>?_)
   have e2:=zir hy
   refine zj (fun h=>?_) (fun h=>?_)
   ·exact za (.inr ⟨rfl,rfl,by grind⟩)
   ·exact za (.inl ⟨rfl,by grind⟩)
  ·exact za (.inl ⟨rfl,by grind⟩)
 ·rintro ⟨j,⟨v,⟨⟩⟩,⟨⟩⟩ (⟨rfl,hp⟩ | ⟨rfl,rfl,hp⟩)
  ·rw [show (Nat.beq 0 0)=true from rfl,cond_true]
   unfold zck
   repeat' first | refine zj (fun h=>?_) (fun h=>?_) | refine za ?_
   all_goals simp only [xu] at *
   all_goals grind
  ·rw [show (Nat.beq 1 0)=false from rfl,cond_false]
   unfold zck
   exact za (by grind)
theorem zbg {l:List Int} (hn:l.length≤1000000000000000000) (x:Int):yW (l,x,())=some (tv (x∈l),()):=by
 rw [zvF];unfold zjh
 refine wa (zk (J:=fun r=>(r.1=0∧¬x∈l)∨(r.1=1∧r.2.1.1=true∧x∈l)) (qF l.length (fun i=>l[i]?≠some x) hn ?_ ?_) ?_)
 ·intro i hi hp
  have hx:l[i]?=some l[i]:=List.getElem?_eq_getElem hi
  refine zd (zR (show (i:Int) < _ by omega)) (zg (zx (n:=i) hx (zj (fun h=>?_) (fun h=>?_))))
  ·have:=qL h
   exact za (zq (.inr ⟨rfl,rfl,by rw [←this];exact List.getElem_mem hi⟩))
  ·have:=jR h
   exact za (jo (by omega) (by grind))
 ·intro hp
  refine ze (zG (show ¬(l.length:Int) < _ by omega)) (za (zq (.inl ⟨rfl,fun hm=>?_⟩)))
  obtain ⟨k,hk⟩:=List.getElem?_of_mem hm
  exact hp k (by grind) hk
 ·rintro ⟨j,⟨v,w,⟨⟩⟩,⟨⟩⟩ (⟨rfl,hp⟩ | ⟨rfl,rfl,hp⟩)
  ·exact za (by simp [hp])
  ·exact za (by simp [hp])
theorem zFG (r:List Bool) (l:yh):(stp r l).length=r.length:=by
 unfold stp
 cases (r[l.1.toNat]?).getD false||(r[l.2.1.toNat]?).getD false<;>simp
theorem zf9 (ls:List yh):∀r:List Bool,(ls.foldl stp r).length=r.length:=by
 induction ls with
 |nil=>intro r;rfl
 |cons l ls ih=>intro r;rw [List.foldl_cons,ih,zFG]
theorem zga (ls:List yh):∀(n:Nat) (r:List Bool),(Ue ls n r).length=r.length
 |0,r=>rfl
 |n+1,r=>by rw [Ue,zga ls n,zf9]
theorem zm8 (ls:List yh):∀(n:Nat) (r:List Bool),Ue ls (n+1) r=ls.foldl stp (Ue ls n r)
 |0,r=>rfl
 |n+1,r=>by rw [Ue,zm8 ls n,Ue]
theorem zsA {t:qi} (hs:szP t) (hl:∀(i:Nat) l,t.2.2[i]?=some l→jf t l.1∧jf t l.2.1) {a:Nat} (ha:(a:Int) < t.1):XP (t,(a:Int),[],())=some (reachS t a,()):=by
 have h0:=hs.n0;have h1:=hs.n1;have h3:=hs.ls;have h4:=hs.st
 have e1:t.1.toNat=t.2.1.length:=by omega
 rw [zpO];unfold zdn
 simp only [zbg (l:=[]) (by simp),zw]
 refine yb ?_
 refine zd (by unfold zg5;rw [zG (by omega),zG (by omega),zG (by omega)];rfl) ?_
 refine zg (qK (by omega) (by simp;omega) fun _ _=>zg (jQ (by simp;omega) fun _ _=>?_))
 refine zk (J:=fun x=>x.2.2.1=reachS t a) (zW t.1.toNat (fun i s=>s=(((i:Int),()),(Ue t.2.2 i ((List.replicate t.1.toNat false).set a true),()))) (by omega) rfl ?_ ?_) ?_
 ·rintro i _ hi rfl
  refine zd (zR (show (i:Int) < _ by omega)) ?_
  generalize hr:Ue t.2.2 i ((List.replicate t.1.toNat false).set a true)=r
  have hrl:r.length=t.1.toNat:=by rw [←hr,zga];simp
  refine zk (J:=fun x=>x.2.2.1=t.2.2.foldl stp r) (zW t.2.2.length (fun i s=>s=(((i:Int),()),((t.2.2.take i).foldl stp r,()))) (by omega) rfl ?_ ?_) ?_
  ·rintro k _ hk rfl
   refine zd (zR (show (k:Int) < _ by omega)) ?_
   have hx:t.2.2[k]?=some t.2.2[k]:=List.getElem?_eq_getElem hk
   obtain ⟨⟨a0,a1⟩,⟨b0,b1⟩⟩:=hl k _ hx
   have hnx:(t.2.2.take (k+1)).foldl stp r=stp ((t.2.2.take k).foldl stp r) t.2.2[k]:=by
    rw [List.take_add_one,hx,List.foldl_append];rfl
   have hlen:((t.2.2.take k).foldl stp r).length=t.1.toNat:=by rw [zf9,hrl]
   generalize (t.2.2.take k).foldl stp r=q at hnx hlen
   refine zg (zx (n:=k) hx ?_)
   refine zk (J:=fun x=>x.2.2.1=stp q t.2.2[k]) ?_ ?_
   ·refine zd (by rw [zQ (by simp)];rfl) ?_
    refine zg (qK a0 (by show _ < ((q.length:Nat):Int);omega) fun x hx=>zg (jQ (by show _ < q.length;omega) fun x' hx'=>?_))
    have ex:x'=x:=Option.some.inj (hx'.symm.trans hx)
    subst ex
    refine zj (fun h=>?_) (fun h=>?_)
    ·subst h
     refine zg (qK a0 (by show _ < ((q.length:Nat):Int);omega) fun _ _=>zg (jQ (by show _ < q.length;omega) fun _ _=>?_))
     refine zg (qK b0 (by show _ < (((q.set _ _).length:Nat):Int);simp;omega) fun _ _=>zg (jQ (by show _ < (q.set _ _).length;simp;omega) fun _ _=>?_))
     refine za ?_
     show _=stp q _
     unfold stp
     simp only at hx'
     rw [hx'];rfl
    ·subst h
     refine zg (qK b0 (by show _ < ((q.length:Nat):Int);omega) fun y hy=>zg (jQ (by show _ < q.length;omega) fun y' hy'=>?_))
     have ey:y'=y:=Option.some.inj (hy'.symm.trans hy)
     subst ey
     refine zj (fun h=>?_) (fun h=>?_)
     ·subst h
      refine zg (qK a0 (by show _ < ((q.length:Nat):Int);omega) fun _ _=>zg (jQ (by show _ < q.length;omega) fun _ _=>?_))
      refine zg (qK b0 (by show _ < (((q.set _ _).length:Nat):Int);simp;omega) fun _ _=>zg (jQ (by show _ < (q.set _ _).length;simp;omega) fun _ _=>?_))
      refine za ?_
      show _=stp q _
      unfold stp
      simp only at hx' hy'
      rw [hx',hy'];rfl
     ·subst h
      refine za ?_
      show q=stp q _
      unfold stp
      simp only at hx' hy'
      rw [hx',hy'];rfl
   ·rintro ⟨j,⟨⟩,q',⟨⟩⟩ hq
    refine za (ql ?_)
    simp only at hq
    rw [hnx,←hq]
    exact congrArg (fun z=>(((z,()),(q',())):(Int×Unit)×(List Bool×Unit))) (qq (by omega))
  ·rintro _ rfl
   refine ze (zG (show ¬(t.2.2.length:Int) < _ by omega)) (za (zq ?_))
   simp
  ·rintro ⟨j,⟨z,⟨⟩⟩,q',⟨⟩⟩ hq
   refine za (ql ?_)
   simp only at hq
   rw [zm8,hr,←hq]
   exact congrArg (fun z=>(((z,()),(q',())):(Int×Unit)×(List Bool×Unit))) (qq (by omega))
 ·rintro _ rfl
  exact ze (zG (show ¬((t.1.toNat:Nat):Int) < _ by omega)) (za (zq rfl))
 ·rintro ⟨j,⟨z,⟨⟩⟩,q',⟨⟩⟩ hq
  exact za hq
def vf (t:qi) (i:Nat):List Int:=(List.range t.1.toNat).map (cnt (t.2.2.take i))
theorem zCK (a:Int) (n:Nat):0≤one a n∧one a n≤1:=by unfold one;split<;>omega
theorem zCL (ls:List yh) (n:Nat):0≤cnt ls n∧cnt ls n≤2*ls.length:=by
 unfold cnt
 induction ls with
 |nil=>simp
 |cons l ls ih=>
  have:=zCK l.1 n;have:=zCK l.2.1 n
  simp only [List.map_cons,List.sum_cons,List.length_cons]
  omega
theorem zyP {ls:List yh} {i:Nat} {l:yh} (h:ls[i]?=some l) (n:Nat):cnt (ls.take (i+1)) n=cnt (ls.take i) n+(one l.1 n+one l.2.1 n):=by
 unfold cnt
 rw [List.take_add_one,h];simp
theorem WO (t:qi) (i:Nat):(vf t i).length=t.1.toNat:=by simp [vf]
theorem zcl {t:qi} {i n:Nat} (h:n < t.1.toNat):(vf t i)[n]?=some (cnt (t.2.2.take i) n):=by simp [vf,h]
theorem zvf {t:qi} {i:Nat} {l:yh} (h:t.2.2[i]?=some l) (hl:t.2.2.length≤24) (ha:jf t l.1) (hb:jf t l.2.1) (hab:l.1≠l.2.1) {u v:Int}
  (hu:(vf t i)[l.1.toNat]?=some u) (hv:((vf t i).set l.1.toNat (wrF .i64 (u+1)))[l.2.1.toNat]?=some v) :
  ((vf t i).set l.1.toNat (wrF .i64 (u+1))).set l.2.1.toNat (wrF .i64 (v+1))=vf t (i+1):=by
 obtain ⟨a0,a1⟩:=ha;obtain ⟨b0,b1⟩:=hb
 have hne:l.1.toNat≠l.2.1.toNat:=by omega
 rw [zcl (by omega)] at hu
 rw [List.getElem?_set_ne hne,zcl (by omega)] at hv
 have hu:=Option.some.inj hu;have hv:=Option.some.inj hv
 have k1:=zCL (t.2.2.take i) l.1.toNat;have k2:=zCL (t.2.2.take i) l.2.1.toNat
 have k3:(t.2.2.take i).length≤24:=by simp;omega
 rw [zD (by omega) (by omega),zD (by omega) (by omega)]
 apply List.ext_getElem?
 intro n
 by_cases hn:n < t.1.toNat
 ·rw [zcl hn,zyP h,List.getElem?_set,List.getElem?_set,zcl hn]
  unfold one
  simp only [List.length_set,WO]
  grind
 ·rw [List.getElem?_eq_none (by simp [WO];omega),List.getElem?_eq_none (by simp [WO];omega)]
theorem zCM (t:qi):List.replicate t.1.toNat (0:Int)=vf t 0:=by
 apply List.ext_getElem?
 intro n
 by_cases hn:n < t.1.toNat
 ·rw [zcl hn];simp [hn,cnt]
 ·rw [List.getElem?_eq_none (by simp;omega),List.getElem?_eq_none (by simp [WO];omega)]
theorem zyQ (t:qi) {n:Nat} (h:n < t.1.toNat):(vf t t.2.2.length)[n]?=some (cnt t.2.2 n):=by rw [zcl h,List.take_length]
theorem zck.nodes {t:qi} {l:yh} (h:zck t l):jf t l.1∧jf t l.2.1:=⟨h.1,h.2.1⟩
theorem zo0 {t:qi} (h:¬szP t):¬jN t:=fun h'=>h h'.sz
theorem zo1 {t:qi} (h:¬zcE t):¬jN t:=fun h'=>h h'.ls
theorem zgR (t:qi):gu (t,())=some (tv (jN t),()):=by
 rw [zpP];unfold zdq
 refine wa (zk (J:=fun x=>(x.1=0∧x.2.1.1=false∧szP t)∨(x.1=1∧x.2.1.1=false∧¬szP t)) ?_ ?_)
 ·refine zj (fun h=>za (.inr ⟨rfl,rfl,fun hs=>?_⟩)) (fun h1=>zj (fun h=>za (.inr ⟨rfl,rfl,fun hs=>?_⟩)) (fun h2=>zj (fun h=>za (.inr ⟨rfl,rfl,fun hs=>?_⟩)) (fun h3=>zj (fun h=>za (.inr ⟨rfl,rfl,fun hs=>?_⟩)) (fun h4=>za (.inl ⟨rfl,rfl,?_⟩)))))
  ·have:=qn h;have:=hs.n0;omega
  ·have:=qn h;have:=hs.n1;omega
  ·have:=hs.st;rw [uh this] at h;cases h
  ·have:=qn h;have:=hs.ls;omega
  ·have h1:=qw h1;have h2:=qw h2;have h4:=qw h4
   have h3:=qL (by simpa using h3)
   exact ⟨h1,h2,h3,by omega⟩
 rintro ⟨j,⟨v,⟨⟩⟩,⟨⟩⟩ (⟨rfl,rfl,hs⟩ | ⟨rfl,rfl,hs⟩)
 rotate_left
 ·exact ze rfl (za ⟨fun h=>(by cases h),fun h=>absurd h (zo0 hs)⟩)
 have n0:=hs.n0;have n1:=hs.n1;have h3:=hs.ls;have h4:=hs.st
 refine zd rfl (zd (znN (by omega) (by omega) (by omega)) ?_)
 refine zk (J:=fun x=>(x.1=0∧x.2.1.1=false∧x.2.2.1=vf t t.2.2.length∧zcE t)∨(x.1=1∧x.2.1.1=false∧¬zcE t))
  (zW t.2.2.length (fun i s=>s=((false,((i:Int),())),(vf t i,()))∧∀(k:Nat),k < i→∀l,t.2.2[k]?=some l→zck t l∧∀(k':Nat) o,k' < k→t.2.2[k']?=some o→¬uR o l.1 l.2.1) (by omega) ⟨by rw [zCM];rfl,fun k hk=>by omega⟩ ?_ ?_) ?_
 ·rintro i _ hi ⟨rfl,hp⟩
  have hx:t.2.2[i]?=some t.2.2[i]:=List.getElem?_eq_getElem hi
  refine zd (zR (show (i:Int) < _ by omega)) (zg (zx (n:=i) hx ?_))
  rw [zis hs]
  generalize hgl:t.2.2[i]=l at hx
  refine zj (fun h=>?_) (fun h=>?_)
  ·have hn:=ym h
   exact za (zq (.inr ⟨rfl,rfl,fun hq=>hn (hq i l hx).1⟩))
  have hl:=xc h
  refine zk (J:=fun x=>(x.1=0∧x.2.1.1=false∧∀(k':Nat) o,k' < i→t.2.2[k']?=some o→¬uR o l.1 l.2.1)∨(x.1=1∧x.2.1.1=false∧∃(k':Nat) (o:yh),k' < i∧t.2.2[k']?=some o∧uR o l.1 l.2.1))
   (qF i (fun k=>∀o,t.2.2[k]?=some o→¬uR o l.1 l.2.1) (by omega) ?_ ?_) ?_
  ·intro k hk hpk
   have hy:t.2.2[k]?=some t.2.2[k]:=List.getElem?_eq_getElem (by omega)
   refine zd (zR (show (k:Int) < (i:Int) by omega)) (zg (zx (n:=k) hy ?_))
   rw [zbf]
   refine zj (fun h=>?_) (fun h=>?_)
   ·exact za (zq (.inr ⟨rfl,rfl,k,_,hk,hy,Zk h⟩))
   ·exact za (jo (by omega) fun o ho=>by rw [hy] at ho;cases ho;exact gJ h)
  ·intro hpk
   exact ze (zG (show ¬(i:Int) < (i:Int) by omega)) (za (zq (.inl ⟨rfl,rfl,fun k' o hk'=>hpk k' hk' o⟩)))
  ·rintro ⟨j,⟨v,w,⟨⟩⟩,⟨⟩⟩ (⟨rfl,rfl,hpk⟩ | ⟨rfl,rfl,k',o,hk',ho,hj⟩)
   ·refine zd rfl ?_
    obtain ⟨⟨a0,a1⟩,⟨b0,b1⟩⟩:=hl.nodes
    have lc:=WO t i
    refine zg (qK a0 (by show _ < (((vf t i).length:Nat):Int);omega) fun _ _=>zg (jQ (by show _ < (vf t i).length;omega) fun u hu=>zg (qK a0 (by show _ < (((vf t i).length:Nat):Int);omega) fun _ _=>zg (jQ (by show _ < (vf t i).length;omega) fun _ _=>?_))))
    refine zg (qK b0 (by show _ < ((((vf t i).set _ _).length:Nat):Int);simp;omega) fun _ _=>zg (jQ (by show _ < ((vf t i).set _ _).length;simp;omega) fun w hw=>zg (qK b0 (by show _ < ((((vf t i).set _ _).length:Nat):Int);simp;omega) fun _ _=>zg (jQ (by show _ < ((vf t i).set _ _).length;simp;omega) fun _ _=>?_))))
    refine za (ql ⟨?_,?_⟩)
    ·have e:=zvf hx hs.ls hl.1 hl.2.1 hl.2.2.1 hu hw
     show ((false,(wrF .i64 ((i:Int)+1),())),((((vf t i).set l.1.toNat (wrF .i64 (u+1))).set l.2.1.toNat (wrF .i64 (w+1))),()))=_
     rw [e,qq (by omega)]
    ·intro k hk l' hl'
     rcases Nat.lt_or_ge k i with hki | hki
     ·exact hp k hki l' hl'
     ·have:k=i:=by omega
      subst this
      rw [hx] at hl';cases hl'
      exact ⟨hl,fun k' o hk'=>hpk k' o hk'⟩
   ·exact ze rfl (za (zq (.inr ⟨rfl,rfl,fun hq=>(hq i l hx).2 k' o hk' ho hj⟩)))
 ·rintro _ ⟨rfl,hp⟩
  exact ze (zG (show ¬(t.2.2.length:Int) < _ by omega)) (za (zq (.inl ⟨rfl,rfl,rfl,fun i l hl=>hp i (by grind) l hl⟩)))
 rintro ⟨j,⟨v,w,⟨⟩⟩,c,⟨⟩⟩ (⟨rfl,rfl,rfl,hls⟩ | ⟨rfl,rfl,hls⟩)
 rotate_left
 ·exact ze rfl (za ⟨fun h=>(by cases h),fun h=>absurd h (zo1 hls)⟩)
 refine zd rfl ?_
 have hre:=zsA (a:=0) hs (fun i l hl=>(hls i l hl).1.nodes) (by omega)
 simp only [Int.natCast_zero] at hre
 rw [hre,zw]
 have hrl:(reachS t 0).length=t.1.toNat:=by unfold reachS;rw [zga];simp
 refine zk (J:=fun x=>(x.1=0∧jN t)∨(x.1=1∧x.2.1.1=false∧¬jN t)) (qF t.1.toNat (fun n=>(reachS t 0)[n]?=some true∧(stn t n=true→1≤cnt t.2.2 n∧cnt t.2.2 n≤2)) (by omega) ?_ ?_) ?_
 ·intro n hn hp
  refine zd (zR (show (n:Int) < _ by omega)) ?_
  have hr:(reachS t 0)[n]?=some (reachS t 0)[n]:=List.getElem?_eq_getElem (by omega)
  have hst:t.2.1[n]?=some t.2.1[n]:=List.getElem?_eq_getElem (by omega)
  have e1:=zCJ hst
  have e2:=zyQ t hn
  refine zk (J:=fun x=>(x.1=0∧x.2.1.1=false∧(reachS t 0)[n]?=some true∧(stn t n=true→1≤cnt t.2.2 n∧cnt t.2.2 n≤2))∨(x.1=1∧x.2.1.1=false∧¬jN t)) ?_ ?_
  ·refine zg (zx (n:=n) hr ?_)
   refine zj (fun h=>?_) (fun h=>?_)
   ·exact za (.inr ⟨rfl,rfl,fun ht=>by have:=ht.re n (by omega);grind⟩)
   refine zg (zx (n:=n) hst (zj (fun h5=>?_) (fun h5=>?_)))
   ·refine zg (zx (n:=n) e2 (zg (jQ (by show n < _;rw [WO];exact hn) fun u hu=>?_)))
    have hu:u=cnt t.2.2 n:=by have hu:(vf t t.2.2.length)[n]?=some u:=hu;rw [e2] at hu;exact (Option.some.inj hu).symm
    subst hu
    refine zj (fun h6=>?_) (fun h6=>?_)
    ·have:=qn h6
     exact za (.inr ⟨rfl,rfl,fun ht=>by have:=ht.ct n (by omega) (by grind);omega⟩)
    refine zg (zx (n:=n) e2 (zg (jQ (by show n < _;rw [WO];exact hn) fun u hu=>?_)))
    have hu:u=cnt t.2.2 n:=by have hu:(vf t t.2.2.length)[n]?=some u:=hu;rw [e2] at hu;exact (Option.some.inj hu).symm
    subst hu
    refine zj (fun h7=>?_) (fun h7=>?_)
    ·have:=qn h7
     exact za (.inr ⟨rfl,rfl,fun ht=>by have:=ht.ct n (by omega) (by grind);omega⟩)
    ·have:=qw h6;have:=qw h7
     exact za (.inl ⟨rfl,rfl,by grind,fun _=>⟨by omega,by omega⟩⟩)
   ·exact za (.inl ⟨rfl,rfl,by grind,fun hc=>by grind⟩)
  ·rintro ⟨j,⟨v,⟨⟩⟩,⟨⟩⟩ (⟨rfl,rfl,hq⟩ | ⟨rfl,rfl,hq⟩)
   ·exact zd rfl (za (jo (by omega) hq))
   ·exact ze rfl (za (zq (.inr ⟨rfl,rfl,hq⟩)))
 ·intro hp
  exact ze (zG (show ¬((t.1.toNat:Nat):Int) < _ by omega)) (za (zq (.inl ⟨rfl,⟨hs,hls,fun n hn=>(hp n (by omega)).1,fun n hn=>(hp n (by omega)).2⟩⟩)))
 ·rintro ⟨j,⟨v,w,⟨⟩⟩,⟨⟩⟩ (⟨rfl,hq⟩ | ⟨rfl,rfl,hq⟩)
  ·exact zd rfl (za ⟨fun _=>hq,fun _=>rfl⟩)
  ·exact ze rfl (za ⟨fun h=>(by cases h),fun h=>absurd h hq⟩)
def chk (t:qi) (i:Nat) (l:yh) (c:Nat):Prop:=match c with
 |0=>jf t l.1∧jf t l.2.1∧l.1≠l.2.1
 |1=>¬(stn t l.1=true∧stn t l.2.1=true)
 |2=>∀(k:Nat) o,k < i→t.2.2[k]?=some o→¬uR o l.1 l.2.1
 |_=>1≤l.2.2.1∧l.2.2.1≤1000∧0≤l.2.2.2∧l.2.2.2≤10000
theorem zum {t:qi} (hs:szP t):Yu (t,())=some (tv (zcE t),()):=by
 have n0:=hs.n0;have n1:=hs.n1;have h3:=hs.ls;have h4:=hs.st
 rw [zrJ];unfold zfm
 refine wa (zk (J:=fun x=>(x.1=0∧zcE t)∨(x.1=1∧x.2.1.1=false∧¬zcE t))
  (qF t.2.2.length (fun i=>∀l,t.2.2[i]?=some l→zck t l∧∀(k:Nat) o,k < i→t.2.2[k]?=some o→¬uR o l.1 l.2.1) (by omega) ?_ ?_) ?_)
 ·intro i hi hp
  have hx:t.2.2[i]?=some t.2.2[i]:=List.getElem?_eq_getElem hi
  generalize hgl:t.2.2[i]=l at hx
  refine zd (zR (show (i:Int) < (t.2.2.length:Int) by omega)) ?_
  refine zk (J:=fun x=>(x.1=0∧x.2.1.1=false∧∀c,c < 4→chk t i l c)∨(x.1=1∧x.2.1.1=false∧∃c,¬chk t i l c)) (qF 4 (chk t i l) (by omega) ?_ ?_) ?_
  ·intro c hc hpc
   refine zd (zR (show (c:Int) < 4 by omega)) ?_
   have:c=0∨c=1∨c=2∨c=3:=by omega
   rcases this with rfl | rfl | rfl | rfl
   ·refine zd (uh rfl) (zg (zx (n:=i) hx ?_))
    rw [zkG]
    refine zj (fun h1=>?_) (fun h1=>?_)
    ·rw [zkG]
     refine zj (fun h2=>?_) (fun h2=>?_)
     ·refine zj (fun h=>?_) (fun h=>?_)
      ·have:=qL (show zi l.1 l.2.1=true by simpa using h)
       exact za (zq (.inr ⟨rfl,rfl,0,fun hq=>hq.2.2 this⟩))
      ·have:=jR (show zi l.1 l.2.1=false by simpa using h)
       exact za (jo (by omega) ⟨Zk h1,Zk h2,this⟩)
     ·exact za (zq (.inr ⟨rfl,rfl,0,fun hq=>gJ h2 hq.2.1⟩))
    ·exact za (zq (.inr ⟨rfl,rfl,0,fun hq=>gJ h1 hq.1⟩))
   ·obtain ⟨⟨a0,a1⟩,⟨b0,b1⟩,hab⟩:=hpc 0 (by omega)
    refine ze rfl (zd (uh rfl) (zg (zx (n:=i) hx ?_)))
    refine zg (qK a0 (by show l.1 < _;omega) fun x hx1=>?_)
    have e1:=zir hx1
    refine zj (fun h1=>?_) (fun h1=>?_)
    ·exact za (jo (by omega) (by show ¬_;grind))
    ·refine zg (qK b0 (by show l.2.1 < _;omega) fun y hy1=>?_)
     have e2:=zir hy1
     refine zj (fun h2=>?_) (fun h2=>?_)
     ·exact za (zq (.inr ⟨rfl,rfl,1,fun hq=>hq (by grind)⟩))
     ·exact za (jo (by omega) (by show ¬_;grind))
   ·refine ze rfl (ze rfl (zd (uh rfl) (zg (zx (n:=i) hx ?_))))
    refine zg (qj (znM t.2.2 i (by omega)) ?_)
    have lt:(t.2.2.take i).length=i:=by simp;omega
    refine zk (J:=fun x=>(x.1=0∧∀(k:Nat) o,k < i→t.2.2[k]?=some o→¬uR o l.1 l.2.1)∨(x.1=1∧x.2.1.1=false∧∃(k:Nat) (o:yh),k < i∧t.2.2[k]?=some o∧uR o l.1 l.2.1))
     (qF i (fun k=>∀o,t.2.2[k]?=some o→¬uR o l.1 l.2.1) (by omega) ?_ ?_) ?_
    ·intro k hk hpk
     have hy:t.2.2[k]?=some t.2.2[k]:=List.getElem?_eq_getElem (by omega)
     have hy':(t.2.2.take i)[k]?=some t.2.2[k]:=by rw [List.getElem?_take];simp [hk,hy]
     generalize hgo:t.2.2[k]=o at hy hy'
     refine zd (zR (show (k:Int) < (((t.2.2.take i).length:Nat):Int) by omega)) (zg (zx (n:=k) hy' ?_))
     refine zk (J:=fun x=>(x.1=0∧x.2.1.1=false∧¬uR o l.1 l.2.1)∨(x.1=1∧x.2.1.1=false∧uR o l.1 l.2.1)) ?_ ?_
     ·unfold uR
      repeat' first | refine zj (fun h=>?_) (fun h=>?_) | refine za ?_
      all_goals simp only [jE] at *
      all_goals grind
     ·rintro ⟨j,⟨v,⟨⟩⟩,⟨⟩⟩ (⟨rfl,rfl,hq⟩ | ⟨rfl,rfl,hq⟩)
      ·exact zd rfl (za (jo (by omega) fun o' ho=>by rw [hy] at ho;cases ho;exact hq))
      ·exact ze rfl (za (zq (.inr ⟨rfl,rfl,k,o,hk,hy,hq⟩)))
    ·intro hpk
     exact ze (zG (show ¬(i:Int) < (((t.2.2.take i).length:Nat):Int) by omega)) (za (zq (.inl ⟨rfl,fun k' o hk'=>hpk k' hk' o⟩)))
    ·rintro ⟨j,⟨v,w,⟨⟩⟩,⟨⟩⟩ (⟨rfl,hq⟩ | ⟨rfl,rfl,k,o,hk,ho,hj⟩)
     ·exact zd rfl (za (jo (by omega) hq))
     ·exact ze rfl (zd rfl (za (zq (.inr ⟨rfl,rfl,2,fun hq=>hq k o hk ho hj⟩))))
   ·refine ze rfl (ze rfl (ze rfl (zd (uh rfl) (zg (zx (n:=i) hx ?_)))))
    refine zj (fun h1=>?_) (fun h1=>?_)
    ·refine zj (fun h2=>?_) (fun h2=>?_)
     ·refine zj (fun h3=>?_) (fun h3=>?_)
      ·refine zj (fun h4=>?_) (fun h4=>?_)
       ·have:=qn (show zh 10000 l.2.2.2=true by simpa using h4)
        exact za (zq (.inr ⟨rfl,rfl,3,fun hq=>by have:=hq.2.2.2;omega⟩))
       ·have:=qw (show zh l.2.2.1 1=false by simpa using h1)
        have:=qw (show zh 1000 l.2.2.1=false by simpa using h2)
        have:=qw (show zh l.2.2.2 0=false by simpa using h3)
        have:=qw (show zh 10000 l.2.2.2=false by simpa using h4)
        exact za (jo (by omega) ⟨by omega,by omega,by omega,by omega⟩)
      ·have:=qn (show zh l.2.2.2 0=true by simpa using h3)
       exact za (zq (.inr ⟨rfl,rfl,3,fun hq=>by have:=hq.2.2.1;omega⟩))
     ·have:=qn (show zh 1000 l.2.2.1=true by simpa using h2)
      exact za (zq (.inr ⟨rfl,rfl,3,fun hq=>by have:=hq.2.1;omega⟩))
    ·have:=qn (show zh l.2.2.1 1=true by simpa using h1)
     exact za (zq (.inr ⟨rfl,rfl,3,fun hq=>by have:=hq.1;omega⟩))
  ·intro hpc
   exact ze (zG (show ¬((4:Nat):Int) < 4 by omega)) (za (zq (.inl ⟨rfl,rfl,hpc⟩)))
  ·rintro ⟨j,⟨v,w,⟨⟩⟩,⟨⟩⟩ (⟨rfl,rfl,hq⟩ | ⟨rfl,rfl,c,hq⟩)
   ·obtain ⟨c0,c0',c0''⟩:=hq 0 (by omega)
    have c1:=hq 1 (by omega);have c2:=hq 2 (by omega)
    obtain ⟨d1,d2,d3,d4⟩:=hq 3 (by omega)
    exact zd rfl (za (jo (by omega) fun l' hl'=>by rw [hx] at hl';cases hl';exact ⟨⟨c0,c0',c0'',c1,d1,d2,d3,d4⟩,c2⟩))
   ·refine ze rfl (za (zq (.inr ⟨rfl,rfl,fun ht=>hq ?_⟩)))
    obtain ⟨⟨c0,c0',c0'',c1,d1,d2,d3,d4⟩,c2⟩:=ht i l hx
    unfold chk
    split
    ·exact ⟨c0,c0',c0''⟩
    ·exact c1
    ·exact c2
    ·exact ⟨d1,d2,d3,d4⟩
 ·intro hp
  exact ze (zG (show ¬(t.2.2.length:Int) < (t.2.2.length:Int) by omega)) (za (zq (.inl ⟨rfl,fun i l hl=>hp i (by grind) l hl⟩)))
 ·rintro ⟨j,⟨v,w,⟨⟩⟩,⟨⟩⟩ (⟨rfl,hq⟩ | ⟨rfl,rfl,hq⟩)
  ·exact zd rfl (za ⟨fun _=>hq,fun _=>rfl⟩)
  ·exact ze rfl (za ⟨fun h=>(by cases h),fun h=>absurd h hq⟩)
abbrev zGL:Bool×Bool×Bool×Bool×Bool×Bool×Bool×Bool×Bool×Bool×Bool×Bool×Bool×Bool×Bool×Bool×Bool×Bool×Bool×Bool×Bool×Bool×Bool×Bool:=(false,(false,(false,(false,(false,(false,(false,(false,(false,(false,(false,(false,(false,(false,(false,(false,(false,(false,(false,(false,(false,(false,(false,false)))))))))))))))))))))))
noncomputable def zEZ (q:List Bool) (x4:yh):Option (Nat×(Unit×(List Bool×Unit))):=opt (atI q x4.1) fun x5=>
 opt (gl q (Int.toNat x4.1)) fun x6=>
 opt (atI q x4.2.1) fun x7=>
 opt (gl q (Int.toNat x4.2.1)) fun x8=>
 bif (!(x6 == x8)) then opt (atI q x4.1) fun x9=>
  opt (gl q (Int.toNat x4.1)) fun x10=>
  opt (atI (q.set (Int.toNat x4.1) true) x4.2.1) fun x11=>
  opt (gl (q.set (Int.toNat x4.1) true) (Int.toNat x4.2.1)) fun x12=>
  some (0,((),(((q.set (Int.toNat x4.1) true).set (Int.toNat x4.2.1) true),())))
 else some (0,((),(q,())))
theorem zFH {q:List Bool} {l:yh} {n:Nat} (hq:q.length=n) (a0:0≤l.1) (a1:l.1 < n) (b0:0≤l.2.1) (b1:l.2.1 < n):qu (zEZ q l) fun x=>x.2.2.1=stp q l:=by
 unfold zEZ
 refine zg (qK a0 (by omega) fun _ _=>zg (jQ (by omega) fun x hx=>zg (qK b0 (by omega) fun _ _=>zg (jQ (by omega) fun y hy=>?_))))
 refine zj (fun h=>?_) (fun h=>?_)
 ·refine zg (qK a0 (by omega) fun _ _=>zg (jQ (by omega) fun _ _=>?_))
  refine zg (qK b0 (by simp;omega) fun _ _=>zg (jQ (by simp;omega) fun _ _=>?_))
  refine za ?_
  show _=stp q l
  unfold stp
  rw [hx,hy]
  cases x<;>cases y<;>simp at h ⊢
 ·refine za ?_
  show q=stp q l
  unfold stp
  rw [hx,hy]
  cases x<;>cases y<;>simp at h ⊢
  apply List.ext_getElem?
  intro k
  simp only [List.getElem?_set]
  grind
theorem zun {t:qi} (hs:szP t) (hl:∀(i:Nat) l,t.2.2[i]?=some l→jf t l.1∧jf t l.2.1):QN (t,0,zGL,())=some (reachS t 0,()):=by
 have h0:=hs.n0;have h1:=hs.n1;have h3:=hs.ls;have h4:=hs.st
 have e1:t.1.toNat=t.2.1.length:=by omega
 rw [zrL];unfold zfn
 refine yb ?_
 refine zd (znN (by omega) (by omega) (by omega)) ?_
 refine zg (qK (by omega) (by simp;omega) fun _ _=>zg (jQ (by simp;omega) fun _ _=>?_))
 refine zk (J:=fun x=>x.2.2.1=reachS t 0) (zW t.1.toNat (fun i s=>s=(((i:Int),()),(Ue t.2.2 i ((List.replicate t.1.toNat false).set 0 true),()))) (by omega) rfl ?_ ?_) ?_
 ·rintro i _ hi rfl
  refine zd (zR (show (i:Int) < _ by omega)) ?_
  generalize hr:Ue t.2.2 i ((List.replicate t.1.toNat false).set 0 true)=r
  have hrl:r.length=t.1.toNat:=by rw [←hr,zga];simp
  refine zk (J:=fun x=>x.2.2.1=t.2.2.foldl stp r) (zW t.2.2.length (fun i s=>s=(((i:Int),()),((t.2.2.take i).foldl stp r,()))) (by omega) rfl ?_ ?_) ?_
  ·rintro k _ hk rfl
   refine zd (zR (show (k:Int) < _ by omega)) ?_
   have hx:t.2.2[k]?=some t.2.2[k]:=List.getElem?_eq_getElem hk
   obtain ⟨⟨a0,a1⟩,⟨b0,b1⟩⟩:=hl k _ hx
   have hnx:(t.2.2.take (k+1)).foldl stp r=stp ((t.2.2.take k).foldl stp r) t.2.2[k]:=by
    rw [List.take_add_one,hx,List.foldl_append];rfl
   have hlen:((t.2.2.take k).foldl stp r).length=t.1.toNat:=by rw [zf9,hrl]
   generalize (t.2.2.take k).foldl stp r=q at hnx hlen
   generalize t.2.2[k]=l at hx hnx a0 a1 b0 b1
   refine zg (zx (n:=k) hx ?_)
   have key:=zFH hlen a0 (show l.1 < (t.1.toNat:Nat) by omega) b0 (show l.2.1 < (t.1.toNat:Nat) by omega)
   refine zk (J:=fun x=>x.2.2.1=stp q l) ?_ ?_
   ·rcases (by omega:k=0∨k=1∨k=2∨k=3∨k=4∨k=5∨k=6∨k=7∨k=8∨k=9∨k=10∨k=11∨k=12∨k=13∨k=14∨k=15∨k=16∨k=17∨k=18∨k=19∨k=20∨k=21∨k=22∨k=23) with rfl | rfl | rfl | rfl | rfl | rfl | rfl | rfl | rfl | rfl | rfl | rfl | rfl | rfl | rfl | rfl | rfl | rfl | rfl | rfl | rfl | rfl | rfl | rfl
    all_goals exact key
   ·rintro ⟨j,⟨⟩,q',⟨⟩⟩ hq
    refine za (ql ?_)
    simp only at hq
    rw [hnx,←hq]
    exact congrArg (fun z=>(((z,()),(q',())):(Int×Unit)×(List Bool×Unit))) (qq (by omega))
  ·rintro _ rfl
   refine ze (zG (show ¬(t.2.2.length:Int) < _ by omega)) (za (zq ?_))
   simp
  ·rintro ⟨j,⟨z,⟨⟩⟩,q',⟨⟩⟩ hq
   refine za (ql ?_)
   simp only at hq
   rw [zm8,hr,←hq]
   exact congrArg (fun z=>(((z,()),(q',())):(Int×Unit)×(List Bool×Unit))) (qq (by omega))
 ·rintro _ rfl
  exact ze (zG (show ¬((t.1.toNat:Nat):Int) < _ by omega)) (za (zq rfl))
 ·rintro ⟨j,⟨z,⟨⟩⟩,q',⟨⟩⟩ hq
  exact za hq
theorem zcm {l:List Bool} (hn:l.length≤1000000000000000000) (b:Bool):qu (yw (l,b,())) fun r=>(0≤r.1∧b∈l)∨(r.1 = -1∧¬b∈l):=by
 rw [zbp];unfold ZS
 refine zk (J:=fun x=>(x.1=0∧¬b∈l)∨(x.1=1∧0≤x.2.1.1∧b∈l)) (qF l.length (fun i=>l[i]?≠some b) hn ?_ ?_) ?_
 ·intro i hi hp
  have hx:l[i]?=some l[i]:=List.getElem?_eq_getElem hi
  refine zd (zR (show (i:Int) < (l.length:Int) by omega)) (zg (zx (n:=i) hx (zj (fun h=>?_) (fun h=>?_))))
  ·have:b=l[i]:=eq_of_beq h
   exact za (zq (.inr ⟨rfl,by show (0:Int)≤(i:Int);omega,by rw [this];exact List.getElem_mem hi⟩))
  ·exact za (jo (by omega) (by rw [hx];intro e;cases e;simp at h))
 ·intro hp
  refine ze (zG (show ¬(l.length:Int) < (l.length:Int) by omega)) (za (zq (.inl ⟨rfl,fun hm=>?_⟩)))
  obtain ⟨k,hk⟩:=List.getElem?_of_mem hm
  exact hp k (by grind) hk
 ·rintro ⟨j,⟨v,w,⟨⟩⟩,⟨⟩⟩ (⟨rfl,hp⟩ | ⟨rfl,h0,hp⟩)
  ·exact zd rfl (za (.inr ⟨rfl,hp⟩))
  ·exact ze rfl (za (.inl ⟨h0,hp⟩))
theorem zad {l:List Bool} (hn:l.length≤1000000000000000000) (b:Bool):wL (l,b,())=some (tv (b∈l),()):=by
 rw [Gj];unfold gC
 refine wa (zk (zcm hn b) ?_)
 rintro ⟨v,⟨⟩⟩ (⟨h,hm⟩ | ⟨rfl,hm⟩)
 ·refine za ⟨fun _=>hm,fun _=>?_⟩
  show (!zh v 0)=true
  rw [zG (by simp only at h;omega)];rfl
 ·exact za ⟨fun h=>(by cases h),fun h=>absurd h hm⟩
theorem YL (t:qi):jK (t,())=some (bif tv (jN t) then 0 else 260,()):=by
 have good:∀{v:Int},jN t→v=0→v=bif tv (jN t) then 0 else 260:=fun h e=>by rw [zF h,e];rfl
 have bad:∀{v:Int},¬jN t→v=260→v=bif tv (jN t) then 0 else 260:=fun h e=>by rw [zQ h,e];rfl
 rw [zrM];unfold zfo
 refine yb (zk (J:=fun x=>(x.1=0∧x.2.1.1=0∧2≤t.1∧t.1≤12∧(t.2.1.length:Int)=t.1)∨(x.1=1∧x.2.1.1=260∧¬szP t)) ?_ ?_)
 ·refine zj (fun h=>za (.inr ⟨rfl,rfl,fun hs=>?_⟩)) (fun h1=>zj (fun h=>za (.inr ⟨rfl,rfl,fun hs=>?_⟩)) (fun h2=>zj (fun h=>za (.inr ⟨rfl,rfl,fun hs=>?_⟩)) (fun h3=>za (.inl ⟨rfl,rfl,?_⟩))))
  ·have:=qn h;have:=hs.n0;omega
  ·have:=qn h;have:=hs.n1;omega
  ·have:=hs.st;rw [uh this] at h;cases h
  ·have h1:=qw h1;have h2:=qw h2
   exact ⟨h1,h2,qL (by simpa using h3)⟩
 rintro ⟨j,⟨v,⟨⟩⟩,⟨⟩⟩ (⟨rfl,rfl,h1,h2,h3⟩ | ⟨rfl,rfl,hs⟩)
 rotate_left
 ·exact ze rfl (za (bad (zo0 hs) rfl))
 refine zd rfl (zk (J:=fun x=>(x.1=0∧x.2.1.1=0∧szP t∧zcE t)∨(x.1=1∧x.2.1.1=260∧¬jN t)) ?_ ?_)
 ·refine zj (fun h=>za (.inr ⟨rfl,rfl,fun hs=>?_⟩)) (fun h4=>?_)
  ·have:=qn h;have:=hs.sz.ls;omega
  have h4:=qw h4
  have hs:szP t:=⟨h1,h2,h3,by omega⟩
  rw [zum hs]
  refine zj (fun h=>?_) (fun h=>?_)
  ·exact za (.inr ⟨rfl,rfl,zo1 (ym h)⟩)
  ·exact za (.inl ⟨rfl,rfl,hs,xc h⟩)
 rintro ⟨j,⟨v,⟨⟩⟩,⟨⟩⟩ (⟨rfl,rfl,hs,hls⟩ | ⟨rfl,rfl,ht⟩)
 rotate_left
 ·exact ze rfl (za (bad ht rfl))
 have h5:=hs.ls
 refine zd rfl (zd (znN (by omega) (by omega) (by omega)) ?_)
 refine zk (J:=fun x=>x.2.2.1=vf t t.2.2.length) (zW t.2.2.length (fun i s=>s=(((i:Int),()),(vf t i,()))) (by omega) (by rw [zCM];rfl) ?_ ?_) ?_
 ·rintro i _ hi rfl
  have hx:t.2.2[i]?=some t.2.2[i]:=List.getElem?_eq_getElem hi
  refine zd (zR (show (i:Int) < (t.2.2.length:Int) by omega)) (zg (zx (n:=i) hx ?_))
  generalize t.2.2[i]=l at hx
  have hl:=(hls i l hx).1
  obtain ⟨⟨a0,a1⟩,⟨b0,b1⟩⟩:=hl.nodes
  have lc:=WO t i
  refine zg (qK a0 (by show _ < (((vf t i).length:Nat):Int);omega) fun _ _=>zg (jQ (by show _ < (vf t i).length;omega) fun u hu=>zg (qK a0 (by show _ < (((vf t i).length:Nat):Int);omega) fun _ _=>zg (jQ (by show _ < (vf t i).length;omega) fun _ _=>?_))))
  refine zg (qK b0 (by show _ < ((((vf t i).set _ _).length:Nat):Int);simp;omega) fun _ _=>zg (jQ (by show _ < ((vf t i).set _ _).length;simp;omega) fun w hw=>zg (qK b0 (by show _ < ((((vf t i).set _ _).length:Nat):Int);simp;omega) fun _ _=>zg (jQ (by show _ < ((vf t i).set _ _).length;simp;omega) fun _ _=>?_))))
  refine za (ql ?_)
  have e:=zvf hx hs.ls hl.1 hl.2.1 hl.2.2.1 hu hw
  show (((wrF .i64 ((i:Int)+1)),()),((((vf t i).set l.1.toNat (wrF .i64 (u+1))).set l.2.1.toNat (wrF .i64 (w+1))),()))=_
  rw [e,qq (by omega)]
 ·rintro _ rfl
  exact ze (zG (show ¬(t.2.2.length:Int) < (t.2.2.length:Int) by omega)) (za (zq rfl))
 rintro ⟨j,⟨z,⟨⟩⟩,c,⟨⟩⟩ hc
 simp only at hc
 subst hc
 refine zk (J:=fun x=>(x.1=0∧∀(n:Nat),(n:Int) < t.1→stn t n=true→1≤cnt t.2.2 n∧cnt t.2.2 n≤2)∨(x.1=1∧x.2.1.1=260∧¬jN t)) (qF t.2.1.length (fun n=>stn t n=true→1≤cnt t.2.2 n∧cnt t.2.2 n≤2) (by omega) ?_ ?_) ?_
 ·intro n hn hp
  have hst:t.2.1[n]?=some t.2.1[n]:=List.getElem?_eq_getElem (by omega)
  have e1:=zCJ hst
  have hn':n < t.1.toNat:=by omega
  have e2:=zyQ t hn'
  refine zd (zR (show (n:Int) < (t.2.1.length:Int) by omega)) (zg (zx (n:=n) hst ?_))
  refine zk (J:=fun x=>(x.1=0∧x.2.1.1=0∧(stn t n=true→1≤cnt t.2.2 n∧cnt t.2.2 n≤2))∨(x.1=1∧x.2.1.1=260∧¬jN t)) (zj (fun h5=>?_) (fun h5=>?_)) ?_
  ·refine zg (zx (n:=n) e2 (zg (jQ (by show n < _;rw [WO];exact hn') fun u hu=>?_)))
   have hu:u=cnt t.2.2 n:=by have hu:(vf t t.2.2.length)[n]?=some u:=hu;rw [e2] at hu;exact (Option.some.inj hu).symm
   subst hu
   refine zj (fun h6=>?_) (fun h6=>?_)
   ·have:=qn h6
    exact za (.inr ⟨rfl,rfl,fun ht=>by have:=ht.ct n (by omega) (by grind);omega⟩)
   refine zg (zx (n:=n) e2 (zg (jQ (by show n < _;rw [WO];exact hn') fun u hu=>?_)))
   have hu:u=cnt t.2.2 n:=by have hu:(vf t t.2.2.length)[n]?=some u:=hu;rw [e2] at hu;exact (Option.some.inj hu).symm
   subst hu
   refine zj (fun h7=>?_) (fun h7=>?_)
   ·have:=qn h7
    exact za (.inr ⟨rfl,rfl,fun ht=>by have:=ht.ct n (by omega) (by grind);omega⟩)
   ·have:=qw h6;have:=qw h7
    exact za (.inl ⟨rfl,rfl,fun _=>⟨by omega,by omega⟩⟩)
  ·exact za (.inl ⟨rfl,rfl,fun hc=>by grind⟩)
  ·rintro ⟨j,⟨v,⟨⟩⟩,⟨⟩⟩ (⟨rfl,rfl,hq⟩ | ⟨rfl,rfl,hq⟩)
   ·exact zd rfl (za (jo (by omega) hq))
   ·exact ze rfl (za (zq (.inr ⟨rfl,rfl,hq⟩)))
 ·intro hp
  exact ze (zG (show ¬(t.2.1.length:Int) < (t.2.1.length:Int) by omega)) (za (zq (.inl ⟨rfl,fun n hn=>hp n (by omega)⟩)))
 rintro ⟨j,⟨v,w,⟨⟩⟩,⟨⟩⟩ (⟨rfl,hct⟩ | ⟨rfl,rfl,hq⟩)
 rotate_left
 ·exact ze rfl (za (bad hq rfl))
 have hrl:(reachS t 0).length=t.1.toNat:=by unfold reachS;rw [zga];simp
 refine zd rfl ?_
 rw [show QN (t,0,_,())=some (reachS t 0,()) from zun hs (fun i l hl=>(hls i l hl).1.nodes),zw]
 rw [zad (by show (reachS t 0).length≤_;omega),zw]
 refine zj (fun h=>?_) (fun h=>?_)
 ·refine za (bad (fun ht=>?_) rfl)
  obtain ⟨k,hk⟩:=List.getElem?_of_mem (Zk h)
  have:=ht.re k (by grind)
  rw [this] at hk;cases hk
 ·refine za (good ⟨hs,hls,fun n hn=>?_,hct⟩ rfl)
  have hr:(reachS t 0)[n]?=some (reachS t 0)[n]:=List.getElem?_eq_getElem (by omega)
  rw [hr]
  cases e:(reachS t 0)[n] with
  |true=>rfl
  |false=>exact absurd (by rw [←e];exact List.getElem_mem _) (gJ h)
def jG (t:qi) (p:Int):Prop:=0≤p∧p < 2*(t.2.2.length:Int)
def lnk (t:qi) (p:Int):yh:=(t.2.2[p.toNat / 2]?).getD (0,0,0,0)
def frm (t:qi) (p:Int):Int:=if p % 2=1 then (lnk t p).2.1 else (lnk t p).1
def too (t:qi) (p:Int):Int:=if p % 2=1 then (lnk t p).1 else (lnk t p).2.1
theorem zm9 {p:Int} (h:0≤p) (h2:p≤1000000000000000000):wrF .i64 (Int.tdiv p 2)=((p.toNat / 2:Nat):Int):=by
 rw [Int.tdiv_eq_ediv_of_nonneg h,zD (by omega) (by omega)];omega
theorem par {p:Int} (h:0≤p):Int.tmod p 2=p % 2:=Int.tmod_eq_emod_of_nonneg h
theorem YM {t:qi} {p:Int} (h:jG t p):t.2.2[p.toNat / 2]?=some (lnk t p):=by
 have:=h.1;have:=h.2
 have hx:t.2.2[p.toNat / 2]?=some (t.2.2[p.toNat / 2]'(by omega)):=List.getElem?_eq_getElem (by omega)
 unfold lnk;rw [hx];rfl
theorem tw (t:qi) (h:t.2.2.length≤1000000000000000):wrF .i64 (2*(t.2.2.length:Int))=2*(t.2.2.length:Int):=zD (by omega) (by omega)
theorem GB {t:qi} (hl:zcE t) {p:Int} (h:jG t p):jf t (frm t p)∧jf t (too t p)∧frm t p≠too t p:=by
 have:=(hl _ _ (YM h)).1
 have h1:=this.1;have h2:=this.2.1;have h3:=this.2.2.1
 unfold frm too
 split
 ·exact ⟨h2,h1,fun e=>h3 e.symm⟩
 ·exact ⟨h1,h2,h3⟩
theorem zuo {t:qi} (h:t.2.2.length≤1000000000000000) (p:Int):Yr (t,p,())=some (tv (jG t p),()):=by
 rw [zrE];unfold zfg jG
 refine wa (zj (fun h=>?_) (fun h=>?_))<;>refine za ?_<;>simp only [xu] at *
 ·have:=tw t ‹_›;grind
 ·grind
theorem Qu {t:qi} (h:t.2.2.length≤1000000000000000) {p:Int} (hp:jG t p):jt (t,p,())=some (frm t p,()):=by
 have:=hp.1;have:=hp.2
 rw [zry];unfold zfa
 simp only [zm9 hp.1 (by omega),par hp.1,wR (YM hp),zw,jE]
 unfold frm
 by_cases e:p % 2=1
 ·simp [e]
 ·have e2:(p % 2 == 1)=false:=by simpa using e
  rw [e2,if_neg e];rfl
theorem Je {t:qi} (h:t.2.2.length≤1000000000000000) {p:Int} (hp:jG t p):yj (t,p,())=some (too t p,()):=by
 have:=hp.1;have:=hp.2
 rw [zvE];unfold zjg
 simp only [zm9 hp.1 (by omega),par hp.1,wR (YM hp),zw,jE]
 unfold too
 by_cases e:p % 2=1
 ·simp [e]
 ·have e2:(p % 2 == 1)=false:=by simpa using e
  rw [e2,if_neg e];rfl
theorem zwx {t:qi} (h:t.2.2.length≤1000000000000000) {p:Int} (hp:jG t p):Up (t,p,())=some ((lnk t p).2.2.1,()):=by
 have:=hp.1;have:=hp.2
 rw [zt1];unfold zhm
 simp only [zm9 hp.1 (by omega),wR (YM hp),zw]
theorem zsB {t:qi} (h:t.2.2.length≤1000000000000000) {p:Int} (hp:jG t p):XT (t,p,())=some ((lnk t p).2.2.2,()):=by
 have:=hp.1;have:=hp.2
 rw [zqn];unfold zdQ
 simp only [zm9 hp.1 (by omega),wR (YM hp),zw]
theorem zjE {t:qi} (h:t.2.2.length≤1000000000000000) {p:Int} (hp:jG t p):zh p 0=false∧(!zh p (wrF .i64 (2*(t.2.2.length:Int))))=false:=by
 have:=hp.1;have:=hp.2
 rw [tw t h,zG (by omega),zR (by omega)];simp
theorem zyR {t:qi} (ht:jN t) {p:Int} (hp:jG t p):xY (t,p,())=some ((lnk t p).2.2.1,0,()):=by
 have hl:t.2.2.length≤1000000000000000:=by have:=ht.sz.ls;omega
 have:=hp.1;have:=hp.2
 obtain ⟨e1,e2⟩:=zjE hl hp
 rw [zvZ];unfold zjp
 simp only [YL,zw,zF ht,cond_true,uh,Bool.not_true,cond_false,e1,e2,zm9 hp.1 (show p≤1000000000000000000 by omega),wR (YM hp),zn6,zcg]
 rfl
theorem zup {t:qi} (ht:jN t) {p:Int} (hp:jG t p):Jc (t,p,())=some ((lnk t p).2.2.2,0,()):=by
 have hl:t.2.2.length≤1000000000000000:=by have:=ht.sz.ls;omega
 have:=hp.1;have:=hp.2
 obtain ⟨e1,e2⟩:=zjE hl hp
 rw [zsm];unfold zfV
 simp only [YL,zw,zF ht,cond_true,uh,Bool.not_true,cond_false,e1,e2,zm9 hp.1 (show p≤1000000000000000000 by omega),wR (YM hp),zk4,Gw]
 rfl
def zV (t:qi) (r:List Int):List Int:=match r with
 |[]=>[]
 |p::_=>frm t p::r.map (too t)
theorem Zx (t:qi) {r:List Int} (h:r≠[]):(zV t r).length=r.length+1:=by
 cases r with
 |nil=>exact absurd rfl h
 |cons p r=>simp [zV]
theorem zuq (t:qi) {r:List Int} {p:Int} (h:r[0]?=some p):(zV t r)[0]?=some (frm t p):=by
 cases r with
 |nil=>cases h
 |cons q r=>simp at h;subst h;rfl
theorem WD (t:qi) {r:List Int} {i:Nat} {p:Int} (h:r[i]?=some p):(zV t r)[i+1]?=some (too t p):=by
 cases r with
 |nil=>cases h
 |cons q r=>simp only [zV,List.getElem?_cons_succ,List.getElem?_map,h,Option.map_some]
theorem zbh {t:qi} (h:t.2.2.length≤1000000000000000) {r:List Int} (h0:r≠[]) (h8:r.length≤8) (hp:∀p∈r,jG t p):uC (t,r,())=some (zV t r,()):=by
 have hl:0 < r.length:=List.length_pos_iff.2 h0
 have hx0:r[0]?=some r[0]:=List.getElem?_eq_getElem hl
 rw [zpF];unfold zdh
 refine yb (zg (zx (n:=0) hx0 ?_))
 rw [Qu h (hp _ (List.getElem_mem hl)),zw]
 refine zk (J:=fun x=>x.2.2.1=zV t r) (zW r.length (fun i s=>s=(((i:Int),()),((zV t r).take (i+1),()))) (by omega) ?_ ?_ ?_) ?_
 ·have:=zuq t hx0
  have e:(zV t r).take 1=[frm t r[0]]:=by
   rw [show (1:Nat)=0+1 from rfl,List.take_add_one,this];simp
  rw [show (0:Nat)+1=1 from rfl,e];rfl
 ·rintro i _ hi rfl
  have hx:r[i]?=some r[i]:=List.getElem?_eq_getElem hi
  refine zd (zR (show (i:Int) < (r.length:Int) by omega)) (zg (zx (n:=i) hx ?_))
  rw [Je h (hp _ (List.getElem_mem hi)),zw]
  have hl:=Zx t h0
  refine zd (yc (by show (((zV t r).take (i+1)).length+1)*8≤_;simp;omega) (by show ((zV t r).take (i+1)).length+1≤_;simp;omega)) ?_
  refine za (ql ?_)
  have e:(zV t r).take (i+1+1)=(zV t r).take (i+1)++[too t r[i]]:=by
   rw [List.take_add_one,WD t hx];rfl
  rw [e,←qq (by omega)]
 ·rintro _ rfl
  refine ze (zG (show ¬(r.length:Int) < (r.length:Int) by omega)) (za (zq ?_))
  show (zV t r).take (r.length+1)=_
  rw [List.take_of_length_le (by rw [Zx t h0];omega)]
 ·rintro ⟨j,⟨z,⟨⟩⟩,c,⟨⟩⟩ hc
  exact za hc
theorem XH {t:qi} (h:t.2.2.length≤1000000000000000) {r:List Int} (h0:r≠[]) (h8:r.length≤8) (hp:∀p∈r,jG t p):yL (t,r,())=some (zV t r,()):=by
 rw [zh3];unfold VV
 rw [show wrF .i64 ((r.length:Int)+1)=(r.length:Int)+1 from zD (by omega) (by omega)]
 refine yb (zd (znN (by omega) (by omega) (by omega)) ?_)
 refine zk (J:=fun x=>x.2.2.1.1=zV t r) (zW r.length (fun i s=>s=(((i:Int),()),((((zV t r).take (if i=0 then 0 else i+1)),()),((),((),()))))) (by omega) rfl ?_ ?_) ?_
 ·rintro i _ hi rfl
  have hx:r[i]?=some r[i]:=List.getElem?_eq_getElem hi
  have hpi:=hp _ (List.getElem_mem hi)
  generalize r[i]=p at hx hpi
  have:=hpi.1;have:=hpi.2
  refine zd (zR (show (i:Int) < (r.length:Int) by omega)) (zg (zx (n:=i) hx ?_))
  obtain ⟨e1,e2⟩:=zjE h hpi
  refine ze e1 (ze e2 ?_)
  rw [zm9 hpi.1 (by omega),wR (YM hpi),zw]
  refine zk (J:=fun x=>x.2.1.1.2.1=frm t p∧x.2.1.1.2.2=too t p) ?_ ?_
  ·rw [par hpi.1]
   unfold frm too
   refine zj (fun h=>?_) (fun h=>?_)
   ·have:=qL h
    exact za (by simp [this])
   ·have:=jR h
    exact za (by simp [this])
  rintro ⟨j,⟨⟨u,v,w⟩,⟨⟩⟩,⟨⟩,⟨⟩,⟨⟩⟩ ⟨rfl,rfl⟩
  have hl:=Zx t h0
  refine zk (J:=fun x=>x.2.2.1.1=(zV t r).take (i+1)) (zj (fun h=>?_) (fun h=>?_)) ?_
  ·have:=qL h
   have hi0:i=0:=by simp only at this;omega
   subst hi0
   refine zd (yc (by simp) (by simp)) (za ?_)
   show List.take 0 (zV t r)++[frm t p]=_
   rw [List.take_add_one,zuq t hx];rfl
  ·have:=jR h
   have hi0:i≠0:=by intro e;apply this;simp only [e];rfl
   exact za (by show (zV t r).take (if i=0 then 0 else i+1)=_;rw [if_neg hi0])
  ·rintro ⟨j,⟨⟩,⟨⟨c,⟨⟩⟩,⟨⟩,⟨⟩⟩⟩ hc
   simp only at hc
   subst hc
   refine zd (yc (by show (((zV t r).take (i+1)).length+1)*8≤_;simp;omega) (by show ((zV t r).take (i+1)).length+1≤_;simp;omega)) (za (ql ?_))
   have e:(zV t r).take (i+1+1)=(zV t r).take (i+1)++[too t p]:=by
    rw [List.take_add_one,WD t hx];rfl
   have e2:(if i+1=0 then 0 else i+1+1)=i+1+1:=if_neg (by omega)
   rw [e2,e,←qq (by omega)]
 ·rintro _ rfl
  refine ze (zG (show ¬(r.length:Int) < (r.length:Int) by omega)) (za (zq ?_))
  have:r.length≠0:=fun e=>h0 (List.length_eq_zero_iff.1 e)
  show (zV t r).take (if r.length=0 then 0 else r.length+1)=_
  rw [if_neg this,List.take_of_length_le (by rw [Zx t h0];omega)]
 ·rintro ⟨j,⟨z,⟨⟩⟩,⟨c,⟨⟩⟩,⟨⟩,⟨⟩,⟨⟩⟩ hc
  exact za hc
def zE0 (t:qi) (r:List Int) (i:Nat) (p:Int):Prop:=¬too t p∈(zV t r).take (i+1)∧(0 < i→∀n,(zV t r)[i]?=some n→stn t n=false∧frm t p=n)
structure qV (t:qi) (r:List Int):Prop where
 n0:1≤r.length
 n1:r.length≤8
 pt:∀p∈r,jG t p
 st:∀(i:Nat) p,r[i]?=some p→zE0 t r i p
theorem qV.ne {t:qi} {r:List Int} (h:qV t r):r≠[]:=by
 intro e;have:=h.n0;rw [e] at this;simp at this
theorem jN.ll {t:qi} (h:jN t):t.2.2.length≤1000000000000000:=by have:=h.sz.ls;omega
theorem zFI {t:qi} (ht:jN t) {r:List Int} (hp:∀p∈r,jG t p):∀n∈zV t r,jf t n:=by
 intro n hn
 cases r with
 |nil=>cases hn
 |cons q r=>
  simp only [zV,List.mem_cons,List.mem_map] at hn
  rcases hn with rfl | ⟨p,hp',rfl⟩
  ·exact (GB ht.ls (hp q (by simp))).1
  ·exact (GB ht.ls (hp p (by simpa using hp'))).2.1
theorem jf.get {t:qi} (hs:szP t) {n:Int} (h:jf t n):t.2.1[n.toNat]?=some (stn t n):=by
 have hx:t.2.1[n.toNat]?=some (t.2.1[n.toNat]'(h.lt hs)):=List.getElem?_eq_getElem (h.lt hs)
 rw [hx,zir hx]
theorem zgS {t:qi} (ht:jN t) (r:List Int):vB (t,r,())=some (tv (qV t r),()):=by
 have hll:=ht.ll
 rw [zpG];unfold zdi
 refine wa (zk (J:=fun x=>(x.1=0∧x.2.1.1=false∧1≤r.length∧r.length≤8)∨(x.1=1∧x.2.1.1=false∧¬qV t r)) ?_ ?_)
 ·refine zj (fun h=>za (.inr ⟨rfl,rfl,fun hs=>?_⟩)) (fun h1=>zj (fun h=>za (.inr ⟨rfl,rfl,fun hs=>?_⟩)) (fun h2=>za (.inl ⟨rfl,rfl,?_⟩)))
  ·have:=qn h;have:=hs.n0;omega
  ·have:=qn h;have:=hs.n1;omega
  ·have h1:=qw h1;have h2:=qw h2;omega
 rintro ⟨j,⟨v,⟨⟩⟩,⟨⟩⟩ (⟨rfl,rfl,h1,h8⟩ | ⟨rfl,rfl,hq⟩)
 rotate_left
 ·exact ze rfl (za ⟨fun h=>(by cases h),fun h=>absurd h hq⟩)
 refine zd rfl (zk (J:=fun x=>(x.1=0∧x.2.1.1=false∧∀p∈r,jG t p)∨(x.1=1∧x.2.1.1=false∧¬qV t r)) (qF r.length (fun i=>∀p,r[i]?=some p→jG t p) (by omega) ?_ ?_) ?_)
 ·intro i hi hp
  have hx:r[i]?=some r[i]:=List.getElem?_eq_getElem hi
  refine zd (zR (show (i:Int) < (r.length:Int) by omega)) (zg (zx (n:=i) hx ?_))
  rw [zuo hll]
  refine zj (fun h=>?_) (fun h=>?_)
  ·exact za (zq (.inr ⟨rfl,rfl,fun hr=>ym h (hr.pt _ (List.getElem_mem hi))⟩))
  ·exact za (jo (by omega) fun p hp=>by rw [hx] at hp;cases hp;exact xc h)
 ·intro hp
  refine ze (zG (show ¬(r.length:Int) < (r.length:Int) by omega)) (za (zq (.inl ⟨rfl,rfl,fun p hm=>?_⟩)))
  obtain ⟨k,hk⟩:=List.getElem?_of_mem hm
  exact hp k (by grind) p hk
 rintro ⟨j,⟨v,w,⟨⟩⟩,⟨⟩⟩ (⟨rfl,rfl,hpt⟩ | ⟨rfl,rfl,hq⟩)
 rotate_left
 ·exact ze rfl (za ⟨fun h=>(by cases h),fun h=>absurd h hq⟩)
 have hne:r≠[]:=by intro e;rw [e] at h1;simp at h1
 have hnl:=Zx t hne
 have hnP:=zFI ht hpt
 refine zd rfl ?_
 rw [zbh hll hne h8 hpt,zw]
 refine zk (J:=fun x=>(x.1=0∧qV t r)∨(x.1=1∧x.2.1.1=false∧¬qV t r)) (qF (zV t r).length (fun i=>(∀n,(zV t r)[i]?=some n→¬n∈(zV t r).take i)∧∀p,r[i]?=some p→0 < i→∀n,(zV t r)[i]?=some n→stn t n=false∧frm t p=n) (by omega) ?_ ?_) ?_
 ·intro i hi hp
  have hx:(zV t r)[i]?=some (zV t r)[i]:=List.getElem?_eq_getElem hi
  have hn:=hnP _ (List.getElem_mem hi)
  generalize (zV t r)[i]=n at hx hn
  refine zd (zR (show (i:Int) < ((zV t r).length:Int) by omega)) (zg (qj (znM (zV t r) i (by omega)) (zg (zx (n:=i) hx ?_))))
  rw [zbg (by simp;omega)]
  refine zj (fun h=>?_) (fun h=>?_)
  ·refine za (zq (.inr ⟨rfl,rfl,fun hr=>?_⟩))
   have hm:=Zk h
   cases i with
   |zero=>simp at hm
   |succ i=>
    have hy:r[i]?=some r[i]:=List.getElem?_eq_getElem (by omega)
    have e:=WD t hy
    rw [hx] at e
    have:=(hr.st i _ hy).1
    rw [←Option.some.inj e] at this
    exact this hm
  have hin:=gJ h
  refine zk (J:=fun x=>(x.1=0∧x.2.1.1=false∧∀p,r[i]?=some p→0 < i→stn t n=false∧frm t p=n)∨(x.1=1∧x.2.1.1=false∧¬qV t r)) ?_ ?_
  ·refine zj (fun h2=>?_) (fun h2=>?_)
   ·have h2:=qn (show zh 0 (i:Int)=true from h2)
    refine zj (fun h3=>?_) (fun h3=>?_)
    ·have h3:=qn (show zh (i:Int) (r.length:Int)=true from h3)
     have hy:r[i]?=some r[i]:=List.getElem?_eq_getElem (by omega)
     have hpy:=hpt _ (List.getElem_mem (show i < r.length by omega))
     generalize r[i]=p at hy hpy
     refine zg (zx (n:=i) hx (zg (qj (a:=stn t n) (by rw [show n=((n.toNat:Nat):Int) from (by have:=hn.1;omega),wR (n:=n.toNat)];exact hn.get ht.sz) ?_)))
     refine zj (fun h4=>?_) (fun h4=>?_)
     ·refine za (.inr ⟨rfl,rfl,fun hr=>?_⟩)
      have:=((hr.st i p hy).2 (by omega) n hx).1
      rw [this] at h4;cases h4
     ·refine zg (zx (n:=i) hy ?_)
      rw [Qu hll hpy,zw]
      refine zg (zx (n:=i) hx (zj (fun h5=>?_) (fun h5=>?_)))
      ·refine za (.inr ⟨rfl,rfl,fun hr=>?_⟩)
       have:=((hr.st i p hy).2 (by omega) n hx).2
       rw [uh this] at h5;cases h5
      ·have:=qL (show zi (frm t p) n=true by simpa using h5)
       exact za (.inl ⟨rfl,rfl,fun p' hp' _=>by rw [hy] at hp';cases hp';exact ⟨h4,this⟩⟩)
    ·have h3:=qw (show zh (i:Int) (r.length:Int)=false from h3)
     exact za (.inl ⟨rfl,rfl,fun p hp=>by rw [List.getElem?_eq_none (by omega)] at hp;cases hp⟩)
   ·have h2:=qw (show zh 0 (i:Int)=false from h2)
    exact za (.inl ⟨rfl,rfl,fun p hp h0=>by omega⟩)
  ·rintro ⟨j,⟨v,⟨⟩⟩,⟨⟩⟩ (⟨rfl,rfl,hq⟩ | ⟨rfl,rfl,hq⟩)
   ·exact zd rfl (za (jo (by omega) ⟨fun m hm=>by rw [hx] at hm;cases hm;exact hin,fun p hp h0 m hm=>by rw [hx] at hm;cases hm;exact hq p hp h0⟩))
   ·exact ze rfl (za (zq (.inr ⟨rfl,rfl,hq⟩)))
 ·intro hp
  refine ze (zG (show ¬((zV t r).length:Int) < ((zV t r).length:Int) by omega)) (za (zq (.inl ⟨rfl,h1,h8,hpt,fun i p hi=>⟨?_,fun h0 n hn=>?_⟩⟩)))
  ·have hil:i < r.length:=by grind
   exact (hp (i+1) (by omega)).1 _ (WD t hi)
  ·have hil:i < r.length:=by grind
   exact (hp i (by omega)).2 p hi h0 n hn
 ·rintro ⟨j,⟨v,w,⟨⟩⟩,⟨⟩⟩ (⟨rfl,hq⟩ | ⟨rfl,rfl,hq⟩)
  ·exact zd rfl (za ⟨fun _=>hq,fun _=>rfl⟩)
  ·exact ze rfl (za ⟨fun h=>(by cases h),fun h=>absurd h hq⟩)
def zbi (t:qi) (r:List Int) (i:Nat):List Bool:=(List.range 12).map fun n=>decide (((n:Nat):Int)∈(zV t r).take (if i=0 then 0 else i+1))
theorem zEu (t:qi) (r:List Int) (i:Nat):(zbi t r i).length=12:=by simp [zbi]
def atS (t:qi) (r:List Int) (i:Nat):Int:=if i=0 then 0 else ((zV t r)[i]?).getD 0
theorem zvg {f g:Nat→Bool} (h:∀n,n < 12→f n=g n):(List.range 12).map f=(List.range 12).map g:=List.map_congr_left fun n hn=>h n (List.mem_range.1 hn)
theorem zvh {f:Nat→Bool} {k:Nat} (hk:k < 12):((List.range 12).map f).set k true=(List.range 12).map fun n=>(f n||n == k):=by
 apply List.ext_getElem?
 intro n
 rw [List.getElem?_set]
 by_cases h:n < 12
 ·by_cases e:k=n
  ·subst e;simp [h]
  ·have:(n == k)=false:=by simp;omega
   simp [h,e,this]
 ·rw [List.getElem?_eq_none (by simp;omega),List.getElem?_eq_none (by simp;omega)]
  split<;>simp<;>omega
theorem zbj {t:qi} (ht:jN t) (r:List Int):yO (t,r,())=some (tv (qV t r),()):=by
 have hll:=ht.ll
 have n1:=ht.sz.n1
 rw [zh4];unfold VW
 refine wa (zk (J:=fun x=>(x.1=0∧x.2.1.1=false∧1≤r.length∧r.length≤8)∨(x.1=1∧x.2.1.1=false∧¬qV t r)) ?_ ?_)
 ·refine zj (fun h=>za (.inr ⟨rfl,rfl,fun hs=>?_⟩)) (fun h1=>zj (fun h=>za (.inr ⟨rfl,rfl,fun hs=>?_⟩)) (fun h2=>za (.inl ⟨rfl,rfl,?_⟩)))
  ·have:=qn h;have:=hs.n0;omega
  ·have:=qn h;have:=hs.n1;omega
  ·have h1:=qw h1;have h2:=qw h2;omega
 rintro ⟨j,⟨v,⟨⟩⟩,⟨⟩⟩ (⟨rfl,rfl,h1,h8⟩ | ⟨rfl,rfl,hq⟩)
 rotate_left
 ·exact ze rfl (za ⟨fun h=>(by cases h),fun h=>absurd h hq⟩)
 have hne:r≠[]:=by intro e;rw [e] at h1;simp at h1
 have hnl:=Zx t hne
 refine zd rfl (zk (J:=fun x=>(x.2.1.2.1=(r.length:Int)∧qV t r)∨(x.2.1.2.1 < (r.length:Int)∧¬qV t r))
  (zW r.length (fun i s=>s=((atS t r i,((i:Int),((i:Int),()))),(zbi t r i,((),((),()))))∧∀(k:Nat),k < i→∀p,r[k]?=some p→jG t p∧zE0 t r k p) (by omega) ⟨rfl,fun k hk=>by omega⟩ ?_ ?_) ?_)
 ·rintro i _ hi ⟨rfl,hp⟩
  have hx:r[i]?=some r[i]:=List.getElem?_eq_getElem hi
  have hmem:=List.getElem_mem hi
  generalize r[i]=p at hx hmem
  have bad:∀{x:Nat×((Int×(Int×(Int×Unit)))×(List Bool×(Unit×(Unit×Unit))))},x.2.1.2.1=(i:Int)→¬qV t r→(x.2.1.2.1=(r.length:Int)∧qV t r)∨(x.2.1.2.1 < (r.length:Int)∧¬qV t r):=fun e hq=>.inr ⟨by rw [e];omega,hq⟩
  refine zd (zR (show (i:Int) < (r.length:Int) by omega)) (zg (zx (n:=i) hx ?_))
  refine zj (fun h=>za (zq (bad rfl fun hr=>?_))) (fun hp0=>zj (fun h=>za (zq (bad rfl fun hr=>?_))) (fun hp1=>?_))
  ·have:=qn h;have:=(hr.pt p hmem).1;omega
  ·have:=hr.pt p hmem
   rw [(zjE hll this).2] at h;cases h
  have hpi:jG t p:=by
   have:=qw hp0
   rw [tw t hll] at hp1
   have:=qn (show zh p (2*(t.2.2.length:Int))=true by simpa using hp1)
   exact ⟨by omega,by omega⟩
  have:=hpi.1;have:=hpi.2
  obtain ⟨⟨f0,f1⟩,⟨g0,g1⟩,hfg⟩:=GB ht.ls hpi
  rw [zm9 hpi.1 (by omega),wR (YM hpi),zw]
  refine zk (J:=fun x=>x.1=0∧x.2.1.1.2.1=frm t p∧x.2.1.1.2.2=too t p) ?_ ?_
  ·rw [par hpi.1]
   unfold frm too
   refine zj (fun h=>?_) (fun h=>?_)
   ·have:=qL h
    exact za (by simp [this])
   ·have:=jR h
    exact za (by simp [this])
  rintro ⟨j,⟨⟨u,v,w⟩,⟨⟩⟩,⟨⟩,⟨⟩,⟨⟩⟩ ⟨rfl,rfl,rfl⟩
  have hsl:=zEu t r i
  have htk:(zV t r).take (i+1+1)=(zV t r).take (i+1)++[too t p]:=by
   rw [List.take_add_one,WD t hx];rfl
  refine zd rfl (zk (J:=fun x=>(x.1=0∧x.2.2.1=(List.range 12).map (fun n=>decide (((n:Nat):Int)∈(zV t r).take (i+1)))∧(0 < i→∀n,(zV t r)[i]?=some n→stn t n=false∧frm t p=n))∨(x.1=1∧¬qV t r)) (zj (fun h=>?_) (fun h=>?_)) ?_)
  ·have h0:=qL (show zi (i:Int) 0=true from h)
   have hi0:i=0:=by omega
   subst hi0
   refine zd (zR (show frm t p < 12 by omega)) (zg (qK f0 (by show frm t p < (((zbi t r 0).length:Nat):Int);omega) fun _ _=>zg (jQ (by show (frm t p).toNat < (zbi t r 0).length;omega) fun _ _=>?_)))
   refine za (.inl ⟨rfl,?_,fun h=>by omega⟩)
   show (zbi t r 0).set (frm t p).toNat true=_
   unfold zbi
   rw [zvh (by omega)]
   refine zvg fun n hn=>?_
   rw [List.take_add_one,zuq t hx]
   simp only [if_true,List.take_zero,List.nil_append,Option.toList,List.mem_singleton,List.not_mem_nil,decide_false,Bool.false_or]
   rw [Bool.eq_iff_iff];simp only [beq_iff_eq,decide_eq_true_eq];omega
  ·have h0:=jR (show zi (i:Int) 0=false from h)
   have hi0:i≠0:=fun e=>h0 (by rw [e];rfl)
   have hxn:(zV t r)[i]?=some (zV t r)[i]:=List.getElem?_eq_getElem (by omega)
   have hat:atS t r i=(zV t r)[i]:=by unfold atS;rw [if_neg hi0,hxn];rfl
   have hn:jf t (zV t r)[i]:=by
    obtain ⟨m,rfl⟩:∃m,i=m+1:=⟨i - 1,by omega⟩
    have hy:r[m]?=some r[m]:=List.getElem?_eq_getElem (by omega)
    have e:=WD t hy
    rw [hxn] at e
    rw [Option.some.inj e]
    exact (GB ht.ls (hp m (by omega) _ hy).1).2.1
   generalize (zV t r)[i]=n at hxn hat hn
   refine zj (fun h2=>?_) (fun h2=>?_)
   ·refine za (.inr ⟨rfl,fun hr=>?_⟩)
    have:=((hr.st i p hx).2 (by omega) n hxn).2
    have h2':(!zi (frm t p) (atS t r i))=true:=h2
    rw [hat,uh this] at h2';cases h2'
   ·have h2':(!zi (frm t p) (atS t r i))=false:=h2
    have e1:=qL (show zi (frm t p) (atS t r i)=true by simpa using h2')
    refine zg (qj (a:=stn t n) (by show atI t.2.1 (atS t r i)=_;rw [hat,show n=((n.toNat:Nat):Int) from (by have:=hn.1;omega),wR (n:=n.toNat)];exact hn.get ht.sz) ?_)
    refine zj (fun h4=>?_) (fun h4=>?_)
    ·refine za (.inr ⟨rfl,fun hr=>?_⟩)
     have:=((hr.st i p hx).2 (by omega) n hxn).1
     rw [this] at h4;cases h4
    ·refine za (.inl ⟨rfl,?_,fun _ m hm=>by rw [hxn] at hm;cases hm;exact ⟨h4,by rw [e1,hat]⟩⟩)
     show zbi t r i=_
     unfold zbi
     rw [if_neg hi0]
  ·rintro ⟨j,⟨⟩,c,⟨⟩,⟨⟩⟩ (⟨rfl,hc,hst⟩ | ⟨rfl,hq⟩)
   rotate_left
   ·exact ze rfl (za (zq (bad rfl hq)))
   simp only at hc
   have hcl:c.length=12:=by rw [hc];simp
   refine zd rfl (zd (zR (show too t p < 12 by omega)) (zg (qK g0 (by show too t p < ((c.length:Nat):Int);omega) fun _ _=>zg (jQ (by show (too t p).toNat < c.length;omega) fun x hx2=>?_))))
   have hx2':c[(too t p).toNat]?=some x:=hx2
   have hmt:(((too t p).toNat:Nat):Int)=too t p:=by omega
   have hxe:x=decide (too t p∈(zV t r).take (i+1)):=by
    rw [hc] at hx2'
    simp only [List.getElem?_map,List.getElem?_range (show (too t p).toNat < 12 by omega),Option.map_some,hmt] at hx2'
    exact (Option.some.inj hx2').symm
   refine zj (fun h6=>?_) (fun h6=>?_)
   ·subst h6
    refine za (zq (bad rfl fun hr=>(hr.st i p hx).1 ?_))
    exact of_decide_eq_true hxe.symm
   ·subst h6
    have hnm:¬too t p∈(zV t r).take (i+1):=of_decide_eq_false hxe.symm
    refine zd (zR (show too t p < 12 by omega)) (zg (qK g0 (by show too t p < ((c.length:Nat):Int);omega) fun _ _=>zg (jQ (by show (too t p).toNat < c.length;omega) fun _ _=>?_)))
    refine za (ql ⟨?_,fun k hk q hq=>?_⟩)
    ·have e1:atS t r (i+1)=too t p:=by unfold atS;rw [if_neg (by omega),WD t hx];rfl
     have e2:c.set (too t p).toNat true=zbi t r (i+1):=by
      rw [hc,zvh (by omega)]
      unfold zbi
      rw [if_neg (by omega),htk]
      refine zvg fun n hn=>?_
      rw [Bool.eq_iff_iff]
      simp only [Bool.or_eq_true,decide_eq_true_eq,beq_iff_eq,List.mem_append,List.mem_singleton]
      constructor
      ·rintro (h | h)
       ·exact .inl h
       ·right;omega
      ·rintro (h | h)
       ·exact .inl h
       ·right;omega
     rw [e1,←e2,←qq (by omega)]
    ·rcases Nat.lt_or_ge k i with hki | hki
     ·exact hp k hki q hq
     ·have:k=i:=by omega
      subst this
      rw [hx] at hq;cases hq
      exact ⟨hpi,hnm,hst⟩
 ·rintro _ ⟨rfl,hp⟩
  refine ze (zG (show ¬(r.length:Int) < (r.length:Int) by omega)) (za (zq (.inl ⟨rfl,h1,h8,fun p hm=>?_,fun i p hi=>(hp i (by grind) p hi).2⟩)))
  obtain ⟨k,hk⟩:=List.getElem?_of_mem hm
  exact (hp k (by grind) p hk).1
 ·rintro ⟨j,⟨v,w,z,⟨⟩⟩,c,⟨⟩,⟨⟩,⟨⟩⟩ (⟨hg,hr⟩ | ⟨hg,hr⟩)
  ·simp only at hg
   refine zj (fun _=>?_) (fun _=>?_)<;>exact za ⟨fun _=>hr,fun _=>uh hg⟩
  ·simp only at hg
   refine zj (fun _=>?_) (fun _=>?_)<;>exact za ⟨fun h=>by have:=qL h;simp only at this;omega,fun h=>absurd h hr⟩
def YN (a b:List Int):Prop:=∃p∈a,∃q∈b,Int.tdiv p 2=Int.tdiv q 2
def XI (a:List Int):List Int:=(a.take (a.length - 1)).drop 1
def Js (a b:List Int):Prop:=∃n∈XI a,n∈b
def zna (t:qi) (a b:List Int):Prop:=¬YN a b∧¬Js (zV t a) (zV t b)∧¬Js (zV t b) (zV t a)
theorem zGz {p:Int} (h : -9223372036854775808≤p) (h2:p≤9223372036854775807):wrF .i64 (Int.tdiv p 2)=Int.tdiv p 2:=by
 rcases Int.le_total 0 p with h0 | h0
 ·rw [Int.tdiv_eq_ediv_of_nonneg h0];exact zD (by omega) (by omega)
 ·have e:Int.tdiv p 2 = -((-p) / 2):=by
   rw [←Int.tdiv_eq_ediv_of_nonneg (by omega),Int.neg_tdiv,Int.neg_neg]
  rw [e];exact zD (by omega) (by omega)
theorem znO {t:qi} (h:t.2.2.length≤1000000000000000) {p:Int} (hp:jG t p):wrF .i64 (Int.tdiv p 2)=Int.tdiv p 2:=zGz (by have:=hp.1;omega) (by have:=hp.2;omega)
theorem jV {α:Type} {l:List α} {x:α} (h:x∈l):∃i,i < l.length∧l[i]?=some x:=by
 obtain ⟨i,hi⟩:=List.getElem?_of_mem h
 exact ⟨i,by grind,hi⟩
theorem zqB {t:qi} (h:t.2.2.length≤1000000000000000) {a b:List Int} (ha:∀p∈a,jG t p) (hb:∀p∈b,jG t p) (la:a.length≤8) (lb:b.length≤8):Qq (a,b,())=some (tv (YN a b),()):=by
 rw [zn1];unfold zcc
 refine wa (zk (J:=fun x=>(x.1=0∧¬YN a b)∨(x.1=1∧x.2.1.1=true∧YN a b)) (qF a.length (fun i=>∀p,a[i]?=some p→¬∃q∈b,Int.tdiv p 2=Int.tdiv q 2) (by omega) ?_ ?_) ?_)
 ·intro i hi hp
  have hx:a[i]?=some a[i]:=List.getElem?_eq_getElem hi
  have hm:=List.getElem_mem hi
  generalize a[i]=p at hx hm
  refine zd (zR (show (i:Int) < (a.length:Int) by omega)) (zg (zx (n:=i) hx ?_))
  refine zk (J:=fun x=>(x.1=0∧x.2.1.1=false∧¬∃q∈b,Int.tdiv p 2=Int.tdiv q 2)∨(x.1=1∧x.2.1.1=true∧∃q∈b,Int.tdiv p 2=Int.tdiv q 2)) (qF b.length (fun k=>∀q,b[k]?=some q→Int.tdiv p 2≠Int.tdiv q 2) (by omega) ?_ ?_) ?_
  ·intro k hk hq
   have hy:b[k]?=some b[k]:=List.getElem?_eq_getElem hk
   have hmk:=List.getElem_mem hk
   generalize b[k]=q at hy hmk
   refine zd (zR (show (k:Int) < (b.length:Int) by omega)) (zg (zx (n:=k) hy ?_))
   rw [znO h (ha p hm),znO h (hb q hmk)]
   refine zj (fun h=>?_) (fun h=>?_)
   ·exact za (zq (.inr ⟨rfl,rfl,q,hmk,qL h⟩))
   ·exact za (jo (by omega) fun q' hq'=>by rw [hy] at hq';cases hq';exact jR h)
  ·intro hq
   refine ze (zG (show ¬(b.length:Int) < (b.length:Int) by omega)) (za (zq (.inl ⟨rfl,rfl,fun ⟨q,hq1,hq2⟩=>?_⟩)))
   obtain ⟨k,hk,hk2⟩:=jV hq1
   exact hq k hk q hk2 hq2
  ·rintro ⟨j,⟨v,w,⟨⟩⟩,⟨⟩⟩ (⟨rfl,rfl,hq⟩ | ⟨rfl,rfl,hq⟩)
   ·exact zd rfl (za (jo (by omega) fun p' hp'=>by rw [hx] at hp';cases hp';exact hq))
   ·exact ze rfl (za (zq (.inr ⟨rfl,rfl,p,hm,hq⟩)))
 ·intro hp
  refine ze (zG (show ¬(a.length:Int) < (a.length:Int) by omega)) (za (zq (.inl ⟨rfl,fun ⟨p,hp1,hp2⟩=>?_⟩)))
  obtain ⟨k,hk,hk2⟩:=jV hp1
  exact hp k hk p hk2 hp2
 ·rintro ⟨j,⟨v,w,⟨⟩⟩,⟨⟩⟩ (⟨rfl,hq⟩ | ⟨rfl,rfl,hq⟩)
  ·exact zd rfl (za ⟨fun h=>(by cases h),fun h=>absurd h hq⟩)
  ·exact ze rfl (za ⟨fun _=>hq,fun _=>rfl⟩)
theorem zvi {a:List Int} {i:Nat} (h:1≤i) (h2:i < a.length - 1):(XI a)[i - 1]?=a[i]?:=by
 unfold XI
 rw [List.getElem?_drop,List.getElem?_take]
 rw [if_pos (by omega)]
 congr 1;omega
theorem zvj (a:List Int):(XI a).length=a.length - 1 - 1:=by unfold XI;simp
theorem zvk {a:List Int} {n:Int}:n∈XI a↔∃i,1≤i∧i < a.length - 1∧a[i]?=some n:=by
 constructor
 ·intro h
  obtain ⟨k,hk,hk2⟩:=jV h
  rw [zvj] at hk
  refine ⟨k+1,by omega,by omega,?_⟩
  rw [←zvi (by omega) (by omega)];exact hk2
 ·rintro ⟨i,h1,h2,h3⟩
  rw [←zvi h1 h2] at h3
  exact List.mem_of_getElem? h3
theorem zef {a b:List Int} (la:1≤a.length) (la2:a.length≤100) (lb:b.length≤100):ZD (a,b,())=some (tv (Js a b),()):=by
 have e1:wrF .i64 ((a.length:Int) - 1)=(a.length:Int) - 1:=zD (by omega) (by omega)
 rw [zmf];unfold zaF
 rw [e1]
 refine wa (zk (J:=fun x=>(x.1=0∧¬Js a b)∨(x.1=1∧x.2.1.1=true∧Js a b))
  (zW (a.length - 1 - 1) (fun i s=>s=((false,(((i+1:Nat):Int),())),())∧∀k,1≤k→k < i+1→∀n,a[k]?=some n→¬n∈b) (by omega) ⟨rfl,fun k h1 h2=>by omega⟩ ?_ ?_) ?_)
 ·rintro i _ hi ⟨rfl,hp⟩
  have hx:a[i+1]?=some a[i+1]:=List.getElem?_eq_getElem (by omega)
  generalize a[i+1]=n at hx
  refine zd (zR (show ((i+1:Nat):Int) < (a.length:Int) - 1 by omega)) (zg (zx (n:=i+1) hx ?_))
  rw [zbg (by show b.length≤_;omega)]
  refine zj (fun h=>?_) (fun h=>?_)
  ·exact za (zq (.inr ⟨rfl,rfl,n,zvk.2 ⟨i+1,by omega,by omega,hx⟩,Zk h⟩))
  ·refine za (ql ⟨congrArg (fun z=>((false,(z,())),())) (qq (i:=i+1) (by omega)),fun k h1 h2 m hm=>?_⟩)
   rcases Nat.lt_or_ge k (i+1) with hk | hk
   ·exact hp k h1 hk m hm
   ·have:k=i+1:=by omega
    subst this
    rw [hx] at hm;cases hm
    exact gJ h
 ·rintro _ ⟨rfl,hp⟩
  refine ze (zG (show ¬((a.length - 1 - 1+1:Nat):Int) < (a.length:Int) - 1 by omega)) (za (zq (.inl ⟨rfl,fun ⟨n,h1,h2⟩=>?_⟩)))
  obtain ⟨i,i1,i2,i3⟩:=zvk.1 h1
  exact hp i i1 (by omega) n i3 h2
 ·rintro ⟨j,⟨v,w,⟨⟩⟩,⟨⟩⟩ (⟨rfl,hq⟩ | ⟨rfl,rfl,hq⟩)
  ·exact zd rfl (za ⟨fun h=>(by cases h),fun h=>absurd h hq⟩)
  ·exact ze rfl (za ⟨fun _=>hq,fun _=>rfl⟩)
theorem zgT {t:qi} (ht:jN t) {a b:List Int} (ha:qV t a) (hb:qV t b):uD (t,a,b,())=some (tv (zna t a b),()):=by
 have hll:=ht.ll
 have na:=Zx t ha.ne;have nb:=Zx t hb.ne
 have a0:=ha.n0;have a8:=ha.n1;have b0:=hb.n0;have b8:=hb.n1
 rw [zpI];unfold zdj
 refine wa (zk (J:=fun x=>(x.1=0∧¬YN a b)∨(x.1=1∧x.2.1.1=false∧YN a b)) (qF a.length (fun i=>∀p,a[i]?=some p→¬∃q∈b,Int.tdiv p 2=Int.tdiv q 2) (by omega) ?_ ?_) ?_)
 ·intro i hi hp
  have hx:a[i]?=some a[i]:=List.getElem?_eq_getElem hi
  have hm:=List.getElem_mem hi
  generalize a[i]=p at hx hm
  refine zd (zR (show (i:Int) < (a.length:Int) by omega)) ?_
  refine zk (J:=fun x=>(x.1=0∧x.2.1.1=false∧¬∃q∈b,Int.tdiv p 2=Int.tdiv q 2)∨(x.1=1∧x.2.1.1=false∧∃q∈b,Int.tdiv p 2=Int.tdiv q 2)) (qF b.length (fun k=>∀q,b[k]?=some q→Int.tdiv p 2≠Int.tdiv q 2) (by omega) ?_ ?_) ?_
  ·intro k hk hq
   have hy:b[k]?=some b[k]:=List.getElem?_eq_getElem hk
   have hmk:=List.getElem_mem hk
   generalize b[k]=q at hy hmk
   refine zd (zR (show (k:Int) < (b.length:Int) by omega)) (zg (zx (n:=i) hx (zg (zx (n:=k) hy ?_))))
   rw [znO hll (ha.pt p hm),znO hll (hb.pt q hmk)]
   refine zj (fun h=>?_) (fun h=>?_)
   ·exact za (zq (.inr ⟨rfl,rfl,q,hmk,qL h⟩))
   ·exact za (jo (by omega) fun q' hq'=>by rw [hy] at hq';cases hq';exact jR h)
  ·intro hq
   refine ze (zG (show ¬(b.length:Int) < (b.length:Int) by omega)) (za (zq (.inl ⟨rfl,rfl,fun ⟨q,hq1,hq2⟩=>?_⟩)))
   obtain ⟨k,hk,hk2⟩:=jV hq1
   exact hq k hk q hk2 hq2
  ·rintro ⟨j,⟨v,w,⟨⟩⟩,⟨⟩⟩ (⟨rfl,rfl,hq⟩ | ⟨rfl,rfl,hq⟩)
   ·exact zd rfl (za (jo (by omega) fun p' hp'=>by rw [hx] at hp';cases hp';exact hq))
   ·exact ze rfl (za (zq (.inr ⟨rfl,rfl,p,hm,hq⟩)))
 ·intro hp
  refine ze (zG (show ¬(a.length:Int) < (a.length:Int) by omega)) (za (zq (.inl ⟨rfl,fun ⟨p,hp1,hp2⟩=>?_⟩)))
  obtain ⟨k,hk,hk2⟩:=jV hp1
  exact hp k hk p hk2 hp2
 ·rintro ⟨j,⟨v,w,⟨⟩⟩,⟨⟩⟩ (⟨rfl,hq⟩ | ⟨rfl,rfl,hq⟩)
  ·refine zd rfl ?_
   simp only [zbh hll ha.ne ha.n1 ha.pt,zbh hll hb.ne hb.n1 hb.pt,zw]
   rw [zef (by omega) (by omega) (by omega)]
   refine zj (fun h=>?_) (fun h=>?_)
   ·rw [zef (by omega) (by omega) (by omega)]
    refine za ⟨fun h2=>⟨hq,ym h,ym h2⟩,fun h2=>?_⟩
    show (!tv _)=true
    rw [zQ h2.2.2];rfl
   ·exact za ⟨fun h2=>(by cases h2),fun h2=>absurd (xc h) h2.2.1⟩
  ·exact ze rfl (za ⟨fun h=>(by cases h),fun h=>absurd hq h.1⟩)
theorem zdZ {l:List Int} (hn:l.length≤1000000000000000000) (b:Int):qu (xf (l,b,())) fun r=>(0≤r.1∧b∈l)∨(r.1 = -1∧¬b∈l):=by
 rw [zcV];unfold QQ
 refine zk (J:=fun x=>(x.1=0∧¬b∈l)∨(x.1=1∧0≤x.2.1.1∧b∈l)) (qF l.length (fun i=>l[i]?≠some b) hn ?_ ?_) ?_
 ·intro i hi hp
  have hx:l[i]?=some l[i]:=List.getElem?_eq_getElem hi
  refine zd (zR (show (i:Int) < (l.length:Int) by omega)) (zg (zx (n:=i) hx (zj (fun h=>?_) (fun h=>?_))))
  ·have:b=l[i]:=qL h
   exact za (zq (.inr ⟨rfl,by show (0:Int)≤(i:Int);omega,by rw [this];exact List.getElem_mem hi⟩))
  ·have:=jR (show zi b l[i]=false from h)
   exact za (jo (by omega) (by rw [hx];intro e;cases e;exact this rfl))
 ·intro hp
  refine ze (zG (show ¬(l.length:Int) < (l.length:Int) by omega)) (za (zq (.inl ⟨rfl,fun hm=>?_⟩)))
  obtain ⟨k,hk,hk2⟩:=jV hm
  exact hp k hk hk2
 ·rintro ⟨j,⟨v,w,⟨⟩⟩,⟨⟩⟩ (⟨rfl,hp⟩ | ⟨rfl,h0,hp⟩)
  ·exact zd rfl (za (.inr ⟨rfl,hp⟩))
  ·exact ze rfl (za (.inl ⟨h0,hp⟩))
theorem zbw {l:List Int} (hn:l.length≤1000000000000000000) (b:Int):yn (l,b,())=some (tv (b∈l),()):=by
 rw [zaR];unfold Zt
 refine wa (zk (zdZ hn b) ?_)
 rintro ⟨v,⟨⟩⟩ (⟨h,hm⟩ | ⟨rfl,hm⟩)
 ·refine za ⟨fun _=>hm,fun _=>?_⟩
  show (!zh v 0)=true
  rw [zG (by simp only at h;omega)];rfl
 ·exact za ⟨fun h=>(by cases h),fun h=>absurd h hm⟩
theorem zbk {l:List Int} (hn:l.length≤1000000000000000000) (b:Int):qu (wU (l,b,())) fun r=>(0≤r.1∧b∈l)∨(r.1 = -1∧¬b∈l):=by
 rw [zaa];unfold gV
 refine zk (J:=fun x=>(x.1=0∧¬b∈l)∨(x.1=1∧0≤x.2.1.1∧b∈l)) (qF l.length (fun i=>l[i]?≠some b) hn ?_ ?_) ?_
 ·intro i hi hp
  have hx:l[i]?=some l[i]:=List.getElem?_eq_getElem hi
  refine zd (zR (show (i:Int) < (l.length:Int) by omega)) (zg (zx (n:=i) hx (zj (fun h=>?_) (fun h=>?_))))
  ·have:b=l[i]:=qL h
   exact za (zq (.inr ⟨rfl,by show (0:Int)≤(i:Int);omega,by rw [this];exact List.getElem_mem hi⟩))
  ·have:=jR (show zi b l[i]=false from h)
   exact za (jo (by omega) (by rw [hx];intro e;cases e;exact this rfl))
 ·intro hp
  refine ze (zG (show ¬(l.length:Int) < (l.length:Int) by omega)) (za (zq (.inl ⟨rfl,fun hm=>?_⟩)))
  obtain ⟨k,hk,hk2⟩:=jV hm
  exact hp k hk hk2
 ·rintro ⟨j,⟨v,w,⟨⟩⟩,⟨⟩⟩ (⟨rfl,hp⟩ | ⟨rfl,h0,hp⟩)
  ·exact zd rfl (za (.inr ⟨rfl,hp⟩))
  ·exact ze rfl (za (.inl ⟨h0,hp⟩))
theorem Ur {l:List Int} (hn:l.length≤1000000000000000000) (b:Int):qt (l,b,())=some (tv (b∈l),()):=by
 rw [Ua];unfold kA
 refine wa (zk (zbk hn b) ?_)
 rintro ⟨v,⟨⟩⟩ (⟨h,hm⟩ | ⟨rfl,hm⟩)
 ·refine za ⟨fun _=>hm,fun _=>?_⟩
  show (!zh v 0)=true
  rw [zG (by simp only at h;omega)];rfl
 ·exact za ⟨fun h=>(by cases h),fun h=>absurd h hm⟩
theorem zbl {t:qi} (ht:jN t) {a b:List Int} (ha:qV t a) (hb:qV t b):kr (t,a,b,())=some (tv (Js (zV t a) (zV t b)),()):=by
 have hll:=ht.ll
 have na:=Zx t ha.ne;have nb:=Zx t hb.ne
 have a0:=ha.n0;have a8:=ha.n1;have b0:=hb.n0;have b8:=hb.n1
 rw [zh8];unfold VY
 simp only [XH hll ha.ne ha.n1 ha.pt,XH hll hb.ne hb.n1 hb.pt,zw]
 generalize zV t a=A at na
 generalize zV t b=B at nb
 have e1:wrF .i64 ((A.length:Int) - 1)=((A.length - 1:Nat):Int):=by rw [zD]<;>omega
 have e2:Vj A (some 1) (some (((A.length - 1:Nat):Int))) (some (((A.length - 1:Nat):Int)))=some (XI A):=zEt A 1 (A.length - 1) (by omega) (by omega)
 rw [e1,e2,zw]
 have il:=zvj A
 refine wa (zk (J:=fun x=>(x.1=0∧¬Js A B)∨(x.1=1∧x.2.1.1=true∧Js A B)) (qF (XI A).length (fun i=>∀n,(XI A)[i]?=some n→¬n∈B) (by omega) ?_ ?_) ?_)
 ·intro i hi hp
  have hx:(XI A)[i]?=some (XI A)[i]:=List.getElem?_eq_getElem hi
  have hm:=List.getElem_mem hi
  generalize (XI A)[i]=n at hx hm
  refine zd (zR (show (i:Int) < ((XI A).length:Int) by omega)) (zg (zx (n:=i) hx ?_))
  rw [zbw (by omega)]
  refine zj (fun h=>?_) (fun h=>?_)
  ·exact za (zq (.inr ⟨rfl,rfl,n,hm,Zk h⟩))
  ·exact za (jo (by omega) fun m hm=>by rw [hx] at hm;cases hm;exact gJ h)
 ·intro hp
  refine ze (zG (show ¬((XI A).length:Int) < ((XI A).length:Int) by omega)) (za (zq (.inl ⟨rfl,fun ⟨n,h1,h2⟩=>?_⟩)))
  obtain ⟨k,hk,hk2⟩:=jV h1
  exact hp k hk n hk2 h2
 ·rintro ⟨j,⟨v,w,⟨⟩⟩,⟨⟩⟩ (⟨rfl,hq⟩ | ⟨rfl,rfl,hq⟩)
  ·exact zd rfl (za ⟨fun h=>(by cases h),fun h=>absurd h hq⟩)
  ·exact ze rfl (za ⟨fun _=>hq,fun _=>rfl⟩)
theorem zgU {t:qi} (ht:jN t) (r:List Int):uJ (t,r,())=some (bif tv (qV t r) then 0 else 310,()):=by
 rw [zpT];unfold zdv
 simp only [YL,zw,zF ht,cond_true,zbj ht]
 rw [show (!zi 0 0)=false from rfl,cond_false]
 cases tv (qV t r)<;>rfl
theorem zsC {t:qi} (ht:jN t) {a b:List Int} (ha:qV t a) (hb:qV t b):gw (t,a,b,())=some (tv (zna t a b),0,()):=by
 rw [zpX];unfold zdx
 simp only [zgU ht,zw,zF ha,zF hb,cond_true,zbj ht,zqB ht.ll ha.pt hb.pt ha.n1 hb.n1,zbl ht ha hb,zbl ht hb ha]
 rw [show (!zi 0 0)=false from rfl,cond_false]
 simp only [Bool.not_true,cond_false]
 unfold zna
 by_cases h1:YN a b
 ·simp [zF h1,zQ (show ¬(¬YN a b∧¬Js (zV t a) (zV t b)∧¬Js (zV t b) (zV t a)) from fun h=>h.1 h1)]
 ·by_cases h2:Js (zV t a) (zV t b)
  ·simp [zQ h1,zF h2,zQ (show ¬(¬YN a b∧¬Js (zV t a) (zV t b)∧¬Js (zV t b) (zV t a)) from fun h=>h.2.1 h2)]
  ·by_cases h3:Js (zV t b) (zV t a)
   ·simp [zQ h1,zQ h2,zF h3,zQ (show ¬(¬YN a b∧¬Js (zV t a) (zV t b)∧¬Js (zV t b) (zV t a)) from fun h=>h.2.2 h3)]
   ·simp [zQ h1,zQ h2,zQ h3,zF (show ¬YN a b∧¬Js (zV t a) (zV t b)∧¬Js (zV t b) (zV t a) from ⟨h1,h2,h3⟩)]
def XW (t:qi) (r:List Int):Int:=frm t ((r[0]?).getD 0)
def KQ (t:qi) (r:List Int):Int:=too t ((r[r.length - 1]?).getD 0)
theorem zsD {t:qi} (ht:jN t) (r:List Int):JL (t,r,())=some (bif tv (qV t r) then (zV t r,0,()) else ([],310,())):=by
 rw [zpV];unfold zdw
 simp only [zgU ht,zw]
 by_cases h:qV t r
 ·simp only [zF h,cond_true,XH ht.ll h.ne h.n1 h.pt,zw];rfl
 ·simp only [zQ h,cond_false];rfl
theorem zzH (t:qi) {r:List Int} (h:r≠[]):(zV t r)[0]?=some (XW t r):=by
 cases r with
 |nil=>exact absurd rfl h
 |cons p r=>rfl
theorem zBw (t:qi) {r:List Int} (h:r≠[]):(zV t r)[r.length]?=some (KQ t r):=by
 have hl:0 < r.length:=List.length_pos_iff.2 h
 have hx:r[r.length - 1]?=some (r[r.length - 1]'(by omega)):=List.getElem?_eq_getElem (by omega)
 have:=WD t hx
 rw [show r.length - 1+1=r.length by omega] at this
 rw [this];unfold KQ;rw [hx];rfl
theorem zur {t:qi} (ht:jN t) (r:List Int):Yv (t,r,())=some (bif tv (qV t r) then (XW t r,KQ t r,0,()) else (0,0,310,())):=by
 rw [zrP];unfold zfs
 simp only [zsD ht,zw]
 by_cases h:qV t r
 ·have hn:=Zx t h.ne
  have:=h.n1
  simp only [zF h,cond_true]
  rw [show (!zi 0 0)=false from rfl,cond_false]
  rw [show wrF .i64 (((zV t r).length:Int) - 1)=((r.length:Nat):Int) from by rw [zD]<;>omega]
  rw [show (0:Int)=((0:Nat):Int) from rfl,wR (zzH t h.ne),zw,wR (zBw t h.ne),zw]
 ·simp only [zQ h,cond_false];rfl
theorem zqC {t:qi} (ht:jN t) (r:List Int) (a b:Int):gS (t,r,a,b,())=some (tv (qV t r∧XW t r=a∧KQ t r=b),()):=by
 rw [znZ];unfold zcb
 simp only [zur ht,zw]
 by_cases h:qV t r
 ·simp only [zF h,cond_true]
  rw [show zi 0 0=true from rfl,cond_true]
  refine wa (zj (fun h1=>?_) (fun h1=>?_))
  ·exact za ⟨fun h2=>⟨h,qL h1,qL h2⟩,fun h2=>uh h2.2.2⟩
  ·exact za ⟨fun h2=>(by cases h2),fun h2=>absurd h2.2.1 (jR h1)⟩
 ·simp only [zQ h,cond_false]
  rw [show zi 310 0=false from rfl,cond_false,zQ fun h2=>h h2.1]
abbrev qO:=Int×Int×Int×Int×Int×Int×(Int×Int)×Int×List (List Int)
structure Zc (t:qi) (s:qO):Prop where
 id:1≤s.1∧s.1≤4095
 ta:jf t s.2.1∧stn t s.2.1=true
 li:jf t s.2.2.1∧stn t s.2.2.1=true
 tl:s.2.1≠s.2.2.1
 sz:84≤s.2.2.2.2.1∧s.2.2.2.2.1≤1542
 dl:1≤s.2.2.2.2.2.2.2.1∧s.2.2.2.2.2.2.2.1≤1099511627776
 cl:(s.2.2.2.1=7∧(1≤s.2.2.2.2.2.1∧s.2.2.2.2.2.1≤240)∧s.2.2.2.2.2.2.1=(0,0))∨(s.2.2.2.1=6∧s.2.2.2.2.2.1=0∧(s.2.2.2.2.1≤s.2.2.2.2.2.2.1.1∧s.2.2.2.2.2.2.1.1≤1048576)∧(1≤s.2.2.2.2.2.2.1.2∧s.2.2.2.2.2.2.1.2≤2097152))
 rn:1≤s.2.2.2.2.2.2.2.2.length∧s.2.2.2.2.2.2.2.2.length≤2
 rt:∀r∈s.2.2.2.2.2.2.2.2,qV t r∧XW t r=s.2.1∧KQ t r=s.2.2.1
 ap:∀a b,s.2.2.2.2.2.2.2.2[0]?=some a→s.2.2.2.2.2.2.2.2[1]?=some b→zna t a b
theorem zjF {a b c:Int} {R:Int→Int→Int→Option (Bool×Unit)} (hR:R a b c=(bif (!(zh (a) (b))) then some ((!(zh (c) (a))),()) else some (false,()))):R a b c=some (tv (b≤a∧a≤c),()):=by
 rw [hR]
 refine wa (zj (fun h=>?_) (fun h=>?_))<;>refine za ?_<;>simp only [xu] at *<;>grind
theorem Kl (a b c:Int):wD (a,b,c,())=some (tv (b≤a∧a≤c),()):=by
 rw [zkL];exact zjF (R:=Gk) rfl
theorem zgb (a b c:Int):uE (a,b,c,())=some (tv (b≤a∧a≤c),()):=by
 rw [zvL];exact zjF (R:=zji) rfl
theorem zit (a b c:Int):um (a,b,c,())=some (tv (b≤a∧a≤c),()):=by
 rw [zhj];exact zjF (R:=Vq) rfl
theorem zz9 {n:Int} (h : -1000000≤n) (h2:n≤1000000):wrF .i64 (n - 1)=n - 1:=zD (by omega) (by omega)
theorem znb {t:qi} (hs:szP t) (n:Int):gP (t,n,())=some (tv (jf t n∧stn t n=true),()):=by
 have h0:=hs.n0;have h1:=hs.n1
 rw [zkQ];unfold Gm
 simp only [Kl,zw,zz9 (show -1000000≤t.1 by omega) (by omega)]
 refine wa (zj (fun h=>?_) (fun h=>?_))
 ·obtain ⟨h2,h3⟩:=Zk h
  have hn:jf t n:=⟨h2,by omega⟩
  refine zg (qj (a:=stn t n) (by show atI t.2.1 n=_;rw [show n=((n.toNat:Nat):Int) from (by omega),wR (n:=n.toNat)];exact hn.get hs) ?_)
  exact za ⟨fun h=>⟨hn,h⟩,fun h=>h.2⟩
 ·have:=gJ h
  exact za ⟨fun h=>(by cases h),fun h=>absurd ⟨h.1.1,by have:=h.1.2;omega⟩ this⟩
theorem zoq {t:qi} (hs:szP t) (n:Int):ZE (t,n,())=some (tv (jf t n∧stn t n=true),()):=by
 have h0:=hs.n0;have h1:=hs.n1
 rw [zmh];unfold zaK
 simp only [zgb,zw,zz9 (show -1000000≤t.1 by omega) (by omega)]
 refine wa (zj (fun h=>?_) (fun h=>?_))
 ·obtain ⟨h2,h3⟩:=Zk h
  have hn:jf t n:=⟨h2,by omega⟩
  refine zg (qj (a:=stn t n) (by show atI t.2.1 n=_;rw [show n=((n.toNat:Nat):Int) from (by omega),wR (n:=n.toNat)];exact hn.get hs) ?_)
  exact za ⟨fun h=>⟨hn,h⟩,fun h=>h.2⟩
 ·have:=gJ h
  exact za ⟨fun h=>(by cases h),fun h=>absurd ⟨h.1.1,by have:=h.1.2;omega⟩ this⟩
def wc (b:Int×Int):Prop:=(1≤b.1∧b.1≤1048576)∧(1≤b.2∧b.2≤2097152)
theorem Jf (b:Int×Int):jS (b,())=some (bif tv (wc b) then 0 else 130,()):=by
 rw [znX];unfold zca wc
 simp only [zit,zw]
 by_cases h1:1≤b.1∧b.1≤1048576
 ·by_cases h2:1≤b.2∧b.2≤2097152
  ·simp only [zF h1,zF h2,zF (And.intro h1 h2)];rfl
  ·simp only [zF h1,zQ h2,zQ (fun h:(1≤b.1∧b.1≤1048576)∧(1≤b.2∧b.2≤2097152)=>h2 h.2)];rfl
 ·simp only [zQ h1,zQ (fun h:(1≤b.1∧b.1≤1048576)∧(1≤b.2∧b.2≤2097152)=>h1 h.1)];rfl
theorem zCN (b:Int×Int):((zi b.1 0)&&((zi b.2 0)&&true))=tv (b=(0,0)):=by
 obtain ⟨x,y⟩:=b
 rw [zGj,jE,jE]
 simp only [Bool.and_true]
 rw [Bool.eq_iff_iff]
 simp [Prod.ext_iff]
theorem zo2 {t:qi} (ht:jN t) {s:qO} {Q:Prop} (hn:1≤s.2.2.2.2.2.2.2.2.length∧s.2.2.2.2.2.2.2.2.length≤2) {B:((Bool×(Int×Unit))×Unit)→Option ((Nat×((Bool×(Int×Unit))×Unit)) ⊕ ((Bool×(Int×Unit))×Unit))}
  {K:(Nat×((Bool×(Int×Unit))×Unit))→Option (Bool×Unit)}
  (hB
    : B=fun s7=>bif (zh (s7.1.2.1) ((((s.2.2.2.2.2.2.2.2).length:Nat):Int))) then opt (atI (s.2.2.2.2.2.2.2.2) (s7.1.2.1)) fun x8=>
    opt (gS ((t,(x8,(s.2.1,(s.2.2.1,())))))) fun x9=>
    bif (!x9.1) then some (.inl (1,((false,(s7.1.2.1,())),())))
    else some (.inr ((s7.1.1,((wrF .i64 ((s7.1.2.1+1))),())),()))
   else some (.inl (0,((s7.1.1,(s7.1.2.1,())),()))))
  (hK :
     ∀x,K x=bif (Nat.beq x.1 0) then bif (zh ((((s.2.2.2.2.2.2.2.2).length:Nat):Int)) (2)) then some (true,())
     else opt (atI (s.2.2.2.2.2.2.2.2) (0)) fun x11=>opt (atI (s.2.2.2.2.2.2.2.2) (1)) fun x12=>opt (gw ((t,(x11,(x12,()))))) fun x13=>
      bif (zi (x13.2.1) (0)) then bif (!x13.1) then some (false,()) else some (true,()) else some (false,())
    else bif (!x.2.1.1) then some (false,())
     else bif (zh ((((s.2.2.2.2.2.2.2.2).length:Nat):Int)) (2)) then some (true,())
      else opt (atI (s.2.2.2.2.2.2.2.2) (0)) fun x14=>opt (atI (s.2.2.2.2.2.2.2.2) (1)) fun x15=>opt (gw ((t,(x14,(x15,()))))) fun x16=>
       bif (zi (x16.2.1) (0)) then bif (!x16.1) then some (false,()) else some (true,()) else some (false,()))
  (hQ:Q↔(∀r∈s.2.2.2.2.2.2.2.2,qV t r∧XW t r=s.2.1∧KQ t r=s.2.2.1)∧∀a b,s.2.2.2.2.2.2.2.2[0]?=some a→s.2.2.2.2.2.2.2.2[1]?=some b→zna t a b) :
  qu (opt (zC B zK ((false,(0,())),())) K) fun r=>(r.1=true↔Q):=by
 subst hB
 obtain ⟨n0,n2⟩:=hn
 refine zk (J:=fun x=>(x.1=0∧∀r∈s.2.2.2.2.2.2.2.2,qV t r∧XW t r=s.2.1∧KQ t r=s.2.2.1)∨(x.1=1∧x.2.1.1=false∧¬Q)) (qF s.2.2.2.2.2.2.2.2.length (fun i=>∀r,s.2.2.2.2.2.2.2.2[i]?=some r→qV t r∧XW t r=s.2.1∧KQ t r=s.2.2.1) (by omega) ?_ ?_) ?_
 ·intro i hi hp
  have hx:s.2.2.2.2.2.2.2.2[i]?=some s.2.2.2.2.2.2.2.2[i]:=List.getElem?_eq_getElem hi
  have hm:=List.getElem_mem hi
  generalize s.2.2.2.2.2.2.2.2[i]=r at hx hm
  refine zd (zR (show (i:Int) < (s.2.2.2.2.2.2.2.2.length:Int) by omega)) (zg (zx (n:=i) hx ?_))
  rw [zqC ht]
  refine zj (fun h=>?_) (fun h=>?_)
  ·exact za (zq (.inr ⟨rfl,rfl,fun hq=>ym h ((hQ.1 hq).1 r hm)⟩))
  ·exact za (jo (by omega) fun r' hr'=>by rw [hx] at hr';cases hr';exact xc h)
 ·intro hp
  refine ze (zG (show ¬(s.2.2.2.2.2.2.2.2.length:Int) < (s.2.2.2.2.2.2.2.2.length:Int) by omega)) (za (zq (.inl ⟨rfl,fun r hr=>?_⟩)))
  obtain ⟨k,hk,hk2⟩:=jV hr
  exact hp k hk r hk2
 ·rintro ⟨j,⟨v,w,⟨⟩⟩,⟨⟩⟩ (⟨rfl,hq⟩ | ⟨rfl,rfl,hq⟩)
  ·rw [hK]
   refine zd rfl (zj (fun h=>?_) (fun h=>?_))
   ·have h:=qn h
    have h:s.2.2.2.2.2.2.2.2.length < 2:=by omega
    exact za ⟨fun _=>hQ.2 ⟨hq,fun a b _ hb=>by rw [List.getElem?_eq_none (by omega)] at hb;cases hb⟩,fun _=>rfl⟩
   ·have h:=qw h
    have h:2≤s.2.2.2.2.2.2.2.2.length:=by omega
    have hx0:s.2.2.2.2.2.2.2.2[0]?=some s.2.2.2.2.2.2.2.2[0]:=List.getElem?_eq_getElem (by omega)
    have hx1:s.2.2.2.2.2.2.2.2[1]?=some s.2.2.2.2.2.2.2.2[1]:=List.getElem?_eq_getElem (by omega)
    have r0:=(hq _ (List.getElem_mem (show 0 < s.2.2.2.2.2.2.2.2.length by omega))).1
    have r1:=(hq _ (List.getElem_mem (show 1 < s.2.2.2.2.2.2.2.2.length by omega))).1
    generalize s.2.2.2.2.2.2.2.2[0]=a at hx0 r0
    generalize s.2.2.2.2.2.2.2.2[1]=b at hx1 r1
    refine zg (zx (n:=0) hx0 (zg (zx (n:=1) hx1 ?_)))
    rw [zsC ht r0 r1]
    refine zj (fun h=>?_) (fun h=>?_)
    ·exact za ⟨fun h=>(by cases h),fun hq2=>absurd ((hQ.1 hq2).2 a b hx0 hx1) (ym h)⟩
    ·exact za ⟨fun _=>hQ.2 ⟨hq,fun a' b' ha hb=>by rw [hx0] at ha;rw [hx1] at hb;cases ha;cases hb;exact xc h⟩,fun _=>rfl⟩
  ·rw [hK]
   exact ze rfl (zd rfl (za ⟨fun h=>(by cases h),fun h=>absurd h hq⟩))
theorem zqD {t:qi} (ht:jN t) (s:qO):Qr (t,s,())=some (tv (Zc t s),()):=by
 have no:¬Zc t s→qu (some ((false,()):Bool×Unit)) fun r=>(r.1=true↔Zc t s):=fun h=>za ⟨fun h=>(by cases h),fun h2=>absurd h2 h⟩
 rw [zn3];unfold zce
 simp only [Kl,znb ht.sz,Jf,zw,zCN]
 refine wa (zj (fun h=>no fun hs=>ym h hs.id) fun h1=>zj (fun h2=>zj (fun h3=>zj (fun h=>no fun hs=>?_) fun h4=>zj (fun h=>no fun hs=>ym h hs.sz) fun h5=>zj (fun h=>no fun hs=>ym h hs.dl) fun h6=>?_) fun h=>no fun hs=>gJ h hs.li) fun h=>no fun hs=>gJ h hs.ta)
 ·exact hs.tl (qL (show zi s.2.1 s.2.2.1=true by simpa using h))
 have h1:=xc h1;have h2:=Zk h2;have h3:=Zk h3;have h5:=xc h5;have h6:=xc h6
 have h4:=jR (show zi s.2.1 s.2.2.1=false by simpa using h4)
 refine zj (fun c7=>?_) (fun c7=>zj (fun c6=>?_) (fun c6=>no fun hs=>?_))
 ·have c7:=qL c7
  refine zj (fun h7=>zj (fun h=>no fun hs=>?_) fun h8=>zj (fun h=>no fun hs=>?_) fun h9=>?_) (fun h=>no fun hs=>?_)
  ·rcases hs.cl with ⟨_,_,hb⟩ | ⟨h6',_⟩
   ·exact ym h hb
   ·omega
  ·have:=ym h
   have:=hs.rn
   omega
  ·have h9:=xc h9
   refine zo2 ht ⟨by omega,by omega⟩ rfl (fun _=>rfl) ⟨fun hs=>⟨hs.rt,hs.ap⟩,fun hr=>⟨h1,h2,h3,h4,h5,h6,.inl ⟨c7,Zk h7,xc h8⟩,⟨by omega,by omega⟩,hr.1,hr.2⟩⟩
  ·rcases hs.cl with ⟨_,hb,_⟩ | ⟨h6',_⟩
   ·exact gJ h hb
   ·omega
 ·have c6:=qL c6
  refine zj (fun h7=>zj (fun h8=>zj (fun h=>no fun hs=>?_) fun h9=>zj (fun h=>no fun hs=>?_) fun h10=>?_) (fun h=>no fun hs=>?_)) (fun h=>no fun hs=>?_)
  ·rcases hs.cl with ⟨h7',_⟩ | ⟨_,_,hb,_⟩
   ·omega
   ·have:=qn (show zh s.2.2.2.2.2.2.1.1 s.2.2.2.2.1=true by simpa using h)
    omega
  ·have:=ym h
   have:=hs.rn
   omega
  ·have h10:=xc h10
   have h7:=qL h7
   have h8:wc s.2.2.2.2.2.2.1:=by
    apply Classical.byContradiction
    intro hb
    rw [zQ hb] at h8;cases h8
   have h9:=qw (show zh s.2.2.2.2.2.2.1.1 s.2.2.2.2.1=false by simpa using h9)
   refine zo2 ht ⟨by omega,by omega⟩ rfl (fun _=>rfl) ⟨fun hs=>⟨hs.rt,hs.ap⟩,fun hr=>⟨h1,h2,h3,h4,h5,h6,.inr ⟨c6,h7,⟨h9,h8.1.2⟩,h8.2⟩,⟨by omega,by omega⟩,hr.1,hr.2⟩⟩
  ·rcases hs.cl with ⟨h7',_⟩ | ⟨_,_,hb,hr⟩
   ·omega
   ·have:=hs.sz
    have hbp:wc s.2.2.2.2.2.2.1:=⟨⟨by omega,hb.2⟩,hr⟩
    rw [zF hbp] at h;cases h
  ·rcases hs.cl with ⟨h7',_⟩ | ⟨_,hp,_⟩
   ·omega
   ·exact jR h hp
 ·rcases hs.cl with ⟨h7,_⟩ | ⟨h6',_⟩
  ·exact jR c7 h7
  ·exact jR c6 h6'
theorem zgV {t:qi} (ht:jN t) (s:qO):uF (t,s,())=some (tv (Zc t s),()):=by
 have hll:=ht.ll
 rw [zpL];unfold zdk
 simp only [zgb,zoq ht.sz,zw,zCN]
 refine wa (zk (J:=fun x=>(x.1=0∧x.2.1.1=false∧(1≤s.1∧s.1≤4095)∧(jf t s.2.1∧stn t s.2.1=true)∧(jf t s.2.2.1∧stn t s.2.2.1=true)∧s.2.1≠s.2.2.1∧(84≤s.2.2.2.2.1∧s.2.2.2.2.1≤1542)∧(1≤s.2.2.2.2.2.2.2.1∧s.2.2.2.2.2.2.2.1≤1099511627776))∨(x.1=1∧x.2.1.1=false∧¬Zc t s)) ?_ ?_)
 ·refine zj (fun h=>za (.inr ⟨rfl,rfl,fun hs=>ym h hs.id⟩)) fun h1=>zj (fun h=>za (.inr ⟨rfl,rfl,fun hs=>ym h hs.ta⟩)) fun h2=>zj (fun h=>za (.inr ⟨rfl,rfl,fun hs=>ym h hs.li⟩)) fun h3=>zj (fun h=>za (.inr ⟨rfl,rfl,fun hs=>hs.tl (qL h)⟩)) fun h4=>zj (fun h=>za (.inr ⟨rfl,rfl,fun hs=>ym h hs.sz⟩)) fun h5=>zj (fun h=>za (.inr ⟨rfl,rfl,fun hs=>ym h hs.dl⟩)) fun h6=>?_
  exact za (.inl ⟨rfl,rfl,xc h1,xc h2,xc h3,jR h4,xc h5,xc h6⟩)
 rintro ⟨j,⟨v,⟨⟩⟩,⟨⟩⟩ (⟨rfl,rfl,h1,h2,h3,h4,h5,h6⟩ | ⟨rfl,rfl,hq⟩)
 rotate_left
 ·exact ze rfl (za ⟨fun h=>(by cases h),fun h=>absurd h hq⟩)
 refine zd rfl (zk (J:=fun x=>(x.1=0∧x.2.1.1=false∧((s.2.2.2.1=7∧(1≤s.2.2.2.2.2.1∧s.2.2.2.2.2.1≤240)∧s.2.2.2.2.2.2.1=(0,0))∨(s.2.2.2.1=6∧s.2.2.2.2.2.1=0∧(s.2.2.2.2.1≤s.2.2.2.2.2.2.1.1∧s.2.2.2.2.2.2.1.1≤1048576)∧(1≤s.2.2.2.2.2.2.1.2∧s.2.2.2.2.2.2.1.2≤2097152))))∨(x.1=1∧x.2.1.1=false∧¬Zc t s)) ?_ ?_)
 ·refine zj (fun c7=>?_) (fun c7=>zj (fun c6=>?_) (fun c6=>za (.inr ⟨rfl,rfl,fun hs=>?_⟩)))
  ·have c7:=qL c7
   refine zk (J:=fun x=>(x.1=0∧x.2.1.1=false∧(1≤s.2.2.2.2.2.1∧s.2.2.2.2.2.1≤240)∧s.2.2.2.2.2.2.1=(0,0))∨(x.1=1∧x.2.1.1=false∧¬Zc t s)) ?_ ?_
   ·refine zj (fun h=>za (.inr ⟨rfl,rfl,fun hs=>?_⟩)) fun h7=>zj (fun h=>za (.inr ⟨rfl,rfl,fun hs=>?_⟩)) fun h8=>za (.inl ⟨rfl,rfl,xc h7,xc h8⟩)
    ·rcases hs.cl with ⟨_,hb,_⟩ | ⟨h6',_⟩
     ·exact ym h hb
     ·omega
    ·rcases hs.cl with ⟨_,_,hb⟩ | ⟨h6',_⟩
     ·exact ym h hb
     ·omega
   ·rintro ⟨j,⟨v,⟨⟩⟩,⟨⟩⟩ (⟨rfl,rfl,h7,h8⟩ | ⟨rfl,rfl,hq⟩)
    ·exact zd rfl (za (.inl ⟨rfl,rfl,.inl ⟨c7,h7,h8⟩⟩))
    ·exact ze rfl (za (.inr ⟨rfl,rfl,hq⟩))
  ·have c6:=qL c6
   refine zk (J:=fun x=>(x.1=0∧x.2.1.1=false∧s.2.2.2.2.2.1=0∧(s.2.2.2.2.1≤s.2.2.2.2.2.2.1.1∧s.2.2.2.2.2.2.1.1≤1048576)∧(1≤s.2.2.2.2.2.2.1.2∧s.2.2.2.2.2.2.1.2≤2097152))∨(x.1=1∧x.2.1.1=false∧¬Zc t s)) ?_ ?_
   ·refine zj (fun h=>za (.inr ⟨rfl,rfl,fun hs=>?_⟩)) fun h7=>zj (fun h=>za (.inr ⟨rfl,rfl,fun hs=>?_⟩)) fun h8=>zj (fun h=>za (.inr ⟨rfl,rfl,fun hs=>?_⟩)) fun h9=>za (.inl ⟨rfl,rfl,qL (by simpa using h7),xc h8,xc h9⟩)
    ·rcases hs.cl with ⟨h7',_⟩ | ⟨_,hp,_⟩
     ·omega
     ·rw [uh hp] at h;cases h
    ·rcases hs.cl with ⟨h7',_⟩ | ⟨_,_,hb,_⟩
     ·omega
     ·exact ym h hb
    ·rcases hs.cl with ⟨h7',_⟩ | ⟨_,_,_,hb⟩
     ·omega
     ·exact ym h hb
   ·rintro ⟨j,⟨v,⟨⟩⟩,⟨⟩⟩ (⟨rfl,rfl,h7,h8⟩ | ⟨rfl,rfl,hq⟩)
    ·exact zd rfl (za (.inl ⟨rfl,rfl,.inr ⟨c6,h7,h8⟩⟩))
    ·exact ze rfl (za (.inr ⟨rfl,rfl,hq⟩))
  ·rcases hs.cl with ⟨h7,_⟩ | ⟨h6',_⟩
   ·exact jR c7 h7
   ·exact jR c6 h6'
 rintro ⟨j,⟨v,⟨⟩⟩,⟨⟩⟩ (⟨rfl,rfl,hcl⟩ | ⟨rfl,rfl,hq⟩)
 rotate_left
 ·exact ze rfl (za ⟨fun h=>(by cases h),fun h=>absurd h hq⟩)
 refine zd rfl (zk (J:=fun x=>(x.1=0∧x.2.1.1=false∧1≤s.2.2.2.2.2.2.2.2.length∧s.2.2.2.2.2.2.2.2.length≤2)∨(x.1=1∧x.2.1.1=false∧¬Zc t s)) ?_ ?_)
 ·refine zj (fun h=>za (.inr ⟨rfl,rfl,fun hs=>?_⟩)) fun h7=>zj (fun h=>za (.inr ⟨rfl,rfl,fun hs=>?_⟩)) fun h8=>za (.inl ⟨rfl,rfl,?_⟩)
  ·have:=qn h;have:=hs.rn;omega
  ·have:=qn h;have:=hs.rn;omega
  ·have h7:=qw h7;have h8:=qw h8;omega
 rintro ⟨j,⟨v,⟨⟩⟩,⟨⟩⟩ (⟨rfl,rfl,n0,n2⟩ | ⟨rfl,rfl,hq⟩)
 rotate_left
 ·exact ze rfl (za ⟨fun h=>(by cases h),fun h=>absurd h hq⟩)
 refine zd rfl (zk (J:=fun x=>(x.1=0∧∀r∈s.2.2.2.2.2.2.2.2,qV t r∧XW t r=s.2.1∧KQ t r=s.2.2.1)∨(x.1=1∧x.2.1.1=false∧¬Zc t s)) (qF s.2.2.2.2.2.2.2.2.length (fun i=>∀r,s.2.2.2.2.2.2.2.2[i]?=some r→qV t r∧XW t r=s.2.1∧KQ t r=s.2.2.1) (by omega) ?_ ?_) ?_)
 ·intro i hi hp
  have hx:s.2.2.2.2.2.2.2.2[i]?=some s.2.2.2.2.2.2.2.2[i]:=List.getElem?_eq_getElem hi
  have hm:=List.getElem_mem hi
  generalize s.2.2.2.2.2.2.2.2[i]=r at hx hm
  refine zd (zR (show (i:Int) < (s.2.2.2.2.2.2.2.2.length:Int) by omega)) (zg (zx (n:=i) hx ?_))
  rw [zgS ht]
  refine zk (J:=fun x=>(x.1=0∧x.2.1.1=false∧qV t r∧XW t r=s.2.1∧KQ t r=s.2.2.1)∨(x.1=1∧x.2.1.1=false∧¬Zc t s)) ?_ ?_
  ·refine zj (fun h=>za (.inr ⟨rfl,rfl,fun hs=>ym h (hs.rt r hm).1⟩)) fun h=>?_
   have hr:=xc h
   have r0:=hr.n0;have r8:=hr.n1
   have hy0:r[0]?=some r[0]:=List.getElem?_eq_getElem (by omega)
   have hy1:r[r.length - 1]?=some (r[r.length - 1]'(by omega)):=List.getElem?_eq_getElem (by omega)
   have e0:XW t r=frm t r[0]:=by unfold XW;rw [hy0];rfl
   have e1:KQ t r=too t (r[r.length - 1]'(by omega)):=by unfold KQ;rw [hy1];rfl
   have p0:=hr.pt _ (List.getElem_mem (show 0 < r.length by omega))
   have p1:=hr.pt _ (List.getElem_mem (show r.length - 1 < r.length by omega))
   generalize r[0]=p at hy0 e0 p0
   generalize (r[r.length - 1]'(by omega))=q at hy1 e1 p1
   refine zg (zx (n:=0) hy0 ?_)
   rw [Qu hll p0,zw]
   refine zj (fun h=>za (.inr ⟨rfl,rfl,fun hs=>?_⟩)) fun h7=>?_
   ·rw [←e0,uh (hs.rt r hm).2.1] at h;cases h
   have h7:=qL (show zi (frm t p) s.2.1=true by simpa using h7)
   rw [show wrF .i64 ((r.length:Int) - 1)=((r.length - 1:Nat):Int) from by rw [zD]<;>omega]
   refine zg (zx (n:=r.length - 1) hy1 ?_)
   rw [Je hll p1,zw]
   refine zj (fun h=>za (.inr ⟨rfl,rfl,fun hs=>?_⟩)) fun h8=>?_
   ·rw [←e1,uh (hs.rt r hm).2.2] at h;cases h
   have h8:=qL (show zi (too t q) s.2.2.1=true by simpa using h8)
   exact za (.inl ⟨rfl,rfl,hr,by rw [e0,h7],by rw [e1,h8]⟩)
  ·rintro ⟨j,⟨v,⟨⟩⟩,⟨⟩⟩ (⟨rfl,rfl,hq⟩ | ⟨rfl,rfl,hq⟩)
   ·exact zd rfl (za (jo (by omega) fun r' hr'=>by rw [hx] at hr';cases hr';exact hq))
   ·exact ze rfl (za (zq (.inr ⟨rfl,rfl,hq⟩)))
 ·intro hp
  refine ze (zG (show ¬(s.2.2.2.2.2.2.2.2.length:Int) < (s.2.2.2.2.2.2.2.2.length:Int) by omega)) (za (zq (.inl ⟨rfl,fun r hr=>?_⟩)))
  obtain ⟨k,hk,hk2⟩:=jV hr
  exact hp k hk r hk2
 ·rintro ⟨j,⟨v,w,⟨⟩⟩,⟨⟩⟩ (⟨rfl,hrt⟩ | ⟨rfl,rfl,hq⟩)
  rotate_left
  ·exact ze rfl (za ⟨fun h=>(by cases h),fun h=>absurd h hq⟩)
  refine zd rfl (zj (fun h=>?_) (fun h=>?_))
  ·have h:=qL h
   have h:s.2.2.2.2.2.2.2.2.length=1:=by omega
   exact za ⟨fun _=>⟨h1,h2,h3,h4,h5,h6,hcl,⟨n0,n2⟩,hrt,fun a b _ hb=>by rw [List.getElem?_eq_none (by omega)] at hb;cases hb⟩,fun _=>rfl⟩
  ·have h:=jR h
   have h:s.2.2.2.2.2.2.2.2.length=2:=by omega
   have hx0:s.2.2.2.2.2.2.2.2[0]?=some s.2.2.2.2.2.2.2.2[0]:=List.getElem?_eq_getElem (by omega)
   have hx1:s.2.2.2.2.2.2.2.2[1]?=some s.2.2.2.2.2.2.2.2[1]:=List.getElem?_eq_getElem (by omega)
   have r0:=(hrt _ (List.getElem_mem (show 0 < s.2.2.2.2.2.2.2.2.length by omega))).1
   have r1:=(hrt _ (List.getElem_mem (show 1 < s.2.2.2.2.2.2.2.2.length by omega))).1
   generalize s.2.2.2.2.2.2.2.2[0]=a at hx0 r0
   generalize s.2.2.2.2.2.2.2.2[1]=b at hx1 r1
   refine zg (zx (n:=0) hx0 (zg (zx (n:=1) hx1 ?_)))
   rw [zgT ht r0 r1,zw]
   exact za ⟨fun h=>⟨h1,h2,h3,h4,h5,h6,hcl,⟨n0,n2⟩,hrt,fun a' b' ha hb=>by rw [hx0] at ha;rw [hx1] at hb;cases ha;cases hb;exact Zk h⟩,fun hs=>zF (hs.ap a b hx0 hx1)⟩
def znc (t:qi) (l:List qO):Prop:=∀s∈l,Zc t s
def zhy (l:List qO):Prop:=∀(i k:Nat) a b,k < i→l[i]?=some a→l[k]?=some b→b.1≠a.1
noncomputable def Jg (t:qi) (l:List qO):Int:=bif tv (l.length≤12) then bif tv (znc t l) then bif tv (zhy l) then 0 else 322 else 321 else 3
theorem zAa {α:Type} (m:List (Int×α)) (a b:Int) (x z:α):mpD (mpP m a x) b z=if a=b then x else mpD m b z:=by
 induction m with
 |nil=>
  unfold mpP mpD
  rw [jE]
  by_cases h:a=b
  ·rw [if_pos h,h];simp
  ·rw [if_neg h,show (a == b)=false from by simpa using h];rfl
 |cons p m ih=>
  unfold mpP
  rw [jE]
  by_cases h:p.1=a
  ·rw [h];simp only [beq_self_eq_true,cond_true]
   unfold mpD
   rw [jE,jE]
   by_cases h2:a=b
   ·rw [if_pos h2,h2];simp
   ·rw [if_neg h2,h,show (a == b)=false from by simpa using h2];rfl
  ·rw [show (p.1 == a)=false from by simpa using h,cond_false]
   unfold mpD
   rw [ih,jE]
   by_cases h2:p.1=b
   ·rw [h2];simp only [beq_self_eq_true,cond_true]
    rw [if_neg (by rw [h2] at h;exact fun e=>h e.symm)]
   ·rw [show (p.1 == b)=false from by simpa using h2];rfl
theorem zFJ {α:Type} (m:List (Int×α)) (a b:Int) (x:α):mpH (mpP m a x) b=(decide (a=b)||mpH m b):=by
 induction m with
 |nil=>
  unfold mpP mpH
  rw [jE]
  by_cases h:a=b
  ·rw [h];simp
  ·rw [show (a == b)=false from by simpa using h];simp [h,mpH]
 |cons p m ih=>
  unfold mpP
  rw [jE]
  by_cases h:p.1=a
  ·rw [h];simp only [beq_self_eq_true,cond_true]
   unfold mpH
   rw [jE,jE]
   by_cases h2:a=b
   ·rw [h2];simp
   ·rw [h,show (a == b)=false from by simpa using h2];simp [h2]
  ·rw [show (p.1 == a)=false from by simpa using h,cond_false]
   unfold mpH
   rw [ih,jE]
   by_cases h2:p.1=b
   ·rw [h2];simp
   ·rw [show (p.1 == b)=false from by simpa using h2];simp
theorem zbJ {t:qi} (ht:jN t) (l:List qO):yX (t,l,())=some (Jg t l,()):=by
 rw [zjo];unfold KZ Jg
 simp only [YL,zw,zF ht,cond_true]
 rw [show (!zi 0 0)=false from rfl,cond_false]
 refine yb (zj (fun h=>?_) (fun h=>?_))
 ·have h:=qn h
  rw [zQ (show ¬l.length≤12 by omega)];exact za rfl
 have h12:l.length≤12:=by have:=qw h;omega
 rw [zF h12,cond_true]
 refine zk (J:=fun x=>(x.1=0∧x.2.1.1=0∧znc t l)∨(x.1=1∧x.2.1.1=321∧¬znc t l)) (qF l.length (fun i=>∀s,l[i]?=some s→Zc t s) (by omega) ?_ ?_) ?_
 ·intro i hi hp
  have hx:l[i]?=some l[i]:=List.getElem?_eq_getElem hi
  have hm:=List.getElem_mem hi
  generalize l[i]=s at hx hm
  refine zd (zR (show (i:Int) < (l.length:Int) by omega)) (zg (zx (n:=i) hx ?_))
  rw [zqD ht]
  refine zj (fun h=>?_) (fun h=>?_)
  ·exact za (zq (.inr ⟨rfl,rfl,fun hq=>ym h (hq s hm)⟩))
  ·exact za (jo (by omega) fun r' hr'=>by rw [hx] at hr';cases hr';exact xc h)
 ·intro hp
  refine ze (zG (show ¬(l.length:Int) < (l.length:Int) by omega)) (za (zq (.inl ⟨rfl,rfl,fun r hr=>?_⟩)))
  obtain ⟨k,hk,hk2⟩:=jV hr
  exact hp k hk r hk2
 rintro ⟨j,⟨v,w,⟨⟩⟩,⟨⟩⟩ (⟨rfl,rfl,hq⟩ | ⟨rfl,rfl,hq⟩)
 rotate_left
 ·rw [zQ hq];exact ze rfl (za rfl)
 rw [zF hq,cond_true]
 refine zd rfl (zk (J:=fun x=>(x.1=0∧zhy l)∨(x.1=1∧x.2.1.1=322∧¬zhy l))
  (zW l.length (fun i s=>(∃m,s=((0,((i:Int),())),(m,()))∧∀z,mpD m z false=true↔∃(k:Nat) (b:qO),k < i∧l[k]?=some b∧b.1=z)∧∀(k' k:Nat) a b,k' < i→k < k'→l[k']?=some a→l[k]?=some b→b.1≠a.1) (by omega) ⟨⟨[],rfl,fun z=>⟨fun h=>(by cases h),fun ⟨k,b,hk,_⟩=>by omega⟩⟩,fun k' k a b hk=>by omega⟩ ?_ ?_) ?_)
 ·rintro i _ hi ⟨⟨m,rfl,hm⟩,hp⟩
  have hx:l[i]?=some l[i]:=List.getElem?_eq_getElem hi
  generalize l[i]=s at hx
  refine zd (zR (show (i:Int) < (l.length:Int) by omega)) (zg (zx (n:=i) hx ?_))
  refine zj (fun h=>?_) (fun h=>?_)
  ·obtain ⟨k,b,hk,hb,e⟩:=(hm s.1).1 h
   exact za (zq (.inr ⟨rfl,rfl,fun hd=>hd i k s b hk hx hb e⟩))
  ·have hno:¬∃(k:Nat) (b:qO),k < i∧l[k]?=some b∧b.1=s.1:=fun he=>by
    have:=(hm s.1).2 he
    have h':mpD m s.1 false=false:=h
    rw [this] at h';cases h'
   refine za (ql ⟨⟨_,congrArg (fun z=>(((0:Int),(z,())),(_,()))) (qq (by omega)),fun z=>?_⟩,fun k' k a b hk' hk ha hb=>?_⟩)
   ·show mpD (mpP m s.1 true) z false=true↔_
    rw [zAa]
    split
    ·rename_i e
     exact ⟨fun _=>⟨i,s,by omega,hx,e⟩,fun _=>rfl⟩
    ·rename_i e
     rw [hm z]
     constructor
     ·rintro ⟨k,b,h1,h2,h3⟩;exact ⟨k,b,by omega,h2,h3⟩
     ·rintro ⟨k,b,h1,h2,h3⟩
      rcases Nat.lt_or_ge k i with hk | hk
      ·exact ⟨k,b,hk,h2,h3⟩
      ·have:k=i:=by omega
       subst this
       rw [hx] at h2;cases h2
       exact absurd h3 e
   ·rcases Nat.lt_or_ge k' i with hki | hki
    ·exact hp k' k a b hki hk ha hb
    ·have:k'=i:=by omega
     subst this
     rw [hx] at ha;cases ha
     exact fun e=>hno ⟨k,b,hk,hb,e⟩
 ·rintro _ ⟨⟨m,rfl,hm⟩,hp⟩
  exact ze (zG (show ¬(l.length:Int) < (l.length:Int) by omega)) (za (zq (.inl ⟨rfl,fun i k a b hk ha hb=>hp i k a b (by grind) hk ha hb⟩)))
 ·rintro ⟨j,⟨v,w,⟨⟩⟩,c,⟨⟩⟩ (⟨rfl,hd⟩ | ⟨rfl,rfl,hd⟩)
  ·rw [zF hd];exact zd rfl (za rfl)
  ·rw [zQ hd];exact ze rfl (za rfl)
theorem znd {t:qi} (ht:jN t) (l:List qO):QZ (t,l,())=some (Jg t l,()):=by
 rw [zk0];unfold Gr Jg
 simp only [zgR,zw,zF ht,Bool.not_true,cond_false]
 refine yb (zj (fun h=>?_) (fun h=>?_))
 ·have h:=qn h
  rw [zQ (show ¬l.length≤12 by omega)];exact za rfl
 have h12:l.length≤12:=by have:=qw h;omega
 rw [zF h12,cond_true]
 refine zk (J:=fun x=>(x.1=0∧x.2.1.1=0∧znc t l)∨(x.1=1∧x.2.1.1=321∧¬znc t l)) (qF l.length (fun i=>∀s,l[i]?=some s→Zc t s) (by omega) ?_ ?_) ?_
 ·intro i hi hp
  have hx:l[i]?=some l[i]:=List.getElem?_eq_getElem hi
  have hm:=List.getElem_mem hi
  generalize l[i]=s at hx hm
  refine zd (zR (show (i:Int) < (l.length:Int) by omega)) (zg (zx (n:=i) hx ?_))
  rw [zgV ht]
  refine zj (fun h=>?_) (fun h=>?_)
  ·exact za (zq (.inr ⟨rfl,rfl,fun hq=>ym h (hq s hm)⟩))
  ·exact za (jo (by omega) fun r' hr'=>by rw [hx] at hr';cases hr';exact xc h)
 ·intro hp
  refine ze (zG (show ¬(l.length:Int) < (l.length:Int) by omega)) (za (zq (.inl ⟨rfl,rfl,fun r hr=>?_⟩)))
  obtain ⟨k,hk,hk2⟩:=jV hr
  exact hp k hk r hk2
 rintro ⟨j,⟨v,w,⟨⟩⟩,⟨⟩⟩ (⟨rfl,rfl,hq⟩ | ⟨rfl,rfl,hq⟩)
 rotate_left
 ·rw [zQ hq];exact ze rfl (za rfl)
 rw [zF hq,cond_true]
 refine zd rfl (zk (J:=fun x=>(x.1=0∧zhy l)∨(x.1=1∧x.2.1.1=322∧¬zhy l)) (qF l.length (fun i=>∀a,l[i]?=some a→∀(k:Nat) b,k < i→l[k]?=some b→b.1≠a.1) (by omega) ?_ ?_) ?_)
 ·intro i hi hp
  have hx:l[i]?=some l[i]:=List.getElem?_eq_getElem hi
  generalize l[i]=s at hx
  refine zd (zR (show (i:Int) < (l.length:Int) by omega)) ?_
  refine zk (J:=fun x=>(x.1=0∧x.2.1.1=0∧∀(k:Nat) b,k < i→l[k]?=some b→b.1≠s.1)∨(x.1=1∧x.2.1.1=322∧¬zhy l)) (qF i (fun k=>∀b,l[k]?=some b→b.1≠s.1) (by omega) ?_ ?_) ?_
  ·intro k hk hpk
   have hy:l[k]?=some l[k]:=List.getElem?_eq_getElem (by omega)
   generalize l[k]=b at hy
   refine zd (zR (show (k:Int) < (i:Int) by omega)) (zg (zx (n:=k) hy (zg (zx (n:=i) hx ?_))))
   refine zj (fun h=>?_) (fun h=>?_)
   ·exact za (zq (.inr ⟨rfl,rfl,fun hd=>hd i k s b hk hx hy (qL h)⟩))
   ·exact za (jo (by omega) fun b' hb'=>by rw [hy] at hb';cases hb';exact jR h)
  ·intro hpk
   exact ze (zG (show ¬(i:Int) < (i:Int) by omega)) (za (zq (.inl ⟨rfl,rfl,fun k b hk=>hpk k hk b⟩)))
  ·rintro ⟨j,⟨v,w,⟨⟩⟩,⟨⟩⟩ (⟨rfl,rfl,hk⟩ | ⟨rfl,rfl,hk⟩)
   ·exact zd rfl (za (jo (by omega) fun a ha=>by rw [hx] at ha;cases ha;exact hk))
   ·exact ze rfl (za (zq (.inr ⟨rfl,rfl,hk⟩)))
 ·intro hp
  exact ze (zG (show ¬(l.length:Int) < (l.length:Int) by omega)) (za (zq (.inl ⟨rfl,fun i k a b hk ha hb=>hp i (by grind) a ha k b hk hb⟩)))
 ·rintro ⟨j,⟨v,w,⟨⟩⟩,⟨⟩⟩ (⟨rfl,hd⟩ | ⟨rfl,rfl,hd⟩)
  ·rw [zF hd];exact zd rfl (za rfl)
  ·rw [zQ hd];exact ze rfl (za rfl)
def Jh (u:Int×Int×Int×Int):Prop:=(1≤u.1∧u.1≤10000)∧(0≤u.2.1∧u.2.1≤1000)∧(0≤u.2.2.1∧u.2.2.1≤10000)∧(1542≤u.2.2.2∧u.2.2.2≤65536)
theorem zsE (u:Int×Int×Int×Int):XQ (u,())=some (tv (Jh u),()):=by
 rw [zpQ];unfold zdr
 simp only [zgb,zw]
 unfold Jh
 refine wa (zj (fun h1=>zj (fun h2=>zj (fun h3=>?_) fun h=>?_) fun h=>?_) fun h=>?_)<;>refine za ?_
 ·exact ⟨fun h=>⟨Zk h1,Zk h2,Zk h3,Zk h⟩,fun h=>zF h.2.2.2⟩
 ·exact ⟨fun h=>(by cases h),fun h2=>absurd h2.2.2.1 (gJ h)⟩
 ·exact ⟨fun h=>(by cases h),fun h2=>absurd h2.2.1 (gJ h)⟩
 ·exact ⟨fun h=>(by cases h),fun h2=>absurd h2.1 (gJ h)⟩
theorem ziu (u:Int×Int×Int×Int):uj (u,())=some (bif tv (Jh u) then 0 else 320,()):=by
 rw [zhf];unfold Vn
 simp only [Kl,zw]
 by_cases h1:1≤u.1∧u.1≤10000
 ·by_cases h2:0≤u.2.1∧u.2.1≤1000
  ·by_cases h3:0≤u.2.2.1∧u.2.2.1≤10000
   ·by_cases h4:1542≤u.2.2.2∧u.2.2.2≤65536
    ·rw [zF h1,zF h2,zF h3,zF h4,zF (show Jh u from ⟨h1,h2,h3,h4⟩)];rfl
    ·rw [zF h1,zF h2,zF h3,zQ h4,zQ (fun h:Jh u=>h4 h.2.2.2)];rfl
   ·rw [zF h1,zF h2,zQ h3,zQ (fun h:Jh u=>h3 h.2.2.1)];rfl
  ·rw [zF h1,zQ h2,zQ (fun h:Jh u=>h2 h.2.1)];rfl
 ·rw [zQ h1,zQ (fun h:Jh u=>h1 h.1)];rfl
abbrev Gts:=List (Int×Int)×Int
def zcn (e:Int×Int):Prop:=0≤e.1∧e.1≤255∧1≤e.2∧e.2≤9600000
def qG (l:List (Int×Int)):Int:=(l.map (·.2)).sum
structure qx (g:Gts):Prop where
 n0:1≤g.1.length
 n1:g.1.length≤128
 el:∀e∈g.1,zcn e
 cy:qG g.1=g.2
 c1:g.2≤9600000
theorem kz {l:List (Int×Int)} {n:Nat} {x:Int×Int} (h:l[n]?=some x):qG (l.take (n+1))=qG (l.take n)+x.2:=by
 unfold qG;rw [List.take_add_one,h];simp
theorem Qv {l:List (Int×Int)} (h:∀e∈l,zcn e):(l.length:Int)≤qG l∧qG l≤9600000*l.length:=by
 unfold qG
 induction l with
 |nil=>simp
 |cons a l ih=>
  obtain ⟨_,_,h1,h2⟩:=h a (by simp)
  have:=ih fun e he=>h e (by simp [he])
  simp only [List.map_cons,List.sum_cons,List.length_cons]
  omega
theorem zsF {g:Gts} (n1:g.1.length≤128) {α:Type} {z bad:α} {B:((α×(Int×(Int×Unit)))×Unit)→Option ((Nat×((α×(Int×(Int×Unit)))×Unit)) ⊕ ((α×(Int×(Int×Unit)))×Unit))}
  (hB
    : B=fun s1=>bif (zh (s1.1.2.2.1) ((((g.1).length:Nat):Int))) then opt (atI (g.1) (s1.1.2.2.1)) fun x2=>
    opt (bif (zh (x2.1) (0)) then some (1,((bad,()),()))
     else bif (zh (255) (x2.1)) then some (1,((bad,()),()))
      else bif (zh (x2.2) (1)) then some (1,((bad,()),()))
       else bif (zh (9600000) (x2.2)) then some (1,((bad,()),()))
        else some (0,((s1.1.1,()),()))) fun x3=>
    bif (Nat.beq x3.1 0) then some (.inr ((x3.2.1.1,((wrF .i64 ((s1.1.2.1+x2.2))),((wrF .i64 ((s1.1.2.2.1+1))),()))),()))
    else some (.inl (1,((x3.2.1.1,(s1.1.2.1,(s1.1.2.2.1,()))),())))
   else some (.inl (0,((s1.1.1,(s1.1.2.1,(s1.1.2.2.1,()))),())))) :
  qu (zC B zK ((z,(0,(0,()))),())) fun x=>(x.1=0∧x.2.1.1=z∧x.2.1.2.1=qG g.1∧∀e∈g.1,zcn e)∨(x.1=1∧x.2.1.1=bad∧¬∀e∈g.1,zcn e):=by
 subst hB
 refine zW g.1.length (fun i s=>s=((z,(qG (g.1.take i),((i:Int),()))),())∧∀e∈g.1.take i,zcn e) (by omega) ⟨rfl,fun e he=>by simp at he⟩ ?_ ?_
 ·rintro i _ hi ⟨rfl,hp⟩
  have hx:g.1[i]?=some g.1[i]:=List.getElem?_eq_getElem hi
  have hm:=List.getElem_mem hi
  generalize g.1[i]=e at hx hm
  refine zd (zR (show (i:Int) < (g.1.length:Int) by omega)) (zg (zx (n:=i) hx ?_))
  refine zk (J:=fun x=>(x.1=0∧x.2.1.1=z∧zcn e)∨(x.1=1∧x.2.1.1=bad∧¬zcn e)) ?_ ?_
  ·refine zj (fun h=>za (.inr ⟨rfl,rfl,fun hs=>?_⟩)) fun h1=>zj (fun h=>za (.inr ⟨rfl,rfl,fun hs=>?_⟩)) fun h2=>zj (fun h=>za (.inr ⟨rfl,rfl,fun hs=>?_⟩)) fun h3=>zj (fun h=>za (.inr ⟨rfl,rfl,fun hs=>?_⟩)) fun h4=>za (.inl ⟨rfl,rfl,?_⟩)
   ·have:=qn h;have:=hs.1;omega
   ·have:=qn h;have:=hs.2.1;omega
   ·have:=qn h;have:=hs.2.2.1;omega
   ·have:=qn h;have:=hs.2.2.2;omega
   ·exact ⟨qw h1,qw h2,qw h3,qw h4⟩
  ·rintro ⟨j,⟨v,⟨⟩⟩,⟨⟩⟩ (⟨rfl,rfl,he⟩ | ⟨rfl,rfl,he⟩)
   ·have hb:=Qv hp
    have hl:(g.1.take i).length=i:=by simp;omega
    have e1:wrF .i64 (qG (g.1.take i)+e.2)=qG (g.1.take (i+1)):=by
     rw [kz hx,zD]<;>(have:=he.2.2.1;have:=he.2.2.2;omega)
    refine zd rfl (za (ql ⟨?_,fun e' he'=>?_⟩))
    ·rw [←e1,←qq (by omega)]
    ·rw [List.take_add_one,hx] at he'
     simp only [Option.toList,List.mem_append,List.mem_singleton] at he'
     rcases he' with h | rfl
     ·exact hp e' h
     ·exact he
   ·exact ze rfl (za (zq (.inr ⟨rfl,rfl,fun h=>he (h e hm)⟩)))
 ·rintro _ ⟨rfl,hp⟩
  refine ze (zG (show ¬(g.1.length:Int) < (g.1.length:Int) by omega)) (za (zq (.inl ⟨rfl,rfl,?_,?_⟩)))
  ·show qG (g.1.take g.1.length)=_
   rw [List.take_length]
  ·rw [List.take_length] at hp;exact hp
theorem zbm (g:Gts):yY (g,())=some (bif tv (qx g) then 0 else 370,()):=by
 have bad:∀{v:Int},¬qx g→v=370→v=bif tv (qx g) then 0 else 370:=fun h e=>by rw [zQ h,e];rfl
 rw [zpN];unfold zdm
 refine yb (zk (J:=fun x=>(x.1=0∧x.2.1.1=0∧1≤g.1.length∧g.1.length≤128)∨(x.1=1∧x.2.1.1=370∧¬qx g)) ?_ ?_)
 ·refine zj (fun h=>za (.inr ⟨rfl,rfl,fun hs=>?_⟩)) fun h1=>zj (fun h=>za (.inr ⟨rfl,rfl,fun hs=>?_⟩)) fun h2=>za (.inl ⟨rfl,rfl,?_⟩)
  ·have:=qn h;have:=hs.n0;omega
  ·have:=qn h;have:=hs.n1;omega
  ·have:=qw h1;have:=qw h2;omega
 rintro ⟨j,⟨v,⟨⟩⟩,⟨⟩⟩ (⟨rfl,rfl,n0,n1⟩ | ⟨rfl,rfl,hq⟩)
 rotate_left
 ·exact ze rfl (za (bad hq rfl))
 refine zd rfl (zk (zsF n1 rfl) ?_)
 rintro ⟨j,⟨v,w,z,⟨⟩⟩,⟨⟩⟩ (⟨rfl,rfl,rfl,he⟩ | ⟨rfl,rfl,he⟩)
 rotate_left
 ·exact ze rfl (za (bad (fun h=>he h.el) rfl))
 refine zd rfl (zk (J:=fun x=>(x.1=0∧qx g)∨(x.1=1∧x.2.1.1=370∧¬qx g)) ?_ ?_)
 ·refine zj (fun h=>za (.inr ⟨rfl,rfl,fun hs=>?_⟩)) fun h1=>zj (fun h=>za (.inr ⟨rfl,rfl,fun hs=>?_⟩)) fun h2=>za (.inl ⟨rfl,n0,n1,he,qL (by simpa using h1),?_⟩)
  ·rw [uh hs.cy] at h;cases h
  ·have:=qn h;have:=hs.c1;have:=hs.cy;simp only at *;omega
  ·have:=qw h2
   have:qG g.1=g.2:=qL (by simpa using h1)
   simp only at *;omega
 ·rintro ⟨j,⟨v,⟨⟩⟩,⟨⟩⟩ (⟨rfl,hq⟩ | ⟨rfl,rfl,hq⟩)
  ·rw [zF hq];exact zd rfl (za rfl)
  ·exact ze rfl (za (bad hq rfl))
theorem zgW (g:Gts):gv (g,())=some (tv (qx g),()):=by
 rw [zpR];unfold zdu
 refine wa (zk (J:=fun x=>(x.1=0∧x.2.1.1=false∧1≤g.1.length∧g.1.length≤128)∨(x.1=1∧x.2.1.1=false∧¬qx g)) ?_ ?_)
 ·refine zj (fun h=>za (.inr ⟨rfl,rfl,fun hs=>?_⟩)) fun h1=>zj (fun h=>za (.inr ⟨rfl,rfl,fun hs=>?_⟩)) fun h2=>za (.inl ⟨rfl,rfl,?_⟩)
  ·have:=qn h;have:=hs.n0;omega
  ·have:=qn h;have:=hs.n1;omega
  ·have:=qw h1;have:=qw h2;omega
 rintro ⟨j,⟨v,⟨⟩⟩,⟨⟩⟩ (⟨rfl,rfl,n0,n1⟩ | ⟨rfl,rfl,hq⟩)
 rotate_left
 ·exact ze rfl (za ⟨fun h=>(by cases h),fun h=>absurd h hq⟩)
 refine zd rfl (zk (zsF n1 rfl) ?_)
 rintro ⟨j,⟨v,w,z,⟨⟩⟩,⟨⟩⟩ (⟨rfl,rfl,rfl,he⟩ | ⟨rfl,rfl,he⟩)
 rotate_left
 ·exact ze rfl (za ⟨fun h=>(by cases h),fun h=>absurd h.el he⟩)
 refine zd rfl (zj (fun h1=>?_) (fun h1=>?_))
 ·have h1:qG g.1=g.2:=qL h1
  refine za ⟨fun h2=>⟨n0,n1,he,h1,?_⟩,fun hs=>?_⟩
  ·have h2:(!zh 9600000 (qG g.1))=true:=h2
   have:=qw (show zh 9600000 (qG g.1)=false by simpa using h2)
   omega
  ·show (!zh 9600000 (qG g.1))=true
   rw [zG (by have:=hs.c1;omega)];rfl
 ·exact za ⟨fun h=>(by cases h),fun h=>absurd h.cy (jR h1)⟩
abbrev Fab:=qi×(Int×Int×Int×Int)×List Gts×Int
def zjG (n:Fab):Prop:=∀g∈n.2.2.1,qx g
def zne (n:Fab):Prop:=(n.2.2.1.length:Int)=2*(n.1.2.2.length:Int)∧84≤n.2.2.2∧n.2.2.2≤1542
noncomputable def Jz (n:Fab):Int:=bif tv (jN n.1) then bif tv (Jh n.2.1) then bif tv (zjG n) then bif tv (zne n) then 0 else 410 else 370 else 320 else 260
structure zjH (n:Fab):Prop where
 t:jN n.1
 u:Jh n.2.1
 g:zjG n
 f:zne n
theorem zsG {n:Fab} (h:Jz n=0):zjH n:=by
 unfold Jz at h
 by_cases h1:jN n.1
 ·by_cases h2:Jh n.2.1
  ·by_cases h3:zjG n
   ·by_cases h4:zne n
    ·exact ⟨h1,h2,h3,h4⟩
    ·rw [zF h1,zF h2,zF h3,zQ h4] at h;cases h
   ·rw [zF h1,zF h2,zQ h3] at h;cases h
  ·rw [zF h1,zQ h2] at h;cases h
 ·rw [zQ h1] at h;cases h
theorem zsH {n:Fab} (hl:n.1.2.2.length≤24):qu (bif (!(zi ((((n.2.2.1).length:Nat):Int)) ((wrF .i64 ((2*(((n.1.2.2).length:Nat):Int))))))) then some ((1:Nat),(((410:Int),()),()))
     else bif (zh (n.2.2.2) (84)) then some (1,((410,()),()))
      else bif (zh (1542) (n.2.2.2)) then some (1,((410,()),()))
       else some (0,((0,()),()))) fun x=>(x.1=0∧x.2.1.1=0∧zne n)∨(x.1=1∧x.2.1.1=410∧¬zne n):=by
 rw [tw n.1 (by omega)]
 refine zj (fun h=>za (.inr ⟨rfl,rfl,fun hs=>?_⟩)) fun h1=>zj (fun h=>za (.inr ⟨rfl,rfl,fun hs=>?_⟩)) fun h2=>zj (fun h=>za (.inr ⟨rfl,rfl,fun hs=>?_⟩)) fun h3=>za (.inl ⟨rfl,rfl,?_⟩)
 ·rw [uh hs.1] at h;cases h
 ·have:=qn h;have:=hs.2.1;omega
 ·have:=qn h;have:=hs.2.2;omega
 ·exact ⟨qL (by simpa using h1),qw h2,qw h3⟩
theorem GW {n:Fab} (hn:n.2.2.1.length≤1000000000000000000):yk (n,())=some (Jz n,()):=by
 rw [zhg];unfold Vo Jz
 simp only [YL,zw]
 by_cases ht:jN n.1
 rotate_left
 ·rw [zQ ht];rfl
 rw [zF ht]
 simp only [cond_true,ziu,zw]
 rw [show (!zi 0 0)=false from rfl,cond_false]
 by_cases hu:Jh n.2.1
 rotate_left
 ·rw [zQ hu];rfl
 rw [zF hu]
 simp only [cond_true]
 rw [show (!zi 0 0)=false from rfl,cond_false]
 refine yb (zk (J:=fun x=>(x.1=0∧x.2.1.1=0∧zjG n)∨(x.1=1∧x.2.1.1=370∧¬zjG n)) (qF n.2.2.1.length (fun i=>∀g,n.2.2.1[i]?=some g→qx g) hn ?_ ?_) ?_)
 ·intro i hi hp
  have hx:n.2.2.1[i]?=some n.2.2.1[i]:=List.getElem?_eq_getElem hi
  have hm:=List.getElem_mem hi
  generalize n.2.2.1[i]=g at hx hm
  refine zd (zR (show (i:Int) < (n.2.2.1.length:Int) by omega)) (zg (zx (n:=i) hx ?_))
  rw [zbm,zw]
  by_cases hg:qx g
  ·rw [zF hg]
   exact ze rfl (za (jo (by omega) fun r' hr'=>by rw [hx] at hr';cases hr';exact hg))
  ·rw [zQ hg]
   exact zd rfl (za (zq (.inr ⟨rfl,rfl,fun hq=>hg (hq g hm)⟩)))
 ·intro hp
  refine ze (zG (show ¬(n.2.2.1.length:Int) < (n.2.2.1.length:Int) by omega)) (za (zq (.inl ⟨rfl,rfl,fun r hr=>?_⟩)))
  obtain ⟨k,hk,hk2⟩:=jV hr
  exact hp k hk r hk2
 ·rintro ⟨j,⟨v,w,⟨⟩⟩,⟨⟩⟩ (⟨rfl,rfl,hq⟩ | ⟨rfl,rfl,hq⟩)
  ·rw [zF hq]
   refine zd rfl (zk (zsH ht.sz.ls) ?_)
   rintro ⟨j,⟨v,⟨⟩⟩,⟨⟩⟩ (⟨rfl,rfl,hf⟩ | ⟨rfl,rfl,hf⟩)
   ·rw [zF hf];exact zd rfl (za rfl)
   ·rw [zQ hf];exact ze rfl (za rfl)
  ·rw [zQ hq];exact ze rfl (za rfl)
theorem ziv {n:Fab} (hn:n.2.2.1.length≤1000000000000000000):gK (n,())=some (Jz n,()):=by
 rw [zhh];unfold Vp Jz
 simp only [zgR,zw]
 by_cases ht:jN n.1
 rotate_left
 ·rw [zQ ht];rfl
 rw [zF ht]
 simp only [Bool.not_true,cond_false,cond_true,zsE,zw]
 by_cases hu:Jh n.2.1
 rotate_left
 ·rw [zQ hu];rfl
 rw [zF hu]
 simp only [Bool.not_true,cond_false,cond_true]
 refine yb (zk (J:=fun x=>(x.1=0∧x.2.1.1=0∧zjG n)∨(x.1=1∧x.2.1.1=370∧¬zjG n)) (qF n.2.2.1.length (fun i=>∀g,n.2.2.1[i]?=some g→qx g) hn ?_ ?_) ?_)
 ·intro i hi hp
  have hx:n.2.2.1[i]?=some n.2.2.1[i]:=List.getElem?_eq_getElem hi
  have hm:=List.getElem_mem hi
  generalize n.2.2.1[i]=g at hx hm
  refine zd (zR (show (i:Int) < (n.2.2.1.length:Int) by omega)) (zg (zx (n:=i) hx ?_))
  rw [zgW,zw]
  by_cases hg:qx g
  ·rw [zF hg]
   exact ze rfl (za (jo (by omega) fun r' hr'=>by rw [hx] at hr';cases hr';exact hg))
  ·rw [zQ hg]
   exact zd rfl (za (zq (.inr ⟨rfl,rfl,fun hq=>hg (hq g hm)⟩)))
 ·intro hp
  refine ze (zG (show ¬(n.2.2.1.length:Int) < (n.2.2.1.length:Int) by omega)) (za (zq (.inl ⟨rfl,rfl,fun r hr=>?_⟩)))
  obtain ⟨k,hk,hk2⟩:=jV hr
  exact hp k hk r hk2
 ·rintro ⟨j,⟨v,w,⟨⟩⟩,⟨⟩⟩ (⟨rfl,rfl,hq⟩ | ⟨rfl,rfl,hq⟩)
  ·rw [zF hq]
   refine zd rfl (zk (zsH ht.sz.ls) ?_)
   rintro ⟨j,⟨v,⟨⟩⟩,⟨⟩⟩ (⟨rfl,rfl,hf⟩ | ⟨rfl,rfl,hf⟩)
   ·rw [zF hf];exact zd rfl (za rfl)
   ·rw [zQ hf];exact ze rfl (za rfl)
  ·rw [zQ hq];exact ze rfl (za rfl)
end Go.Proofs.YtplhphmbkmpocaaGreat.ad
end
