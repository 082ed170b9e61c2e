/- Parts of a proof, joined. -/
import Derived.Test.YtplhphmbkmpocaaGreatE94
set_option linter.unusedSectionVars false
set_option linter.unusedVariables false
set_option linter.unusedSimpArgs false
set_option maxHeartbeats 0
set_option maxRecDepth 100000
noncomputable section
namespace Go.Proofs.YtplhphmbkmpocaaGreat.ad
open Go Go.Fz Go.Fz.Sy
abbrev cdF (t:Ty):zlc:=⟨t,WL t,[]⟩
abbrev zeG:List VT:=[⟨false,(.list (.int .u8))⟩,⟨false,I⟩]
abbrev zeH:List VT:=[⟨false,I⟩]
def zuy:zW:=zN [] [] [] [] []
def zeI (a0:(List Int)) (a1:Int):Option (Int×Unit):=
 bif (zi a1 ((a0.length:Nat):Int)) then opt (atI a0 a1) fun x0=>
  some ((wrF .i64 x0),())
 else some (0,())
abbrev GX:Type:=((List Int)×Int×Unit)→Option (Int×Unit)
def zlh:GX:=sF Tryz.prog [] zuy (zM []) 30 62 zeG zeH
theorem zw8 (a0) (a1):zlh (a0,a1,())=zeI a0 a1:=by kernel_rfl
def kh:GX:=zlh
theorem zqw:Con.Ok Tryz.prog 62 ⟨zeG,zeH,kh⟩:=zx zn zq (by kernel_rfl)
theorem zqx (a0) (a1):kh (a0,a1,())=zeI  a0 a1:=zw8  a0 a1
abbrev zeJ:List VT:=[⟨true,zG⟩,⟨false,I⟩]
abbrev zeK:List VT:=[⟨false,.bool⟩]
def zuz:zW:=zN [cdF zG,cdF qc] [] [] [] []
def zeL (a0:zO) (a1:Int):Option (Bool×Unit):=
 bif !(zi a1 0) then some ((zi a1 a0.1),())
 else some (false,())
abbrev GY:Type:=(zO×Int×Unit)→Option (Bool×Unit)
def zli:GY:=sF Tryz.prog [] zuz (zM []) 30 97 zeJ zeK
theorem zw9 (a0) (a1):zli (a0,a1,())=zeL a0 a1:=by kernel_rfl
def WO:GY:=zli
theorem zqy:Con.Ok Tryz.prog 97 ⟨zeJ,zeK,WO⟩:=zx zn zq (by kernel_rfl)
theorem zqz (a0) (a1):WO (a0,a1,())=zeL  a0 a1:=zw9  a0 a1
abbrev zeM:List VT:=[⟨true,zG⟩,⟨true,qc⟩]
abbrev zeN:List VT:=[⟨false,.bool⟩]
def zuA:zW:=zN [cdF zG,cdF qc] [] [] [] [97]
def zeO (QO:GY) (a0:zO) (a1:Gp):Option (Bool×Unit):=
 opt (opt (QO (a0,(a1.1,()))) fun x0=>
  bif !x0.1 then some (1,((false,()),()))
  else opt (QO (a0,(a1.2.1,()))) fun x1=>
   bif !x1.1 then some (1,((false,()),()))
   else bif zo a1.1 a1.2.1 then some (1,((false,()),()))
    else opt (atI a0.2.1 a1.1) fun x2=>
     bif x2 then opt (atI a0.2.1 a1.2.1) fun x3=>
      bif x3 then some (1,((false,()),()))
      else some (0,((false,()),()))
     else some (0,((false,()),()))) fun x4=>
 bif Nat.beq x4.1 0 then bif !(zi a1.2.2.1 1) then bif !(zi 1000 a1.2.2.1) then bif !(zi a1.2.2.2 0) then some ((!(zi 10000 a1.2.2.2)),())
    else some (false,())
   else some (false,())
  else some (false,())
 else some (x4.2.1.1,())
abbrev GZ:Type:=(zO×Gp×Unit)→Option (Bool×Unit)
def zlj:GY→GZ:=fun QO=>sF Tryz.prog [(97,⟨zeJ,zeK,QO⟩)] zuA (zM []) 30 68 zeM zeN
theorem zxa (QO) (a0) (a1):zlj QO (a0,a1,())=zeO QO a0 a1:=by kernel_rfl
def Qp:GZ:=zlj WO
theorem zqA:Con.Ok Tryz.prog 68 ⟨zeM,zeN,Qp⟩:=zx (zd zqy zn) zq (by kernel_rfl)
theorem zqB (a0) (a1):Qp (a0,a1,())=zeO WO a0 a1:=zxa WO a0 a1
abbrev zcN:List VT:=[⟨true,qc⟩,⟨false,I⟩,⟨false,I⟩]
abbrev zcO:List VT:=[⟨false,.bool⟩]
def zsB:zW:=zN [cdF qc] [] [] [] []
def zcP (a0:Gp) (a1:Int) (a2:Int):Option (Bool×Unit):=
 bif zo a0.1 a1 then bif zo a0.2.1 a2 then some (true,())
  else bif zo a0.1 a2 then some ((zo a0.2.1 a1),())
   else some (false,())
 else bif zo a0.1 a2 then some ((zo a0.2.1 a1),())
  else some (false,())
abbrev KU:Type:=(Gp×Int×Int×Unit)→Option (Bool×Unit)
def zje:KU:=sF Tryz.prog [] zsB (zM []) 30 69 zcN zcO
theorem zuB (a0) (a1) (a2):zje (a0,a1,a2,())=zcP a0 a1 a2:=by kernel_rfl
def kV:KU:=zje
theorem zoH:Con.Ok Tryz.prog 69 ⟨zcN,zcO,kV⟩:=zx zn zq (by kernel_rfl)
theorem zoI (a0) (a1) (a2):kV (a0,a1,a2,())=zcP  a0 a1 a2:=zuB  a0 a1 a2
abbrev JT:List VT:=[⟨true,xH⟩]
abbrev JU:List VT:=[⟨true,zG⟩]
def zjV:zW:=zN [cdF xH,⟨zG,WL zG,[1,2]⟩,cdF qc] [] [⟨5,141,none,.bool,true⟩,⟨9,141,none,.bool,true⟩,⟨13,141,none,.bool,true⟩,⟨16,141,none,.bool,true⟩,⟨19,141,none,.bool,true⟩,⟨21,141,none,.bool,true⟩,⟨24,141,none,.bool,true⟩,⟨3,59,none,qc,true⟩,⟨6,59,none,qc,true⟩,⟨8,59,none,qc,true⟩] [(5,141,5,[1,2]),(9,141,5,[2]),(13,141,5,[2]),(16,141,5,[2]),(19,141,5,[2]),(21,141,5,[2]),(24,141,5,[2]),(5,141,5,[1])] [62,68,69]
def Vp (jB:GX) (ue:GZ) (wj:KU) (a0:YN):Option (zO×Unit):=
 opt (zI (fun s0:((Unit×(Int×Unit))×((Int×((List Bool)×((List (Int×(Int×(Int×Int))))×Unit)))×Unit))=>
  bif zi s0.1.2.1 s0.2.1.1 then bif (qE s0.2.1.2.1.length (((!(zi s0.1.2.1 (wrF .i64 (1+(wrF .i64 (Int.tmod a0.1 6))))))::[]).length) 1) then some (.inr (((),((wrF .i64 (s0.1.2.1+1)),())),((s0.2.1.1,((s0.2.1.2.1++((!(zi s0.1.2.1 (wrF .i64 (1+(wrF .i64 (Int.tmod a0.1 6))))))::[])),(s0.2.1.2.2.1,()))),())))
   else none
  else some (.inl (0,(((),(s0.1.2.1,())),((s0.2.1.1,(s0.2.1.2.1,(s0.2.1.2.2.1,()))),()))))) zQ (((),(0,())),(((wrF .i64 ((wrF .i64 (1+(wrF .i64 (Int.tmod a0.1 6))))+(wrF .i64 (2+(wrF .i64 (Int.tmod a0.2.1 5)))))),([],([],()))),()))) fun x1=>
 opt (zI (fun s2:(((Int×(Int×((List Int)×((List Int)×((List Int)×(List Int))))))×(Unit×(Int×Unit)))×((Int×((List Bool)×((List (Int×(Int×(Int×Int))))×Unit)))×Unit))=>
  bif (zi s2.1.2.2.1 (wrF .i64 (1+(wrF .i64 (Int.tmod a0.1 6))))) then opt (jB (s2.1.1.2.2.2.2.1,(((s2.2.1.2.2.1.length:Nat):Int),()))) fun x3=>
   opt (jB (s2.1.1.2.2.2.2.2,(((s2.2.1.2.2.1.length:Nat):Int),()))) fun x4=>
   bif (zo ((s2.2.1.2.2.1.length:Nat):Int) 24) then some (.inr ((s2.1.1,((),((wrF .i64 (s2.1.2.2.1+1)),()))),((s2.2.1.1,(s2.2.1.2.1,(s2.2.1.2.2.1,()))),())))
   else opt (ue ((s2.2.1.1,(s2.2.1.2.1,s2.2.1.2.2.1)),(((wrF .i64 (s2.1.2.2.1 - 1)),(s2.1.2.2.1,((wrF .i64 (1+(Int.tmod x3.1 20))),(Int.tmod x4.1 50)))),()))) fun x5=>
    bif !x5.1 then some (.inr ((s2.1.1,((),((wrF .i64 (s2.1.2.2.1+1)),()))),((s2.2.1.1,(s2.2.1.2.1,(s2.2.1.2.2.1,()))),())))
    else opt (zI (fun s6:(((Int×((List Bool)×(List (Int×(Int×(Int×Int))))))×(Int×Unit))×Unit)=>
      bif (zi s6.1.2.1 ((s2.2.1.2.2.1.length:Nat):Int)) then opt (atI s2.2.1.2.2.1 s6.1.2.1) fun x7=>
       opt (gl s2.2.1.2.2.1 (Int.toNat s6.1.2.1)) fun x8=>
       opt (wj (x8,((wrF .i64 (s2.1.2.2.1 - 1)),(s2.1.2.2.1,())))) fun x9=>
       bif x9.1 then some (.inl s6)
       else some (.inr ((s6.1.1,((wrF .i64 (s6.1.2.1+1)),())),()))
      else some (.inl s6)) zQ (((0,([],[])),(0,())),())) fun x10=>
     bif (zi x10.1.2.1 ((s2.2.1.2.2.1.length:Nat):Int)) then opt (atI s2.2.1.2.2.1 x10.1.2.1) fun x11=>
      opt (gl s2.2.1.2.2.1 (Int.toNat x10.1.2.1)) fun x12=>
      opt (wj (x12,((wrF .i64 (s2.1.2.2.1 - 1)),(s2.1.2.2.1,())))) fun x13=>
      bif x13.1 then some (.inr ((s2.1.1,((),((wrF .i64 (s2.1.2.2.1+1)),()))),((s2.2.1.1,(s2.2.1.2.1,(s2.2.1.2.2.1,()))),())))
      else none
     else bif (qE s2.2.1.2.2.1.length ((((wrF .i64 (s2.1.2.2.1 - 1)),(s2.1.2.2.1,((wrF .i64 (1+(Int.tmod x3.1 20))),(Int.tmod x4.1 50))))::[]).length) 32) then some (.inr ((s2.1.1,((),((wrF .i64 (s2.1.2.2.1+1)),()))),((s2.2.1.1,(s2.2.1.2.1,((s2.2.1.2.2.1++(((wrF .i64 (s2.1.2.2.1 - 1)),(s2.1.2.2.1,((wrF .i64 (1+(Int.tmod x3.1 20))),(Int.tmod x4.1 50))))::[])),()))),())))
      else none
  else some (.inl (0,((s2.1.1,((),(s2.1.2.2.1,()))),((s2.2.1.1,(s2.2.1.2.1,(s2.2.1.2.2.1,()))),()))))) zQ ((a0,((),(1,()))),((x1.2.2.1.1,(x1.2.2.1.2.1,(x1.2.2.1.2.2.1,()))),()))) fun x14=>
 opt (zI (fun s15:(((Int×(Int×((List Int)×((List Int)×((List Int)×(List Int))))))×(Unit×(Int×Unit)))×((Int×((List Bool)×((List (Int×(Int×(Int×Int))))×Unit)))×Unit))=>
  bif (zi s15.1.2.2.1 (wrF .i64 (2+(wrF .i64 (Int.tmod a0.2.1 5))))) then opt (jB (s15.1.1.2.2.2.1,((wrF .i64 (2*s15.1.2.2.1)),()))) fun x16=>
   bif (zo (wrF .i64 (1+(wrF .i64 (Int.tmod a0.1 6)))) 0) then none
   else opt (jB (s15.1.1.2.2.2.2.1,(((s15.2.1.2.2.1.length:Nat):Int),()))) fun x17=>
    opt (jB (s15.1.1.2.2.2.2.2,(((s15.2.1.2.2.1.length:Nat):Int),()))) fun x18=>
    bif (zo ((s15.2.1.2.2.1.length:Nat):Int) 24) then some (.inr ((s15.1.1,((),((wrF .i64 (s15.1.2.2.1+1)),()))),((s15.2.1.1,(s15.2.1.2.1,(s15.2.1.2.2.1,()))),())))
    else opt (ue ((s15.2.1.1,(s15.2.1.2.1,s15.2.1.2.2.1)),(((wrF .i64 ((wrF .i64 (1+(wrF .i64 (Int.tmod a0.1 6))))+s15.1.2.2.1)),((Int.tmod x16.1 (wrF .i64 (1+(wrF .i64 (Int.tmod a0.1 6))))),((wrF .i64 (1+(Int.tmod x17.1 20))),(Int.tmod x18.1 50)))),()))) fun x19=>
     bif !x19.1 then some (.inr ((s15.1.1,((),((wrF .i64 (s15.1.2.2.1+1)),()))),((s15.2.1.1,(s15.2.1.2.1,(s15.2.1.2.2.1,()))),())))
     else opt (zI (fun s20:(((Int×((List Bool)×(List (Int×(Int×(Int×Int))))))×(Int×Unit))×Unit)=>
       bif (zi s20.1.2.1 ((s15.2.1.2.2.1.length:Nat):Int)) then opt (atI s15.2.1.2.2.1 s20.1.2.1) fun x21=>
        opt (gl s15.2.1.2.2.1 (Int.toNat s20.1.2.1)) fun x22=>
        opt (wj (x22,((wrF .i64 ((wrF .i64 (1+(wrF .i64 (Int.tmod a0.1 6))))+s15.1.2.2.1)),((Int.tmod x16.1 (wrF .i64 (1+(wrF .i64 (Int.tmod a0.1 6))))),())))) fun x23=>
        bif x23.1 then some (.inl s20)
        else some (.inr ((s20.1.1,((wrF .i64 (s20.1.2.1+1)),())),()))
       else some (.inl s20)) zQ (((0,([],[])),(0,())),())) fun x24=>
      bif (zi x24.1.2.1 ((s15.2.1.2.2.1.length:Nat):Int)) then opt (atI s15.2.1.2.2.1 x24.1.2.1) fun x25=>
       opt (gl s15.2.1.2.2.1 (Int.toNat x24.1.2.1)) fun x26=>
       opt (wj (x26,((wrF .i64 ((wrF .i64 (1+(wrF .i64 (Int.tmod a0.1 6))))+s15.1.2.2.1)),((Int.tmod x16.1 (wrF .i64 (1+(wrF .i64 (Int.tmod a0.1 6))))),())))) fun x27=>
       bif x27.1 then some (.inr ((s15.1.1,((),((wrF .i64 (s15.1.2.2.1+1)),()))),((s15.2.1.1,(s15.2.1.2.1,(s15.2.1.2.2.1,()))),())))
       else none
      else bif (qE s15.2.1.2.2.1.length ((((wrF .i64 ((wrF .i64 (1+(wrF .i64 (Int.tmod a0.1 6))))+s15.1.2.2.1)),((Int.tmod x16.1 (wrF .i64 (1+(wrF .i64 (Int.tmod a0.1 6))))),((wrF .i64 (1+(Int.tmod x17.1 20))),(Int.tmod x18.1 50))))::[]).length) 32) then some (.inr ((s15.1.1,((),((wrF .i64 (s15.1.2.2.1+1)),()))),((s15.2.1.1,(s15.2.1.2.1,((s15.2.1.2.2.1++(((wrF .i64 ((wrF .i64 (1+(wrF .i64 (Int.tmod a0.1 6))))+s15.1.2.2.1)),((Int.tmod x16.1 (wrF .i64 (1+(wrF .i64 (Int.tmod a0.1 6))))),((wrF .i64 (1+(Int.tmod x17.1 20))),(Int.tmod x18.1 50))))::[])),()))),())))
       else none
  else some (.inl (0,((s15.1.1,((),(s15.1.2.2.1,()))),((s15.2.1.1,(s15.2.1.2.1,(s15.2.1.2.2.1,()))),()))))) zQ ((x14.2.1.1,((),(0,()))),((x14.2.2.1.1,(x14.2.2.1.2.1,(x14.2.2.1.2.2.1,()))),()))) fun x28=>
 opt (bif (zi 2 (wrF .i64 (1+(wrF .i64 (Int.tmod a0.1 6))))) then bif zo (Int.tmod x28.2.1.1.1 2) 0 then opt (jB (x28.2.1.1.2.2.2.2.1,(((x28.2.2.1.2.2.1.length:Nat):Int),()))) fun x29=>
    opt (jB (x28.2.1.1.2.2.2.2.2,(((x28.2.2.1.2.2.1.length:Nat):Int),()))) fun x30=>
    bif (zo ((x28.2.2.1.2.2.1.length:Nat):Int) 24) then some (0,((x28.2.1.1,((),())),((x28.2.2.1.1,(x28.2.2.1.2.1,(x28.2.2.1.2.2.1,()))),())))
    else opt (ue ((x28.2.2.1.1,(x28.2.2.1.2.1,x28.2.2.1.2.2.1)),(((wrF .i64 ((wrF .i64 (1+(wrF .i64 (Int.tmod a0.1 6)))) - 1)),(0,((wrF .i64 (1+(Int.tmod x29.1 20))),(Int.tmod x30.1 50)))),()))) fun x31=>
     bif !x31.1 then some (0,((x28.2.1.1,((),())),((x28.2.2.1.1,(x28.2.2.1.2.1,(x28.2.2.1.2.2.1,()))),())))
     else opt (zI (fun s32:(((Int×((List Bool)×(List (Int×(Int×(Int×Int))))))×(Int×Unit))×Unit)=>
       bif (zi s32.1.2.1 ((x28.2.2.1.2.2.1.length:Nat):Int)) then opt (atI x28.2.2.1.2.2.1 s32.1.2.1) fun x33=>
        opt (gl x28.2.2.1.2.2.1 (Int.toNat s32.1.2.1)) fun x34=>
        opt (wj (x34,((wrF .i64 ((wrF .i64 (1+(wrF .i64 (Int.tmod a0.1 6)))) - 1)),(0,())))) fun x35=>
        bif x35.1 then some (.inl s32)
        else some (.inr ((s32.1.1,((wrF .i64 (s32.1.2.1+1)),())),()))
       else some (.inl s32)) zQ (((0,([],[])),(0,())),())) fun x36=>
      bif (zi x36.1.2.1 ((x28.2.2.1.2.2.1.length:Nat):Int)) then opt (atI x28.2.2.1.2.2.1 x36.1.2.1) fun x37=>
       opt (gl x28.2.2.1.2.2.1 (Int.toNat x36.1.2.1)) fun x38=>
       opt (wj (x38,((wrF .i64 ((wrF .i64 (1+(wrF .i64 (Int.tmod a0.1 6)))) - 1)),(0,())))) fun x39=>
       bif x39.1 then some (0,((x28.2.1.1,((),())),((x28.2.2.1.1,(x28.2.2.1.2.1,(x28.2.2.1.2.2.1,()))),())))
       else none
      else bif (qE x28.2.2.1.2.2.1.length ((((wrF .i64 ((wrF .i64 (1+(wrF .i64 (Int.tmod a0.1 6)))) - 1)),(0,((wrF .i64 (1+(Int.tmod x29.1 20))),(Int.tmod x30.1 50))))::[]).length) 32) then some (0,((x28.2.1.1,((),())),((x28.2.2.1.1,(x28.2.2.1.2.1,((x28.2.2.1.2.2.1++(((wrF .i64 ((wrF .i64 (1+(wrF .i64 (Int.tmod a0.1 6)))) - 1)),(0,((wrF .i64 (1+(Int.tmod x29.1 20))),(Int.tmod x30.1 50))))::[])),()))),())))
       else none
   else some (0,((x28.2.1.1,((),())),((x28.2.2.1.1,(x28.2.2.1.2.1,(x28.2.2.1.2.2.1,()))),())))
  else some (0,((x28.2.1.1,((),())),((x28.2.2.1.1,(x28.2.2.1.2.1,(x28.2.2.1.2.2.1,()))),())))) fun x40=>
 opt (zI (fun s41:(((Int×(Int×((List Int)×((List Int)×((List Int)×(List Int))))))×(Unit×(Int×Unit)))×((Int×((List Bool)×((List (Int×(Int×(Int×Int))))×Unit)))×Unit))=>
  bif (zi s41.1.2.2.1 (wrF .i64 (2+(wrF .i64 (Int.tmod a0.2.1 5))))) then opt (opt (jB (s41.1.1.2.2.2.1,((wrF .i64 ((wrF .i64 (2*s41.1.2.2.1))+1)),()))) fun x42=>
    bif zi 0 (Int.tmod x42.1 3) then opt (jB (s41.1.1.2.2.2.1,((wrF .i64 ((wrF .i64 (2*s41.1.2.2.1))+1)),()))) fun x43=>
     bif (zo (wrF .i64 (1+(wrF .i64 (Int.tmod a0.1 6)))) 0) then none
     else opt (jB (s41.1.1.2.2.2.2.1,(((s41.2.1.2.2.1.length:Nat):Int),()))) fun x44=>
      opt (jB (s41.1.1.2.2.2.2.2,(((s41.2.1.2.2.1.length:Nat):Int),()))) fun x45=>
      bif (zo ((s41.2.1.2.2.1.length:Nat):Int) 24) then some (0,((s41.1.1,((),())),((s41.2.1.1,(s41.2.1.2.1,(s41.2.1.2.2.1,()))),())))
      else opt (ue ((s41.2.1.1,(s41.2.1.2.1,s41.2.1.2.2.1)),(((wrF .i64 ((wrF .i64 (1+(wrF .i64 (Int.tmod a0.1 6))))+s41.1.2.2.1)),((Int.tmod x43.1 (wrF .i64 (1+(wrF .i64 (Int.tmod a0.1 6))))),((wrF .i64 (1+(Int.tmod x44.1 20))),(Int.tmod x45.1 50)))),()))) fun x46=>
       bif !x46.1 then some (0,((s41.1.1,((),())),((s41.2.1.1,(s41.2.1.2.1,(s41.2.1.2.2.1,()))),())))
       else opt (zI (fun s47:(((Int×((List Bool)×(List (Int×(Int×(Int×Int))))))×(Int×Unit))×Unit)=>
         bif (zi s47.1.2.1 ((s41.2.1.2.2.1.length:Nat):Int)) then opt (atI s41.2.1.2.2.1 s47.1.2.1) fun x48=>
          opt (gl s41.2.1.2.2.1 (Int.toNat s47.1.2.1)) fun x49=>
          opt (wj (x49,((wrF .i64 ((wrF .i64 (1+(wrF .i64 (Int.tmod a0.1 6))))+s41.1.2.2.1)),((Int.tmod x43.1 (wrF .i64 (1+(wrF .i64 (Int.tmod a0.1 6))))),())))) fun x50=>
          bif x50.1 then some (.inl s47)
          else some (.inr ((s47.1.1,((wrF .i64 (s47.1.2.1+1)),())),()))
         else some (.inl s47)) zQ (((0,([],[])),(0,())),())) fun x51=>
        bif (zi x51.1.2.1 ((s41.2.1.2.2.1.length:Nat):Int)) then opt (atI s41.2.1.2.2.1 x51.1.2.1) fun x52=>
         opt (gl s41.2.1.2.2.1 (Int.toNat x51.1.2.1)) fun x53=>
         opt (wj (x53,((wrF .i64 ((wrF .i64 (1+(wrF .i64 (Int.tmod a0.1 6))))+s41.1.2.2.1)),((Int.tmod x43.1 (wrF .i64 (1+(wrF .i64 (Int.tmod a0.1 6))))),())))) fun x54=>
         bif x54.1 then some (0,((s41.1.1,((),())),((s41.2.1.1,(s41.2.1.2.1,(s41.2.1.2.2.1,()))),())))
         else none
        else bif (qE s41.2.1.2.2.1.length ((((wrF .i64 ((wrF .i64 (1+(wrF .i64 (Int.tmod a0.1 6))))+s41.1.2.2.1)),((Int.tmod x43.1 (wrF .i64 (1+(wrF .i64 (Int.tmod a0.1 6))))),((wrF .i64 (1+(Int.tmod x44.1 20))),(Int.tmod x45.1 50))))::[]).length) 32) then some (0,((s41.1.1,((),())),((s41.2.1.1,(s41.2.1.2.1,((s41.2.1.2.2.1++(((wrF .i64 ((wrF .i64 (1+(wrF .i64 (Int.tmod a0.1 6))))+s41.1.2.2.1)),((Int.tmod x43.1 (wrF .i64 (1+(wrF .i64 (Int.tmod a0.1 6))))),((wrF .i64 (1+(Int.tmod x44.1 20))),(Int.tmod x45.1 50))))::[])),()))),())))
         else none
    else some (0,((s41.1.1,((),())),((s41.2.1.1,(s41.2.1.2.1,(s41.2.1.2.2.1,()))),())))) fun x55=>
   some (.inr ((x55.2.1.1,((),((wrF .i64 (s41.1.2.2.1+1)),()))),((x55.2.2.1.1,(x55.2.2.1.2.1,(x55.2.2.1.2.2.1,()))),())))
  else some (.inl (0,((s41.1.1,((),(s41.1.2.2.1,()))),((s41.2.1.1,(s41.2.1.2.1,(s41.2.1.2.2.1,()))),()))))) zQ ((x40.2.1.1,((),(0,()))),((x40.2.2.1.1,(x40.2.2.1.2.1,(x40.2.2.1.2.2.1,()))),()))) fun x56=>
 opt (zI (fun s57:(((Int×(Int×((List Int)×((List Int)×((List Int)×(List Int))))))×(Unit×(Int×Unit)))×((Int×((List Bool)×((List (Int×(Int×(Int×Int))))×Unit)))×Unit))=>
  bif (zi (wrF .i64 (s57.1.2.2.1+1)) ((s57.1.1.2.2.1.length:Nat):Int)) then bif zi s57.1.2.2.1 12 then opt (atI s57.1.1.2.2.1 s57.1.2.2.1) fun x58=>
    bif (zo (wrF .i64 (1+(wrF .i64 (Int.tmod a0.1 6)))) 0) then none
    else opt (atI s57.1.1.2.2.1 (wrF .i64 (s57.1.2.2.1+1))) fun x59=>
     bif (zo (wrF .i64 (1+(wrF .i64 (Int.tmod a0.1 6)))) 0) then none
     else opt (jB (s57.1.1.2.2.2.2.1,(((s57.2.1.2.2.1.length:Nat):Int),()))) fun x60=>
      opt (jB (s57.1.1.2.2.2.2.2,(((s57.2.1.2.2.1.length:Nat):Int),()))) fun x61=>
      bif (zo ((s57.2.1.2.2.1.length:Nat):Int) 24) then some (.inr ((s57.1.1,((),((wrF .i64 (s57.1.2.2.1+2)),()))),((s57.2.1.1,(s57.2.1.2.1,(s57.2.1.2.2.1,()))),())))
      else opt (ue ((s57.2.1.1,(s57.2.1.2.1,s57.2.1.2.2.1)),(((Int.tmod (wrF .i64 x58) (wrF .i64 (1+(wrF .i64 (Int.tmod a0.1 6))))),((Int.tmod (wrF .i64 x59) (wrF .i64 (1+(wrF .i64 (Int.tmod a0.1 6))))),((wrF .i64 (1+(Int.tmod x60.1 20))),(Int.tmod x61.1 50)))),()))) fun x62=>
       bif !x62.1 then some (.inr ((s57.1.1,((),((wrF .i64 (s57.1.2.2.1+2)),()))),((s57.2.1.1,(s57.2.1.2.1,(s57.2.1.2.2.1,()))),())))
       else opt (zI (fun s63:(((Int×((List Bool)×(List (Int×(Int×(Int×Int))))))×(Int×Unit))×Unit)=>
         bif (zi s63.1.2.1 ((s57.2.1.2.2.1.length:Nat):Int)) then opt (atI s57.2.1.2.2.1 s63.1.2.1) fun x64=>
          opt (gl s57.2.1.2.2.1 (Int.toNat s63.1.2.1)) fun x65=>
          opt (wj (x65,((Int.tmod (wrF .i64 x58) (wrF .i64 (1+(wrF .i64 (Int.tmod a0.1 6))))),((Int.tmod (wrF .i64 x59) (wrF .i64 (1+(wrF .i64 (Int.tmod a0.1 6))))),())))) fun x66=>
          bif x66.1 then some (.inl s63)
          else some (.inr ((s63.1.1,((wrF .i64 (s63.1.2.1+1)),())),()))
         else some (.inl s63)) zQ (((0,([],[])),(0,())),())) fun x67=>
        bif (zi x67.1.2.1 ((s57.2.1.2.2.1.length:Nat):Int)) then opt (atI s57.2.1.2.2.1 x67.1.2.1) fun x68=>
         opt (gl s57.2.1.2.2.1 (Int.toNat x67.1.2.1)) fun x69=>
         opt (wj (x69,((Int.tmod (wrF .i64 x58) (wrF .i64 (1+(wrF .i64 (Int.tmod a0.1 6))))),((Int.tmod (wrF .i64 x59) (wrF .i64 (1+(wrF .i64 (Int.tmod a0.1 6))))),())))) fun x70=>
         bif x70.1 then some (.inr ((s57.1.1,((),((wrF .i64 (s57.1.2.2.1+2)),()))),((s57.2.1.1,(s57.2.1.2.1,(s57.2.1.2.2.1,()))),())))
         else none
        else bif (qE s57.2.1.2.2.1.length ((((Int.tmod (wrF .i64 x58) (wrF .i64 (1+(wrF .i64 (Int.tmod a0.1 6))))),((Int.tmod (wrF .i64 x59) (wrF .i64 (1+(wrF .i64 (Int.tmod a0.1 6))))),((wrF .i64 (1+(Int.tmod x60.1 20))),(Int.tmod x61.1 50))))::[]).length) 32) then some (.inr ((s57.1.1,((),((wrF .i64 (s57.1.2.2.1+2)),()))),((s57.2.1.1,(s57.2.1.2.1,((s57.2.1.2.2.1++(((Int.tmod (wrF .i64 x58) (wrF .i64 (1+(wrF .i64 (Int.tmod a0.1 6))))),((Int.tmod (wrF .i64 x59) (wrF .i64 (1+(wrF .i64 (Int.tmod a0.1 6))))),((wrF .i64 (1+(Int.tmod x60.1 20))),(Int.tmod x61.1 50))))::[])),()))),())))
         else none
   else some (.inl (0,((s57.1.1,((),(s57.1.2.2.1,()))),((s57.2.1.1,(s57.2.1.2.1,(s57.2.1.2.2.1,()))),()))))
  else some (.inl (0,((s57.1.1,((),(s57.1.2.2.1,()))),((s57.2.1.1,(s57.2.1.2.1,(s57.2.1.2.2.1,()))),()))))) zQ ((x56.2.1.1,((),(0,()))),((x56.2.2.1.1,(x56.2.2.1.2.1,(x56.2.2.1.2.2.1,()))),()))) fun x71=>
 some ((x71.2.2.1.1,(x71.2.2.1.2.1,x71.2.2.1.2.2.1)),())
abbrev uM:Type:=(YN×Unit)→Option (zO×Unit)
def zct:GX→GZ→KU→uM:=fun jB ue wj=>sF Tryz.prog [(62,⟨zeG,zeH,jB⟩),(68,⟨zeM,zeN,ue⟩),(69,⟨zcN,zcO,wj⟩)] zjV (zM [(3,59),(8,59)] [(6,59)]) 30 32 JT JU
theorem zlk (jB) (ue) (wj) (a0):zct jB ue wj (a0,())=Vp jB ue wj a0:=by kernel_rfl
def wD:uM:=zct kh Qp kV
theorem Gq:Con.Ok Tryz.prog 32 ⟨JT,JU,wD⟩:=zx (zd zqw (zd zqA (zd zoH zn))) zq (by kernel_rfl)
theorem zho (a0):wD (a0,())=Vp kh Qp kV a0:=zlk kh Qp kV a0
abbrev zaa:List VT:=[⟨false,(.int .u8)⟩,⟨false,(.int .u8)⟩,⟨false,(.int .u8)⟩]
abbrev zab:List VT:=[⟨true,KJ⟩]
def zoJ:zW:=zN [cdF KJ] [] [] [] []
def zac (a0:Int) (a1:Int) (a2:Int):Option (GV×Unit):=
 some (((wrF .i64 (100+(wrF .i64 (20*(wrF .i64 a0))))),((wrF .i64 (Int.tmod a1 40)),((wrF .i64 a2),8000))),())
abbrev XQ:Type:=(Int×Int×Int×Unit)→Option (GV×Unit)
def zf7:XQ:=sF Tryz.prog [] zoJ (zM []) 30 33 zaa zab
theorem zqC (a0) (a1) (a2):zf7 (a0,a1,a2,())=zac a0 a1 a2:=by kernel_rfl
def Zd:XQ:=zf7
theorem zll:Con.Ok Tryz.prog 33 ⟨zaa,zab,Zd⟩:=zx zn zq (by kernel_rfl)
theorem zlm (a0) (a1) (a2):Zd (a0,a1,a2,())=zac  a0 a1 a2:=zqC  a0 a1 a2
abbrev Wn:List VT:=[⟨true,yR⟩]
abbrev Wo:List VT:=[⟨true,wK⟩]
def zln:zW:=zN [cdF yR,⟨wK,WL wK,[7]⟩,cdF jX,cdF xH,cdF zG,cdF qc,⟨(.pair (.int .u8) (.pair (.int .u8) (.int .u8))),WL (.pair (.int .u8) (.pair (.int .u8) (.int .u8))),[]⟩,⟨zR,WL zR,[0]⟩,cdF Zc,cdF qq] [] [⟨4,93,none,zR,true⟩,⟨7,93,none,zR,true⟩,⟨10,93,none,zR,true⟩,⟨3,55,none,qq,true⟩,⟨6,55,none,qq,true⟩,⟨8,55,none,qq,true⟩,⟨3,58,none,qq,true⟩,⟨6,58,none,qq,true⟩,⟨8,58,none,qq,true⟩] [(4,93,5,[0]),(4,93,3,[7]),(7,93,5,[0]),(10,93,5,[0]),(3,55,3,[0]),(3,58,3,[0])] [33]
def Ko (jc:uM) (Zl:XQ) (a0:jK):Option (uV×Unit):=
 opt (jc (a0.1,())) fun x0=>
 opt (Zl (a0.2.2.1.1,(a0.2.2.1.2.1,(a0.2.2.1.2.2,())))) fun x1=>
 opt (zI (fun s2:((((Int×(Int×((List Int)×((List Int)×((List Int)×(List Int))))))×((List ((List Int)×(List Int)))×((Int×(Int×Int))×(Int×(Int×((List (Bool×(Bool×(Int×(Int×(Int×(Int×(Int×Int))))))))×(List Int)))))))×(Unit×(Int×Unit)))×(((Int×((List Bool)×(List (Int×(Int×(Int×Int))))))×((Int×(Int×(Int×Int)))×((List ((List (Int×Int))×Int))×(Int×Unit))))×Unit))=>
  bif (zi s2.1.2.2.1 (wrF .i64 (2*((s2.2.1.1.2.2.length:Nat):Int)))) then opt (zI (fun s3:((Unit×(Int×Unit))×(((List (Int×Int))×(Int×Unit))×Unit))=>
    bif (zi s3.1.2.1 (vq 1 (jh 0 16))) then opt (bif zi s3.1.2.1 0 then none
      else some (0,(((127,1),()),()))) fun x4=>
     opt (bif zi s3.1.2.1 0 then none
      else some (0,((x4.2.1.1,()),()))) fun x5=>
     bif (qE s3.2.1.1.length ((x5.2.1.1::[]).length) 16) then some (.inr (((),((wrF .i64 (s3.1.2.1+1)),())),(((s3.2.1.1++(x5.2.1.1::[])),((wrF .i64 (s3.2.1.2.1+x5.2.1.1.2)),())),())))
     else none
    else some (.inl (0,(((),(s3.1.2.1,())),((s3.2.1.1,(s3.2.1.2.1,())),()))))) zQ (((),(0,())),(([],(0,())),()))) fun x6=>
   opt (bif (zi 0 ((s2.1.1.2.1.length:Nat):Int)) then bif zi 0 (Int.tmod s2.1.2.2.1 3) then bif (zo ((s2.1.1.2.1.length:Nat):Int) 0) then none
      else opt (atI s2.1.1.2.1 (Int.tmod s2.1.2.2.1 ((s2.1.1.2.1.length:Nat):Int))) fun x7=>
       opt (zI (fun s8:((Unit×(Int×Unit))×(((List (Int×Int))×(Int×Unit))×Unit))=>
        bif (zi s8.1.2.1 (vq 1 (jh ((x7.1.length:Nat):Int) 10))) then opt (bif (zi s8.1.2.1 ((x7.1.length:Nat):Int)) then opt (atI x7.1 s8.1.2.1) fun x9=>
           opt (atI (α:=Int) (128::(127::(127::(64::(255::(63::[])))))) (Int.tmod x9 6)) fun x10=>
           opt (gl (α:=Int) (128::(127::(127::(64::(255::(63::[])))))) (Int.toNat (Int.tmod x9 6))) fun x11=>
           some (0,(((x11,1),()),()))
          else some (0,(((127,1),()),()))) fun x12=>
         opt (bif (zi s8.1.2.1 ((x7.2.length:Nat):Int)) then opt (atI x7.2 s8.1.2.1) fun x13=>
           some (0,(((x12.2.1.1.1,(wrF .i64 (1+(wrF .i64 (4*(wrF .i64 x13)))))),()),()))
          else some (0,((x12.2.1.1,()),()))) fun x14=>
         bif (qE s8.2.1.1.length ((x14.2.1.1::[]).length) 16) then some (.inr (((),((wrF .i64 (s8.1.2.1+1)),())),(((s8.2.1.1++(x14.2.1.1::[])),((wrF .i64 (s8.2.1.2.1+x14.2.1.1.2)),())),())))
         else none
        else some (.inl (0,(((),(s8.1.2.1,())),((s8.2.1.1,(s8.2.1.2.1,())),()))))) zQ (((),(0,())),(([],(0,())),()))) fun x15=>
       opt (zI (fun s16:((Unit×(Int×Unit))×(((List (Int×Int))×(Int×Unit))×Unit))=>
        bif (zi s16.1.2.1 ((s16.2.1.1.length:Nat):Int)) then opt (atI s16.2.1.1 s16.1.2.1) fun x17=>
         opt (gl s16.2.1.1 (Int.toNat s16.1.2.1)) fun x18=>
         opt (atI s16.2.1.1 s16.1.2.1) fun x19=>
         opt (gl s16.2.1.1 (Int.toNat s16.1.2.1)) fun x20=>
         some (.inr (((),((wrF .i64 (s16.1.2.1+1)),())),(((s16.2.1.1.set (Int.toNat s16.1.2.1) (x20.1,(wrF .i64 (40*x18.2)))),(s16.2.1.2.1,())),())))
        else some (.inl (0,(((),(s16.1.2.1,())),((s16.2.1.1,(s16.2.1.2.1,())),()))))) zQ (((),(0,())),((x15.2.2.1.1,(x15.2.2.1.2.1,())),()))) fun x21=>
       some (0,((s2.1.1,((),())),((x21.2.2.1.1,((wrF .i64 (40*x21.2.2.1.2.1)),())),())))
     else some (0,((s2.1.1,((),())),((x6.2.2.1.1,(x6.2.2.1.2.1,())),())))
    else some (0,((s2.1.1,((),())),((x6.2.2.1.1,(x6.2.2.1.2.1,())),())))) fun x22=>
   bif (qE s2.2.1.2.2.1.length (((x22.2.2.1.1,x22.2.2.1.2.1)::[]).length) 32) then some (.inr ((x22.2.1.1,((),((wrF .i64 (s2.1.2.2.1+1)),()))),((s2.2.1.1,(s2.2.1.2.1,((s2.2.1.2.2.1++((x22.2.2.1.1,x22.2.2.1.2.1)::[])),(s2.2.1.2.2.2.1,())))),())))
   else none
  else some (.inl (0,((s2.1.1,((),(s2.1.2.2.1,()))),((s2.2.1.1,(s2.2.1.2.1,(s2.2.1.2.2.1,(s2.2.1.2.2.2.1,())))),()))))) zQ ((a0,((),(0,()))),((x0.1,((x1.1.1,(x1.1.2.1,(x1.1.2.2.1,(wrF .i64 (2000+(wrF .i64 (200*(wrF .i64 a0.2.2.2.1)))))))),([],((wrF .i64 (339+(wrF .i64 (Int.tmod a0.2.2.2.2.1 500)))),())))),()))) fun x23=>
 some ((x23.2.2.1.1,(x23.2.2.1.2.1,(x23.2.2.1.2.2.1,x23.2.2.1.2.2.2.1))),())
abbrev Kp:Type:=(jK×Unit)→Option (uV×Unit)
def zdz:uM→XQ→Kp:=fun jc Zl=>sF Tryz.prog [(32,⟨JT,JU,jc⟩),(33,⟨zaa,zab,Zl⟩)] zln (zM []) 30 10 Wn Wo
theorem zmW (jc) (Zl) (a0):zdz jc Zl (a0,())=Ko jc Zl a0:=by kernel_rfl
def vv:Kp:=zdz wD Zd
theorem ziA:Con.Ok Tryz.prog 10 ⟨Wn,Wo,vv⟩:=zx (zd Gq (zd zll zn)) zq (by kernel_rfl)
theorem ziB (a0):vv (a0,())=Ko wD Zd a0:=zmW wD Zd a0
abbrev Qq:List VT:=[⟨true,zG⟩,⟨false,I⟩]
abbrev Qr:List VT:=[⟨false,I⟩]
def zuC:zW:=zN [cdF zG,cdF qc] [] [] [] []
def zeP (a0:zO) (a1:Int):Option (Int×Unit):=
 opt (atI a0.2.2 (wrF .i64 (Int.tdiv a1 2))) fun x0=>
 bif zo (Int.tmod a1 2) 1 then some (x0.2.1,())
 else some (x0.1,())
abbrev xm:Type:=(zO×Int×Unit)→Option (Int×Unit)
def zlo:xm:=sF Tryz.prog [] zuC (zM []) 30 88 Qq Qr
theorem zxb (a0) (a1):zlo (a0,a1,())=zeP a0 a1:=by kernel_rfl
def ji:xm:=zlo
theorem JV:Con.Ok Tryz.prog 88 ⟨Qq,Qr,ji⟩:=zx zn zq (by kernel_rfl)
theorem zqD (a0) (a1):ji (a0,a1,())=zeP  a0 a1:=zxb  a0 a1
abbrev zcQ:List VT:=[⟨true,zG⟩,⟨false,I⟩]
abbrev zcR:List VT:=[⟨false,(.list I)⟩]
def zsC:zW:=zN [cdF zG,cdF qc] [] [⟨3,25,some 4,I,false⟩,⟨3,25,some 5,I,true⟩,⟨5,25,some 4,I,false⟩,⟨5,25,some 5,I,true⟩] [] [88]
def zcS (qe:xm) (a0:zO) (a1:Int):Option ((List Int)×Unit):=
 opt (zI (fun s0:((Int×Unit)×((List Int)×Unit))=>
  bif (zi s0.1.1 (wrF .i64 (2*((a0.2.2.length:Nat):Int)))) then opt (opt (qe (a0,(s0.1.1,()))) fun x1=>
    bif zo x1.1 a1 then bif (qE s0.2.1.length ((s0.1.1::[]).length) 8) then some (0,((),((s0.2.1++(s0.1.1::[])),())))
     else none
    else some (0,((),(s0.2.1,())))) fun x2=>
   some (.inr (((wrF .i64 (s0.1.1+1)),()),(x2.2.2.1,())))
  else some (.inl (0,((s0.1.1,()),(s0.2.1,()))))) zQ ((0,()),([],()))) fun x3=>
 some (x3.2.2.1,())
abbrev KV:Type:=(zO×Int×Unit)→Option ((List Int)×Unit)
def zjf:xm→KV:=fun qe=>sF Tryz.prog [(88,⟨Qq,Qr,qe⟩)] zsC (zM []) 30 161 zcQ zcR
theorem zuD (qe) (a0) (a1):zjf qe (a0,a1,())=zcS qe a0 a1:=by kernel_rfl
def Ji:KV:=zjf ji
theorem zoK:Con.Ok Tryz.prog 161 ⟨zcQ,zcR,Ji⟩:=zx (zd JV zn) zq (by kernel_rfl)
theorem zoL (a0) (a1):Ji (a0,a1,())=zcS ji a0 a1:=zuD ji a0 a1
abbrev VS:List VT:=[⟨true,zG⟩,⟨false,I⟩]
abbrev VU:List VT:=[⟨false,I⟩]
def zye:zW:=zN [cdF zG,cdF qc] [] [] [] []
def ziC (a0:zO) (a1:Int):Option (Int×Unit):=
 opt (atI a0.2.2 (wrF .i64 (Int.tdiv a1 2))) fun x0=>
 bif zo (Int.tmod a1 2) 1 then some (x0.1,())
 else some (x0.2.1,())
abbrev gQ:Type:=(zO×Int×Unit)→Option (Int×Unit)
def zqE:gQ:=sF Tryz.prog [] zye (zM []) 30 89 VS VU
theorem zAn (a0) (a1):zqE (a0,a1,())=ziC a0 a1:=by kernel_rfl
def wR:gQ:=zqE
theorem KW:Con.Ok Tryz.prog 89 ⟨VS,VU,wR⟩:=zx zn zq (by kernel_rfl)
theorem zuE (a0) (a1):wR (a0,a1,())=ziC  a0 a1:=zAn  a0 a1
abbrev zad:List VT:=[⟨false,(.list I)⟩,⟨false,I⟩]
abbrev zae:List VT:=[⟨false,.bool⟩]
def zyf:zW:=zN [] [] [] [] []
def ziD (a0:(List Int)) (a1:Int):Option (Bool×Unit):=
 opt (zI (fun s0:((Bool×(Int×Unit))×Unit)=>
  bif (zi s0.1.2.1 ((a0.length:Nat):Int)) then opt (atI a0 s0.1.2.1) fun x1=>
   bif zo x1 a1 then some (.inl (1,((true,(s0.1.2.1,())),())))
   else some (.inr ((s0.1.1,((wrF .i64 (s0.1.2.1+1)),())),()))
  else some (.inl (0,((s0.1.1,(s0.1.2.1,())),())))) zQ ((false,(0,())),())) fun x2=>
 bif Nat.beq x2.1 0 then some (false,())
 else some (x2.2.1.1,())
abbrev JW:Type:=((List Int)×Int×Unit)→Option (Bool×Unit)
def zqF:JW:=sF Tryz.prog [] zyf (zM []) 30 98 zad zae
theorem zAo (a0) (a1):zqF (a0,a1,())=ziD a0 a1:=by kernel_rfl
def vj:JW:=zqF
theorem zcT:Con.Ok Tryz.prog 98 ⟨zad,zae,vj⟩:=zx zn zq (by kernel_rfl)
theorem zuF (a0) (a1):vj (a0,a1,())=ziD  a0 a1:=zAo  a0 a1
abbrev zeQ:List VT:=[⟨true,zG⟩,⟨false,(.int .u8)⟩,⟨false,(.int .u8)⟩]
abbrev zeR:List VT:=[⟨false,(.list I)⟩]
def zuG:zW:=zN [cdF zG,cdF qc] [] [⟨4,90,some 6,I,false⟩,⟨4,90,some 9,I,true⟩,⟨4,90,some 10,I,true⟩,⟨8,90,some 6,I,false⟩,⟨8,90,some 9,I,true⟩,⟨8,90,some 10,I,true⟩,⟨10,90,some 6,I,false⟩,⟨10,90,some 9,I,true⟩,⟨10,90,some 10,I,true⟩,⟨12,90,some 6,I,false⟩,⟨12,90,some 9,I,true⟩,⟨12,90,some 10,I,true⟩] [] [89,98]
def zeS (uz:KV) (qo:gQ) (jl:JW) (a0:zO) (a1:Int) (a2:Int):Option ((List Int)×Unit):=
 bif zo a0.1 0 then none
 else opt (zI (fun s0:(((Int×((List Bool)×(List (Int×(Int×(Int×Int))))))×((List Int)×(Int×Unit)))×((List Int)×((List Int)×Unit)))=>
   bif (zi ((s0.2.1.length:Nat):Int) 8) then bif (zo ((s0.2.1.length:Nat):Int) 0) then opt (uz (s0.1.1,(s0.1.2.2.1,()))) fun x1=>
     opt (zI (fun s2:((Int×Unit)×((List Int)×((List Int)×Unit)))=>
      bif (zi s2.1.1 ((x1.1.length:Nat):Int)) then opt (opt (atI x1.1 s2.1.1) fun x3=>
        opt (qo (s0.1.1,(x3,()))) fun x4=>
        opt (jl (s2.2.1,(x4.1,()))) fun x5=>
        bif !x5.1 then opt (atI x1.1 s2.1.1) fun x6=>
         bif (qE s2.2.2.1.length ((x6::[]).length) 8) then some (0,((),(s2.2.1,((s2.2.2.1++(x6::[])),()))))
         else none
        else some (0,((),(s2.2.1,(s2.2.2.1,()))))) fun x7=>
       some (.inr (((wrF .i64 (s2.1.1+1)),()),(x7.2.2.1,(x7.2.2.2.1,()))))
      else some (.inl (0,((s2.1.1,()),(s2.2.1,(s2.2.2.1,())))))) zQ ((0,()),(s0.2.2.1,([],())))) fun x8=>
     bif (zo ((x8.2.2.2.1.length:Nat):Int) 0) then some (.inl s0)
     else bif (zo ((x8.2.2.2.1.length:Nat):Int) 0) then none
      else opt (atI x8.2.2.2.1 (Int.tmod (wrF .i64 ((wrF .i64 a2)+(wrF .i64 (3*((s0.2.1.length:Nat):Int))))) ((x8.2.2.2.1.length:Nat):Int))) fun x9=>
       opt (gl x8.2.2.2.1 (Int.toNat (Int.tmod (wrF .i64 ((wrF .i64 a2)+(wrF .i64 (3*((s0.2.1.length:Nat):Int))))) ((x8.2.2.2.1.length:Nat):Int)))) fun x10=>
       bif (qE s0.2.1.length ((x10::[]).length) 8) then opt (qo (s0.1.1,(x10,()))) fun x11=>
        bif (qE x8.2.2.1.length ((x11.1::[]).length) 8) then some (.inr ((s0.1.1,(s0.1.2.1,(x11.1,()))),((s0.2.1++(x10::[])),((x8.2.2.1++(x11.1::[])),()))))
        else none
       else none
    else opt (atI s0.1.1.2.1 s0.1.2.2.1) fun x12=>
     bif !x12 then opt (uz (s0.1.1,(s0.1.2.2.1,()))) fun x13=>
      opt (zI (fun s14:((Int×Unit)×((List Int)×((List Int)×Unit)))=>
       bif (zi s14.1.1 ((x13.1.length:Nat):Int)) then opt (opt (atI x13.1 s14.1.1) fun x15=>
         opt (qo (s0.1.1,(x15,()))) fun x16=>
         opt (jl (s14.2.1,(x16.1,()))) fun x17=>
         bif !x17.1 then opt (atI x13.1 s14.1.1) fun x18=>
          bif (qE s14.2.2.1.length ((x18::[]).length) 8) then some (0,((),(s14.2.1,((s14.2.2.1++(x18::[])),()))))
          else none
         else some (0,((),(s14.2.1,(s14.2.2.1,()))))) fun x19=>
        some (.inr (((wrF .i64 (s14.1.1+1)),()),(x19.2.2.1,(x19.2.2.2.1,()))))
       else some (.inl (0,((s14.1.1,()),(s14.2.1,(s14.2.2.1,())))))) zQ ((0,()),(s0.2.2.1,([],())))) fun x20=>
      bif (zo ((x20.2.2.2.1.length:Nat):Int) 0) then some (.inl s0)
      else bif (zo ((x20.2.2.2.1.length:Nat):Int) 0) then none
       else opt (atI x20.2.2.2.1 (Int.tmod (wrF .i64 ((wrF .i64 a2)+(wrF .i64 (3*((s0.2.1.length:Nat):Int))))) ((x20.2.2.2.1.length:Nat):Int))) fun x21=>
        opt (gl x20.2.2.2.1 (Int.toNat (Int.tmod (wrF .i64 ((wrF .i64 a2)+(wrF .i64 (3*((s0.2.1.length:Nat):Int))))) ((x20.2.2.2.1.length:Nat):Int)))) fun x22=>
        bif (qE s0.2.1.length ((x22::[]).length) 8) then opt (qo (s0.1.1,(x22,()))) fun x23=>
         bif (qE x20.2.2.1.length ((x23.1::[]).length) 8) then some (.inr ((s0.1.1,(s0.1.2.1,(x23.1,()))),((s0.2.1++(x22::[])),((x20.2.2.1++(x23.1::[])),()))))
         else none
        else none
     else some (.inl s0)
   else some (.inl s0)) zQ ((a0,([],((Int.tmod (wrF .i64 a1) a0.1),()))),([],(((Int.tmod (wrF .i64 a1) a0.1)::[]),())))) fun x24=>
  bif (zi ((x24.2.1.length:Nat):Int) 8) then bif (zo ((x24.2.1.length:Nat):Int) 0) then opt (uz (x24.1.1,(x24.1.2.2.1,()))) fun x25=>
    opt (zI (fun s26:((Int×Unit)×((List Int)×((List Int)×Unit)))=>
     bif (zi s26.1.1 ((x25.1.length:Nat):Int)) then opt (opt (atI x25.1 s26.1.1) fun x27=>
       opt (qo (x24.1.1,(x27,()))) fun x28=>
       opt (jl (s26.2.1,(x28.1,()))) fun x29=>
       bif !x29.1 then opt (atI x25.1 s26.1.1) fun x30=>
        bif (qE s26.2.2.1.length ((x30::[]).length) 8) then some (0,((),(s26.2.1,((s26.2.2.1++(x30::[])),()))))
        else none
       else some (0,((),(s26.2.1,(s26.2.2.1,()))))) fun x31=>
      some (.inr (((wrF .i64 (s26.1.1+1)),()),(x31.2.2.1,(x31.2.2.2.1,()))))
     else some (.inl (0,((s26.1.1,()),(s26.2.1,(s26.2.2.1,())))))) zQ ((0,()),(x24.2.2.1,([],())))) fun x32=>
    bif (zo ((x32.2.2.2.1.length:Nat):Int) 0) then some (x24.2.1,())
    else bif (zo ((x32.2.2.2.1.length:Nat):Int) 0) then none
     else opt (atI x32.2.2.2.1 (Int.tmod (wrF .i64 ((wrF .i64 a2)+(wrF .i64 (3*((x24.2.1.length:Nat):Int))))) ((x32.2.2.2.1.length:Nat):Int))) fun x33=>
      opt (gl x32.2.2.2.1 (Int.toNat (Int.tmod (wrF .i64 ((wrF .i64 a2)+(wrF .i64 (3*((x24.2.1.length:Nat):Int))))) ((x32.2.2.2.1.length:Nat):Int)))) fun x34=>
      bif (qE x24.2.1.length ((x34::[]).length) 8) then opt (qo (x24.1.1,(x34,()))) fun x35=>
       bif (qE x32.2.2.1.length ((x35.1::[]).length) 8) then none
       else none
      else none
   else opt (atI x24.1.1.2.1 x24.1.2.2.1) fun x36=>
    bif !x36 then opt (uz (x24.1.1,(x24.1.2.2.1,()))) fun x37=>
     opt (zI (fun s38:((Int×Unit)×((List Int)×((List Int)×Unit)))=>
      bif (zi s38.1.1 ((x37.1.length:Nat):Int)) then opt (opt (atI x37.1 s38.1.1) fun x39=>
        opt (qo (x24.1.1,(x39,()))) fun x40=>
        opt (jl (s38.2.1,(x40.1,()))) fun x41=>
        bif !x41.1 then opt (atI x37.1 s38.1.1) fun x42=>
         bif (qE s38.2.2.1.length ((x42::[]).length) 8) then some (0,((),(s38.2.1,((s38.2.2.1++(x42::[])),()))))
         else none
        else some (0,((),(s38.2.1,(s38.2.2.1,()))))) fun x43=>
       some (.inr (((wrF .i64 (s38.1.1+1)),()),(x43.2.2.1,(x43.2.2.2.1,()))))
      else some (.inl (0,((s38.1.1,()),(s38.2.1,(s38.2.2.1,())))))) zQ ((0,()),(x24.2.2.1,([],())))) fun x44=>
     bif (zo ((x44.2.2.2.1.length:Nat):Int) 0) then some (x24.2.1,())
     else bif (zo ((x44.2.2.2.1.length:Nat):Int) 0) then none
      else opt (atI x44.2.2.2.1 (Int.tmod (wrF .i64 ((wrF .i64 a2)+(wrF .i64 (3*((x24.2.1.length:Nat):Int))))) ((x44.2.2.2.1.length:Nat):Int))) fun x45=>
       opt (gl x44.2.2.2.1 (Int.toNat (Int.tmod (wrF .i64 ((wrF .i64 a2)+(wrF .i64 (3*((x24.2.1.length:Nat):Int))))) ((x44.2.2.2.1.length:Nat):Int)))) fun x46=>
       bif (qE x24.2.1.length ((x46::[]).length) 8) then opt (qo (x24.1.1,(x46,()))) fun x47=>
        bif (qE x44.2.2.1.length ((x47.1::[]).length) 8) then none
        else none
       else none
    else some (x24.2.1,())
  else some (x24.2.1,())
abbrev zaf:Type:=(zO×Int×Int×Unit)→Option ((List Int)×Unit)
def zlp:KV→gQ→JW→zaf:=fun uz qo jl=>sF Tryz.prog [(161,⟨zcQ,zcR,uz⟩),(89,⟨VS,VU,qo⟩),(98,⟨zad,zae,jl⟩)] zuG (zM [] [(4,90)]) 30 131 zeQ zeR
theorem zxc (uz) (qo) (jl) (a0) (a1) (a2):zlp uz qo jl (a0,a1,a2,())=zeS uz qo jl a0 a1 a2:=by kernel_rfl
def gU:zaf:=zlp Ji wR vj
theorem zqG:Con.Ok Tryz.prog 131 ⟨zeQ,zeR,gU⟩:=zx (zd zoK (zd KW (zd zcT zn))) zq (by kernel_rfl)
theorem zqH (a0) (a1) (a2):gU (a0,a1,a2,())=zeS Ji wR vj a0 a1 a2:=zxc Ji wR vj a0 a1 a2
abbrev zeT:List VT:=[⟨true,zG⟩,⟨false,I⟩]
abbrev zeU:List VT:=[⟨false,.bool⟩]
def zuH:zW:=zN [cdF zG,cdF qc] [] [] [] []
def zeV (a0:zO) (a1:Int):Option (Bool×Unit):=
 bif !(zi a1 0) then some ((zi a1 (wrF .i64 (2*((a0.2.2.length:Nat):Int)))),())
 else some (false,())
abbrev zag:Type:=(zO×Int×Unit)→Option (Bool×Unit)
def zlq:zag:=sF Tryz.prog [] zuH (zM []) 30 160 zeT zeU
theorem zxd (a0) (a1):zlq (a0,a1,())=zeV a0 a1:=by kernel_rfl
def WQ:zag:=zlq
theorem zqI:Con.Ok Tryz.prog 160 ⟨zeT,zeU,WQ⟩:=zx zn zq (by kernel_rfl)
theorem zqJ (a0) (a1):WQ (a0,a1,())=zeV  a0 a1:=zxd  a0 a1
abbrev KY:List VT:=[⟨true,zG⟩,⟨false,(.list I)⟩]
abbrev KZ:List VT:=[⟨false,(.list I)⟩]
def zsD:zW:=zN [cdF zG,cdF qc] [] [⟨3,29,some 4,I,false⟩] [] [88,89]
def zcU (qe:xm) (qo:gQ) (a0:zO) (a1:(List Int)):Option ((List Int)×Unit):=
 opt (atI a1 0) fun x0=>
 opt (qe (a0,(x0,()))) fun x1=>
 opt (zI (fun s2:((Int×Unit)×((List Int)×Unit))=>
  bif (zi s2.1.1 ((a1.length:Nat):Int)) then opt (atI a1 s2.1.1) fun x3=>
   opt (qo (a0,(x3,()))) fun x4=>
   bif (qE s2.2.1.length ((x4.1::[]).length) 8) then some (.inr (((wrF .i64 (s2.1.1+1)),()),((s2.2.1++(x4.1::[])),())))
   else none
  else some (.inl (0,((s2.1.1,()),(s2.2.1,()))))) zQ ((0,()),((x1.1::[]),()))) fun x5=>
 some (x5.2.2.1,())
abbrev Jj:Type:=(zO×(List Int)×Unit)→Option ((List Int)×Unit)
def zjg:xm→gQ→Jj:=fun qe qo=>sF Tryz.prog [(88,⟨Qq,Qr,qe⟩),(89,⟨VS,VU,qo⟩)] zsD (zM []) 30 133 KY KZ
theorem zuI (qe) (qo) (a0) (a1):zjg qe qo (a0,a1,())=zcU qe qo a0 a1:=by kernel_rfl
def ug:Jj:=zjg ji wR
theorem zeW:Con.Ok Tryz.prog 133 ⟨KY,KZ,ug⟩:=zx (zd JV (zd KW zn)) zq (by kernel_rfl)
theorem zoM (a0) (a1):ug (a0,a1,())=zcU ji wR a0 a1:=zuI ji wR a0 a1
abbrev Ua:List VT:=[⟨true,zG⟩,⟨false,(.list I)⟩]
abbrev Ub:List VT:=[⟨false,.bool⟩]
def zsE:zW:=zN [cdF zG,cdF qc] [] [] [] [160,98,88]
def zcV (Yr:zag) (jJ:Jj) (jl:JW) (qe:xm) (a0:zO) (a1:(List Int)):Option (Bool×Unit):=
 opt (bif (zi ((a1.length:Nat):Int) 1) then some (1,((false,()),()))
  else bif (zi 8 ((a1.length:Nat):Int)) then some (1,((false,()),()))
   else some (0,((false,()),()))) fun x0=>
 bif Nat.beq x0.1 0 then opt (zI (fun s1:((Bool×(Int×Unit))×Unit)=>
   bif (zi s1.1.2.1 ((a1.length:Nat):Int)) then opt (atI a1 s1.1.2.1) fun x2=>
    opt (Yr (a0,(x2,()))) fun x3=>
    bif !x3.1 then some (.inl (1,((false,(s1.1.2.1,())),())))
    else some (.inr ((s1.1.1,((wrF .i64 (s1.1.2.1+1)),())),()))
   else some (.inl (0,((s1.1.1,(s1.1.2.1,())),())))) zQ ((x0.2.1.1,(0,())),())) fun x4=>
  bif Nat.beq x4.1 0 then opt (jJ (a0,(a1,()))) fun x5=>
   opt (zI (fun s6:((Bool×(Int×Unit))×Unit)=>
    bif (zi s6.1.2.1 ((x5.1.length:Nat):Int)) then opt (zbp x5.1 none (some s6.1.2.1) none) fun x7=>
     opt (atI x5.1 s6.1.2.1) fun x8=>
     opt (jl (x7,(x8,()))) fun x9=>
     bif x9.1 then some (.inl (1,((false,(s6.1.2.1,())),())))
     else opt (bif zi 0 s6.1.2.1 then bif (zi s6.1.2.1 ((a1.length:Nat):Int)) then opt (atI x5.1 s6.1.2.1) fun x10=>
         opt (atI a0.2.1 x10) fun x11=>
         bif x11 then some (1,((false,()),()))
         else opt (atI a1 s6.1.2.1) fun x12=>
          opt (qe (a0,(x12,()))) fun x13=>
          opt (atI x5.1 s6.1.2.1) fun x14=>
          bif !(zo x13.1 x14) then some (1,((false,()),()))
          else some (0,((s6.1.1,()),()))
        else some (0,((s6.1.1,()),()))
       else some (0,((s6.1.1,()),()))) fun x15=>
      bif Nat.beq x15.1 0 then some (.inr ((x15.2.1.1,((wrF .i64 (s6.1.2.1+1)),())),()))
      else some (.inl (1,((x15.2.1.1,(s6.1.2.1,())),())))
    else some (.inl (0,((s6.1.1,(s6.1.2.1,())),())))) zQ ((x4.2.1.1,(0,())),())) fun x16=>
   bif Nat.beq x16.1 0 then some (true,())
   else some (x16.2.1.1,())
  else some (x4.2.1.1,())
 else some (x0.2.1.1,())
abbrev Jk:Type:=(zO×(List Int)×Unit)→Option (Bool×Unit)
def zjh:zag→Jj→JW→xm→Jk:=fun Yr jJ jl qe=>sF Tryz.prog [(160,⟨zeT,zeU,Yr⟩),(133,⟨KY,KZ,jJ⟩),(98,⟨zad,zae,jl⟩),(88,⟨Qq,Qr,qe⟩)] zsE (zM []) 30 129 Ua Ub
theorem zuJ (Yr) (jJ) (jl) (qe) (a0) (a1):zjh Yr jJ jl qe (a0,a1,())=zcV Yr jJ jl qe a0 a1:=by kernel_rfl
def xY:Jk:=zjh WQ ug vj ji
theorem zeX:Con.Ok Tryz.prog 129 ⟨Ua,Ub,xY⟩:=zx (zd zqI (zd zeW (zd zcT (zd JV zn)))) zq (by kernel_rfl)
theorem zoN (a0) (a1):xY (a0,a1,())=zcV WQ ug vj ji a0 a1:=zuJ WQ ug vj ji a0 a1
abbrev zah:List VT:=[⟨false,(.list I)⟩,⟨false,(.list I)⟩]
abbrev zai:List VT:=[⟨false,.bool⟩]
def zoO:zW:=zN [] [] [] [] [98]
def zaj (jl:JW) (a0:(List Int)) (a1:(List Int)):Option (Bool×Unit):=
 opt (zI (fun s0:((Bool×(Int×Unit))×Unit)=>
  bif (zi s0.1.2.1 (wrF .i64 (((a0.length:Nat):Int) - 1))) then opt (atI a0 s0.1.2.1) fun x1=>
   opt (jl (a1,(x1,()))) fun x2=>
   bif x2.1 then some (.inl (1,((true,(s0.1.2.1,())),())))
   else some (.inr ((s0.1.1,((wrF .i64 (s0.1.2.1+1)),())),()))
  else some (.inl (0,((s0.1.1,(s0.1.2.1,())),())))) zQ ((false,(1,())),())) fun x3=>
 bif Nat.beq x3.1 0 then some (false,())
 else some (x3.2.1.1,())
abbrev XR:Type:=((List Int)×(List Int)×Unit)→Option (Bool×Unit)
def zf8:JW→XR:=fun jl=>sF Tryz.prog [(98,⟨zad,zae,jl⟩)] zoO (zM []) 30 132 zah zai
theorem zqK (jl) (a0) (a1):zf8 jl (a0,a1,())=zaj jl a0 a1:=by kernel_rfl
def Ze:XR:=zf8 vj
theorem zlr:Con.Ok Tryz.prog 132 ⟨zah,zai,Ze⟩:=zx (zd zcT zn) zq (by kernel_rfl)
theorem zls (a0) (a1):Ze (a0,a1,())=zaj vj a0 a1:=zqK vj a0 a1
abbrev Uc:List VT:=[⟨true,zG⟩,⟨false,(.list I)⟩,⟨false,(.list I)⟩]
abbrev Ud:List VT:=[⟨false,.bool⟩]
def zsF:zW:=zN [cdF zG,cdF qc] [] [] [] [132]
def zcW (jJ:Jj) (kB:XR) (a0:zO) (a1:(List Int)) (a2:(List Int)):Option (Bool×Unit):=
 opt (zI (fun s0:((Bool×(Int×Unit))×Unit)=>
  bif (zi s0.1.2.1 ((a1.length:Nat):Int)) then opt (zI (fun s1:((Bool×(Int×Unit))×Unit)=>
    bif (zi s1.1.2.1 ((a2.length:Nat):Int)) then opt (atI a1 s0.1.2.1) fun x2=>
     opt (atI a2 s1.1.2.1) fun x3=>
     bif (zo (wrF .i64 (Int.tdiv x2 2)) (wrF .i64 (Int.tdiv x3 2))) then some (.inl (1,((false,(s1.1.2.1,())),())))
     else some (.inr ((s1.1.1,((wrF .i64 (s1.1.2.1+1)),())),()))
    else some (.inl (0,((s1.1.1,(s1.1.2.1,())),())))) zQ ((s0.1.1,(0,())),())) fun x4=>
   bif Nat.beq x4.1 0 then some (.inr ((x4.2.1.1,((wrF .i64 (s0.1.2.1+1)),())),()))
   else some (.inl (1,((x4.2.1.1,(s0.1.2.1,())),())))
  else some (.inl (0,((s0.1.1,(s0.1.2.1,())),())))) zQ ((false,(0,())),())) fun x5=>
 bif Nat.beq x5.1 0 then opt (jJ (a0,(a1,()))) fun x6=>
  opt (jJ (a0,(a2,()))) fun x7=>
  opt (kB (x6.1,(x7.1,()))) fun x8=>
  bif !x8.1 then opt (jJ (a0,(a2,()))) fun x9=>
   opt (jJ (a0,(a1,()))) fun x10=>
   opt (kB (x9.1,(x10.1,()))) fun x11=>
   some ((!x11.1),())
  else some (false,())
 else some (x5.2.1.1,())
abbrev Jl:Type:=(zO×(List Int)×(List Int)×Unit)→Option (Bool×Unit)
def zji:Jj→XR→Jl:=fun jJ kB=>sF Tryz.prog [(133,⟨KY,KZ,jJ⟩),(132,⟨zah,zai,kB⟩)] zsF (zM []) 30 90 Uc Ud
theorem zuK (jJ) (kB) (a0) (a1) (a2):zji jJ kB (a0,a1,a2,())=zcW jJ kB a0 a1 a2:=by kernel_rfl
def uh:Jl:=zji ug Ze
theorem zeY:Con.Ok Tryz.prog 90 ⟨Uc,Ud,uh⟩:=zx (zd zeW (zd zlr zn)) zq (by kernel_rfl)
theorem zoP (a0) (a1) (a2):uh (a0,a1,a2,())=zcW ug Ze a0 a1 a2:=zuK ug Ze a0 a1 a2
abbrev zd7:List VT:=[⟨false,I⟩,⟨false,I⟩,⟨false,I⟩]
abbrev zd8:List VT:=[⟨false,.bool⟩]
def zyg:zW:=zN [] [] [] [] []
def ziE (a0:Int) (a1:Int) (a2:Int):Option (Bool×Unit):=
 bif !(zi a0 a1) then some ((!(zi a2 a0)),())
 else some (false,())
abbrev VV:Type:=(Int×Int×Int×Unit)→Option (Bool×Unit)
def zqL:VV:=sF Tryz.prog [] zyg (zM []) 30 71 zd7 zd8
theorem zAp (a0) (a1) (a2):zqL (a0,a1,a2,())=ziE a0 a1 a2:=by kernel_rfl
def ZL:VV:=zqL
theorem zjj:Con.Ok Tryz.prog 71 ⟨zd7,zd8,ZL⟩:=zx zn zq (by kernel_rfl)
theorem zuL (a0) (a1) (a2):ZL (a0,a1,a2,())=ziE  a0 a1 a2:=zAp  a0 a1 a2
abbrev zak:List VT:=[⟨true,zG⟩,⟨false,I⟩]
abbrev zal:List VT:=[⟨false,.bool⟩]
def zoQ:zW:=zN [cdF zG,cdF qc] [] [] [] [71]
def zam (wW:VV) (a0:zO) (a1:Int):Option (Bool×Unit):=
 opt (wW (a1,(0,((wrF .i64 (a0.1 - 1)),())))) fun x0=>
 bif x0.1 then opt (atI a0.2.1 a1) fun x1=>
  some (x1,())
 else some (false,())
abbrev XS:Type:=(zO×Int×Unit)→Option (Bool×Unit)
def zf9:VV→XS:=fun wW=>sF Tryz.prog [(71,⟨zd7,zd8,wW⟩)] zoQ (zM []) 30 128 zak zal
theorem zqM (wW) (a0) (a1):zf9 wW (a0,a1,())=zam wW a0 a1:=by kernel_rfl
def Zf:XS:=zf9 ZL
theorem zlt:Con.Ok Tryz.prog 128 ⟨zak,zal,Zf⟩:=zx (zd zjj zn) zq (by kernel_rfl)
theorem zlu (a0) (a1):Zf (a0,a1,())=zam ZL a0 a1:=zqM ZL a0 a1
abbrev zcX:List VT:=[⟨true,zG⟩,⟨true,zK⟩]
abbrev zcY:List VT:=[⟨false,.bool⟩]
def zsG:zW:=zN [cdF zK,cdF zG,cdF qc,cdF zv] [] [] [] [71,128,129,88,89,90]
def zcZ (wW:VV) (kC:XS) (wI:Jk) (qe:xm) (qo:gQ) (yh:Jl) (a0:zO) (a1:jL):Option (Bool×Unit):=
 opt (opt (wW (a1.1,(1,(4095,())))) fun x0=>
  bif !x0.1 then some (1,((false,()),()))
  else opt (kC (a0,(a1.2.1,()))) fun x1=>
   bif !x1.1 then some (1,((false,()),()))
   else opt (kC (a0,(a1.2.2.1,()))) fun x2=>
    bif !x2.1 then some (1,((false,()),()))
    else bif zo a1.2.1 a1.2.2.1 then some (1,((false,()),()))
     else opt (wW (a1.2.2.2.2.1,(84,(1542,())))) fun x3=>
      bif !x3.1 then some (1,((false,()),()))
      else opt (wW (a1.2.2.2.2.2.2.2.1,(1,(1099511627776,())))) fun x4=>
       bif !x4.1 then some (1,((false,()),()))
       else some (0,((false,()),()))) fun x5=>
 bif Nat.beq x5.1 0 then opt (bif zo a1.2.2.2.1 7 then opt (opt (wW (a1.2.2.2.2.2.1,(1,(240,())))) fun x6=>
     bif !x6.1 then some (1,((false,()),()))
     else bif (!((zo a1.2.2.2.2.2.2.1.1 0)&&((zo a1.2.2.2.2.2.2.1.2 0)&&true))) then some (1,((false,()),()))
      else some (0,((x5.2.1.1,()),()))) fun x7=>
    bif Nat.beq x7.1 0 then some (0,((x7.2.1.1,()),()))
    else some (1,((x7.2.1.1,()),()))
   else bif zo a1.2.2.2.1 6 then opt (bif !(zo a1.2.2.2.2.2.1 0) then some (1,((false,()),()))
      else opt (wW (a1.2.2.2.2.2.2.1.1,(a1.2.2.2.2.1,(1048576,())))) fun x8=>
       bif !x8.1 then some (1,((false,()),()))
       else opt (wW (a1.2.2.2.2.2.2.1.2,(1,(2097152,())))) fun x9=>
        bif !x9.1 then some (1,((false,()),()))
        else some (0,((x5.2.1.1,()),()))) fun x10=>
     bif Nat.beq x10.1 0 then some (0,((x10.2.1.1,()),()))
     else some (1,((x10.2.1.1,()),()))
    else some (1,((false,()),()))) fun x11=>
  bif Nat.beq x11.1 0 then opt (bif (zi ((a1.2.2.2.2.2.2.2.2.length:Nat):Int) 1) then some (1,((false,()),()))
    else bif (zi 2 ((a1.2.2.2.2.2.2.2.2.length:Nat):Int)) then some (1,((false,()),()))
     else some (0,((x11.2.1.1,()),()))) fun x12=>
   bif Nat.beq x12.1 0 then opt (zI (fun s13:((Bool×(Int×Unit))×Unit)=>
     bif (zi s13.1.2.1 ((a1.2.2.2.2.2.2.2.2.length:Nat):Int)) then opt (atI a1.2.2.2.2.2.2.2.2 s13.1.2.1) fun x14=>
      opt (opt (wI (a0,(x14,()))) fun x15=>
       bif !x15.1 then some (1,((false,()),()))
       else opt (atI x14 0) fun x16=>
        opt (qe (a0,(x16,()))) fun x17=>
        bif !(zo x17.1 a1.2.1) then some (1,((false,()),()))
        else opt (atI x14 (wrF .i64 (((x14.length:Nat):Int) - 1))) fun x18=>
         opt (qo (a0,(x18,()))) fun x19=>
         bif !(zo x19.1 a1.2.2.1) then some (1,((false,()),()))
         else some (0,((s13.1.1,()),()))) fun x20=>
      bif Nat.beq x20.1 0 then some (.inr ((x20.2.1.1,((wrF .i64 (s13.1.2.1+1)),())),()))
      else some (.inl (1,((x20.2.1.1,(s13.1.2.1,())),())))
     else some (.inl (0,((s13.1.1,(s13.1.2.1,())),())))) zQ ((x12.2.1.1,(0,())),())) fun x21=>
    bif Nat.beq x21.1 0 then bif (zo ((a1.2.2.2.2.2.2.2.2.length:Nat):Int) 1) then some (true,())
     else opt (atI a1.2.2.2.2.2.2.2.2 0) fun x22=>
      opt (atI a1.2.2.2.2.2.2.2.2 1) fun x23=>
      opt (yh (a0,(x22,(x23,())))) fun x24=>
      some (x24.1,())
    else some (x21.2.1.1,())
   else some (x12.2.1.1,())
  else some (x11.2.1.1,())
 else some (x5.2.1.1,())
abbrev Ue:Type:=(zO×jL×Unit)→Option (Bool×Unit)
def zjk:VV→XS→Jk→xm→gQ→Jl→Ue:=fun wW kC wI qe qo yh=>sF Tryz.prog [(71,⟨zd7,zd8,wW⟩),(128,⟨zak,zal,kC⟩),(129,⟨Ua,Ub,wI⟩),(88,⟨Qq,Qr,qe⟩),(89,⟨VS,VU,qo⟩),(90,⟨Uc,Ud,yh⟩)] zsG (zM []) 30 83 zcX zcY
theorem zuM (wW) (kC) (wI) (qe) (qo) (yh) (a0) (a1):zjk wW kC wI qe qo yh (a0,a1,())=zcZ wW kC wI qe qo yh a0 a1:=by kernel_rfl
def Jm:Ue:=zjk ZL Zf xY ji wR uh
theorem zoR:Con.Ok Tryz.prog 83 ⟨zcX,zcY,Jm⟩:=zx (zd zjj (zd zlt (zd zeX (zd JV (zd KW (zd zeY zn)))))) zq (by kernel_rfl)
theorem zoS (a0) (a1):Jm (a0,a1,())=zcZ ZL Zf xY ji wR uh a0 a1:=zuM ZL Zf xY ji wR uh a0 a1
abbrev YP:List VT:=[⟨true,jX⟩,⟨true,zG⟩,⟨false,I⟩]
abbrev YQ:List VT:=[⟨true,zK⟩,⟨false,.bool⟩]
def zhp:zW:=zN [⟨zK,WL zK,[9]⟩,cdF jX,cdF zG,cdF qc,cdF zv] [] [⟨3,147,none,(.list I),true⟩,⟨7,147,none,(.list I),true⟩,⟨10,147,none,(.list I),true⟩,⟨16,147,none,(.list I),true⟩,⟨19,147,none,(.list I),true⟩,⟨2,54,some 6,I,false⟩,⟨5,54,some 6,I,false⟩,⟨2,54,none,(.list I),true⟩,⟨5,54,none,(.list I),true⟩] [(3,147,11,[9]),(7,147,11,[9]),(10,147,11,[9]),(16,147,11,[9]),(19,147,11,[9]),(16,147,11,[9]),(19,147,11,[9])] [129,88,89,90,83]
def YR (QP:zaf) (wI:Jk) (qe:xm) (qo:gQ) (yh:Jl) (JA:Ue) (a0:YO) (a1:zO) (a2:Int):Option (jL×Bool×Unit):=
 bif zo a1.1 0 then none
 else opt (zI (fun s0:((Int×(Int×Unit))×Unit)=>
   bif zi s0.1.2.1 a1.1 then opt (atI a1.2.1 s0.1.1) fun x1=>
    bif !x1 then bif zo a1.1 0 then none
     else some (.inr (((Int.tmod (wrF .i64 (s0.1.1+1)) a1.1),((wrF .i64 (s0.1.2.1+1)),())),()))
    else some (.inl (0,((s0.1.1,(s0.1.2.1,())),())))
   else some (.inl (0,((s0.1.1,(s0.1.2.1,())),())))) zQ (((Int.tmod (wrF .i64 a0.2.2.1) a1.1),(0,())),())) fun x2=>
  opt (zI (fun s3:(((Int×((List Bool)×(List (Int×(Int×(Int×Int))))))×((List Int)×(Int×Unit)))×Unit)=>
   bif zi s3.1.2.2.1 16 then opt (QP (s3.1.1,((wrF .u8 x2.2.1.1),((wrF .u8 (a0.2.2.2.1+(wrF .u8 s3.1.2.2.1))),())))) fun x4=>
    opt (bif (zi 0 ((x4.1.length:Nat):Int)) then opt (wI (s3.1.1,(x4.1,()))) fun x5=>
      bif x5.1 then opt (atI x4.1 0) fun x6=>
       opt (qe (s3.1.1,(x6,()))) fun x7=>
       opt (atI s3.1.1.2.1 x7.1) fun x8=>
       bif x8 then opt (atI x4.1 (wrF .i64 (((x4.1.length:Nat):Int) - 1))) fun x9=>
        opt (qo (s3.1.1,(x9,()))) fun x10=>
        opt (atI s3.1.1.2.1 x10.1) fun x11=>
        bif x11 then some (1,((x4.1,()),()))
        else some (0,((s3.1.2.1,()),()))
       else some (0,((s3.1.2.1,()),()))
      else some (0,((s3.1.2.1,()),()))
     else some (0,((s3.1.2.1,()),()))) fun x12=>
    bif Nat.beq x12.1 0 then some (.inr ((s3.1.1,(x12.2.1.1,((wrF .i64 (s3.1.2.2.1+1)),()))),()))
    else some (.inl (1,((s3.1.1,(x12.2.1.1,(s3.1.2.2.1,()))),())))
   else some (.inl (0,((s3.1.1,(s3.1.2.1,(s3.1.2.2.1,()))),())))) zQ ((a1,([],(0,()))),())) fun x13=>
  bif Nat.beq x13.1 0 then some ((0,(0,(0,(0,(0,(0,((0,0),(0,[])))))))),(false,()))
  else bif zp6 x13.2.1.2.1 then opt (atI x13.2.1.2.1 0) fun x14=>
    opt (qe (a1,(x14,()))) fun x15=>
    opt (atI x13.2.1.2.1 (wrF .i64 (((x13.2.1.2.1.length:Nat):Int) - 1))) fun x16=>
    opt (qo (a1,(x16,()))) fun x17=>
    opt (bif a0.1 then some (0,(((),()),((a2,(x15.1,(x17.1,(6,((wrF .i64 (84+(wrF .i64 a0.2.2.2.2.1))),(0,(((wrF .i64 ((wrF .i64 (84+(wrF .i64 a0.2.2.2.2.1)))+(wrF .i64 (4*(wrF .i64 a0.2.2.2.2.2.2.1))))),(wrF .i64 (1+(wrF .i64 a0.2.2.2.2.2.2.2)))),(1099511627776,((x13.2.1.2.1::[]),()))))))))),())))
     else opt (atI (α:=Int) (4::(6::(8::(12::(16::(24::(48::(10::(5::(240::[])))))))))) (Int.tmod a0.2.2.2.2.2.1 10)) fun x18=>
      opt (gl (α:=Int) (4::(6::(8::(12::(16::(24::(48::(10::(5::(240::[])))))))))) (Int.toNat (Int.tmod a0.2.2.2.2.2.1 10))) fun x19=>
      some (0,(((),()),((a2,(x15.1,(x17.1,(7,((wrF .i64 (84+(wrF .i64 a0.2.2.2.2.1))),(x19,((0,0),(1099511627776,((x13.2.1.2.1::[]),()))))))))),())))) fun x20=>
    opt (zI (fun s21:(((Int×((List Bool)×(List (Int×(Int×(Int×Int))))))×(Unit×(Int×Unit)))×((Int×(Int×(Int×(Int×(Int×(Int×((Int×Int)×(Int×((List (List Int))×Unit)))))))))×Unit))=>
     bif zi s21.1.2.2.1 24 then bif a0.2.1 then bif (zo ((s21.2.1.2.2.2.2.2.2.2.2.1.length:Nat):Int) 1) then opt (zI (fun s22:(((Int×((List Bool)×(List (Int×(Int×(Int×Int))))))×((List Int)×(Int×Unit)))×Unit)=>
         bif zi s22.1.2.2.1 16 then opt (QP (s22.1.1,((wrF .u8 x2.2.1.1),((wrF .u8 ((wrF .u8 (a0.2.2.2.1+(wrF .u8 s21.1.2.2.1)))+(wrF .u8 s22.1.2.2.1))),())))) fun x23=>
          opt (bif (zi 0 ((x23.1.length:Nat):Int)) then opt (wI (s22.1.1,(x23.1,()))) fun x24=>
            bif x24.1 then opt (atI x23.1 0) fun x25=>
             opt (qe (s22.1.1,(x25,()))) fun x26=>
             opt (atI s22.1.1.2.1 x26.1) fun x27=>
             bif x27 then opt (atI x23.1 (wrF .i64 (((x23.1.length:Nat):Int) - 1))) fun x28=>
              opt (qo (s22.1.1,(x28,()))) fun x29=>
              opt (atI s22.1.1.2.1 x29.1) fun x30=>
              bif x30 then some (1,((x23.1,()),()))
              else some (0,((s22.1.2.1,()),()))
             else some (0,((s22.1.2.1,()),()))
            else some (0,((s22.1.2.1,()),()))
           else some (0,((s22.1.2.1,()),()))) fun x31=>
          bif Nat.beq x31.1 0 then some (.inr ((s22.1.1,(x31.2.1.1,((wrF .i64 (s22.1.2.2.1+1)),()))),()))
          else some (.inl (1,((s22.1.1,(x31.2.1.1,(s22.1.2.2.1,()))),())))
         else some (.inl (0,((s22.1.1,(s22.1.2.1,(s22.1.2.2.1,()))),())))) zQ ((s21.1.1,([],(0,()))),())) fun x32=>
        bif Nat.beq x32.1 0 then some (.inr ((s21.1.1,((),((wrF .i64 (s21.1.2.2.1+1)),()))),((s21.2.1.1,(s21.2.1.2.1,(s21.2.1.2.2.1,(s21.2.1.2.2.2.1,(s21.2.1.2.2.2.2.1,(s21.2.1.2.2.2.2.2.1,(s21.2.1.2.2.2.2.2.2.1,(s21.2.1.2.2.2.2.2.2.2.1,(s21.2.1.2.2.2.2.2.2.2.2.1,()))))))))),())))
        else opt (bif zp6 x32.2.1.2.1 then opt (atI x32.2.1.2.1 (wrF .i64 (((x32.2.1.2.1.length:Nat):Int) - 1))) fun x33=>
           opt (qo (s21.1.1,(x33,()))) fun x34=>
           bif zo x34.1 s21.2.1.2.2.1 then opt (yh (s21.1.1,(x13.2.1.2.1,(x32.2.1.2.1,())))) fun x35=>
            bif x35.1 then bif (qE s21.2.1.2.2.2.2.2.2.2.2.1.length ((x32.2.1.2.1::[]).length) 24) then some (0,(((),()),((s21.2.1.1,(s21.2.1.2.1,(s21.2.1.2.2.1,(s21.2.1.2.2.2.1,(s21.2.1.2.2.2.2.1,(s21.2.1.2.2.2.2.2.1,(s21.2.1.2.2.2.2.2.2.1,(s21.2.1.2.2.2.2.2.2.2.1,((s21.2.1.2.2.2.2.2.2.2.2.1++(x32.2.1.2.1::[])),()))))))))),())))
             else none
            else some (0,(((),()),((s21.2.1.1,(s21.2.1.2.1,(s21.2.1.2.2.1,(s21.2.1.2.2.2.1,(s21.2.1.2.2.2.2.1,(s21.2.1.2.2.2.2.2.1,(s21.2.1.2.2.2.2.2.2.1,(s21.2.1.2.2.2.2.2.2.2.1,(s21.2.1.2.2.2.2.2.2.2.2.1,()))))))))),())))
           else some (0,(((),()),((s21.2.1.1,(s21.2.1.2.1,(s21.2.1.2.2.1,(s21.2.1.2.2.2.1,(s21.2.1.2.2.2.2.1,(s21.2.1.2.2.2.2.2.1,(s21.2.1.2.2.2.2.2.2.1,(s21.2.1.2.2.2.2.2.2.2.1,(s21.2.1.2.2.2.2.2.2.2.2.1,()))))))))),())))
          else none) fun x36=>
         some (.inr ((s21.1.1,((),((wrF .i64 (s21.1.2.2.1+1)),()))),((x36.2.2.1.1,(x36.2.2.1.2.1,(x36.2.2.1.2.2.1,(x36.2.2.1.2.2.2.1,(x36.2.2.1.2.2.2.2.1,(x36.2.2.1.2.2.2.2.2.1,(x36.2.2.1.2.2.2.2.2.2.1,(x36.2.2.1.2.2.2.2.2.2.2.1,(x36.2.2.1.2.2.2.2.2.2.2.2.1,()))))))))),())))
       else some (.inl (0,((s21.1.1,((),(s21.1.2.2.1,()))),((s21.2.1.1,(s21.2.1.2.1,(s21.2.1.2.2.1,(s21.2.1.2.2.2.1,(s21.2.1.2.2.2.2.1,(s21.2.1.2.2.2.2.2.1,(s21.2.1.2.2.2.2.2.2.1,(s21.2.1.2.2.2.2.2.2.2.1,(s21.2.1.2.2.2.2.2.2.2.2.1,()))))))))),()))))
      else some (.inl (0,((s21.1.1,((),(s21.1.2.2.1,()))),((s21.2.1.1,(s21.2.1.2.1,(s21.2.1.2.2.1,(s21.2.1.2.2.2.1,(s21.2.1.2.2.2.2.1,(s21.2.1.2.2.2.2.2.1,(s21.2.1.2.2.2.2.2.2.1,(s21.2.1.2.2.2.2.2.2.2.1,(s21.2.1.2.2.2.2.2.2.2.2.1,()))))))))),()))))
     else some (.inl (0,((s21.1.1,((),(s21.1.2.2.1,()))),((s21.2.1.1,(s21.2.1.2.1,(s21.2.1.2.2.1,(s21.2.1.2.2.2.1,(s21.2.1.2.2.2.2.1,(s21.2.1.2.2.2.2.2.1,(s21.2.1.2.2.2.2.2.2.1,(s21.2.1.2.2.2.2.2.2.2.1,(s21.2.1.2.2.2.2.2.2.2.2.1,()))))))))),()))))) zQ ((a1,((),(0,()))),((x20.2.2.1.1,(x20.2.2.1.2.1,(x20.2.2.1.2.2.1,(x20.2.2.1.2.2.2.1,(x20.2.2.1.2.2.2.2.1,(x20.2.2.1.2.2.2.2.2.1,(x20.2.2.1.2.2.2.2.2.2.1,(x20.2.2.1.2.2.2.2.2.2.2.1,(x20.2.2.1.2.2.2.2.2.2.2.2.1,()))))))))),()))) fun x37=>
    opt (JA (x37.2.1.1,((x37.2.2.1.1,(x37.2.2.1.2.1,(x37.2.2.1.2.2.1,(x37.2.2.1.2.2.2.1,(x37.2.2.1.2.2.2.2.1,(x37.2.2.1.2.2.2.2.2.1,(x37.2.2.1.2.2.2.2.2.2.1,(x37.2.2.1.2.2.2.2.2.2.2.1,x37.2.2.1.2.2.2.2.2.2.2.2.1)))))))),()))) fun x38=>
    some ((x37.2.2.1.1,(x37.2.2.1.2.1,(x37.2.2.1.2.2.1,(x37.2.2.1.2.2.2.1,(x37.2.2.1.2.2.2.2.1,(x37.2.2.1.2.2.2.2.2.1,(x37.2.2.1.2.2.2.2.2.2.1,(x37.2.2.1.2.2.2.2.2.2.2.1,x37.2.2.1.2.2.2.2.2.2.2.2.1)))))))),(x38.1,()))
   else none
abbrev ZM:Type:=(YO×zO×Int×Unit)→Option (jL×Bool×Unit)
def zan:zaf→Jk→xm→gQ→Jl→Ue→ZM:=fun QP wI qe qo yh JA=>sF Tryz.prog [(131,⟨zeQ,zeR,QP⟩),(129,⟨Ua,Ub,wI⟩),(88,⟨Qq,Qr,qe⟩),(89,⟨VS,VU,qo⟩),(90,⟨Uc,Ud,yh⟩),(83,⟨zcX,zcY,JA⟩)] zhp (zM []) 30 63 YP YQ
theorem ziF (QP) (wI) (qe) (qo) (yh) (JA) (a0) (a1) (a2):zan QP wI qe qo yh JA (a0,a1,a2,())=YR QP wI qe qo yh JA a0 a1 a2:=by kernel_rfl
def xd:ZM:=zan gU xY ji wR uh Jm
theorem zfM:Con.Ok Tryz.prog 63 ⟨YP,YQ,xd⟩:=zx (zd zqG (zd zeX (zd JV (zd KW (zd zeY (zd zoR zn)))))) zq (by kernel_rfl)
theorem zfN (a0) (a1) (a2):xd (a0,a1,a2,())=YR gU xY ji wR uh Jm a0 a1 a2:=ziF gU xY ji wR uh Jm a0 a1 a2
abbrev Zg:List VT:=[⟨true,yR⟩]
abbrev Zh:List VT:=[⟨false,(.list zK)⟩]
def zgC:zW:=zN [cdF yR,cdF zK,cdF jX,cdF xH,cdF zG,cdF qc,⟨(.pair (.int .u8) (.pair (.int .u8) (.int .u8))),WL (.pair (.int .u8) (.pair (.int .u8) (.int .u8))),[]⟩,cdF Zc,cdF zv] [] [⟨3,61,some 2,zK,false⟩,⟨3,61,some 3,jX,true⟩,⟨10,61,some 2,zK,false⟩,⟨10,61,some 3,jX,true⟩,⟨12,61,some 2,zK,false⟩,⟨12,61,some 3,jX,true⟩,⟨3,38,some 4,zK,false⟩,⟨3,38,some 5,zK,true⟩,⟨6,38,some 4,zK,false⟩,⟨6,38,some 5,zK,true⟩] [] []
def WR (jc:uM) (vp:ZM) (a0:jK):Option ((List jL)×Unit):=
 opt (zI (fun s0:((Int×Unit)×((List (Bool×(Bool×(Int×(Int×(Int×(Int×(Int×Int))))))))×Unit))=>
  bif (zi s0.1.1 ((a0.2.2.2.2.2.1.length:Nat):Int)) then opt (atI a0.2.2.2.2.2.1 s0.1.1) fun x1=>
   bif (qE s0.2.1.length (((true,x1.2)::[]).length) 10) then some (.inr (((wrF .i64 (s0.1.1+1)),()),((s0.2.1++((true,x1.2)::[])),())))
   else none
  else some (.inl (0,((s0.1.1,()),(s0.2.1,()))))) zQ ((0,()),([],()))) fun x2=>
 opt (jc (a0.1,())) fun x3=>
 opt (zI (fun s4:(((Int×((List Bool)×(List (Int×(Int×(Int×Int))))))×(Int×Unit))×((List (Bool×(Bool×(Int×(Int×(Int×(Int×(Int×Int))))))))×((List (Int×(Int×(Int×(Int×(Int×(Int×((Int×Int)×(Int×(List (List Int)))))))))))×Unit)))=>
  bif (zi s4.1.2.1 ((s4.2.1.length:Nat):Int)) then bif (zi ((s4.2.2.1.length:Nat):Int) 6) then opt (atI s4.2.1 s4.1.2.1) fun x5=>
    opt (gl s4.2.1 (Int.toNat s4.1.2.1)) fun x6=>
    opt (vp (x6,(s4.1.1,((wrF .i64 (((s4.2.2.1.length:Nat):Int)+1)),())))) fun x7=>
    opt (bif x7.2.1 then bif (qE s4.2.2.1.length ((x7.1::[]).length) 96) then some (0,((),((s4.2.2.1++(x7.1::[])),())))
      else none
     else some (0,((),(s4.2.2.1,())))) fun x8=>
    some (.inr ((s4.1.1,((wrF .i64 (s4.1.2.1+1)),())),(s4.2.1,(x8.2.2.1,()))))
   else some (.inl (0,((s4.1.1,(s4.1.2.1,())),(s4.2.1,(s4.2.2.1,())))))
  else some (.inl (0,((s4.1.1,(s4.1.2.1,())),(s4.2.1,(s4.2.2.1,())))))) zQ ((x3.1,(0,())),(x2.2.2.1,([],())))) fun x9=>
 opt (zI (fun s10:((Int×Unit)×((List (Int×(Int×(Int×(Int×(Int×(Int×((Int×Int)×(Int×(List (List Int)))))))))))×Unit))=>
  bif (zi s10.1.1 ((s10.2.1.length:Nat):Int)) then opt (bif (zi s10.1.1 ((a0.2.2.2.2.2.2.length:Nat):Int)) then opt (atI a0.2.2.2.2.2.2 s10.1.1) fun x11=>
     bif zi 0 x11 then opt (atI a0.2.2.2.2.2.2 s10.1.1) fun x12=>
      opt (atI s10.2.1 s10.1.1) fun x13=>
      opt (gl s10.2.1 (Int.toNat s10.1.1)) fun x14=>
      some (0,((),((s10.2.1.set (Int.toNat s10.1.1) (x14.1,(x14.2.1,(x14.2.2.1,(x14.2.2.2.1,(x14.2.2.2.2.1,(x14.2.2.2.2.2.1,(x14.2.2.2.2.2.2.1,((wrF .i64 (20*(wrF .i64 x12))),x14.2.2.2.2.2.2.2.2))))))))),())))
     else some (0,((),(s10.2.1,())))
    else some (0,((),(s10.2.1,())))) fun x15=>
   some (.inr (((wrF .i64 (s10.1.1+1)),()),(x15.2.2.1,())))
  else some (.inl (0,((s10.1.1,()),(s10.2.1,()))))) zQ ((0,()),(x9.2.2.2.1,()))) fun x16=>
 some (x16.2.2.1,())
abbrev WS:Type:=(jK×Unit)→Option ((List jL)×Unit)
def Gr:uM→ZM→WS:=fun jc vp=>sF Tryz.prog [(32,⟨JT,JU,jc⟩),(63,⟨YP,YQ,vp⟩)] zgC (zM []) 30 11 Zg Zh
theorem zhq (jc) (vp) (a0):Gr jc vp (a0,())=WR jc vp a0:=by kernel_rfl
def yS:WS:=Gr wD xd
theorem zeZ:Con.Ok Tryz.prog 11 ⟨Zg,Zh,yS⟩:=zx (zd Gq (zd zfM zn)) zq (by kernel_rfl)
theorem ze0 (a0):yS (a0,())=WR wD xd a0:=zhq wD xd a0
abbrev Wg:List VT:=[⟨true,zG⟩,⟨false,I⟩]
abbrev Wh:List VT:=[⟨false,.bool⟩]
def zxe:zW:=zN [cdF zG,cdF qc] [] [] [] []
def zgD (a0:zO) (a1:Int):Option (Bool×Unit):=
 bif !(zi a1 0) then some ((zi a1 a0.1),())
 else some (false,())
abbrev zca:Type:=(zO×Int×Unit)→Option (Bool×Unit)
def znT:zca:=sF Tryz.prog [] zxe (zM []) 30 92 Wg Wh
theorem zyh (a0) (a1):znT (a0,a1,())=zgD a0 a1:=by kernel_rfl
def Xz:zca:=znT
theorem zsH:Con.Ok Tryz.prog 92 ⟨Wg,Wh,Xz⟩:=zx zn zq (by kernel_rfl)
theorem zsI (a0) (a1):Xz (a0,a1,())=zgD  a0 a1:=zyh  a0 a1
abbrev Qs:List VT:=[⟨true,zG⟩]
abbrev Qt:List VT:=[⟨false,.bool⟩]
def zuN:zW:=zN [cdF zG,cdF qc] [] [] [] [92]
def ze1 (Wj:zca) (a0:zO):Option (Bool×Unit):=
 opt (zI (fun s0:((Bool×(Int×Unit))×Unit)=>
  bif (zi s0.1.2.1 ((a0.2.2.length:Nat):Int)) then opt (zI (fun s1:((Bool×(Int×Unit))×Unit)=>
    bif zi s1.1.2.1 4 then bif zo s1.1.2.1 0 then opt (atI a0.2.2 s0.1.2.1) fun x2=>
      opt (Wj (a0,(x2.1,()))) fun x3=>
      bif x3.1 then opt (Wj (a0,(x2.2.1,()))) fun x4=>
       bif x4.1 then bif (!(!(zo x2.1 x2.2.1))) then some (.inl (1,((false,(s1.1.2.1,())),())))
        else some (.inr ((s1.1.1,((wrF .i64 (s1.1.2.1+1)),())),()))
       else some (.inl (1,((false,(s1.1.2.1,())),())))
      else some (.inl (1,((false,(s1.1.2.1,())),())))
     else bif zo s1.1.2.1 1 then opt (atI a0.2.2 s0.1.2.1) fun x5=>
       opt (atI a0.2.1 x5.1) fun x6=>
       bif !x6 then some (.inr ((s1.1.1,((wrF .i64 (s1.1.2.1+1)),())),()))
       else opt (atI a0.2.1 x5.2.1) fun x7=>
        bif !(!x7) then some (.inl (1,((false,(s1.1.2.1,())),())))
        else some (.inr ((s1.1.1,((wrF .i64 (s1.1.2.1+1)),())),()))
      else bif zo s1.1.2.1 2 then opt (atI a0.2.2 s0.1.2.1) fun x8=>
        opt (zbp a0.2.2 none (some s0.1.2.1) none) fun x9=>
        opt (zI (fun s10:((Bool×(Int×Unit))×Unit)=>
         bif (zi s10.1.2.1 ((x9.length:Nat):Int)) then opt (atI x9 s10.1.2.1) fun x11=>
          opt (bif zo x8.1 x11.1 then bif zo x8.2.1 x11.2.1 then some (1,((false,()),()))
            else bif zo x8.1 x11.2.1 then bif zo x8.2.1 x11.1 then some (1,((false,()),()))
              else some (0,((s10.1.1,()),()))
             else some (0,((s10.1.1,()),()))
           else bif zo x8.1 x11.2.1 then bif zo x8.2.1 x11.1 then some (1,((false,()),()))
             else some (0,((s10.1.1,()),()))
            else some (0,((s10.1.1,()),()))) fun x12=>
          bif Nat.beq x12.1 0 then some (.inr ((x12.2.1.1,((wrF .i64 (s10.1.2.1+1)),())),()))
          else some (.inl (1,((x12.2.1.1,(s10.1.2.1,())),())))
         else some (.inl (0,((s10.1.1,(s10.1.2.1,())),())))) zQ ((false,(0,())),())) fun x13=>
        bif Nat.beq x13.1 0 then some (.inr ((s1.1.1,((wrF .i64 (s1.1.2.1+1)),())),()))
        else bif !x13.2.1.1 then some (.inl (1,((false,(s1.1.2.1,())),())))
         else some (.inr ((s1.1.1,((wrF .i64 (s1.1.2.1+1)),())),()))
       else bif zo s1.1.2.1 3 then opt (atI a0.2.2 s0.1.2.1) fun x14=>
         bif !(zi x14.2.2.1 1) then bif !(zi 1000 x14.2.2.1) then bif !(zi x14.2.2.2 0) then bif (!(!(zi 10000 x14.2.2.2))) then some (.inl (1,((false,(s1.1.2.1,())),())))
            else some (.inr ((s1.1.1,((wrF .i64 (s1.1.2.1+1)),())),()))
           else some (.inl (1,((false,(s1.1.2.1,())),())))
          else some (.inl (1,((false,(s1.1.2.1,())),())))
         else some (.inl (1,((false,(s1.1.2.1,())),())))
        else none
    else some (.inl (0,((s1.1.1,(s1.1.2.1,())),())))) zQ ((s0.1.1,(0,())),())) fun x15=>
   bif Nat.beq x15.1 0 then some (.inr ((x15.2.1.1,((wrF .i64 (s0.1.2.1+1)),())),()))
   else some (.inl (1,((x15.2.1.1,(s0.1.2.1,())),())))
  else some (.inl (0,((s0.1.1,(s0.1.2.1,())),())))) zQ ((false,(0,())),())) fun x16=>
 bif Nat.beq x16.1 0 then some (true,())
 else some (x16.2.1.1,())
abbrev zao:Type:=(zO×Unit)→Option (Bool×Unit)
def zlv:zca→zao:=fun Wj=>sF Tryz.prog [(92,⟨Wg,Wh,Wj⟩)] zuN (zM []) 30 64 Qs Qt
theorem zxf (Wj) (a0):zlv Wj (a0,())=ze1 Wj a0:=by kernel_rfl
def WT:zao:=zlv Xz
theorem zqN:Con.Ok Tryz.prog 64 ⟨Qs,Qt,WT⟩:=zx (zd zsH zn) zq (by kernel_rfl)
theorem zqO (a0):WT (a0,())=ze1 Xz a0:=zxf Xz a0
abbrev Qu:List VT:=[⟨true,zG⟩,⟨false,I⟩,⟨true,(.pair .bool (.pair .bool (.pair .bool (.pair .bool (.pair .bool (.pair .bool (.pair .bool (.pair .bool (.pair .bool (.pair .bool (.pair .bool (.pair .bool (.pair .bool (.pair .bool (.pair .bool (.pair .bool (.pair .bool (.pair .bool (.pair .bool (.pair .bool (.pair .bool (.pair .bool (.pair .bool .bool)))))))))))))))))))))))⟩]
abbrev Qv:List VT:=[⟨false,(.list .bool)⟩]
def zuO:zW:=zN [⟨(.pair .bool (.pair .bool (.pair .bool (.pair .bool (.pair .bool (.pair .bool (.pair .bool (.pair .bool (.pair .bool (.pair .bool (.pair .bool (.pair .bool (.pair .bool (.pair .bool (.pair .bool (.pair .bool (.pair .bool (.pair .bool (.pair .bool (.pair .bool (.pair .bool (.pair .bool (.pair .bool .bool))))))))))))))))))))))),WL (.pair .bool (.pair .bool (.pair .bool (.pair .bool (.pair .bool (.pair .bool (.pair .bool (.pair .bool (.pair .bool (.pair .bool (.pair .bool (.pair .bool (.pair .bool (.pair .bool (.pair .bool (.pair .bool (.pair .bool (.pair .bool (.pair .bool (.pair .bool (.pair .bool (.pair .bool (.pair .bool .bool))))))))))))))))))))))),[]⟩,cdF zG,cdF qc] [] [⟨4,56,some 6,.bool,false⟩,⟨6,56,some 6,.bool,false⟩,⟨8,56,some 6,.bool,false⟩] [] []
def ze2 (a0:zO) (a1:Int) (a2:(Bool×(Bool×(Bool×(Bool×(Bool×(Bool×(Bool×(Bool×(Bool×(Bool×(Bool×(Bool×(Bool×(Bool×(Bool×(Bool×(Bool×(Bool×(Bool×(Bool×(Bool×(Bool×(Bool×Bool)))))))))))))))))))))))):Option ((List Bool)×Unit):=
 bif zeu a0.1 a0.1 1 then opt (atI (List.replicate (Int.toNat a0.1) false) a1) fun x0=>
  opt (gl (List.replicate (Int.toNat a0.1) false) (Int.toNat a1)) fun x1=>
  opt (zI (fun s2:((Int×Unit)×((List Bool)×Unit))=>
   bif zi s2.1.1 a0.1 then opt (zI (fun s3:((Int×Unit)×((List Bool)×Unit))=>
     bif (zi s3.1.1 ((a0.2.2.length:Nat):Int)) then opt (atI a0.2.2 s3.1.1) fun x4=>
      opt (bif zo s3.1.1 0 then bif !a2.1 then opt (atI s3.2.1 x4.1) fun x5=>
         opt (gl s3.2.1 (Int.toNat x4.1)) fun x6=>
         opt (atI s3.2.1 x4.2.1) fun x7=>
         opt (gl s3.2.1 (Int.toNat x4.2.1)) fun x8=>
         bif !(x6 == x8) then opt (atI s3.2.1 x4.1) fun x9=>
          opt (gl s3.2.1 (Int.toNat x4.1)) fun x10=>
          opt (atI (s3.2.1.set (Int.toNat x4.1) true) x4.2.1) fun x11=>
          opt (gl (s3.2.1.set (Int.toNat x4.1) true) (Int.toNat x4.2.1)) fun x12=>
          some (0,((),(((s3.2.1.set (Int.toNat x4.1) true).set (Int.toNat x4.2.1) true),())))
         else some (0,((),(s3.2.1,())))
        else some (0,((),(s3.2.1,())))
       else bif zo s3.1.1 1 then bif !a2.2.1 then opt (atI s3.2.1 x4.1) fun x13=>
          opt (gl s3.2.1 (Int.toNat x4.1)) fun x14=>
          opt (atI s3.2.1 x4.2.1) fun x15=>
          opt (gl s3.2.1 (Int.toNat x4.2.1)) fun x16=>
          bif !(x14 == x16) then opt (atI s3.2.1 x4.1) fun x17=>
           opt (gl s3.2.1 (Int.toNat x4.1)) fun x18=>
           opt (atI (s3.2.1.set (Int.toNat x4.1) true) x4.2.1) fun x19=>
           opt (gl (s3.2.1.set (Int.toNat x4.1) true) (Int.toNat x4.2.1)) fun x20=>
           some (0,((),(((s3.2.1.set (Int.toNat x4.1) true).set (Int.toNat x4.2.1) true),())))
          else some (0,((),(s3.2.1,())))
         else some (0,((),(s3.2.1,())))
        else bif zo s3.1.1 2 then bif !a2.2.2.1 then opt (atI s3.2.1 x4.1) fun x21=>
           opt (gl s3.2.1 (Int.toNat x4.1)) fun x22=>
           opt (atI s3.2.1 x4.2.1) fun x23=>
           opt (gl s3.2.1 (Int.toNat x4.2.1)) fun x24=>
           bif !(x22 == x24) then opt (atI s3.2.1 x4.1) fun x25=>
            opt (gl s3.2.1 (Int.toNat x4.1)) fun x26=>
            opt (atI (s3.2.1.set (Int.toNat x4.1) true) x4.2.1) fun x27=>
            opt (gl (s3.2.1.set (Int.toNat x4.1) true) (Int.toNat x4.2.1)) fun x28=>
            some (0,((),(((s3.2.1.set (Int.toNat x4.1) true).set (Int.toNat x4.2.1) true),())))
           else some (0,((),(s3.2.1,())))
          else some (0,((),(s3.2.1,())))
         else bif zo s3.1.1 3 then bif !a2.2.2.2.1 then opt (atI s3.2.1 x4.1) fun x29=>
            opt (gl s3.2.1 (Int.toNat x4.1)) fun x30=>
            opt (atI s3.2.1 x4.2.1) fun x31=>
            opt (gl s3.2.1 (Int.toNat x4.2.1)) fun x32=>
            bif !(x30 == x32) then opt (atI s3.2.1 x4.1) fun x33=>
             opt (gl s3.2.1 (Int.toNat x4.1)) fun x34=>
             opt (atI (s3.2.1.set (Int.toNat x4.1) true) x4.2.1) fun x35=>
             opt (gl (s3.2.1.set (Int.toNat x4.1) true) (Int.toNat x4.2.1)) fun x36=>
             some (0,((),(((s3.2.1.set (Int.toNat x4.1) true).set (Int.toNat x4.2.1) true),())))
            else some (0,((),(s3.2.1,())))
           else some (0,((),(s3.2.1,())))
          else bif zo s3.1.1 4 then bif !a2.2.2.2.2.1 then opt (atI s3.2.1 x4.1) fun x37=>
             opt (gl s3.2.1 (Int.toNat x4.1)) fun x38=>
             opt (atI s3.2.1 x4.2.1) fun x39=>
             opt (gl s3.2.1 (Int.toNat x4.2.1)) fun x40=>
             bif !(x38 == x40) then opt (atI s3.2.1 x4.1) fun x41=>
              opt (gl s3.2.1 (Int.toNat x4.1)) fun x42=>
              opt (atI (s3.2.1.set (Int.toNat x4.1) true) x4.2.1) fun x43=>
              opt (gl (s3.2.1.set (Int.toNat x4.1) true) (Int.toNat x4.2.1)) fun x44=>
              some (0,((),(((s3.2.1.set (Int.toNat x4.1) true).set (Int.toNat x4.2.1) true),())))
             else some (0,((),(s3.2.1,())))
            else some (0,((),(s3.2.1,())))
           else bif zo s3.1.1 5 then bif !a2.2.2.2.2.2.1 then opt (atI s3.2.1 x4.1) fun x45=>
              opt (gl s3.2.1 (Int.toNat x4.1)) fun x46=>
              opt (atI s3.2.1 x4.2.1) fun x47=>
              opt (gl s3.2.1 (Int.toNat x4.2.1)) fun x48=>
              bif !(x46 == x48) then opt (atI s3.2.1 x4.1) fun x49=>
               opt (gl s3.2.1 (Int.toNat x4.1)) fun x50=>
               opt (atI (s3.2.1.set (Int.toNat x4.1) true) x4.2.1) fun x51=>
               opt (gl (s3.2.1.set (Int.toNat x4.1) true) (Int.toNat x4.2.1)) fun x52=>
               some (0,((),(((s3.2.1.set (Int.toNat x4.1) true).set (Int.toNat x4.2.1) true),())))
              else some (0,((),(s3.2.1,())))
             else some (0,((),(s3.2.1,())))
            else bif zo s3.1.1 6 then bif !a2.2.2.2.2.2.2.1 then opt (atI s3.2.1 x4.1) fun x53=>
               opt (gl s3.2.1 (Int.toNat x4.1)) fun x54=>
               opt (atI s3.2.1 x4.2.1) fun x55=>
               opt (gl s3.2.1 (Int.toNat x4.2.1)) fun x56=>
               bif !(x54 == x56) then opt (atI s3.2.1 x4.1) fun x57=>
                opt (gl s3.2.1 (Int.toNat x4.1)) fun x58=>
                opt (atI (s3.2.1.set (Int.toNat x4.1) true) x4.2.1) fun x59=>
                opt (gl (s3.2.1.set (Int.toNat x4.1) true) (Int.toNat x4.2.1)) fun x60=>
                some (0,((),(((s3.2.1.set (Int.toNat x4.1) true).set (Int.toNat x4.2.1) true),())))
               else some (0,((),(s3.2.1,())))
              else some (0,((),(s3.2.1,())))
             else bif zo s3.1.1 7 then bif !a2.2.2.2.2.2.2.2.1 then opt (atI s3.2.1 x4.1) fun x61=>
                opt (gl s3.2.1 (Int.toNat x4.1)) fun x62=>
                opt (atI s3.2.1 x4.2.1) fun x63=>
                opt (gl s3.2.1 (Int.toNat x4.2.1)) fun x64=>
                bif !(x62 == x64) then opt (atI s3.2.1 x4.1) fun x65=>
                 opt (gl s3.2.1 (Int.toNat x4.1)) fun x66=>
                 opt (atI (s3.2.1.set (Int.toNat x4.1) true) x4.2.1) fun x67=>
                 opt (gl (s3.2.1.set (Int.toNat x4.1) true) (Int.toNat x4.2.1)) fun x68=>
                 some (0,((),(((s3.2.1.set (Int.toNat x4.1) true).set (Int.toNat x4.2.1) true),())))
                else some (0,((),(s3.2.1,())))
               else some (0,((),(s3.2.1,())))
              else bif zo s3.1.1 8 then bif !a2.2.2.2.2.2.2.2.2.1 then opt (atI s3.2.1 x4.1) fun x69=>
                 opt (gl s3.2.1 (Int.toNat x4.1)) fun x70=>
                 opt (atI s3.2.1 x4.2.1) fun x71=>
                 opt (gl s3.2.1 (Int.toNat x4.2.1)) fun x72=>
                 bif !(x70 == x72) then opt (atI s3.2.1 x4.1) fun x73=>
                  opt (gl s3.2.1 (Int.toNat x4.1)) fun x74=>
                  opt (atI (s3.2.1.set (Int.toNat x4.1) true) x4.2.1) fun x75=>
                  opt (gl (s3.2.1.set (Int.toNat x4.1) true) (Int.toNat x4.2.1)) fun x76=>
                  some (0,((),(((s3.2.1.set (Int.toNat x4.1) true).set (Int.toNat x4.2.1) true),())))
                 else some (0,((),(s3.2.1,())))
                else some (0,((),(s3.2.1,())))
               else bif zo s3.1.1 9 then bif !a2.2.2.2.2.2.2.2.2.2.1 then opt (atI s3.2.1 x4.1) fun x77=>
                  opt (gl s3.2.1 (Int.toNat x4.1)) fun x78=>
                  opt (atI s3.2.1 x4.2.1) fun x79=>
                  opt (gl s3.2.1 (Int.toNat x4.2.1)) fun x80=>
                  bif !(x78 == x80) then opt (atI s3.2.1 x4.1) fun x81=>
                   opt (gl s3.2.1 (Int.toNat x4.1)) fun x82=>
                   opt (atI (s3.2.1.set (Int.toNat x4.1) true) x4.2.1) fun x83=>
                   opt (gl (s3.2.1.set (Int.toNat x4.1) true) (Int.toNat x4.2.1)) fun x84=>
                   some (0,((),(((s3.2.1.set (Int.toNat x4.1) true).set (Int.toNat x4.2.1) true),())))
                  else some (0,((),(s3.2.1,())))
                 else some (0,((),(s3.2.1,())))
                else bif zo s3.1.1 10 then bif !a2.2.2.2.2.2.2.2.2.2.2.1 then opt (atI s3.2.1 x4.1) fun x85=>
                   opt (gl s3.2.1 (Int.toNat x4.1)) fun x86=>
                   opt (atI s3.2.1 x4.2.1) fun x87=>
                   opt (gl s3.2.1 (Int.toNat x4.2.1)) fun x88=>
                   bif !(x86 == x88) then opt (atI s3.2.1 x4.1) fun x89=>
                    opt (gl s3.2.1 (Int.toNat x4.1)) fun x90=>
                    opt (atI (s3.2.1.set (Int.toNat x4.1) true) x4.2.1) fun x91=>
                    opt (gl (s3.2.1.set (Int.toNat x4.1) true) (Int.toNat x4.2.1)) fun x92=>
                    some (0,((),(((s3.2.1.set (Int.toNat x4.1) true).set (Int.toNat x4.2.1) true),())))
                   else some (0,((),(s3.2.1,())))
                  else some (0,((),(s3.2.1,())))
                 else bif zo s3.1.1 11 then bif !a2.2.2.2.2.2.2.2.2.2.2.2.1 then opt (atI s3.2.1 x4.1) fun x93=>
                    opt (gl s3.2.1 (Int.toNat x4.1)) fun x94=>
                    opt (atI s3.2.1 x4.2.1) fun x95=>
                    opt (gl s3.2.1 (Int.toNat x4.2.1)) fun x96=>
                    bif !(x94 == x96) then opt (atI s3.2.1 x4.1) fun x97=>
                     opt (gl s3.2.1 (Int.toNat x4.1)) fun x98=>
                     opt (atI (s3.2.1.set (Int.toNat x4.1) true) x4.2.1) fun x99=>
                     opt (gl (s3.2.1.set (Int.toNat x4.1) true) (Int.toNat x4.2.1)) fun x100=>
                     some (0,((),(((s3.2.1.set (Int.toNat x4.1) true).set (Int.toNat x4.2.1) true),())))
                    else some (0,((),(s3.2.1,())))
                   else some (0,((),(s3.2.1,())))
                  else bif zo s3.1.1 12 then bif !a2.2.2.2.2.2.2.2.2.2.2.2.2.1 then opt (atI s3.2.1 x4.1) fun x101=>
                     opt (gl s3.2.1 (Int.toNat x4.1)) fun x102=>
                     opt (atI s3.2.1 x4.2.1) fun x103=>
                     opt (gl s3.2.1 (Int.toNat x4.2.1)) fun x104=>
                     bif !(x102 == x104) then opt (atI s3.2.1 x4.1) fun x105=>
                      opt (gl s3.2.1 (Int.toNat x4.1)) fun x106=>
                      opt (atI (s3.2.1.set (Int.toNat x4.1) true) x4.2.1) fun x107=>
                      opt (gl (s3.2.1.set (Int.toNat x4.1) true) (Int.toNat x4.2.1)) fun x108=>
                      some (0,((),(((s3.2.1.set (Int.toNat x4.1) true).set (Int.toNat x4.2.1) true),())))
                     else some (0,((),(s3.2.1,())))
                    else some (0,((),(s3.2.1,())))
                   else bif zo s3.1.1 13 then bif !a2.2.2.2.2.2.2.2.2.2.2.2.2.2.1 then opt (atI s3.2.1 x4.1) fun x109=>
                      opt (gl s3.2.1 (Int.toNat x4.1)) fun x110=>
                      opt (atI s3.2.1 x4.2.1) fun x111=>
                      opt (gl s3.2.1 (Int.toNat x4.2.1)) fun x112=>
                      bif !(x110 == x112) then opt (atI s3.2.1 x4.1) fun x113=>
                       opt (gl s3.2.1 (Int.toNat x4.1)) fun x114=>
                       opt (atI (s3.2.1.set (Int.toNat x4.1) true) x4.2.1) fun x115=>
                       opt (gl (s3.2.1.set (Int.toNat x4.1) true) (Int.toNat x4.2.1)) fun x116=>
                       some (0,((),(((s3.2.1.set (Int.toNat x4.1) true).set (Int.toNat x4.2.1) true),())))
                      else some (0,((),(s3.2.1,())))
                     else some (0,((),(s3.2.1,())))
                    else bif zo s3.1.1 14 then bif !a2.2.2.2.2.2.2.2.2.2.2.2.2.2.2.1 then opt (atI s3.2.1 x4.1) fun x117=>
                       opt (gl s3.2.1 (Int.toNat x4.1)) fun x118=>
                       opt (atI s3.2.1 x4.2.1) fun x119=>
                       opt (gl s3.2.1 (Int.toNat x4.2.1)) fun x120=>
                       bif !(x118 == x120) then opt (atI s3.2.1 x4.1) fun x121=>
                        opt (gl s3.2.1 (Int.toNat x4.1)) fun x122=>
                        opt (atI (s3.2.1.set (Int.toNat x4.1) true) x4.2.1) fun x123=>
                        opt (gl (s3.2.1.set (Int.toNat x4.1) true) (Int.toNat x4.2.1)) fun x124=>
                        some (0,((),(((s3.2.1.set (Int.toNat x4.1) true).set (Int.toNat x4.2.1) true),())))
                       else some (0,((),(s3.2.1,())))
                      else some (0,((),(s3.2.1,())))
                     else bif zo s3.1.1 15 then bif !a2.2.2.2.2.2.2.2.2.2.2.2.2.2.2.2.1 then opt (atI s3.2.1 x4.1) fun x125=>
                        opt (gl s3.2.1 (Int.toNat x4.1)) fun x126=>
                        opt (atI s3.2.1 x4.2.1) fun x127=>
                        opt (gl s3.2.1 (Int.toNat x4.2.1)) fun x128=>
                        bif !(x126 == x128) then opt (atI s3.2.1 x4.1) fun x129=>
                         opt (gl s3.2.1 (Int.toNat x4.1)) fun x130=>
                         opt (atI (s3.2.1.set (Int.toNat x4.1) true) x4.2.1) fun x131=>
                         opt (gl (s3.2.1.set (Int.toNat x4.1) true) (Int.toNat x4.2.1)) fun x132=>
                         some (0,((),(((s3.2.1.set (Int.toNat x4.1) true).set (Int.toNat x4.2.1) true),())))
                        else some (0,((),(s3.2.1,())))
                       else some (0,((),(s3.2.1,())))
                      else bif zo s3.1.1 16 then bif !a2.2.2.2.2.2.2.2.2.2.2.2.2.2.2.2.2.1 then opt (atI s3.2.1 x4.1) fun x133=>
                         opt (gl s3.2.1 (Int.toNat x4.1)) fun x134=>
                         opt (atI s3.2.1 x4.2.1) fun x135=>
                         opt (gl s3.2.1 (Int.toNat x4.2.1)) fun x136=>
                         bif !(x134 == x136) then opt (atI s3.2.1 x4.1) fun x137=>
                          opt (gl s3.2.1 (Int.toNat x4.1)) fun x138=>
                          opt (atI (s3.2.1.set (Int.toNat x4.1) true) x4.2.1) fun x139=>
                          opt (gl (s3.2.1.set (Int.toNat x4.1) true) (Int.toNat x4.2.1)) fun x140=>
                          some (0,((),(((s3.2.1.set (Int.toNat x4.1) true).set (Int.toNat x4.2.1) true),())))
                         else some (0,((),(s3.2.1,())))
                        else some (0,((),(s3.2.1,())))
                       else bif zo s3.1.1 17 then bif !a2.2.2.2.2.2.2.2.2.2.2.2.2.2.2.2.2.2.1 then opt (atI s3.2.1 x4.1) fun x141=>
                          opt (gl s3.2.1 (Int.toNat x4.1)) fun x142=>
                          opt (atI s3.2.1 x4.2.1) fun x143=>
                          opt (gl s3.2.1 (Int.toNat x4.2.1)) fun x144=>
                          bif !(x142 == x144) then opt (atI s3.2.1 x4.1) fun x145=>
                           opt (gl s3.2.1 (Int.toNat x4.1)) fun x146=>
                           opt (atI (s3.2.1.set (Int.toNat x4.1) true) x4.2.1) fun x147=>
                           opt (gl (s3.2.1.set (Int.toNat x4.1) true) (Int.toNat x4.2.1)) fun x148=>
                           some (0,((),(((s3.2.1.set (Int.toNat x4.1) true).set (Int.toNat x4.2.1) true),())))
                          else some (0,((),(s3.2.1,())))
                         else some (0,((),(s3.2.1,())))
                        else bif zo s3.1.1 18 then bif !a2.2.2.2.2.2.2.2.2.2.2.2.2.2.2.2.2.2.2.1 then opt (atI s3.2.1 x4.1) fun x149=>
                           opt (gl s3.2.1 (Int.toNat x4.1)) fun x150=>
                           opt (atI s3.2.1 x4.2.1) fun x151=>
                           opt (gl s3.2.1 (Int.toNat x4.2.1)) fun x152=>
                           bif !(x150 == x152) then opt (atI s3.2.1 x4.1) fun x153=>
                            opt (gl s3.2.1 (Int.toNat x4.1)) fun x154=>
                            opt (atI (s3.2.1.set (Int.toNat x4.1) true) x4.2.1) fun x155=>
                            opt (gl (s3.2.1.set (Int.toNat x4.1) true) (Int.toNat x4.2.1)) fun x156=>
                            some (0,((),(((s3.2.1.set (Int.toNat x4.1) true).set (Int.toNat x4.2.1) true),())))
                           else some (0,((),(s3.2.1,())))
                          else some (0,((),(s3.2.1,())))
                         else bif zo s3.1.1 19 then bif !a2.2.2.2.2.2.2.2.2.2.2.2.2.2.2.2.2.2.2.2.1 then opt (atI s3.2.1 x4.1) fun x157=>
                            opt (gl s3.2.1 (Int.toNat x4.1)) fun x158=>
                            opt (atI s3.2.1 x4.2.1) fun x159=>
                            opt (gl s3.2.1 (Int.toNat x4.2.1)) fun x160=>
                            bif !(x158 == x160) then opt (atI s3.2.1 x4.1) fun x161=>
                             opt (gl s3.2.1 (Int.toNat x4.1)) fun x162=>
                             opt (atI (s3.2.1.set (Int.toNat x4.1) true) x4.2.1) fun x163=>
                             opt (gl (s3.2.1.set (Int.toNat x4.1) true) (Int.toNat x4.2.1)) fun x164=>
                             some (0,((),(((s3.2.1.set (Int.toNat x4.1) true).set (Int.toNat x4.2.1) true),())))
                            else some (0,((),(s3.2.1,())))
                           else some (0,((),(s3.2.1,())))
                          else bif zo s3.1.1 20 then bif !a2.2.2.2.2.2.2.2.2.2.2.2.2.2.2.2.2.2.2.2.2.1 then opt (atI s3.2.1 x4.1) fun x165=>
                             opt (gl s3.2.1 (Int.toNat x4.1)) fun x166=>
                             opt (atI s3.2.1 x4.2.1) fun x167=>
                             opt (gl s3.2.1 (Int.toNat x4.2.1)) fun x168=>
                             bif !(x166 == x168) then opt (atI s3.2.1 x4.1) fun x169=>
                              opt (gl s3.2.1 (Int.toNat x4.1)) fun x170=>
                              opt (atI (s3.2.1.set (Int.toNat x4.1) true) x4.2.1) fun x171=>
                              opt (gl (s3.2.1.set (Int.toNat x4.1) true) (Int.toNat x4.2.1)) fun x172=>
                              some (0,((),(((s3.2.1.set (Int.toNat x4.1) true).set (Int.toNat x4.2.1) true),())))
                             else some (0,((),(s3.2.1,())))
                            else some (0,((),(s3.2.1,())))
                           else bif zo s3.1.1 21 then bif !a2.2.2.2.2.2.2.2.2.2.2.2.2.2.2.2.2.2.2.2.2.2.1 then opt (atI s3.2.1 x4.1) fun x173=>
                              opt (gl s3.2.1 (Int.toNat x4.1)) fun x174=>
                              opt (atI s3.2.1 x4.2.1) fun x175=>
                              opt (gl s3.2.1 (Int.toNat x4.2.1)) fun x176=>
                              bif !(x174 == x176) then opt (atI s3.2.1 x4.1) fun x177=>
                               opt (gl s3.2.1 (Int.toNat x4.1)) fun x178=>
                               opt (atI (s3.2.1.set (Int.toNat x4.1) true) x4.2.1) fun x179=>
                               opt (gl (s3.2.1.set (Int.toNat x4.1) true) (Int.toNat x4.2.1)) fun x180=>
                               some (0,((),(((s3.2.1.set (Int.toNat x4.1) true).set (Int.toNat x4.2.1) true),())))
                              else some (0,((),(s3.2.1,())))
                             else some (0,((),(s3.2.1,())))
                            else bif zo s3.1.1 22 then bif !a2.2.2.2.2.2.2.2.2.2.2.2.2.2.2.2.2.2.2.2.2.2.2.1 then opt (atI s3.2.1 x4.1) fun x181=>
                               opt (gl s3.2.1 (Int.toNat x4.1)) fun x182=>
                               opt (atI s3.2.1 x4.2.1) fun x183=>
                               opt (gl s3.2.1 (Int.toNat x4.2.1)) fun x184=>
                               bif !(x182 == x184) then opt (atI s3.2.1 x4.1) fun x185=>
                                opt (gl s3.2.1 (Int.toNat x4.1)) fun x186=>
                                opt (atI (s3.2.1.set (Int.toNat x4.1) true) x4.2.1) fun x187=>
                                opt (gl (s3.2.1.set (Int.toNat x4.1) true) (Int.toNat x4.2.1)) fun x188=>
                                some (0,((),(((s3.2.1.set (Int.toNat x4.1) true).set (Int.toNat x4.2.1) true),())))
                               else some (0,((),(s3.2.1,())))
                              else some (0,((),(s3.2.1,())))
                             else bif zo s3.1.1 23 then bif !a2.2.2.2.2.2.2.2.2.2.2.2.2.2.2.2.2.2.2.2.2.2.2.2 then opt (atI s3.2.1 x4.1) fun x189=>
                                opt (gl s3.2.1 (Int.toNat x4.1)) fun x190=>
                                opt (atI s3.2.1 x4.2.1) fun x191=>
                                opt (gl s3.2.1 (Int.toNat x4.2.1)) fun x192=>
                                bif !(x190 == x192) then opt (atI s3.2.1 x4.1) fun x193=>
                                 opt (gl s3.2.1 (Int.toNat x4.1)) fun x194=>
                                 opt (atI (s3.2.1.set (Int.toNat x4.1) true) x4.2.1) fun x195=>
                                 opt (gl (s3.2.1.set (Int.toNat x4.1) true) (Int.toNat x4.2.1)) fun x196=>
                                 some (0,((),(((s3.2.1.set (Int.toNat x4.1) true).set (Int.toNat x4.2.1) true),())))
                                else some (0,((),(s3.2.1,())))
                               else some (0,((),(s3.2.1,())))
                              else none) fun x197=>
      some (.inr (((wrF .i64 (s3.1.1+1)),()),(x197.2.2.1,())))
     else some (.inl (0,((s3.1.1,()),(s3.2.1,()))))) zQ ((0,()),(s2.2.1,()))) fun x198=>
    some (.inr (((wrF .i64 (s2.1.1+1)),()),(x198.2.2.1,())))
   else some (.inl (0,((s2.1.1,()),(s2.2.1,()))))) zQ ((0,()),(((List.replicate (Int.toNat a0.1) false).set (Int.toNat a1) true),()))) fun x199=>
  some (x199.2.2.1,())
 else none
abbrev zap:Type:=(zO×Int×(Bool×(Bool×(Bool×(Bool×(Bool×(Bool×(Bool×(Bool×(Bool×(Bool×(Bool×(Bool×(Bool×(Bool×(Bool×(Bool×(Bool×(Bool×(Bool×(Bool×(Bool×(Bool×(Bool×Bool)))))))))))))))))))))))×Unit)→Option ((List Bool)×Unit)
def zlw:zap:=sF Tryz.prog [] zuO (zM []) 30 66 Qu Qv
theorem zxg (a0) (a1) (a2):zlw (a0,a1,a2,())=ze2 a0 a1 a2:=by kernel_rfl
def Qw:zap:=zlw
theorem zqP:Con.Ok Tryz.prog 66 ⟨Qu,Qv,Qw⟩:=zx zn zq (by kernel_rfl)
theorem zqQ (a0) (a1) (a2):Qw (a0,a1,a2,())=ze2  a0 a1 a2:=zxg  a0 a1 a2
abbrev wb:List VT:=[⟨false,(.list .bool)⟩,⟨false,.bool⟩]
abbrev wc:List VT:=[⟨false,I⟩]
def zcu:zW:=zN [] [] [] [] []
def Zt (a0:(List Bool)) (a1:Bool):Option (Int×Unit):=
 opt (zI (fun s0:((Int×(Int×Unit))×Unit)=>
  bif (zi s0.1.2.1 ((a0.length:Nat):Int)) then opt (atI a0 s0.1.2.1) fun x1=>
   bif a1 == x1 then some (.inl (1,((s0.1.2.1,(s0.1.2.1,())),())))
   else some (.inr ((s0.1.1,((wrF .i64 (s0.1.2.1+1)),())),()))
  else some (.inl (0,((s0.1.1,(s0.1.2.1,())),())))) zQ ((0,(0,())),())) fun x2=>
 bif Nat.beq x2.1 0 then some ((-1),())
 else some (x2.2.1.1,())
abbrev ui:Type:=((List Bool)×Bool×Unit)→Option (Int×Unit)
def Xn:ui:=sF Tryz.prog [] zcu (zM []) 30 96 wb wc
theorem zc0 (a0) (a1):Xn (a0,a1,())=Zt a0 a1:=by kernel_rfl
def ye:ui:=Xn
theorem zaZ:Con.Ok Tryz.prog 96 ⟨wb,wc,ye⟩:=zx zn zq (by kernel_rfl)
theorem za0 (a0) (a1):ye (a0,a1,())=Zt  a0 a1:=zc0  a0 a1
abbrev js:List VT:=[⟨false,(.list .bool)⟩,⟨false,.bool⟩]
abbrev jt:List VT:=[⟨false,.bool⟩]
def zaq:zW:=zN [] [] [] [] [96]
def gf (yi:ui) (a0:(List Bool)) (a1:Bool):Option (Bool×Unit):=
 opt (yi (a0,(a1,()))) fun x0=>
 some ((!(zi x0.1 0)),())
abbrev xJ:Type:=((List Bool)×Bool×Unit)→Option (Bool×Unit)
def Wk:ui→xJ:=fun yi=>sF Tryz.prog [(96,⟨wb,wc,yi⟩)] zaq (zM []) 30 65 js jt
theorem za1 (yi) (a0) (a1):Wk yi (a0,a1,())=gf yi a0 a1:=by kernel_rfl
def wv:xJ:=Wk ye
theorem UG:Con.Ok Tryz.prog 65 ⟨js,jt,wv⟩:=zx (zd zaZ zn) zq (by kernel_rfl)
theorem UH (a0) (a1):wv (a0,a1,())=gf ye a0 a1:=za1 ye a0 a1
abbrev jO:List VT:=[⟨true,zG⟩]
abbrev jP:List VT:=[⟨false,I⟩]
def zuP:zW:=zN [⟨(.pair .bool (.pair .bool (.pair .bool (.pair .bool (.pair .bool (.pair .bool (.pair .bool (.pair .bool (.pair .bool (.pair .bool (.pair .bool (.pair .bool (.pair .bool (.pair .bool (.pair .bool (.pair .bool (.pair .bool (.pair .bool (.pair .bool (.pair .bool (.pair .bool (.pair .bool (.pair .bool .bool))))))))))))))))))))))),WL (.pair .bool (.pair .bool (.pair .bool (.pair .bool (.pair .bool (.pair .bool (.pair .bool (.pair .bool (.pair .bool (.pair .bool (.pair .bool (.pair .bool (.pair .bool (.pair .bool (.pair .bool (.pair .bool (.pair .bool (.pair .bool (.pair .bool (.pair .bool (.pair .bool (.pair .bool (.pair .bool .bool))))))))))))))))))))))),[]⟩,cdF zG,cdF qc] [] [] [] [64,65]
def ze3 (Ys:zao) (Yt:zap) (wA:xJ) (a0:zO):Option (Int×Unit):=
 opt (bif zi a0.1 2 then some (1,((260,()),()))
  else bif zi 12 a0.1 then some (1,((260,()),()))
   else bif (!(zo ((a0.2.1.length:Nat):Int) a0.1)) then some (1,((260,()),()))
    else some (0,((0,()),()))) fun x0=>
 bif Nat.beq x0.1 0 then opt (bif (zi 24 ((a0.2.2.length:Nat):Int)) then some (1,((260,()),()))
   else opt (Ys (a0,())) fun x1=>
    bif !x1.1 then some (1,((260,()),()))
    else some (0,((x0.2.1.1,()),()))) fun x2=>
  bif Nat.beq x2.1 0 then bif zeu a0.1 a0.1 8 then opt (zI (fun s3:((Int×Unit)×((List Int)×Unit))=>
     bif (zi s3.1.1 ((a0.2.2.length:Nat):Int)) then opt (atI a0.2.2 s3.1.1) fun x4=>
      opt (atI s3.2.1 x4.1) fun x5=>
      opt (gl s3.2.1 (Int.toNat x4.1)) fun x6=>
      opt (atI s3.2.1 x4.1) fun x7=>
      opt (gl s3.2.1 (Int.toNat x4.1)) fun x8=>
      opt (atI (s3.2.1.set (Int.toNat x4.1) (wrF .i64 (x6+1))) x4.2.1) fun x9=>
      opt (gl (s3.2.1.set (Int.toNat x4.1) (wrF .i64 (x6+1))) (Int.toNat x4.2.1)) fun x10=>
      opt (atI (s3.2.1.set (Int.toNat x4.1) (wrF .i64 (x6+1))) x4.2.1) fun x11=>
      opt (gl (s3.2.1.set (Int.toNat x4.1) (wrF .i64 (x6+1))) (Int.toNat x4.2.1)) fun x12=>
      some (.inr (((wrF .i64 (s3.1.1+1)),()),(((s3.2.1.set (Int.toNat x4.1) (wrF .i64 (x6+1))).set (Int.toNat x4.2.1) (wrF .i64 (x10+1))),())))
     else some (.inl (0,((s3.1.1,()),(s3.2.1,()))))) zQ ((0,()),((List.replicate (Int.toNat a0.1) 0),()))) fun x13=>
    opt (zI (fun s14:((Int×(Int×Unit))×Unit)=>
     bif (zi s14.1.2.1 ((a0.2.1.length:Nat):Int)) then opt (atI a0.2.1 s14.1.2.1) fun x15=>
      opt (bif x15 then opt (atI x13.2.2.1 s14.1.2.1) fun x16=>
        opt (gl x13.2.2.1 (Int.toNat s14.1.2.1)) fun x17=>
        bif zi x17 1 then some (1,((260,()),()))
        else opt (atI x13.2.2.1 s14.1.2.1) fun x18=>
         opt (gl x13.2.2.1 (Int.toNat s14.1.2.1)) fun x19=>
         bif zi 2 x19 then some (1,((260,()),()))
         else some (0,((s14.1.1,()),()))
       else some (0,((s14.1.1,()),()))) fun x20=>
      bif Nat.beq x20.1 0 then some (.inr ((x20.2.1.1,((wrF .i64 (s14.1.2.1+1)),())),()))
      else some (.inl (1,((x20.2.1.1,(s14.1.2.1,())),())))
     else some (.inl (0,((s14.1.1,(s14.1.2.1,())),())))) zQ ((x2.2.1.1,(0,())),())) fun x21=>
    bif Nat.beq x21.1 0 then opt (Yt (a0,(0,((false,(false,(false,(false,(false,(false,(false,(false,(false,(false,(false,(false,(false,(false,(false,(false,(false,(false,(false,(false,(false,(false,(false,false))))))))))))))))))))))),())))) fun x22=>
     opt (wA (x22.1,(false,()))) fun x23=>
     bif x23.1 then some (260,())
     else some (0,())
    else some (x21.2.1.1,())
   else none
  else some (x2.2.1.1,())
 else some (x0.2.1.1,())
abbrev vX:Type:=(zO×Unit)→Option (Int×Unit)
def zlx:zao→zap→xJ→vX:=fun Ys Yt wA=>sF Tryz.prog [(64,⟨Qs,Qt,Ys⟩),(66,⟨Qu,Qv,Yt⟩),(65,⟨js,jt,wA⟩)] zuP (zM []) 30 37 jO jP
theorem zxh (Ys) (Yt) (wA) (a0):zlx Ys Yt wA (a0,())=ze3 Ys Yt wA a0:=by kernel_rfl
def wL:vX:=zlx WT Qw wv
theorem XT:Con.Ok Tryz.prog 37 ⟨jO,jP,wL⟩:=zx (zd zqN (zd zqP (zd UG zn))) zq (by kernel_rfl)
theorem zqR (a0):wL (a0,())=ze3 WT Qw wv a0:=zxh WT Qw wv a0
abbrev wM:List VT:=[⟨false,I⟩,⟨false,I⟩,⟨false,I⟩]
abbrev wN:List VT:=[⟨false,.bool⟩]
def zmX:zW:=zN [] [] [] [] []
def UI (a0:Int) (a1:Int) (a2:Int):Option (Bool×Unit):=
 bif !(zi a0 a1) then some ((!(zi a2 a0)),())
 else some (false,())
abbrev xN:Type:=(Int×Int×Int×Unit)→Option (Bool×Unit)
def ze4:xN:=sF Tryz.prog [] zmX (zM []) 30 67 wM wN
theorem zoT (a0) (a1) (a2):ze4 (a0,a1,a2,())=UI a0 a1 a2:=by kernel_rfl
def we:xN:=ze4
theorem XH:Con.Ok Tryz.prog 67 ⟨wM,wN,we⟩:=zx zn zq (by kernel_rfl)
theorem zjW (a0) (a1) (a2):we (a0,a1,a2,())=UI  a0 a1 a2:=zoT  a0 a1 a2
abbrev xB:List VT:=[⟨true,KJ⟩]
abbrev xC:List VT:=[⟨false,I⟩]
def ziG:zW:=zN [cdF KJ] [] [] [] [67]
def XI (qa:xN) (a0:GV):Option (Int×Unit):=
 opt (opt (qa (a0.1,(1,(10000,())))) fun x0=>
  bif !x0.1 then some (1,((320,()),()))
  else opt (qa (a0.2.1,(0,(1000,())))) fun x1=>
   bif !x1.1 then some (1,((320,()),()))
   else some (0,((0,()),()))) fun x2=>
 bif Nat.beq x2.1 0 then opt (opt (qa (a0.2.2.1,(0,(10000,())))) fun x3=>
   bif !x3.1 then some (1,((320,()),()))
   else opt (qa (a0.2.2.2,(1542,(65536,())))) fun x4=>
    bif !x4.1 then some (1,((320,()),()))
    else some (0,((x2.2.1.1,()),()))) fun x5=>
  bif Nat.beq x5.1 0 then some (0,())
  else some (x5.2.1.1,())
 else some (x2.2.1.1,())
abbrev QT:Type:=(GV×Unit)→Option (Int×Unit)
def za7:xN→QT:=fun qa=>sF Tryz.prog [(67,⟨wM,wN,qa⟩)] ziG (zM []) 30 38 xB xC
theorem zjX (qa) (a0):za7 qa (a0,())=XI qa a0:=by kernel_rfl
def vP:QT:=za7 we
theorem zgE:Con.Ok Tryz.prog 38 ⟨xB,xC,vP⟩:=zx (zd XH zn) zq (by kernel_rfl)
theorem zgF (a0):vP (a0,())=XI we a0:=zjX we a0
abbrev xn:List VT:=[⟨true,zR⟩]
abbrev xp:List VT:=[⟨false,I⟩]
def zsJ:zW:=zN [cdF zR,cdF qq] [] [] [] []
def zc1 (a0:qn):Option (Int×Unit):=
 opt (bif (zi ((a0.1.length:Nat):Int) 1) then some (1,((370,()),()))
  else bif (zi 128 ((a0.1.length:Nat):Int)) then some (1,((370,()),()))
   else some (0,((0,()),()))) fun x0=>
 bif Nat.beq x0.1 0 then opt (zI (fun s1:((Int×(Int×(Int×Unit)))×Unit)=>
   bif (zi s1.1.2.2.1 ((a0.1.length:Nat):Int)) then opt (atI a0.1 s1.1.2.2.1) fun x2=>
    opt (bif zi x2.1 0 then some (1,((370,()),()))
     else bif zi 255 x2.1 then some (1,((370,()),()))
      else bif zi x2.2 1 then some (1,((370,()),()))
       else bif zi 9600000 x2.2 then some (1,((370,()),()))
        else some (0,((s1.1.1,()),()))) fun x3=>
    bif Nat.beq x3.1 0 then some (.inr ((x3.2.1.1,((wrF .i64 (s1.1.2.1+x2.2)),((wrF .i64 (s1.1.2.2.1+1)),()))),()))
    else some (.inl (1,((x3.2.1.1,(s1.1.2.1,(s1.1.2.2.1,()))),())))
   else some (.inl (0,((s1.1.1,(s1.1.2.1,(s1.1.2.2.1,()))),())))) zQ ((x0.2.1.1,(0,(0,()))),())) fun x4=>
  bif Nat.beq x4.1 0 then opt (bif !(zo x4.2.1.2.1 a0.2) then some (1,((370,()),()))
    else bif zi 9600000 x4.2.1.2.1 then some (1,((370,()),()))
     else some (0,((x4.2.1.1,()),()))) fun x5=>
   bif Nat.beq x5.1 0 then some (0,())
   else some (x5.2.1.1,())
  else some (x4.2.1.1,())
 else some (x0.2.1.1,())
abbrev kW:Type:=(qn×Unit)→Option (Int×Unit)
def zjl:kW:=sF Tryz.prog [] zsJ (zM []) 30 39 xn xp
theorem zuQ (a0):zjl (a0,())=zc1 a0:=by kernel_rfl
def yM:kW:=zjl
theorem UJ:Con.Ok Tryz.prog 39 ⟨xn,xp,yM⟩:=zx zn zq (by kernel_rfl)
theorem zoU (a0):yM (a0,())=zc1  a0:=zuQ  a0
abbrev jz:List VT:=[⟨true,wK⟩]
abbrev jA:List VT:=[⟨false,I⟩]
def ziH:zW:=zN [cdF wK,cdF zG,cdF qc,cdF zR,cdF qq] [] [] [] [37,38,39]
def XJ (qy:vX) (vT:QT) (qN:kW) (a0:uV):Option (Int×Unit):=
 opt (qy (a0.1,())) fun x0=>
 bif !(zo x0.1 0) then some (x0.1,())
 else opt (vT (a0.2.1,())) fun x1=>
  bif !(zo x1.1 0) then some (x1.1,())
  else opt (zI (fun s2:((Int×(Int×Unit))×Unit)=>
    bif (zi s2.1.2.1 ((a0.2.2.1.length:Nat):Int)) then opt (atI a0.2.2.1 s2.1.2.1) fun x3=>
     opt (qN (x3,())) fun x4=>
     bif !(zo x4.1 0) then some (.inl (1,((x4.1,(s2.1.2.1,())),())))
     else some (.inr ((s2.1.1,((wrF .i64 (s2.1.2.1+1)),())),()))
    else some (.inl (0,((s2.1.1,(s2.1.2.1,())),())))) zQ ((0,(0,())),())) fun x5=>
   bif Nat.beq x5.1 0 then opt (bif (!(zo ((a0.2.2.1.length:Nat):Int) (wrF .i64 (2*((a0.1.2.2.length:Nat):Int))))) then some (1,((410,()),()))
     else bif zi a0.2.2.2 84 then some (1,((410,()),()))
      else bif zi 1542 a0.2.2.2 then some (1,((410,()),()))
       else some (0,((x5.2.1.1,()),()))) fun x6=>
    bif Nat.beq x6.1 0 then some (0,())
    else some (x6.2.1.1,())
   else some (x5.2.1.1,())
abbrev QU:Type:=(uV×Unit)→Option (Int×Unit)
def za8:vX→QT→kW→QU:=fun qy vT qN=>sF Tryz.prog [(37,⟨jO,jP,qy⟩),(38,⟨xB,xC,vT⟩),(39,⟨xn,xp,qN⟩)] ziH (zM []) 30 13 jz jA
theorem zjY (qy) (vT) (qN) (a0):za8 qy vT qN (a0,())=XJ qy vT qN a0:=by kernel_rfl
def vQ:QU:=za8 wL vP yM
theorem zgG:Con.Ok Tryz.prog 13 ⟨jz,jA,vQ⟩:=zx (zd XT (zd zgE (zd UJ zn))) zq (by kernel_rfl)
theorem zgH (a0):vQ (a0,())=XJ wL vP yM a0:=zjY wL vP yM a0
abbrev zjm:List VT:=[⟨true,zR⟩]
abbrev zjn:List VT:=[⟨false,.bool⟩]
def zsK:zW:=zN [cdF zR,cdF qq] [] [] [] []
def zc2 (a0:qn):Option (Bool×Unit):=
 opt (bif (zi ((a0.1.length:Nat):Int) 1) then some (1,((false,()),()))
  else bif (zi 128 ((a0.1.length:Nat):Int)) then some (1,((false,()),()))
   else some (0,((false,()),()))) fun x0=>
 bif Nat.beq x0.1 0 then opt (zI (fun s1:((Bool×(Int×(Int×Unit)))×Unit)=>
   bif (zi s1.1.2.2.1 ((a0.1.length:Nat):Int)) then opt (atI a0.1 s1.1.2.2.1) fun x2=>
    opt (bif zi x2.1 0 then some (1,((false,()),()))
     else bif zi 255 x2.1 then some (1,((false,()),()))
      else bif zi x2.2 1 then some (1,((false,()),()))
       else bif zi 9600000 x2.2 then some (1,((false,()),()))
        else some (0,((s1.1.1,()),()))) fun x3=>
    bif Nat.beq x3.1 0 then some (.inr ((x3.2.1.1,((wrF .i64 (s1.1.2.1+x2.2)),((wrF .i64 (s1.1.2.2.1+1)),()))),()))
    else some (.inl (1,((x3.2.1.1,(s1.1.2.1,(s1.1.2.2.1,()))),())))
   else some (.inl (0,((s1.1.1,(s1.1.2.1,(s1.1.2.2.1,()))),())))) zQ ((x0.2.1.1,(0,(0,()))),())) fun x4=>
  bif Nat.beq x4.1 0 then bif zo x4.2.1.2.1 a0.2 then some ((!(zi 9600000 x4.2.1.2.1)),())
   else some (false,())
  else some (x4.2.1.1,())
 else some (x0.2.1.1,())
abbrev Uf:Type:=(qn×Unit)→Option (Bool×Unit)
def zjo:Uf:=sF Tryz.prog [] zsK (zM []) 30 42 zjm zjn
theorem zuR (a0):zjo (a0,())=zc2 a0:=by kernel_rfl
def Xo:Uf:=zjo
theorem zoV (a0):Xo (a0,())=zc2  a0:=zuR  a0
abbrev uE:List VT:=[⟨true,zG⟩,⟨false,I⟩]
abbrev uF:List VT:=[⟨false,.bool⟩]
def zmY:zW:=zN [cdF zG,cdF qc] [] [] [] [67]
def UK (qa:xN) (a0:zO) (a1:Int):Option (Bool×Unit):=
 opt (qa (a1,(0,((wrF .i64 (a0.1 - 1)),())))) fun x0=>
 bif x0.1 then opt (atI a0.2.1 a1) fun x1=>
  some (x1,())
 else some (false,())
abbrev YS:Type:=(zO×Int×Unit)→Option (Bool×Unit)
def ze5:xN→YS:=fun qa=>sF Tryz.prog [(67,⟨wM,wN,qa⟩)] zmY (zM []) 30 119 uE uF
theorem zoW (qa) (a0) (a1):ze5 qa (a0,a1,())=UK qa a0 a1:=by kernel_rfl
def gu:YS:=ze5 we
theorem zjZ:Con.Ok Tryz.prog 119 ⟨uE,uF,gu⟩:=zx (zd XH zn) zq (by kernel_rfl)
theorem zj0 (a0) (a1):gu (a0,a1,())=UK we a0 a1:=zoW we a0 a1
abbrev yH:List VT:=[⟨false,I⟩,⟨false,I⟩,⟨false,I⟩]
abbrev yI:List VT:=[⟨false,.bool⟩]
def ziI:zW:=zN [] [] [] [] []
def XK (a0:Int) (a1:Int) (a2:Int):Option (Bool×Unit):=
 bif !(zi a0 a1) then some ((!(zi a2 a0)),())
 else some (false,())
abbrev vR:Type:=(Int×Int×Int×Unit)→Option (Bool×Unit)
def za9:vR:=sF Tryz.prog [] ziI (zM []) 30 86 yH yI
theorem zj1 (a0) (a1) (a2):za9 (a0,a1,a2,())=XK a0 a1 a2:=by kernel_rfl
def wS:vR:=za9
theorem KK:Con.Ok Tryz.prog 86 ⟨yH,yI,wS⟩:=zx zn zq (by kernel_rfl)
theorem zgI (a0) (a1) (a2):wS (a0,a1,a2,())=XK  a0 a1 a2:=zj1  a0 a1 a2
abbrev jY:List VT:=[⟨true,zv⟩]
abbrev jZ:List VT:=[⟨false,I⟩]
def zqS:zW:=zN [cdF zv] [] [] [] [86]
def zbI (qF:vR) (a0:qi):Option (Int×Unit):=
 opt (opt (qF (a0.1,(1,(1048576,())))) fun x0=>
  bif !x0.1 then some (1,((130,()),()))
  else opt (qF (a0.2,(1,(2097152,())))) fun x1=>
   bif !x1.1 then some (1,((130,()),()))
   else some (0,((0,()),()))) fun x2=>
 bif Nat.beq x2.1 0 then some (0,())
 else some (x2.2.1.1,())
abbrev yf:Type:=(qi×Unit)→Option (Int×Unit)
def zhr:vR→yf:=fun qF=>sF Tryz.prog [(86,⟨yH,yI,qF⟩)] zqS (zM []) 30 84 jY jZ
theorem zsL (qF) (a0):zhr qF (a0,())=zbI qF a0:=by kernel_rfl
def qR:yf:=zhr wS
theorem ZK:Con.Ok Tryz.prog 84 ⟨jY,jZ,qR⟩:=zx (zd KK zn) zq (by kernel_rfl)
theorem zmZ (a0):qR (a0,())=zbI wS a0:=zsL wS a0
abbrev yu:List VT:=[⟨true,WN⟩,⟨false,(.list I)⟩]
abbrev yv:List VT:=[⟨false,(.list I)⟩]
def zj2:zW:=zN [cdF WN,cdF qc,cdF znS] [] [⟨5,30,some 4,I,false⟩,⟨5,30,none,I,true⟩,⟨5,30,some 5,I,true⟩,⟨1,54,none,I,true⟩,⟨3,54,none,I,true⟩,⟨6,54,none,I,true⟩,⟨8,54,none,I,true⟩,⟨0,54,none,I,true⟩] [(5,30,5,[0])] []
def Vq (a0:Xx) (a1:(List Int)):Option ((List Int)×Unit):=
 bif (zeu 0 (wrF .i64 (((a1.length:Nat):Int)+1)) 8) then opt (zI (fun s0:((Int×Unit)×(((List Int)×Unit)×(Unit×(Unit×Unit))))=>
   bif (zi s0.1.1 ((a1.length:Nat):Int)) then opt (atI a1 s0.1.1) fun x1=>
    bif zi x1 0 then some (.inl (0,((s0.1.1,()),((s0.2.1.1,()),((),((),()))))))
    else bif (!(zi x1 (wrF .i64 (2*((a0.2.2.length:Nat):Int))))) then some (.inl (0,((s0.1.1,()),((s0.2.1.1,()),((),((),()))))))
     else opt (atI a0.2.2 (wrF .i64 (Int.tdiv x1 2))) fun x2=>
      opt (bif zo (Int.tmod x1 2) 1 then some (0,(((x1,(x2.2.1,x2.1)),()),((),((),()))))
       else some (0,(((x1,(x2.1,x2.2.1)),()),((),((),()))))) fun x3=>
      opt (bif zo s0.1.1 0 then bif (qE s0.2.1.1.length ((x3.2.1.1.2.1::[]).length) 8) then some (0,((),(((s0.2.1.1++(x3.2.1.1.2.1::[])),()),((),()))))
        else none
       else some (0,((),((s0.2.1.1,()),((),()))))) fun x4=>
      bif (qE x4.2.2.1.1.length ((x3.2.1.1.2.2::[]).length) 8) then some (.inr (((wrF .i64 (s0.1.1+1)),()),(((x4.2.2.1.1++(x3.2.1.1.2.2::[])),()),((),((),())))))
      else none
   else some (.inl (0,((s0.1.1,()),((s0.2.1.1,()),((),((),()))))))) zQ ((0,()),(((List.replicate (Int.toNat 0) 0),()),((),((),()))))) fun x5=>
  some (x5.2.2.1.1,())
 else none
abbrev uN:Type:=(Xx×(List Int)×Unit)→Option ((List Int)×Unit)
def zcv:uN:=sF Tryz.prog [] zj2 (zM []) 30 176 yu yv
theorem zly (a0) (a1):zcv (a0,a1,())=Vq a0 a1:=by kernel_rfl
def yw:uN:=zcv
theorem Gs:Con.Ok Tryz.prog 176 ⟨yu,yv,yw⟩:=zx zn zq (by kernel_rfl)
theorem zhs (a0) (a1):yw (a0,a1,())=Vq  a0 a1:=zly  a0 a1
abbrev yx:List VT:=[⟨true,WN⟩,⟨false,(.list I)⟩]
abbrev yy:List VT:=[⟨false,.bool⟩]
def zj3:zW:=zN [⟨(.pair .bool (.pair .bool (.pair .bool (.pair .bool (.pair .bool (.pair .bool (.pair .bool (.pair .bool (.pair .bool (.pair .bool (.pair .bool .bool))))))))))),WL (.pair .bool (.pair .bool (.pair .bool (.pair .bool (.pair .bool (.pair .bool (.pair .bool (.pair .bool (.pair .bool (.pair .bool (.pair .bool .bool))))))))))),[]⟩,cdF WN,cdF qc,cdF znS] [] [] [] []
def Vr (a0:Xx) (a1:(List Int)):Option (Bool×Unit):=
 opt (bif (zi ((a1.length:Nat):Int) 1) then some (1,((false,()),()))
  else bif (zi 8 ((a1.length:Nat):Int)) then some (1,((false,()),()))
   else some (0,((false,()),()))) fun x0=>
 bif Nat.beq x0.1 0 then opt (zI (fun s1:((Int×(Int×(Int×Unit)))×((List Bool)×(Unit×(Unit×Unit))))=>
   bif (zi s1.1.2.2.1 ((a1.length:Nat):Int)) then opt (atI a1 s1.1.2.2.1) fun x2=>
    bif zi x2 0 then some (.inl (0,((s1.1.1,(s1.1.2.1,(s1.1.2.2.1,()))),(s1.2.1,((),((),()))))))
    else bif (!(zi x2 (wrF .i64 (2*((a0.2.2.length:Nat):Int))))) then some (.inl (0,((s1.1.1,(s1.1.2.1,(s1.1.2.2.1,()))),(s1.2.1,((),((),()))))))
     else opt (atI a0.2.2 (wrF .i64 (Int.tdiv x2 2))) fun x3=>
      opt (bif zo (Int.tmod x2 2) 1 then some (0,(((x2,(x3.2.1,x3.1)),()),((),((),()))))
       else some (0,(((x2,(x3.1,x3.2.1)),()),((),((),()))))) fun x4=>
      bif Nat.beq x4.1 0 then opt (bif zo s1.1.2.2.1 0 then bif zi x4.2.1.1.2.1 12 then opt (atI s1.2.1 x4.2.1.1.2.1) fun x5=>
          opt (gl s1.2.1 (Int.toNat x4.2.1.1.2.1)) fun x6=>
          some (0,((),((s1.2.1.set (Int.toNat x4.2.1.1.2.1) true),((),()))))
         else none
        else bif !(zo x4.2.1.1.2.1 s1.1.1) then some (1,((),(s1.2.1,((),()))))
         else opt (atI a0.2.1 s1.1.1) fun x7=>
          bif x7 then some (1,((),(s1.2.1,((),()))))
          else some (0,((),(s1.2.1,((),()))))) fun x8=>
       bif Nat.beq x8.1 0 then bif zi x4.2.1.1.2.2 12 then opt (atI x8.2.2.1 x4.2.1.1.2.2) fun x9=>
         opt (gl x8.2.2.1 (Int.toNat x4.2.1.1.2.2)) fun x10=>
         bif x10 then some (.inl (1,((s1.1.1,(s1.1.2.1,(s1.1.2.2.1,()))),(x8.2.2.1,((),((),()))))))
         else bif zi x4.2.1.1.2.2 12 then opt (atI x8.2.2.1 x4.2.1.1.2.2) fun x11=>
           opt (gl x8.2.2.1 (Int.toNat x4.2.1.1.2.2)) fun x12=>
           some (.inr ((x4.2.1.1.2.2,((wrF .i64 (s1.1.2.1+1)),((wrF .i64 (s1.1.2.2.1+1)),()))),((x8.2.2.1.set (Int.toNat x4.2.1.1.2.2) true),((),((),())))))
          else none
        else none
       else some (.inl (1,((s1.1.1,(s1.1.2.1,(s1.1.2.2.1,()))),(x8.2.2.1,((),((),()))))))
      else none
   else some (.inl (0,((s1.1.1,(s1.1.2.1,(s1.1.2.2.1,()))),(s1.2.1,((),((),()))))))) zQ ((0,(0,(0,()))),((List.replicate 12 false),((),((),()))))) fun x13=>
  bif Nat.beq x13.1 0 then some ((zo x13.2.1.2.1 ((a1.length:Nat):Int)),())
  else some ((zo x13.2.1.2.1 ((a1.length:Nat):Int)),())
 else some (x0.2.1.1,())
abbrev uO:Type:=(Xx×(List Int)×Unit)→Option (Bool×Unit)
def zcw:uO:=sF Tryz.prog [] zj3 (zM []) 30 157 yx yy
theorem zlz (a0) (a1):zcw (a0,a1,())=Vr a0 a1:=by kernel_rfl
def yz:uO:=zcw
theorem Gt:Con.Ok Tryz.prog 157 ⟨yx,yy,yz⟩:=zx zn zq (by kernel_rfl)
theorem zht (a0) (a1):yz (a0,a1,())=Vr  a0 a1:=zlz  a0 a1
abbrev uj:List VT:=[⟨true,zG⟩,⟨false,(.list I)⟩]
abbrev uk:List VT:=[⟨false,I⟩]
def zsM:zW:=zN [cdF zG,cdF qc] [] [] [] [37,157]
def zc3 (qy:vX) (jd:uO) (a0:zO) (a1:(List Int)):Option (Int×Unit):=
 opt (qy (a0,())) fun x0=>
 bif !(zo x0.1 0) then some (x0.1,())
 else opt (jd (a0,(a1,()))) fun x1=>
  bif !x1.1 then some (310,())
  else some (0,())
abbrev Jn:Type:=(zO×(List Int)×Unit)→Option (Int×Unit)
def zjp:vX→uO→Jn:=fun qy jd=>sF Tryz.prog [(37,⟨jO,jP,qy⟩),(157,⟨yx,yy,jd⟩)] zsM (zM []) 30 174 uj uk
theorem zuS (qy) (jd) (a0) (a1):zjp qy jd (a0,a1,())=zc3 qy jd a0 a1:=by kernel_rfl
def um:Jn:=zjp wL yz
theorem ze6:Con.Ok Tryz.prog 174 ⟨uj,uk,um⟩:=zx (zd XT (zd Gt zn)) zq (by kernel_rfl)
theorem zoX (a0) (a1):um (a0,a1,())=zc3 wL yz a0 a1:=zuS wL yz a0 a1
abbrev Zu:List VT:=[⟨true,zG⟩,⟨false,(.list I)⟩]
abbrev Zv:List VT:=[⟨false,(.list I)⟩,⟨false,I⟩]
def zsN:zW:=zN [cdF zG,cdF qc] [] [⟨3,23,some 6,I,false⟩,⟨3,23,some 8,I,false⟩] [] [174]
def zc4 (qQ:uN) (yj:Jn) (a0:zO) (a1:(List Int)):Option ((List Int)×Int×Unit):=
 opt (yj (a0,(a1,()))) fun x0=>
 bif !(zo x0.1 0) then some ([],(x0.1,()))
 else opt (qQ (a0,(a1,()))) fun x1=>
  some (x1.1,(0,()))
abbrev Ug:Type:=(zO×(List Int)×Unit)→Option ((List Int)×Int×Unit)
def zjq:uN→Jn→Ug:=fun qQ yj=>sF Tryz.prog [(176,⟨yu,yv,qQ⟩),(174,⟨uj,uk,yj⟩)] zsN (zM []) 30 173 Zu Zv
theorem zuT (qQ) (yj) (a0) (a1):zjq qQ yj (a0,a1,())=zc4 qQ yj a0 a1:=by kernel_rfl
def Jo:Ug:=zjq yw um
theorem zoY:Con.Ok Tryz.prog 173 ⟨Zu,Zv,Jo⟩:=zx (zd Gs (zd ze6 zn)) zq (by kernel_rfl)
theorem zoZ (a0) (a1):Jo (a0,a1,())=zc4 yw um a0 a1:=zuT yw um a0 a1
abbrev Qx:List VT:=[⟨true,zG⟩,⟨false,(.list I)⟩]
abbrev Qy:List VT:=[⟨false,I⟩,⟨false,I⟩,⟨false,I⟩]
def zuU:zW:=zN [cdF zG,cdF qc] [] [] [] []
def ze7 (JB:Ug) (a0:zO) (a1:(List Int)):Option (Int×Int×Int×Unit):=
 opt (JB (a0,(a1,()))) fun x0=>
 bif !(zo x0.2.1 0) then some (0,(0,(x0.2.1,())))
 else opt (atI x0.1 0) fun x1=>
  opt (atI x0.1 (wrF .i64 (((x0.1.length:Nat):Int) - 1))) fun x2=>
  some (x1,(x2,(0,())))
abbrev zar:Type:=(zO×(List Int)×Unit)→Option (Int×Int×Int×Unit)
def zlA:Ug→zar:=fun JB=>sF Tryz.prog [(173,⟨Zu,Zv,JB⟩)] zuU (zM []) 30 154 Qx Qy
theorem zxi (JB) (a0) (a1):zlA JB (a0,a1,())=ze7 JB a0 a1:=by kernel_rfl
def WU:zar:=zlA Jo
theorem zqT:Con.Ok Tryz.prog 154 ⟨Qx,Qy,WU⟩:=zx (zd zoY zn) zq (by kernel_rfl)
theorem zqU (a0) (a1):WU (a0,a1,())=ze7 Jo a0 a1:=zxi Jo a0 a1
abbrev gv:List VT:=[⟨true,zG⟩,⟨false,(.list I)⟩,⟨false,I⟩,⟨false,I⟩]
abbrev gw:List VT:=[⟨false,.bool⟩]
def zqV:zW:=zN [cdF zG,cdF qc] [] [] [] [154]
def zbJ (Yu:zar) (a0:zO) (a1:(List Int)) (a2:Int) (a3:Int):Option (Bool×Unit):=
 opt (Yu (a0,(a1,()))) fun x0=>
 bif zo x0.2.2.1 0 then bif zo x0.1 a2 then some ((zo x0.2.1 a3),())
  else some (false,())
 else some (false,())
abbrev VW:Type:=(zO×(List Int)×Int×Int×Unit)→Option (Bool×Unit)
def zhu:zar→VW:=fun Yu=>sF Tryz.prog [(154,⟨Qx,Qy,Yu⟩)] zqV (zM []) 30 125 gv gw
theorem zsO (Yu) (a0) (a1) (a2) (a3):zhu Yu (a0,a1,a2,a3,())=zbJ Yu a0 a1 a2 a3:=by kernel_rfl
def gx:VW:=zhu WU
theorem zm0:Con.Ok Tryz.prog 125 ⟨gv,gw,gx⟩:=zx (zd zqT zn) zq (by kernel_rfl)
theorem zm1 (a0) (a1) (a2) (a3):gx (a0,a1,a2,a3,())=zbJ WU a0 a1 a2 a3:=zsO WU a0 a1 a2 a3
abbrev gy:List VT:=[⟨false,(.list I)⟩,⟨false,(.list I)⟩]
abbrev gz:List VT:=[⟨false,.bool⟩]
def zqW:zW:=zN [] [] [] [] []
def zbK (a0:(List Int)) (a1:(List Int)):Option (Bool×Unit):=
 opt (zI (fun s0:((Bool×(Int×Unit))×Unit)=>
  bif (zi s0.1.2.1 ((a0.length:Nat):Int)) then opt (atI a0 s0.1.2.1) fun x1=>
   opt (zI (fun s2:((Bool×(Int×Unit))×Unit)=>
    bif (zi s2.1.2.1 ((a1.length:Nat):Int)) then opt (atI a1 s2.1.2.1) fun x3=>
     bif (zo (wrF .i64 (Int.tdiv x1 2)) (wrF .i64 (Int.tdiv x3 2))) then some (.inl (1,((true,(s2.1.2.1,())),())))
     else some (.inr ((s2.1.1,((wrF .i64 (s2.1.2.1+1)),())),()))
    else some (.inl (0,((s2.1.1,(s2.1.2.1,())),())))) zQ ((s0.1.1,(0,())),())) fun x4=>
   bif Nat.beq x4.1 0 then some (.inr ((x4.2.1.1,((wrF .i64 (s0.1.2.1+1)),())),()))
   else some (.inl (1,((x4.2.1.1,(s0.1.2.1,())),())))
  else some (.inl (0,((s0.1.1,(s0.1.2.1,())),())))) zQ ((false,(0,())),())) fun x5=>
 bif Nat.beq x5.1 0 then some (false,())
 else some (x5.2.1.1,())
abbrev VX:Type:=((List Int)×(List Int)×Unit)→Option (Bool×Unit)
def zhv:VX:=sF Tryz.prog [] zqW (zM []) 30 158 gy gz
theorem zsP (a0) (a1):zhv (a0,a1,())=zbK a0 a1:=by kernel_rfl
def ZW:VX:=zhv
theorem zm2:Con.Ok Tryz.prog 158 ⟨gy,gz,ZW⟩:=zx zn zq (by kernel_rfl)
theorem zm3 (a0) (a1):ZW (a0,a1,())=zbK  a0 a1:=zsP  a0 a1
abbrev wO:List VT:=[⟨false,(.list I)⟩,⟨false,I⟩]
abbrev wP:List VT:=[⟨false,I⟩]
def zd9:zW:=zN [] [] [] [] []
def Qz (a0:(List Int)) (a1:Int):Option (Int×Unit):=
 opt (zI (fun s0:((Int×(Int×Unit))×Unit)=>
  bif (zi s0.1.2.1 ((a0.length:Nat):Int)) then opt (atI a0 s0.1.2.1) fun x1=>
   bif zo a1 x1 then some (.inl (1,((s0.1.2.1,(s0.1.2.1,())),())))
   else some (.inr ((s0.1.1,((wrF .i64 (s0.1.2.1+1)),())),()))
  else some (.inl (0,((s0.1.1,(s0.1.2.1,())),())))) zQ ((0,(0,())),())) fun x2=>
 bif Nat.beq x2.1 0 then some ((-1),())
 else some (x2.2.1.1,())
abbrev kj:Type:=((List Int)×Int×Unit)→Option (Int×Unit)
def Vs:kj:=sF Tryz.prog [] zd9 (zM []) 30 190 wO wP
theorem ze8 (a0) (a1):Vs (a0,a1,())=Qz a0 a1:=by kernel_rfl
def yT:kj:=Vs
theorem zcx:Con.Ok Tryz.prog 190 ⟨wO,wP,yT⟩:=zx zn zq (by kernel_rfl)
theorem zcy (a0) (a1):yT (a0,a1,())=Qz  a0 a1:=ze8  a0 a1
abbrev jQ:List VT:=[⟨false,(.list I)⟩,⟨false,I⟩]
abbrev jR:List VT:=[⟨false,.bool⟩]
def zbL:zW:=zN [] [] [] [] [190]
def gV (yV:kj) (a0:(List Int)) (a1:Int):Option (Bool×Unit):=
 opt (yV (a0,(a1,()))) fun x0=>
 some ((!(zi x0.1 0)),())
abbrev vN:Type:=((List Int)×Int×Unit)→Option (Bool×Unit)
def YD:kj→vN:=fun yV=>sF Tryz.prog [(190,⟨wO,wP,yV⟩)] zbL (zM []) 30 177 jQ jR
theorem zcz (yV) (a0) (a1):YD yV (a0,a1,())=gV yV a0 a1:=by kernel_rfl
def wY:vN:=YD yT
theorem zas:Con.Ok Tryz.prog 177 ⟨jQ,jR,wY⟩:=zx (zd zcx zn) zq (by kernel_rfl)
theorem zat (a0) (a1):wY (a0,a1,())=gV yT a0 a1:=zcz yT a0 a1
abbrev xO:List VT:=[⟨true,WN⟩,⟨false,(.list I)⟩,⟨false,(.list I)⟩]
abbrev xP:List VT:=[⟨false,.bool⟩]
def zj4:zW:=zN [cdF WN] [] [] [] [177]
def Vt (qQ:uN) (wZ:vN) (a0:Xx) (a1:(List Int)) (a2:(List Int)):Option (Bool×Unit):=
 opt (qQ (a0,(a1,()))) fun x0=>
 opt (qQ (a0,(a2,()))) fun x1=>
 opt (zbp x0.1 (some 1) (some (wrF .i64 (((x0.1.length:Nat):Int) - 1))) (some (wrF .i64 (((x0.1.length:Nat):Int) - 1)))) fun x2=>
 opt (zI (fun s3:((Bool×(Int×Unit))×Unit)=>
  bif (zi s3.1.2.1 ((x2.length:Nat):Int)) then opt (atI x2 s3.1.2.1) fun x4=>
   opt (wZ (x1.1,(x4,()))) fun x5=>
   bif x5.1 then some (.inl (1,((true,(s3.1.2.1,())),())))
   else some (.inr ((s3.1.1,((wrF .i64 (s3.1.2.1+1)),())),()))
  else some (.inl (0,((s3.1.1,(s3.1.2.1,())),())))) zQ ((false,(0,())),())) fun x6=>
 bif Nat.beq x6.1 0 then some (false,())
 else some (x6.2.1.1,())
abbrev JX:Type:=(Xx×(List Int)×(List Int)×Unit)→Option (Bool×Unit)
def zcA:uN→vN→JX:=fun qQ wZ=>sF Tryz.prog [(176,⟨yu,yv,qQ⟩),(177,⟨jQ,jR,wZ⟩)] zj4 (zM []) 30 159 xO xP
theorem zlB (qQ) (wZ) (a0) (a1) (a2):zcA qQ wZ (a0,a1,a2,())=Vt qQ wZ a0 a1 a2:=by kernel_rfl
def uP:JX:=zcA yw wY
theorem zhw:Con.Ok Tryz.prog 159 ⟨xO,xP,uP⟩:=zx (zd Gs (zd zas zn)) zq (by kernel_rfl)
theorem zhx (a0) (a1) (a2):uP (a0,a1,a2,())=Vt yw wY a0 a1 a2:=zlB yw wY a0 a1 a2
abbrev Zw:List VT:=[⟨true,zG⟩,⟨false,(.list I)⟩,⟨false,(.list I)⟩]
abbrev Zx:List VT:=[⟨false,.bool⟩,⟨false,I⟩]
def zsQ:zW:=zN [cdF zG,cdF qc] [] [] [] [157,158,159,174]
def zc5 (jd:uO) (Qe:VX) (xW:JX) (yj:Jn) (a0:zO) (a1:(List Int)) (a2:(List Int)):Option (Bool×Int×Unit):=
 opt (yj (a0,(a1,()))) fun x0=>
 bif !(zo x0.1 0) then some (false,(x0.1,()))
 else opt (jd (a0,(a2,()))) fun x1=>
  bif !x1.1 then some (false,(310,()))
  else opt (Qe (a1,(a2,()))) fun x2=>
   bif !x2.1 then opt (xW (a0,(a1,(a2,())))) fun x3=>
    bif !x3.1 then opt (xW (a0,(a2,(a1,())))) fun x4=>
     some ((!x4.1),(0,()))
    else some (false,(0,()))
   else some (false,(0,()))
abbrev Uh:Type:=(zO×(List Int)×(List Int)×Unit)→Option (Bool×Int×Unit)
def zjr:uO→VX→JX→Jn→Uh:=fun jd Qe xW yj=>sF Tryz.prog [(157,⟨yx,yy,jd⟩),(158,⟨gy,gz,Qe⟩),(159,⟨xO,xP,xW⟩),(174,⟨uj,uk,yj⟩)] zsQ (zM []) 30 127 Zw Zx
theorem zuV (jd) (Qe) (xW) (yj) (a0) (a1) (a2):zjr jd Qe xW yj (a0,a1,a2,())=zc5 jd Qe xW yj a0 a1 a2:=by kernel_rfl
def kX:Uh:=zjr yz ZW uP um
theorem zo0:Con.Ok Tryz.prog 127 ⟨Zw,Zx,kX⟩:=zx (zd Gt (zd zm2 (zd zhw (zd ze6 zn)))) zq (by kernel_rfl)
theorem zo1 (a0) (a1) (a2):kX (a0,a1,a2,())=zc5 yz ZW uP um a0 a1 a2:=zuV yz ZW uP um a0 a1 a2
abbrev uQ:List VT:=[⟨true,zG⟩,⟨true,zK⟩]
abbrev uR:List VT:=[⟨false,.bool⟩]
def zqX:zW:=zN [cdF zK,cdF zG,cdF qc,cdF zv] [] [] [] [67,119,84,125,127]
def zbM (qa:xN) (uK:YS) (zT:yf) (gM:VW) (uA:Uh) (a0:zO) (a1:jL):Option (Bool×Unit):=
 opt (qa (a1.1,(1,(4095,())))) fun x0=>
 bif !x0.1 then some (false,())
 else opt (uK (a0,(a1.2.1,()))) fun x1=>
  bif x1.1 then opt (uK (a0,(a1.2.2.1,()))) fun x2=>
   bif x2.1 then bif (!(!(zo a1.2.1 a1.2.2.1))) then some (false,())
    else opt (qa (a1.2.2.2.2.1,(84,(1542,())))) fun x3=>
     bif !x3.1 then some (false,())
     else opt (qa (a1.2.2.2.2.2.2.2.1,(1,(1099511627776,())))) fun x4=>
      bif !x4.1 then some (false,())
      else bif zo a1.2.2.2.1 7 then opt (qa (a1.2.2.2.2.2.1,(1,(240,())))) fun x5=>
        bif x5.1 then bif (!((zo a1.2.2.2.2.2.2.1.1 0)&&((zo a1.2.2.2.2.2.2.1.2 0)&&true))) then some (false,())
         else opt (qa (((a1.2.2.2.2.2.2.2.2.length:Nat):Int),(1,(2,())))) fun x6=>
          bif !x6.1 then some (false,())
          else opt (zI (fun s7:((Bool×(Int×Unit))×Unit)=>
            bif (zi s7.1.2.1 ((a1.2.2.2.2.2.2.2.2.length:Nat):Int)) then opt (atI a1.2.2.2.2.2.2.2.2 s7.1.2.1) fun x8=>
             opt (gM (a0,(x8,(a1.2.1,(a1.2.2.1,()))))) fun x9=>
             bif !x9.1 then some (.inl (1,((false,(s7.1.2.1,())),())))
             else some (.inr ((s7.1.1,((wrF .i64 (s7.1.2.1+1)),())),()))
            else some (.inl (0,((s7.1.1,(s7.1.2.1,())),())))) zQ ((false,(0,())),())) fun x10=>
           bif Nat.beq x10.1 0 then bif (zi ((a1.2.2.2.2.2.2.2.2.length:Nat):Int) 2) then some (true,())
            else opt (atI a1.2.2.2.2.2.2.2.2 0) fun x11=>
             opt (atI a1.2.2.2.2.2.2.2.2 1) fun x12=>
             opt (uA (a0,(x11,(x12,())))) fun x13=>
             bif zo x13.2.1 0 then bif !x13.1 then some (false,())
              else some (true,())
             else some (false,())
           else bif !x10.2.1.1 then some (false,())
            else bif (zi ((a1.2.2.2.2.2.2.2.2.length:Nat):Int) 2) then some (true,())
             else opt (atI a1.2.2.2.2.2.2.2.2 0) fun x14=>
              opt (atI a1.2.2.2.2.2.2.2.2 1) fun x15=>
              opt (uA (a0,(x14,(x15,())))) fun x16=>
              bif zo x16.2.1 0 then bif !x16.1 then some (false,())
               else some (true,())
              else some (false,())
        else some (false,())
       else bif zo a1.2.2.2.1 6 then bif zo a1.2.2.2.2.2.1 0 then opt (zT (a1.2.2.2.2.2.2.1,())) fun x17=>
          bif zo x17.1 0 then bif (!(!(zi a1.2.2.2.2.2.2.1.1 a1.2.2.2.2.1))) then some (false,())
           else opt (qa (((a1.2.2.2.2.2.2.2.2.length:Nat):Int),(1,(2,())))) fun x18=>
            bif !x18.1 then some (false,())
            else opt (zI (fun s19:((Bool×(Int×Unit))×Unit)=>
              bif (zi s19.1.2.1 ((a1.2.2.2.2.2.2.2.2.length:Nat):Int)) then opt (atI a1.2.2.2.2.2.2.2.2 s19.1.2.1) fun x20=>
               opt (gM (a0,(x20,(a1.2.1,(a1.2.2.1,()))))) fun x21=>
               bif !x21.1 then some (.inl (1,((false,(s19.1.2.1,())),())))
               else some (.inr ((s19.1.1,((wrF .i64 (s19.1.2.1+1)),())),()))
              else some (.inl (0,((s19.1.1,(s19.1.2.1,())),())))) zQ ((false,(0,())),())) fun x22=>
             bif Nat.beq x22.1 0 then bif (zi ((a1.2.2.2.2.2.2.2.2.length:Nat):Int) 2) then some (true,())
              else opt (atI a1.2.2.2.2.2.2.2.2 0) fun x23=>
               opt (atI a1.2.2.2.2.2.2.2.2 1) fun x24=>
               opt (uA (a0,(x23,(x24,())))) fun x25=>
               bif zo x25.2.1 0 then bif !x25.1 then some (false,())
                else some (true,())
               else some (false,())
             else bif !x22.2.1.1 then some (false,())
              else bif (zi ((a1.2.2.2.2.2.2.2.2.length:Nat):Int) 2) then some (true,())
               else opt (atI a1.2.2.2.2.2.2.2.2 0) fun x26=>
                opt (atI a1.2.2.2.2.2.2.2.2 1) fun x27=>
                opt (uA (a0,(x26,(x27,())))) fun x28=>
                bif zo x28.2.1 0 then bif !x28.1 then some (false,())
                 else some (true,())
                else some (false,())
          else some (false,())
         else some (false,())
        else some (false,())
   else some (false,())
  else some (false,())
abbrev VY:Type:=(zO×jL×Unit)→Option (Bool×Unit)
def zhy:xN→YS→yf→VW→Uh→VY:=fun qa uK zT gM uA=>sF Tryz.prog [(67,⟨wM,wN,qa⟩),(119,⟨uE,uF,uK⟩),(84,⟨jY,jZ,zT⟩),(125,⟨gv,gw,gM⟩),(127,⟨Zw,Zx,uA⟩)] zqX (zM []) 30 82 uQ uR
theorem zsR (qa) (uK) (zT) (gM) (uA) (a0) (a1):zhy qa uK zT gM uA (a0,a1,())=zbM qa uK zT gM uA a0 a1:=by kernel_rfl
def ZX:VY:=zhy we gu qR gx kX
theorem zm4:Con.Ok Tryz.prog 82 ⟨uQ,uR,ZX⟩:=zx (zd XH (zd zjZ (zd ZK (zd zm0 (zd zo0 zn))))) zq (by kernel_rfl)
theorem zm5 (a0) (a1):ZX (a0,a1,())=zbM we gu qR gx kX a0 a1:=zsR we gu qR gx kX a0 a1
abbrev yK:List VT:=[⟨true,zG⟩,⟨false,(.list zK)⟩]
abbrev yL:List VT:=[⟨false,I⟩]
def zlC:zW:=zN [cdF zK,cdF zG,cdF qc,cdF zv] [] [] [] [37,82]
def Kq (qy:vX) (Qf:VY) (a0:zO) (a1:(List jL)):Option (Int×Unit):=
 opt (qy (a0,())) fun x0=>
 bif !(zo x0.1 0) then some (x0.1,())
 else bif (zi 12 ((a1.length:Nat):Int)) then some (3,())
  else opt (zI (fun s1:((Int×(Int×Unit))×Unit)=>
    bif (zi s1.1.2.1 ((a1.length:Nat):Int)) then opt (atI a1 s1.1.2.1) fun x2=>
     opt (Qf (a0,(x2,()))) fun x3=>
     bif !x3.1 then some (.inl (1,((321,(s1.1.2.1,())),())))
     else some (.inr ((s1.1.1,((wrF .i64 (s1.1.2.1+1)),())),()))
    else some (.inl (0,((s1.1.1,(s1.1.2.1,())),())))) zQ ((0,(0,())),())) fun x4=>
   bif Nat.beq x4.1 0 then opt (zI (fun s5:((Int×(Int×Unit))×((List (Int×Bool))×Unit))=>
     bif (zi s5.1.2.1 ((a1.length:Nat):Int)) then opt (atI a1 s5.1.2.1) fun x6=>
      bif mpD (α:=Bool) s5.2.1 x6.1 false then some (.inl (1,((322,(s5.1.2.1,())),(s5.2.1,()))))
      else some (.inr ((s5.1.1,((wrF .i64 (s5.1.2.1+1)),())),((mpP (α:=Bool) s5.2.1 x6.1 true),())))
     else some (.inl (0,((s5.1.1,(s5.1.2.1,())),(s5.2.1,()))))) zQ ((x4.2.1.1,(0,())),([],()))) fun x7=>
    bif Nat.beq x7.1 0 then some (0,())
    else some (x7.2.1.1,())
   else some (x4.2.1.1,())
abbrev Wp:Type:=(zO×(List jL)×Unit)→Option (Int×Unit)
def zdA:vX→VY→Wp:=fun qy Qf=>sF Tryz.prog [(37,⟨jO,jP,qy⟩),(82,⟨uQ,uR,Qf⟩)] zlC (zM []) 30 72 yK yL
theorem zm6 (qy) (Qf) (a0) (a1):zdA qy Qf (a0,a1,())=Kq qy Qf a0 a1:=by kernel_rfl
def kI:Wp:=zdA wL ZX
theorem ziJ:Con.Ok Tryz.prog 72 ⟨yK,yL,kI⟩:=zx (zd XT (zd zm4 zn)) zq (by kernel_rfl)
theorem ziK (a0) (a1):kI (a0,a1,())=Kq wL ZX a0 a1:=zm6 wL ZX a0 a1
abbrev jE:List VT:=[⟨false,(.list I)⟩,⟨false,I⟩]
abbrev jF:List VT:=[⟨false,I⟩]
def za2:zW:=zN [] [] [] [] []
def gC (a0:(List Int)) (a1:Int):Option (Int×Unit):=
 opt (zI (fun s0:((Int×(Int×Unit))×Unit)=>
  bif (zi s0.1.2.1 ((a0.length:Nat):Int)) then opt (atI a0 s0.1.2.1) fun x1=>
   bif zo a1 x1 then some (.inl (1,((s0.1.2.1,(s0.1.2.1,())),())))
   else some (.inr ((s0.1.1,((wrF .i64 (s0.1.2.1+1)),())),()))
  else some (.inl (0,((s0.1.1,(s0.1.2.1,())),())))) zQ ((0,(0,())),())) fun x2=>
 bif Nat.beq x2.1 0 then some ((-1),())
 else some (x2.2.1.1,())
abbrev vl:Type:=((List Int)×Int×Unit)→Option (Int×Unit)
def WV:vl:=sF Tryz.prog [] za2 (zM []) 30 162 jE jF
theorem zbN (a0) (a1):WV (a0,a1,())=gC a0 a1:=by kernel_rfl
def wG:vl:=WV
theorem Gz:Con.Ok Tryz.prog 162 ⟨jE,jF,wG⟩:=zx zn zq (by kernel_rfl)
theorem GA (a0) (a1):wG (a0,a1,())=gC  a0 a1:=zbN  a0 a1
abbrev qC:List VT:=[⟨false,(.list I)⟩,⟨false,I⟩]
abbrev qD:List VT:=[⟨false,.bool⟩]
def UL:zW:=zN [] [] [] [] [162]
def uU (wH:vl) (a0:(List Int)) (a1:Int):Option (Bool×Unit):=
 opt (wH (a0,(a1,()))) fun x0=>
 some ((!(zi x0.1 0)),())
abbrev xr:Type:=((List Int)×Int×Unit)→Option (Bool×Unit)
def Jc:vl→xr:=fun wH=>sF Tryz.prog [(162,⟨jE,jF,wH⟩)] UL (zM []) 30 136 qC qD
theorem GB (wH) (a0) (a1):Jc wH (a0,a1,())=uU wH a0 a1:=by kernel_rfl
def jf:xr:=Jc wG
theorem Kr:Con.Ok Tryz.prog 136 ⟨qC,qD,jf⟩:=zx (zd Gz zn) zq (by kernel_rfl)
theorem Ks (a0) (a1):jf (a0,a1,())=uU wG a0 a1:=GB wG a0 a1
abbrev gD:List VT:=[⟨true,zd6⟩]
abbrev gF:List VT:=[⟨false,I⟩]
def zqY:zW:=zN [cdF zd6,cdF qc] [] [] [] []
def zbO (a0:zuh):Option (Int×Unit):=
 some (a0.1.2.2.1,())
abbrev VZ:Type:=(zuh×Unit)→Option (Int×Unit)
def zhz:VZ:=sF Tryz.prog [] zqY (zM []) 30 138 gD gF
theorem zsS (a0):zhz (a0,())=zbO a0:=by kernel_rfl
def WW:VZ:=zhz
theorem zm7:Con.Ok Tryz.prog 138 ⟨gD,gF,WW⟩:=zx zn zq (by kernel_rfl)
theorem zm8 (a0):WW (a0,())=zbO  a0:=zsS  a0
abbrev ZN:List VT:=[⟨true,zG⟩,⟨false,I⟩]
abbrev ZO:List VT:=[⟨false,I⟩,⟨false,I⟩]
def zyi:zW:=zN [cdF zG,cdF zd6,cdF qc] [] [] [] [37,138]
def ziL (qy:vX) (Qg:VZ) (a0:zO) (a1:Int):Option (Int×Int×Unit):=
 opt (qy (a0,())) fun x0=>
 bif !(zo x0.1 0) then some (0,(x0.1,()))
 else opt (bif zi a1 0 then some (1,((0,(2,())),()))
   else bif (!(zi a1 (wrF .i64 (2*((a0.2.2.length:Nat):Int))))) then some (1,((0,(2,())),()))
    else some (0,((0,(0,())),()))) fun x1=>
  bif Nat.beq x1.1 0 then opt (atI a0.2.2 (wrF .i64 (Int.tdiv a1 2))) fun x2=>
   opt (Qg ((x2,a1),())) fun x3=>
   some (x3.1,(0,()))
  else some (x1.2.1.1,(x1.2.1.2.1,()))
abbrev zea:Type:=(zO×Int×Unit)→Option (Int×Int×Unit)
def zqZ:vX→VZ→zea:=fun qy Qg=>sF Tryz.prog [(37,⟨jO,jP,qy⟩),(138,⟨gD,gF,Qg⟩)] zyi (zM []) 30 100 ZN ZO
theorem zAq (qy) (Qg) (a0) (a1):zqZ qy Qg (a0,a1,())=ziL qy Qg a0 a1:=by kernel_rfl
def ZP:zea:=zqZ wL WW
theorem zuW:Con.Ok Tryz.prog 100 ⟨ZN,ZO,ZP⟩:=zx (zd XT (zd zm7 zn)) zq (by kernel_rfl)
theorem zuX (a0) (a1):ZP (a0,a1,())=ziL wL WW a0 a1:=zAq wL WW a0 a1
abbrev km:List VT:=[⟨true,zR⟩,⟨false,I⟩,⟨false,I⟩]
abbrev kn:List VT:=[⟨false,I⟩]
def zo2:zW:=zN [cdF zR,cdF qq] [] [] [] [39]
def zau (qN:kW) (a0:qn) (a1:Int) (a2:Int):Option (Int×Unit):=
 opt (qN (a0,())) fun x0=>
 bif !(zo x0.1 0) then some (x0.1,())
 else opt (bif zi a1 1 then some (1,((2,()),()))
   else bif zi 1000 a1 then some (1,((2,()),()))
    else bif zi a2 84 then some (1,((2,()),()))
     else bif zi 1542 a2 then some (1,((2,()),()))
      else some (0,((0,()),()))) fun x1=>
  bif Nat.beq x1.1 0 then some (0,())
  else some (x1.2.1.1,())
abbrev XU:Type:=(qn×Int×Int×Unit)→Option (Int×Unit)
def zga:kW→XU:=fun qN=>sF Tryz.prog [(39,⟨xn,xp,qN⟩)] zo2 (zM []) 30 139 km kn
theorem zq0 (qN) (a0) (a1) (a2):zga qN (a0,a1,a2,())=zau qN a0 a1 a2:=by kernel_rfl
def Zi:XU:=zga yM
theorem zlD:Con.Ok Tryz.prog 139 ⟨km,kn,Zi⟩:=zx (zd UJ zn) zq (by kernel_rfl)
theorem zlE (a0) (a1) (a2):Zi (a0,a1,a2,())=zau yM a0 a1 a2:=zq0 yM a0 a1 a2
abbrev Zy:List VT:=[⟨true,zR⟩,⟨false,I⟩,⟨false,I⟩,⟨false,I⟩]
abbrev Zz:List VT:=[⟨false,I⟩]
def zsT:zW:=zN [cdF zR,cdF qq] [] [] [] [39]
def zc6 (qN:kW) (a0:qn) (a1:Int) (a2:Int) (a3:Int):Option (Int×Unit):=
 opt (qN (a0,())) fun x0=>
 bif !(zo x0.1 0) then some (x0.1,())
 else opt (bif zi a1 0 then some (1,((2,()),()))
   else bif !(zi a1 8) then some (1,((2,()),()))
    else bif zi a2 (-1099511627776) then some (1,((2,()),()))
     else bif zi 1099511627776 a2 then some (1,((2,()),()))
      else bif zi a3 0 then some (1,((2,()),()))
       else bif zi 1099511627776 a3 then some (1,((2,()),()))
        else some (0,((0,()),()))) fun x1=>
  bif Nat.beq x1.1 0 then some (0,())
  else some (x1.2.1.1,())
abbrev Ui:Type:=(qn×Int×Int×Int×Unit)→Option (Int×Unit)
def zjs:kW→Ui:=fun qN=>sF Tryz.prog [(39,⟨xn,xp,qN⟩)] zsT (zM []) 30 191 Zy Zz
theorem zuY (qN) (a0) (a1) (a2) (a3):zjs qN (a0,a1,a2,a3,())=zc6 qN a0 a1 a2 a3:=by kernel_rfl
def Jp:Ui:=zjs yM
theorem zo3:Con.Ok Tryz.prog 191 ⟨Zy,Zz,Jp⟩:=zx (zd UJ zn) zq (by kernel_rfl)
theorem zo4 (a0) (a1) (a2) (a3):Jp (a0,a1,a2,a3,())=zc6 yM a0 a1 a2 a3:=zuY yM a0 a1 a2 a3
abbrev QA:List VT:=[⟨true,zR⟩,⟨false,I⟩]
abbrev QB:List VT:=[⟨false,I⟩,⟨false,I⟩]
def zuZ:zW:=zN [cdF zR,cdF qq] [] [] [] []
def ze9 (a0:qn) (a1:Int):Option (Int×Int×Unit):=
 bif zo a0.2 0 then none
 else bif zo a0.2 0 then none
  else opt (atI a0.1 0) fun x0=>
   bif (!(zi (Int.tmod (wrF .i64 ((Int.tmod a1 a0.2)+a0.2)) a0.2) x0.2)) then opt (atI a0.1 0) fun x1=>
    opt (zI (fun s2:((Int×(Int×(Int×Unit)))×Unit)=>
     opt (atI a0.1 s2.1.2.1) fun x3=>
     bif !(zi s2.1.1 x3.2) then opt (atI a0.1 s2.1.2.1) fun x4=>
      some (.inr (((wrF .i64 (s2.1.1 - x4.2)),((wrF .i64 (s2.1.2.1+1)),(s2.1.2.2.1,()))),()))
     else opt (atI a0.1 s2.1.2.1) fun x5=>
      some (.inl (0,((s2.1.1,(s2.1.2.1,((wrF .i64 (x5.2 - s2.1.1)),()))),())))) zQ (((wrF .i64 ((Int.tmod (wrF .i64 ((Int.tmod a1 a0.2)+a0.2)) a0.2) - x1.2)),(1,(0,()))),())) fun x6=>
    some (x6.2.1.2.1,(x6.2.1.2.2.1,()))
   else opt (atI a0.1 0) fun x7=>
    some (0,((wrF .i64 (x7.2 - (Int.tmod (wrF .i64 ((Int.tmod a1 a0.2)+a0.2)) a0.2))),()))
abbrev zav:Type:=(qn×Int×Unit)→Option (Int×Int×Unit)
def zlF:zav:=sF Tryz.prog [] zuZ (zM []) 30 197 QA QB
theorem zxj (a0) (a1):zlF (a0,a1,())=ze9 a0 a1:=by kernel_rfl
def WX:zav:=zlF
theorem zq1:Con.Ok Tryz.prog 197 ⟨QA,QB,WX⟩:=zx zn zq (by kernel_rfl)
theorem zq2 (a0) (a1):WX (a0,a1,())=ze9  a0 a1:=zxj  a0 a1
abbrev QC:List VT:=[⟨true,zR⟩,⟨false,I⟩,⟨false,I⟩]
abbrev QD:List VT:=[⟨false,I⟩]
def zu0:zW:=zN [cdF zR,cdF qq] [] [] [] [197]
def zfa (Yv:zav) (a0:qn) (a1:Int) (a2:Int):Option (Int×Unit):=
 opt (Yv (a0,(a2,()))) fun x0=>
 opt (zI (fun s1:((Int×(((List (Int×Int))×Int)×(Int×(Int×(Int×(Int×(Int×Unit)))))))×Unit)=>
  bif (zi s1.1.2.2.2.2.2.2.1 (wrF .i64 (((a0.1.length:Nat):Int)+1))) then opt (atI s1.1.2.1.1 s1.1.2.2.2.2.1) fun x2=>
   bif zi s1.1.1 0 then none
   else bif (!(zo (kf .and .i64 (jU .i64 x2.1 s1.1.1) 1) 1)) then some (.inl (1,((s1.1.1,(s1.1.2.1,(s1.1.2.2.2.1,(s1.1.2.2.2.1,(s1.1.2.2.2.2.1,(s1.1.2.2.2.2.2.1,(s1.1.2.2.2.2.2.2.1,()))))))),())))
    else bif (zo ((s1.1.2.1.1.length:Nat):Int) 0) then none
     else opt (atI s1.1.2.1.1 (Int.tmod (wrF .i64 (s1.1.2.2.2.2.1+1)) ((s1.1.2.1.1.length:Nat):Int))) fun x3=>
      some (.inr ((s1.1.1,(s1.1.2.1,(s1.1.2.2.1,((wrF .i64 (s1.1.2.2.2.1+s1.1.2.2.2.2.2.1)),((Int.tmod (wrF .i64 (s1.1.2.2.2.2.1+1)) ((s1.1.2.1.1.length:Nat):Int)),(x3.2,((wrF .i64 (s1.1.2.2.2.2.2.2.1+1)),()))))))),()))
  else some (.inl (0,((s1.1.1,(s1.1.2.1,(s1.1.2.2.1,(s1.1.2.2.2.1,(s1.1.2.2.2.2.1,(s1.1.2.2.2.2.2.1,(s1.1.2.2.2.2.2.2.1,()))))))),())))) zQ ((a1,(a0,(0,(0,(x0.1,(x0.2.1,(0,()))))))),())) fun x4=>
 bif Nat.beq x4.1 0 then bif zo x4.2.1.2.1.2 a0.2 then some (1099511627776,())
  else some (x4.2.1.2.1.2,())
 else bif zo x4.2.1.2.2.1 a0.2 then some (1099511627776,())
  else some (x4.2.1.2.2.1,())
abbrev zaw:Type:=(qn×Int×Int×Unit)→Option (Int×Unit)
def zlG:zav→zaw:=fun Yv=>sF Tryz.prog [(197,⟨QA,QB,Yv⟩)] zu0 (zM []) 30 192 QC QD
theorem zxk (Yv) (a0) (a1) (a2):zlG Yv (a0,a1,a2,())=zfa Yv a0 a1 a2:=by kernel_rfl
def WY:zaw:=zlG WX
theorem zq3:Con.Ok Tryz.prog 192 ⟨QC,QD,WY⟩:=zx (zd zq1 zn) zq (by kernel_rfl)
theorem zq4 (a0) (a1) (a2):WY (a0,a1,a2,())=zfa WX a0 a1 a2:=zxk WX a0 a1 a2
abbrev QE:List VT:=[⟨true,zR⟩,⟨false,I⟩,⟨false,I⟩]
abbrev QF:List VT:=[⟨false,I⟩,⟨false,I⟩]
def zu1:zW:=zN [cdF zR,cdF qq] [] [] [] [191,192]
def zfb (JC:Ui) (Yw:zaw) (a0:qn) (a1:Int) (a2:Int):Option (Int×Int×Unit):=
 opt (JC (a0,(a1,(a2,(0,()))))) fun x0=>
 bif !(zo x0.1 0) then some (0,(x0.1,()))
 else opt (Yw (a0,(a1,(a2,())))) fun x1=>
  some (x1.1,(0,()))
abbrev zax:Type:=(qn×Int×Int×Unit)→Option (Int×Int×Unit)
def zlH:Ui→zaw→zax:=fun JC Yw=>sF Tryz.prog [(191,⟨Zy,Zz,JC⟩),(192,⟨QC,QD,Yw⟩)] zu1 (zM []) 30 178 QE QF
theorem zxl (JC) (Yw) (a0) (a1) (a2):zlH JC Yw (a0,a1,a2,())=zfb JC Yw a0 a1 a2:=by kernel_rfl
def WZ:zax:=zlH Jp WY
theorem zq5:Con.Ok Tryz.prog 178 ⟨QE,QF,WZ⟩:=zx (zd zo3 (zd zq3 zn)) zq (by kernel_rfl)
theorem zq6 (a0) (a1) (a2):WZ (a0,a1,a2,())=zfb Jp WY a0 a1 a2:=zxl Jp WY a0 a1 a2
abbrev uG:List VT:=[⟨true,zR⟩]
abbrev uH:List VT:=[⟨false,.bool⟩]
def zm9:zW:=zN [cdF zR,cdF qq] [] [] [] [178]
def UM (Yx:zax) (a0:qn):Option (Bool×Unit):=
 opt (Yx (a0,(6,(0,())))) fun x0=>
 bif zo x0.2.1 0 then some ((zo x0.1 1099511627776),())
 else some (false,())
abbrev YT:Type:=(qn×Unit)→Option (Bool×Unit)
def zfc:zax→YT:=fun Yx=>sF Tryz.prog [(178,⟨QE,QF,Yx⟩)] zm9 (zM []) 30 164 uG uH
theorem zo5 (Yx) (a0):zfc Yx (a0,())=UM Yx a0:=by kernel_rfl
def gG:YT:=zfc WZ
theorem zj5:Con.Ok Tryz.prog 164 ⟨uG,uH,gG⟩:=zx (zd zq5 zn) zq (by kernel_rfl)
theorem zj6 (a0):gG (a0,())=UM WZ a0:=zo5 WZ a0
abbrev xe:List VT:=[⟨true,qq⟩]
abbrev xf:List VT:=[⟨false,.bool⟩]
def zna:zW:=zN [cdF qq] [] [] [] []
def YU (a0:ziz):Option (Bool×Unit):=
 some ((zo (kf .and .i64 (jU .i64 a0.1 6) 1) 1),())
abbrev gH:Type:=(ziz×Unit)→Option (Bool×Unit)
def zfd:gH:=sF Tryz.prog [] zna (zM []) 30 180 xe xf
theorem zo6 (a0):zfd (a0,())=YU a0:=by kernel_rfl
def xg:gH:=zfd
theorem zba:Con.Ok Tryz.prog 180 ⟨xe,xf,xg⟩:=zx zn zq (by kernel_rfl)
theorem zbb (a0):xg (a0,())=YU  a0:=zo6  a0
abbrev vy:List VT:=[⟨true,zR⟩,⟨false,I⟩]
abbrev vz:List VT:=[⟨false,I⟩]
def zlI:zW:=zN [cdF zR,cdF qq] [] [] [] [164,180]
def Wq (gN:YT) (ja:gH) (a0:qn) (a1:Int):Option (Int×Unit):=
 opt (gN (a0,())) fun x0=>
 bif x0.1 then some (a0.2,())
 else opt (zI (fun s1:((Int×(Int×(Int×Unit)))×(Unit×(Unit×Unit)))=>
   bif (zi s1.1.2.2.1 ((a0.1.length:Nat):Int)) then opt (atI a0.1 s1.1.2.2.1) fun x2=>
    opt (ja (x2,())) fun x3=>
    bif x3.1 then opt (atI a0.1 s1.1.2.2.1) fun x4=>
     some (.inr ((s1.1.1,((wrF .i64 (s1.1.2.1+x4.2)),((wrF .i64 (s1.1.2.2.1+1)),()))),((),((),()))))
    else some (.inl (0,((s1.1.1,(s1.1.2.1,(s1.1.2.2.1,()))),((),((),())))))
   else some (.inl (0,((s1.1.1,(s1.1.2.1,(s1.1.2.2.1,()))),((),((),())))))) zQ ((0,(0,(0,()))),((),((),())))) fun x5=>
  bif (zo x5.2.1.2.2.1 ((a0.1.length:Nat):Int)) then some (x5.2.1.1,())
  else opt (atI a0.1 x5.2.1.2.2.1) fun x6=>
   opt (zI (fun s7:(((Int×Int)×(Int×(Int×(Int×Unit))))×(Unit×(Unit×Unit)))=>
    bif (zi s7.1.2.2.2.1 ((a0.1.length:Nat):Int)) then bif (zo ((a0.1.length:Nat):Int) 0) then none
     else opt (atI a0.1 (Int.tmod (wrF .i64 ((wrF .i64 (x5.2.1.2.2.1+1))+s7.1.2.2.2.1)) ((a0.1.length:Nat):Int))) fun x8=>
      opt (ja (x8,())) fun x9=>
      bif x9.1 then opt (bif zo s7.1.1.2 0 then some (0,(((s7.1.2.2.1,s7.1.1.2),()),((),((),()))))
        else some (0,((s7.1.1,()),((),((),()))))) fun x10=>
       some (.inr (((x10.2.1.1.1,(wrF .i64 (x10.2.1.1.2+x8.2))),(s7.1.2.1,((wrF .i64 (s7.1.2.2.1+x8.2)),((wrF .i64 (s7.1.2.2.2.1+1)),())))),((),((),()))))
      else bif zi 0 s7.1.1.2 then some (.inr (((0,0),((wrF .i64 (s7.1.2.1+(vq 0 (wrF .i64 (s7.1.1.2 - a1))))),((wrF .i64 (s7.1.2.2.1+x8.2)),((wrF .i64 (s7.1.2.2.2.1+1)),())))),((),((),()))))
       else some (.inr (((0,0),(s7.1.2.1,((wrF .i64 (s7.1.2.2.1+x8.2)),((wrF .i64 (s7.1.2.2.2.1+1)),())))),((),((),()))))
    else some (.inl (0,((s7.1.1,(s7.1.2.1,(s7.1.2.2.1,(s7.1.2.2.2.1,())))),((),((),())))))) zQ (((0,0),(x5.2.1.1,((wrF .i64 (x5.2.1.2.1+x6.2)),(0,())))),((),((),())))) fun x11=>
   bif Nat.beq x11.1 0 then some (x11.2.1.2.1,())
   else some (x11.2.1.2.1,())
abbrev Wr:Type:=(qn×Int×Unit)→Option (Int×Unit)
def zdB:YT→gH→Wr:=fun gN ja=>sF Tryz.prog [(164,⟨uG,uH,gN⟩),(180,⟨xe,xf,ja⟩)] zlI (zM []) 30 140 vy vz
theorem znb (gN) (ja) (a0) (a1):zdB gN ja (a0,a1,())=Wq gN ja a0 a1:=by kernel_rfl
def vA:Wr:=zdB gG xg
theorem ziM:Con.Ok Tryz.prog 140 ⟨vy,vz,vA⟩:=zx (zd zj5 (zd zba zn)) zq (by kernel_rfl)
theorem zay (a0) (a1):vA (a0,a1,())=Wq gG xg a0 a1:=znb gG xg a0 a1
abbrev ZA:List VT:=[⟨false,I⟩,⟨false,I⟩]
abbrev ZB:List VT:=[⟨false,I⟩]
def zsU:zW:=zN [] [] [] [] []
def zc7 (a0:Int) (a1:Int):Option (Int×Unit):=
 bif zo a1 0 then none
 else bif zo a1 0 then none
  else some ((Int.tmod (wrF .i64 ((Int.tmod a0 a1)+a1)) a1),())
abbrev Uj:Type:=(Int×Int×Unit)→Option (Int×Unit)
def zjt:Uj:=sF Tryz.prog [] zsU (zM []) 30 166 ZA ZB
theorem zu2 (a0) (a1):zjt (a0,a1,())=zc7 a0 a1:=by kernel_rfl
def Jq:Uj:=zjt
theorem zo7:Con.Ok Tryz.prog 166 ⟨ZA,ZB,Jq⟩:=zx zn zq (by kernel_rfl)
theorem zo8 (a0) (a1):Jq (a0,a1,())=zc7  a0 a1:=zu2  a0 a1
abbrev xQ:List VT:=[⟨false,I⟩,⟨false,I⟩]
abbrev xR:List VT:=[⟨false,I⟩]
def zj7:zW:=zN [] [] [] [] [166]
def Vu (JD:Uj) (a0:Int) (a1:Int):Option (Int×Unit):=
 opt (JD (a0,(a1,()))) fun x0=>
 bif zo a1 0 then none
 else some ((wrF .i64 (Int.tdiv (wrF .i64 (a0 - x0.1)) a1)),())
abbrev JY:Type:=(Int×Int×Unit)→Option (Int×Unit)
def zcB:Uj→JY:=fun JD=>sF Tryz.prog [(166,⟨ZA,ZB,JD⟩)] zj7 (zM []) 30 142 xQ xR
theorem zlJ (JD) (a0) (a1):zcB JD (a0,a1,())=Vu JD a0 a1:=by kernel_rfl
def xS:JY:=zcB Jq
theorem zhA:Con.Ok Tryz.prog 142 ⟨xQ,xR,xS⟩:=zx (zd zo7 zn) zq (by kernel_rfl)
theorem zhB (a0) (a1):xS (a0,a1,())=Vu Jq a0 a1:=zlJ Jq a0 a1
abbrev xT:List VT:=[⟨true,zR⟩,⟨false,I⟩,⟨false,I⟩]
abbrev xU:List VT:=[⟨true,yb⟩,⟨false,I⟩]
def zu3:zW:=zN [cdF zR,cdF qq] [] [⟨7,87,none,jm,true⟩,⟨12,87,none,jm,true⟩,⟨7,87,some 6,jm,false⟩,⟨12,87,some 6,jm,false⟩,⟨2,48,none,jm,true⟩,⟨6,48,none,jm,true⟩,⟨2,90,none,jm,true⟩,⟨5,90,none,jm,true⟩,⟨9,90,none,jm,true⟩,⟨12,90,none,jm,true⟩,⟨13,90,none,jm,true⟩,⟨18,90,none,jm,true⟩,⟨8,90,none,jm,true⟩] [] [139,140,142,180]
def Vv (Zm:XU) (kM:Wr) (yA:JY) (ja:gH) (a0:qn) (a1:Int) (a2:Int):Option (jx×Int×Unit):=
 opt (Zm (a0,(a1,(a2,())))) fun x0=>
 bif !(zo x0.1 0) then some ((0,0),(x0.1,()))
 else opt (kM (a0,((wrF .i64 (a2*a1)),()))) fun x1=>
  bif (zo (wrF .i64 (a0.2*a1)) 0) then none
  else bif (zi (wrF .i64 (Int.tdiv (wrF .i64 (x1.1*1048576)) (wrF .i64 (a0.2*a1)))) 1) then some ((0,0),(4,()))
   else opt (yA ((wrF .i64 ((wrF .i64 ((-127)*a1))*1048576)),((wrF .i64 ((wrF .i64 (Int.tdiv (wrF .i64 (x1.1*1048576)) (wrF .i64 (a0.2*a1))))*a1)),()))) fun x2=>
    opt (zI (fun s3:((Int×(Int×Unit))×(((List (Int×Int))×Unit)×(Unit×(Unit×Unit))))=>
     bif (zi s3.1.2.1 ((a0.1.length:Nat):Int)) then opt (atI a0.1 s3.1.2.1) fun x4=>
      opt (ja (x4,())) fun x5=>
      bif x5.1 then opt (atI a0.1 s3.1.2.1) fun x6=>
       some (.inr (((wrF .i64 (s3.1.1+x6.2)),((wrF .i64 (s3.1.2.1+1)),())),((s3.2.1.1,()),((),((),())))))
      else some (.inl (0,((s3.1.1,(s3.1.2.1,())),((s3.2.1.1,()),((),((),()))))))
     else some (.inl (0,((s3.1.1,(s3.1.2.1,())),((s3.2.1.1,()),((),((),()))))))) zQ ((0,(0,())),(([],()),((),((),()))))) fun x7=>
    bif (zo x7.2.1.2.1 ((a0.1.length:Nat):Int)) then opt (zI (fun s8:((Int×(Int×(Int×(Int×Unit))))×(Unit×Unit))=>
      bif (zi s8.1.2.2.2.1 ((x7.2.2.1.1.length:Nat):Int)) then opt (atI x7.2.2.1.1 s8.1.2.2.2.1) fun x9=>
       opt (gl x7.2.2.1.1 (Int.toNat s8.1.2.2.2.1)) fun x10=>
       opt (zI (fun s11:((Int×(Int×(Int×(Int×(Int×Unit)))))×(Unit×Unit))=>
        bif (zi s11.1.2.2.2.2.1 ((x7.2.2.1.1.length:Nat):Int)) then bif (zo ((x7.2.2.1.1.length:Nat):Int) 0) then none
         else opt (atI x7.2.2.1.1 (Int.tmod (wrF .i64 ((wrF .i64 (s8.1.2.2.2.1+1))+s11.1.2.2.2.2.1)) ((x7.2.2.1.1.length:Nat):Int))) fun x12=>
          opt (gl x7.2.2.1.1 (Int.toNat (Int.tmod (wrF .i64 ((wrF .i64 (s8.1.2.2.2.1+1))+s11.1.2.2.2.2.1)) ((x7.2.2.1.1.length:Nat):Int)))) fun x13=>
          bif (zo ((x7.2.2.1.1.length:Nat):Int) 0) then none
          else opt (yA ((wrF .i64 ((wrF .i64 (s11.1.2.2.2.1 - (wrF .i64 (127*s11.1.2.2.1))))*1048576)),((wrF .i64 (s11.1.2.1*s11.1.2.2.1)),()))) fun x14=>
           some (.inr (((vq s11.1.1 (wrF .i64 ((wrF .i64 ((wrF .i64 ((wrF .i64 (x13.1+(wrF .i64 ((wrF .i64 (Int.tdiv (wrF .i64 ((wrF .i64 (s8.1.2.2.2.1+1))+s11.1.2.2.2.2.1)) ((x7.2.2.1.1.length:Nat):Int)))*a0.2))))+(jh (wrF .i64 (a2*a1)) x13.2))) - (wrF .i64 ((wrF .i64 (x10.1+x10.2)) - (jh (wrF .i64 (a2*a1)) x10.2))))) - x14.1))),(s11.1.2.1,(s11.1.2.2.1,((wrF .i64 (s11.1.2.2.2.1+(vq 0 (wrF .i64 (x13.2 - (wrF .i64 (a2*a1))))))),((wrF .i64 (s11.1.2.2.2.2.1+1)),()))))),((),())))
        else some (.inl (0,((s11.1.1,(s11.1.2.1,(s11.1.2.2.1,(s11.1.2.2.2.1,(s11.1.2.2.2.2.1,()))))),((),()))))) zQ ((s8.1.1,(s8.1.2.1,(s8.1.2.2.1,(0,(0,()))))),((),()))) fun x15=>
       some (.inr ((x15.2.1.1,(x15.2.1.2.1,(x15.2.1.2.2.1,((wrF .i64 (s8.1.2.2.2.1+1)),())))),((),())))
      else some (.inl (0,((s8.1.1,(s8.1.2.1,(s8.1.2.2.1,(s8.1.2.2.2.1,())))),((),()))))) zQ (((vq 0 (wrF .i64 (0 - x2.1))),((wrF .i64 (Int.tdiv (wrF .i64 (x1.1*1048576)) (wrF .i64 (a0.2*a1)))),(a1,(0,())))),((),()))) fun x16=>
     some ((x16.2.1.2.1,x16.2.1.1),(0,()))
    else opt (atI a0.1 x7.2.1.2.1) fun x17=>
     opt (zI (fun s18:(((Int×Int)×(Int×(Int×Unit)))×(((List (Int×Int))×Unit)×(Unit×(Unit×Unit))))=>
      bif (zi s18.1.2.2.1 ((a0.1.length:Nat):Int)) then bif (zo ((a0.1.length:Nat):Int) 0) then none
       else opt (atI a0.1 (Int.tmod (wrF .i64 ((wrF .i64 (x7.2.1.2.1+1))+s18.1.2.2.1)) ((a0.1.length:Nat):Int))) fun x19=>
        opt (ja (x19,())) fun x20=>
        bif x20.1 then opt (bif zo s18.1.1.2 0 then some (0,(((s18.1.2.1,s18.1.1.2),()),((),((),()))))
          else some (0,((s18.1.1,()),((),((),()))))) fun x21=>
         some (.inr (((x21.2.1.1.1,(wrF .i64 (x21.2.1.1.2+x19.2))),((wrF .i64 (s18.1.2.1+x19.2)),((wrF .i64 (s18.1.2.2.1+1)),()))),((s18.2.1.1,()),((),((),())))))
        else bif zi 0 s18.1.1.2 then bif (qE s18.2.1.1.length ((s18.1.1::[]).length) 16) then some (.inr (((0,0),((wrF .i64 (s18.1.2.1+x19.2)),((wrF .i64 (s18.1.2.2.1+1)),()))),(((s18.2.1.1++(s18.1.1::[])),()),((),((),())))))
          else none
         else some (.inr (((0,0),((wrF .i64 (s18.1.2.1+x19.2)),((wrF .i64 (s18.1.2.2.1+1)),()))),((s18.2.1.1,()),((),((),())))))
      else some (.inl (0,((s18.1.1,(s18.1.2.1,(s18.1.2.2.1,()))),((s18.2.1.1,()),((),((),()))))))) zQ (((0,0),((wrF .i64 (x7.2.1.1+x17.2)),(0,()))),((x7.2.2.1.1,()),((),((),()))))) fun x22=>
     bif Nat.beq x22.1 0 then opt (zI (fun s23:((Int×(Int×(Int×(Int×Unit))))×(Unit×Unit))=>
       bif (zi s23.1.2.2.2.1 ((x22.2.2.1.1.length:Nat):Int)) then opt (atI x22.2.2.1.1 s23.1.2.2.2.1) fun x24=>
        opt (gl x22.2.2.1.1 (Int.toNat s23.1.2.2.2.1)) fun x25=>
        opt (zI (fun s26:((Int×(Int×(Int×(Int×(Int×Unit)))))×(Unit×Unit))=>
         bif (zi s26.1.2.2.2.2.1 ((x22.2.2.1.1.length:Nat):Int)) then bif (zo ((x22.2.2.1.1.length:Nat):Int) 0) then none
          else opt (atI x22.2.2.1.1 (Int.tmod (wrF .i64 ((wrF .i64 (s23.1.2.2.2.1+1))+s26.1.2.2.2.2.1)) ((x22.2.2.1.1.length:Nat):Int))) fun x27=>
           opt (gl x22.2.2.1.1 (Int.toNat (Int.tmod (wrF .i64 ((wrF .i64 (s23.1.2.2.2.1+1))+s26.1.2.2.2.2.1)) ((x22.2.2.1.1.length:Nat):Int)))) fun x28=>
           bif (zo ((x22.2.2.1.1.length:Nat):Int) 0) then none
           else opt (yA ((wrF .i64 ((wrF .i64 (s26.1.2.2.2.1 - (wrF .i64 (127*s26.1.2.2.1))))*1048576)),((wrF .i64 (s26.1.2.1*s26.1.2.2.1)),()))) fun x29=>
            some (.inr (((vq s26.1.1 (wrF .i64 ((wrF .i64 ((wrF .i64 ((wrF .i64 (x28.1+(wrF .i64 ((wrF .i64 (Int.tdiv (wrF .i64 ((wrF .i64 (s23.1.2.2.2.1+1))+s26.1.2.2.2.2.1)) ((x22.2.2.1.1.length:Nat):Int)))*a0.2))))+(jh (wrF .i64 (a2*a1)) x28.2))) - (wrF .i64 ((wrF .i64 (x25.1+x25.2)) - (jh (wrF .i64 (a2*a1)) x25.2))))) - x29.1))),(s26.1.2.1,(s26.1.2.2.1,((wrF .i64 (s26.1.2.2.2.1+(vq 0 (wrF .i64 (x28.2 - (wrF .i64 (a2*a1))))))),((wrF .i64 (s26.1.2.2.2.2.1+1)),()))))),((),())))
         else some (.inl (0,((s26.1.1,(s26.1.2.1,(s26.1.2.2.1,(s26.1.2.2.2.1,(s26.1.2.2.2.2.1,()))))),((),()))))) zQ ((s23.1.1,(s23.1.2.1,(s23.1.2.2.1,(0,(0,()))))),((),()))) fun x30=>
        some (.inr ((x30.2.1.1,(x30.2.1.2.1,(x30.2.1.2.2.1,((wrF .i64 (s23.1.2.2.2.1+1)),())))),((),())))
       else some (.inl (0,((s23.1.1,(s23.1.2.1,(s23.1.2.2.1,(s23.1.2.2.2.1,())))),((),()))))) zQ (((vq 0 (wrF .i64 (0 - x2.1))),((wrF .i64 (Int.tdiv (wrF .i64 (x1.1*1048576)) (wrF .i64 (a0.2*a1)))),(a1,(0,())))),((),()))) fun x31=>
      some ((x31.2.1.2.1,x31.2.1.1),(0,()))
     else opt (zI (fun s32:((Int×(Int×(Int×(Int×Unit))))×(Unit×Unit))=>
       bif (zi s32.1.2.2.2.1 ((x22.2.2.1.1.length:Nat):Int)) then opt (atI x22.2.2.1.1 s32.1.2.2.2.1) fun x33=>
        opt (gl x22.2.2.1.1 (Int.toNat s32.1.2.2.2.1)) fun x34=>
        opt (zI (fun s35:((Int×(Int×(Int×(Int×(Int×Unit)))))×(Unit×Unit))=>
         bif (zi s35.1.2.2.2.2.1 ((x22.2.2.1.1.length:Nat):Int)) then bif (zo ((x22.2.2.1.1.length:Nat):Int) 0) then none
          else opt (atI x22.2.2.1.1 (Int.tmod (wrF .i64 ((wrF .i64 (s32.1.2.2.2.1+1))+s35.1.2.2.2.2.1)) ((x22.2.2.1.1.length:Nat):Int))) fun x36=>
           opt (gl x22.2.2.1.1 (Int.toNat (Int.tmod (wrF .i64 ((wrF .i64 (s32.1.2.2.2.1+1))+s35.1.2.2.2.2.1)) ((x22.2.2.1.1.length:Nat):Int)))) fun x37=>
           bif (zo ((x22.2.2.1.1.length:Nat):Int) 0) then none
           else opt (yA ((wrF .i64 ((wrF .i64 (s35.1.2.2.2.1 - (wrF .i64 (127*s35.1.2.2.1))))*1048576)),((wrF .i64 (s35.1.2.1*s35.1.2.2.1)),()))) fun x38=>
            some (.inr (((vq s35.1.1 (wrF .i64 ((wrF .i64 ((wrF .i64 ((wrF .i64 (x37.1+(wrF .i64 ((wrF .i64 (Int.tdiv (wrF .i64 ((wrF .i64 (s32.1.2.2.2.1+1))+s35.1.2.2.2.2.1)) ((x22.2.2.1.1.length:Nat):Int)))*a0.2))))+(jh (wrF .i64 (a2*a1)) x37.2))) - (wrF .i64 ((wrF .i64 (x34.1+x34.2)) - (jh (wrF .i64 (a2*a1)) x34.2))))) - x38.1))),(s35.1.2.1,(s35.1.2.2.1,((wrF .i64 (s35.1.2.2.2.1+(vq 0 (wrF .i64 (x37.2 - (wrF .i64 (a2*a1))))))),((wrF .i64 (s35.1.2.2.2.2.1+1)),()))))),((),())))
         else some (.inl (0,((s35.1.1,(s35.1.2.1,(s35.1.2.2.1,(s35.1.2.2.2.1,(s35.1.2.2.2.2.1,()))))),((),()))))) zQ ((s32.1.1,(s32.1.2.1,(s32.1.2.2.1,(0,(0,()))))),((),()))) fun x39=>
        some (.inr ((x39.2.1.1,(x39.2.1.2.1,(x39.2.1.2.2.1,((wrF .i64 (s32.1.2.2.2.1+1)),())))),((),())))
       else some (.inl (0,((s32.1.1,(s32.1.2.1,(s32.1.2.2.1,(s32.1.2.2.2.1,())))),((),()))))) zQ (((vq 0 (wrF .i64 (0 - x2.1))),((wrF .i64 (Int.tdiv (wrF .i64 (x1.1*1048576)) (wrF .i64 (a0.2*a1)))),(a1,(0,())))),((),()))) fun x40=>
      some ((x40.2.1.2.1,x40.2.1.1),(0,()))
abbrev zaz:Type:=(qn×Int×Int×Unit)→Option (jx×Int×Unit)
def zlK:XU→Wr→JY→gH→zaz:=fun Zm kM yA ja=>sF Tryz.prog [(139,⟨km,kn,Zm⟩),(140,⟨vy,vz,kM⟩),(142,⟨xQ,xR,yA⟩),(180,⟨xe,xf,ja⟩)] zu3 (zM []) 30 101 xT xU
theorem zxm (Zm) (kM) (yA) (ja) (a0) (a1) (a2):zlK Zm kM yA ja (a0,a1,a2,())=Vv Zm kM yA ja a0 a1 a2:=by kernel_rfl
def xV:zaz:=zlK Zi vA xS xg
theorem zq7:Con.Ok Tryz.prog 101 ⟨xT,xU,xV⟩:=zx (zd zlD (zd ziM (zd zhA (zd zba zn)))) zq (by kernel_rfl)
theorem zaA (a0) (a1) (a2):xV (a0,a1,a2,())=Vv Zi vA xS xg a0 a1 a2:=zxm Zi vA xS xg a0 a1 a2
abbrev ko:List VT:=[⟨false,(.list zv)⟩]
abbrev kp:List VT:=[⟨true,zv⟩,⟨false,I⟩]
def zu4:zW:=zN [cdF zv] [] [] [] [84]
def zfe (zT:yf) (a0:(List qi)):Option (qi×Int×Unit):=
 bif (zo ((a0.length:Nat):Int) 0) then some ((0,0),(2,()))
 else bif (zi 12 ((a0.length:Nat):Int)) then some ((0,0),(3,()))
  else opt (zI (fun s0:(((Int×Int)×((Int×Int)×(Int×(Int×Unit))))×Unit)=>
    bif (zi s0.1.2.2.2.1 ((a0.length:Nat):Int)) then opt (atI a0 s0.1.2.2.2.1) fun x1=>
     opt (zT (x1,())) fun x2=>
     bif !(zo x2.1 0) then some (.inl (1,(((0,0),(s0.1.2.1,(x2.1,(s0.1.2.2.2.1,())))),())))
     else some (.inr ((s0.1.1,(((wrF .i64 (s0.1.2.1.1+x1.1)),(wrF .i64 (s0.1.2.1.2+x1.2))),(s0.1.2.2.1,((wrF .i64 (s0.1.2.2.2.1+1)),())))),()))
    else some (.inl (0,((s0.1.1,(s0.1.2.1,(s0.1.2.2.1,(s0.1.2.2.2.1,())))),())))) zQ (((0,0),((0,0),(0,(0,())))),())) fun x3=>
   bif Nat.beq x3.1 0 then opt (zT (x3.2.1.2.1,())) fun x4=>
    bif !(zo x4.1 0) then some ((0,0),(6,()))
    else some (x3.2.1.2.1,(0,()))
   else some (x3.2.1.1,(x3.2.1.2.2.1,()))
abbrev zaB:Type:=((List qi)×Unit)→Option (qi×Int×Unit)
def zlL:yf→zaB:=fun zT=>sF Tryz.prog [(84,⟨jY,jZ,zT⟩)] zu4 (zM []) 30 102 ko kp
theorem zxn (zT) (a0):zlL zT (a0,())=zfe zT a0:=by kernel_rfl
def kq:zaB:=zlL qR
theorem zq8:Con.Ok Tryz.prog 102 ⟨ko,kp,kq⟩:=zx (zd ZK zn) zq (by kernel_rfl)
theorem zq9 (a0):kq (a0,())=zfe qR a0:=zxn qR a0
abbrev xZ:List VT:=[⟨true,yb⟩]
abbrev ve:List VT:=[⟨false,I⟩]
def zsV:zW:=zN [cdF yb] [] [] [] []
def zc8 (a0:jx):Option (Int×Unit):=
 opt (bif zi a0.1 1 then some (1,((140,()),()))
  else bif zi 2097152 a0.1 then some (1,((140,()),()))
   else bif zi a0.2 0 then some (1,((140,()),()))
    else bif zi 268435456 a0.2 then some (1,((140,()),()))
     else some (0,((0,()),()))) fun x0=>
 bif Nat.beq x0.1 0 then some (0,())
 else some (x0.2.1.1,())
abbrev kY:Type:=(jx×Unit)→Option (Int×Unit)
def zju:kY:=sF Tryz.prog [] zsV (zM []) 30 59 xZ ve
theorem zu5 (a0):zju (a0,())=zc8 a0:=by kernel_rfl
def yN:kY:=zju
theorem UN:Con.Ok Tryz.prog 59 ⟨xZ,ve,yN⟩:=zx zn zq (by kernel_rfl)
theorem zo9 (a0):yN (a0,())=zc8  a0:=zu5  a0
abbrev uo:List VT:=[⟨false,(.list I)⟩]
abbrev uq:List VT:=[⟨false,.bool⟩]
def zsW:zW:=zN [] [] [] [] []
def zc9 (a0:(List Int)):Option (Bool×Unit):=
 opt (zI (fun s0:((Bool×(Int×Unit))×Unit)=>
  bif (zi s0.1.2.1 ((a0.length:Nat):Int)) then opt (atI a0 s0.1.2.1) fun x1=>
   opt (bif zi x1 (-1125899906842624) then some (1,((false,()),()))
    else bif zi 1125899906842624 x1 then some (1,((false,()),()))
     else some (0,((s0.1.1,()),()))) fun x2=>
   bif Nat.beq x2.1 0 then some (.inr ((x2.2.1.1,((wrF .i64 (s0.1.2.1+1)),())),()))
   else some (.inl (1,((x2.2.1.1,(s0.1.2.1,())),())))
  else some (.inl (0,((s0.1.1,(s0.1.2.1,())),())))) zQ ((false,(0,())),())) fun x3=>
 bif Nat.beq x3.1 0 then some (true,())
 else some (x3.2.1.1,())
abbrev Jr:Type:=((List Int)×Unit)→Option (Bool×Unit)
def zjv:Jr:=sF Tryz.prog [] zsW (zM []) 30 182 uo uq
theorem zu6 (a0):zjv (a0,())=zc9 a0:=by kernel_rfl
def ur:Jr:=zjv
theorem zff:Con.Ok Tryz.prog 182 ⟨uo,uq,ur⟩:=zx zn zq (by kernel_rfl)
theorem zpa (a0):ur (a0,())=zc9  a0:=zu6  a0
abbrev kr:List VT:=[⟨false,I⟩]
abbrev ku:List VT:=[⟨false,(.int .u64)⟩]
def zpb:zW:=zN [] [] [] [] []
def XV (a0:Int):Option (Int×Unit):=
 bif zi a0 0 then some ((wrF .u64 (wrF .i64 (0 - a0))),())
 else some ((wrF .u64 a0),())
abbrev XW:Type:=(Int×Unit)→Option (Int×Unit)
def zgb:XW:=sF Tryz.prog [] zpb (zM []) 30 184 kr ku
theorem zra (a0):zgb (a0,())=XV a0:=by kernel_rfl
def kx:XW:=zgb
theorem zlM:Con.Ok Tryz.prog 184 ⟨kr,ku,kx⟩:=zx zn zq (by kernel_rfl)
theorem zcC (a0):kx (a0,())=XV  a0:=zra  a0
abbrev vB:List VT:=[⟨false,(.int .u64)⟩,⟨false,(.int .u64)⟩]
abbrev vC:List VT:=[⟨false,(.int .u64)⟩,⟨false,(.int .u64)⟩]
def zlN:zW:=zN [] [] [] [] []
def Kt (a0:Int) (a1:Int):Option (Int×Int×Unit):=
 some ((wrF .u64 ((wrF .u64 ((wrF .u64 ((jU .u64 a0 32)*(jU .u64 a1 32)))+(jU .u64 (wrF .u64 ((wrF .u64 ((jU .u64 a0 32)*(kf .and .u64 a1 4294967295)))+(jU .u64 (wrF .u64 ((kf .and .u64 a0 4294967295)*(kf .and .u64 a1 4294967295))) 32))) 32)))+(jU .u64 (wrF .u64 ((kf .and .u64 (wrF .u64 ((wrF .u64 ((jU .u64 a0 32)*(kf .and .u64 a1 4294967295)))+(jU .u64 (wrF .u64 ((kf .and .u64 a0 4294967295)*(kf .and .u64 a1 4294967295))) 32))) 4294967295)+(wrF .u64 ((kf .and .u64 a0 4294967295)*(jU .u64 a1 32))))) 32))),((wrF .u64 (a0*a1)),()))
abbrev Ws:Type:=(Int×Int×Unit)→Option (Int×Int×Unit)
def zdC:Ws:=sF Tryz.prog [] zlN (zM []) 30 183 vB vC
theorem znc (a0) (a1):zdC (a0,a1,())=Kt a0 a1:=by kernel_rfl
def kJ:Ws:=zdC
theorem ziN:Con.Ok Tryz.prog 183 ⟨vB,vC,kJ⟩:=zx zn zq (by kernel_rfl)
theorem ziO (a0) (a1):kJ (a0,a1,())=Kt  a0 a1:=znc  a0 a1
abbrev vD:List VT:=[⟨false,(.int .u64)⟩]
abbrev vE:List VT:=[⟨false,I⟩]
def zlO:zW:=zN [] [] [] [] []
def zdD:(Int×Unit)→Option (Int×Unit):=sF Tryz.prog [] zlO (zM []) 30 196 vD vE
theorem ziP:Con.Ok Tryz.prog 196 ⟨vD,vE,zdD⟩:=zx zn zq (by kernel_rfl)
abbrev wh:List VT:=[⟨false,(.int .u64)⟩]
abbrev wi:List VT:=[⟨false,I⟩]
def zcD:zW:=zN [] [] [] [] [196]
def uu:(Int×Unit)→Option (Int×Unit):=sF Tryz.prog [(196,⟨vD,vE,zdD⟩)] zcD (zM []) 30 193 wh wi
theorem za3:Con.Ok Tryz.prog 193 ⟨wh,wi,uu⟩:=zx (zd ziP zn) zq (by kernel_rfl)
abbrev vF:List VT:=[⟨false,(.int .u64)⟩,⟨false,(.int .u64)⟩,⟨false,(.int .u64)⟩]
abbrev vG:List VT:=[⟨false,(.int .u64)⟩,⟨false,(.int .u64)⟩]
def zlP:zW:=zN [] [] [] [] [193]
def Ku (yk:(Int×Unit)→Option (Int×Unit)) (a0:Int) (a1:Int) (a2:Int):Option (Int×Int×Unit):=
 opt (bif zo a2 0 then none
  else some (0,((),()))) fun x0=>
 opt (bif !(zi a0 a2) then none
  else some (0,((),()))) fun x1=>
 bif zo a0 0 then bif zo a2 0 then none
  else bif zo a2 0 then none
   else some ((wrF .u64 (Int.tdiv a1 a2)),((Int.tmod a1 a2),()))
 else opt (yk (a2,())) fun x2=>
  bif zi (wrF .u64 x2.1) 0 then none
  else bif zi (wrF .u64 x2.1) 0 then none
   else bif (zi (wrF .u64 (64 - (wrF .u64 x2.1))) 0) then none
    else bif zi (wrF .u64 x2.1) 0 then none
     else bif (zo (jU .u64 (yD .u64 a2 (wrF .u64 x2.1)) 32) 0) then none
      else opt (zI (fun s3:((Int×(Int×Unit))×Unit)=>
        bif !(zi s3.1.1 4294967296) then bif (!(zi (wrF .u64 (s3.1.2.1+(jU .u64 (yD .u64 a2 (wrF .u64 x2.1)) 32))) 4294967296)) then some (.inl (0,(((wrF .u64 (s3.1.1 - 1)),((wrF .u64 (s3.1.2.1+(jU .u64 (yD .u64 a2 (wrF .u64 x2.1)) 32))),())),())))
         else some (.inr (((wrF .u64 (s3.1.1 - 1)),((wrF .u64 (s3.1.2.1+(jU .u64 (yD .u64 a2 (wrF .u64 x2.1)) 32))),())),()))
        else bif (zi (wrF .u64 ((wrF .u64 (4294967296*s3.1.2.1))+(jU .u64 (yD .u64 a1 (wrF .u64 x2.1)) 32))) (wrF .u64 (s3.1.1*(kf .and .u64 (yD .u64 a2 (wrF .u64 x2.1)) 4294967295)))) then bif (!(zi (wrF .u64 (s3.1.2.1+(jU .u64 (yD .u64 a2 (wrF .u64 x2.1)) 32))) 4294967296)) then some (.inl (0,(((wrF .u64 (s3.1.1 - 1)),((wrF .u64 (s3.1.2.1+(jU .u64 (yD .u64 a2 (wrF .u64 x2.1)) 32))),())),())))
          else some (.inr (((wrF .u64 (s3.1.1 - 1)),((wrF .u64 (s3.1.2.1+(jU .u64 (yD .u64 a2 (wrF .u64 x2.1)) 32))),())),()))
         else some (.inl (0,((s3.1.1,(s3.1.2.1,())),())))) zQ (((wrF .u64 (Int.tdiv (kf .or .u64 (yD .u64 a0 (wrF .u64 x2.1)) (jU .u64 a1 (wrF .u64 (64 - (wrF .u64 x2.1))))) (jU .u64 (yD .u64 a2 (wrF .u64 x2.1)) 32))),((wrF .u64 ((kf .or .u64 (yD .u64 a0 (wrF .u64 x2.1)) (jU .u64 a1 (wrF .u64 (64 - (wrF .u64 x2.1))))) - (wrF .u64 ((wrF .u64 (Int.tdiv (kf .or .u64 (yD .u64 a0 (wrF .u64 x2.1)) (jU .u64 a1 (wrF .u64 (64 - (wrF .u64 x2.1))))) (jU .u64 (yD .u64 a2 (wrF .u64 x2.1)) 32)))*(jU .u64 (yD .u64 a2 (wrF .u64 x2.1)) 32))))),())),())) fun x4=>
       bif (zo (jU .u64 (yD .u64 a2 (wrF .u64 x2.1)) 32) 0) then none
       else opt (zI (fun s5:((Int×(Int×Unit))×Unit)=>
         bif !(zi s5.1.1 4294967296) then bif (!(zi (wrF .u64 (s5.1.2.1+(jU .u64 (yD .u64 a2 (wrF .u64 x2.1)) 32))) 4294967296)) then some (.inl (0,(((wrF .u64 (s5.1.1 - 1)),((wrF .u64 (s5.1.2.1+(jU .u64 (yD .u64 a2 (wrF .u64 x2.1)) 32))),())),())))
          else some (.inr (((wrF .u64 (s5.1.1 - 1)),((wrF .u64 (s5.1.2.1+(jU .u64 (yD .u64 a2 (wrF .u64 x2.1)) 32))),())),()))
         else bif (zi (wrF .u64 ((wrF .u64 (4294967296*s5.1.2.1))+(kf .and .u64 (yD .u64 a1 (wrF .u64 x2.1)) 4294967295))) (wrF .u64 (s5.1.1*(kf .and .u64 (yD .u64 a2 (wrF .u64 x2.1)) 4294967295)))) then bif (!(zi (wrF .u64 (s5.1.2.1+(jU .u64 (yD .u64 a2 (wrF .u64 x2.1)) 32))) 4294967296)) then some (.inl (0,(((wrF .u64 (s5.1.1 - 1)),((wrF .u64 (s5.1.2.1+(jU .u64 (yD .u64 a2 (wrF .u64 x2.1)) 32))),())),())))
           else some (.inr (((wrF .u64 (s5.1.1 - 1)),((wrF .u64 (s5.1.2.1+(jU .u64 (yD .u64 a2 (wrF .u64 x2.1)) 32))),())),()))
          else some (.inl (0,((s5.1.1,(s5.1.2.1,())),())))) zQ (((wrF .u64 (Int.tdiv (wrF .u64 ((wrF .u64 ((wrF .u64 ((kf .or .u64 (yD .u64 a0 (wrF .u64 x2.1)) (jU .u64 a1 (wrF .u64 (64 - (wrF .u64 x2.1)))))*4294967296))+(jU .u64 (yD .u64 a1 (wrF .u64 x2.1)) 32))) - (wrF .u64 (x4.2.1.1*(yD .u64 a2 (wrF .u64 x2.1)))))) (jU .u64 (yD .u64 a2 (wrF .u64 x2.1)) 32))),((wrF .u64 ((wrF .u64 ((wrF .u64 ((wrF .u64 ((kf .or .u64 (yD .u64 a0 (wrF .u64 x2.1)) (jU .u64 a1 (wrF .u64 (64 - (wrF .u64 x2.1)))))*4294967296))+(jU .u64 (yD .u64 a1 (wrF .u64 x2.1)) 32))) - (wrF .u64 (x4.2.1.1*(yD .u64 a2 (wrF .u64 x2.1)))))) - (wrF .u64 ((wrF .u64 (Int.tdiv (wrF .u64 ((wrF .u64 ((wrF .u64 ((kf .or .u64 (yD .u64 a0 (wrF .u64 x2.1)) (jU .u64 a1 (wrF .u64 (64 - (wrF .u64 x2.1)))))*4294967296))+(jU .u64 (yD .u64 a1 (wrF .u64 x2.1)) 32))) - (wrF .u64 (x4.2.1.1*(yD .u64 a2 (wrF .u64 x2.1)))))) (jU .u64 (yD .u64 a2 (wrF .u64 x2.1)) 32)))*(jU .u64 (yD .u64 a2 (wrF .u64 x2.1)) 32))))),())),())) fun x6=>
        bif zi (wrF .u64 x2.1) 0 then none
        else some ((wrF .u64 ((wrF .u64 (x4.2.1.1*4294967296))+x6.2.1.1)),((jU .u64 (wrF .u64 ((wrF .u64 ((wrF .u64 ((wrF .u64 ((wrF .u64 ((wrF .u64 ((kf .or .u64 (yD .u64 a0 (wrF .u64 x2.1)) (jU .u64 a1 (wrF .u64 (64 - (wrF .u64 x2.1)))))*4294967296))+(jU .u64 (yD .u64 a1 (wrF .u64 x2.1)) 32))) - (wrF .u64 (x4.2.1.1*(yD .u64 a2 (wrF .u64 x2.1))))))*4294967296))+(kf .and .u64 (yD .u64 a1 (wrF .u64 x2.1)) 4294967295))) - (wrF .u64 (x6.2.1.1*(yD .u64 a2 (wrF .u64 x2.1)))))) (wrF .u64 x2.1)),()))
abbrev Wt:Type:=(Int×Int×Int×Unit)→Option (Int×Int×Unit)
def zdE:((Int×Unit)→Option (Int×Unit))→Wt:=fun yk=>sF Tryz.prog [(193,⟨wh,wi,yk⟩)] zlP (zM []) 30 185 vF vG
theorem znd (yk) (a0) (a1) (a2):zdE yk (a0,a1,a2,())=Ku yk a0 a1 a2:=by kernel_rfl
def kK:Wt:=zdE uu
theorem ziQ:Con.Ok Tryz.prog 185 ⟨vF,vG,kK⟩:=zx (zd za3 zn) zq (by kernel_rfl)
theorem ziR (a0) (a1) (a2):kK (a0,a1,a2,())=Ku uu a0 a1 a2:=znd uu a0 a1 a2
abbrev ZC:List VT:=[⟨false,I⟩]
abbrev ZD:List VT:=[⟨false,I⟩,⟨false,.bool⟩]
def zsX:zW:=zN [] [] [] [] [182]
def zda (yl:Jr) (a0:Int):Option (Int×Bool×Unit):=
 opt (yl ((a0::[]),())) fun x0=>
 bif !x0.1 then some (0,(false,()))
 else some (a0,(true,()))
abbrev Uk:Type:=(Int×Unit)→Option (Int×Bool×Unit)
def zjw:Jr→Uk:=fun yl=>sF Tryz.prog [(182,⟨uo,uq,yl⟩)] zsX (zM []) 30 186 ZC ZD
theorem zu7 (yl) (a0):zjw yl (a0,())=zda yl a0:=by kernel_rfl
def Js:Uk:=zjw ur
theorem zpc:Con.Ok Tryz.prog 186 ⟨ZC,ZD,Js⟩:=zx (zd zff zn) zq (by kernel_rfl)
theorem zpd (a0):Js (a0,())=zda ur a0:=zu7 ur a0
abbrev QG:List VT:=[⟨false,I⟩,⟨false,I⟩,⟨false,I⟩]
abbrev QH:List VT:=[⟨false,I⟩,⟨false,.bool⟩]
def zu8:zW:=zN [] [] [] [] [182,184,183,185,186]
def zfg (yl:Jr) (kD:XW) (kN:Ws) (kO:Wt) (JE:Uk) (a0:Int) (a1:Int) (a2:Int):Option (Int×Bool×Unit):=
 opt (opt (yl ((a0::(a1::(a2::[]))),())) fun x0=>
  bif !x0.1 then some (1,((0,(false,())),()))
  else bif zi a2 1 then some (1,((0,(false,())),()))
   else some (0,((0,(false,())),()))) fun x1=>
 bif Nat.beq x1.1 0 then opt (kD (a0,())) fun x2=>
  opt (kD (a1,())) fun x3=>
  opt (kN (x2.1,(x3.1,()))) fun x4=>
  bif (!(zi x4.1 (wrF .u64 a2))) then some (0,(false,()))
  else opt (kO (x4.1,(x4.2.1,((wrF .u64 a2),())))) fun x5=>
   bif zi 1125899906842624 x5.1 then some (0,(false,()))
   else opt (bif (!((zi a0 0) == (zi a1 0))) then opt (bif !(zo x5.2.1 0) then some (0,(((wrF .i64 ((wrF .i64 (0 - (wrF .i64 x5.1))) - 1)),()),()))
       else some (0,(((wrF .i64 (0 - (wrF .i64 x5.1))),()),()))) fun x6=>
      some (0,((x6.2.1.1,()),()))
     else some (0,(((wrF .i64 x5.1),()),()))) fun x7=>
    opt (JE (x7.2.1.1,())) fun x8=>
    some (x8.1,(x8.2.1,()))
 else some (x1.2.1.1,(x1.2.1.2.1,()))
abbrev zaC:Type:=(Int×Int×Int×Unit)→Option (Int×Bool×Unit)
def zlQ:Jr→XW→Ws→Wt→Uk→zaC:=fun yl kD kN kO JE=>sF Tryz.prog [(182,⟨uo,uq,yl⟩),(184,⟨kr,ku,kD⟩),(183,⟨vB,vC,kN⟩),(185,⟨vF,vG,kO⟩),(186,⟨ZC,ZD,JE⟩)] zu8 (zM []) 30 171 QG QH
theorem zxo (yl) (kD) (kN) (kO) (JE) (a0) (a1) (a2):zlQ yl kD kN kO JE (a0,a1,a2,())=zfg yl kD kN kO JE a0 a1 a2:=by kernel_rfl
def Ya:zaC:=zlQ ur kx kJ kK Js
theorem zrb:Con.Ok Tryz.prog 171 ⟨QG,QH,Ya⟩:=zx (zd zff (zd zlM (zd ziN (zd ziQ (zd zpc zn))))) zq (by kernel_rfl)
theorem zrc (a0) (a1) (a2):Ya (a0,a1,a2,())=zfg ur kx kJ kK Js a0 a1 a2:=zxo ur kx kJ kK Js a0 a1 a2
abbrev ky:List VT:=[⟨false,I⟩,⟨false,I⟩,⟨false,I⟩]
abbrev kz:List VT:=[⟨false,I⟩]
def zu9:zW:=zN [] [] [] [] [171]
def zfh (Yy:zaC) (a0:Int) (a1:Int) (a2:Int):Option (Int×Unit):=
 opt (Yy ((wrF .i64 (0 - a0)),(a1,(a2,())))) fun x0=>
 some ((wrF .i64 (0 - x0.1)),())
abbrev Yb:Type:=(Int×Int×Int×Unit)→Option (Int×Unit)
def zlR:zaC→Yb:=fun Yy=>sF Tryz.prog [(171,⟨QG,QH,Yy⟩)] zu9 (zM []) 30 150 ky kz
theorem zxp (Yy) (a0) (a1) (a2):zlR Yy (a0,a1,a2,())=zfh Yy a0 a1 a2:=by kernel_rfl
def vY:Yb:=zlR Ya
theorem zgc:Con.Ok Tryz.prog 150 ⟨ky,kz,vY⟩:=zx (zd zrb zn) zq (by kernel_rfl)
theorem zrd (a0) (a1) (a2):vY (a0,a1,a2,())=zfh Ya a0 a1 a2:=zxp Ya a0 a1 a2
abbrev uI:List VT:=[⟨false,(.list zv)⟩,⟨false,I⟩]
abbrev uJ:List VT:=[⟨false,I⟩,⟨false,.bool⟩]
def zne:zW:=zN [cdF zv] [] [] [] [150]
def UO (yB:Yb) (a0:(List qi)) (a1:Int):Option (Int×Bool×Unit):=
 opt (zI (fun s0:((Int×(Bool×(Int×Unit)))×(Unit×(Unit×Unit)))=>
  bif (zi s0.1.2.2.1 ((a0.length:Nat):Int)) then opt (atI a0 s0.1.2.2.1) fun x1=>
   bif zi a1 x1.2 then some (.inr ((s0.1.1,(s0.1.2.1,((wrF .i64 (s0.1.2.2.1+1)),()))),((),((),()))))
   else opt (yB (x1.1,(1048576,(a1,())))) fun x2=>
    opt (bif !s0.1.2.1 then some (0,((x2.1,(true,())),((),())))
     else bif zi x2.1 s0.1.1 then some (0,((x2.1,(true,())),((),())))
      else some (0,((s0.1.1,(s0.1.2.1,())),((),())))) fun x3=>
    opt (zI (fun s4:((Int×(Bool×(Int×Unit)))×(Unit×(Unit×Unit)))=>
     bif (zi s4.1.2.2.1 ((a0.length:Nat):Int)) then opt (atI a0 s4.1.2.2.1) fun x5=>
      bif !(zi a1 x5.2) then some (.inr ((s4.1.1,(s4.1.2.1,((wrF .i64 (s4.1.2.2.1+1)),()))),((),((),()))))
      else bif !(zi x5.1 x1.1) then some (.inr ((s4.1.1,(s4.1.2.1,((wrF .i64 (s4.1.2.2.1+1)),()))),((),((),()))))
       else opt (yB ((wrF .i64 ((wrF .i64 ((wrF .i64 (x5.2 - a1))*x1.1))+(wrF .i64 ((wrF .i64 (a1 - x1.2))*x5.1)))),(1048576,((wrF .i64 (a1*(wrF .i64 (x5.2 - x1.2)))),())))) fun x6=>
        opt (bif !s4.1.2.1 then some (0,((x6.1,(true,())),((),())))
         else bif zi x6.1 s4.1.1 then some (0,((x6.1,(true,())),((),())))
          else some (0,((s4.1.1,(s4.1.2.1,())),((),())))) fun x7=>
        some (.inr ((x7.2.1.1,(x7.2.1.2.1,((wrF .i64 (s4.1.2.2.1+1)),()))),((),((),()))))
     else some (.inl (0,((s4.1.1,(s4.1.2.1,(s4.1.2.2.1,()))),((),((),())))))) zQ ((x3.2.1.1,(x3.2.1.2.1,(0,()))),((),((),())))) fun x8=>
    bif Nat.beq x8.1 0 then some (.inr ((x8.2.1.1,(x8.2.1.2.1,((wrF .i64 (s0.1.2.2.1+1)),()))),((),((),()))))
    else some (.inl (1,((x8.2.1.1,(x8.2.1.2.1,(s0.1.2.2.1,()))),((),((),())))))
  else some (.inl (0,((s0.1.1,(s0.1.2.1,(s0.1.2.2.1,()))),((),((),())))))) zQ ((0,(false,(0,()))),((),((),())))) fun x9=>
 bif Nat.beq x9.1 0 then some (x9.2.1.1,(x9.2.1.2.1,()))
 else some (x9.2.1.1,(x9.2.1.2.1,()))
abbrev YV:Type:=((List qi)×Int×Unit)→Option (Int×Bool×Unit)
def zfi:Yb→YV:=fun yB=>sF Tryz.prog [(150,⟨ky,kz,yB⟩)] zne (zM []) 30 148 uI uJ
theorem zpe (yB) (a0) (a1):zfi yB (a0,a1,())=UO yB a0 a1:=by kernel_rfl
def gI:YV:=zfi vY
theorem zj8:Con.Ok Tryz.prog 148 ⟨uI,uJ,gI⟩:=zx (zd zgc zn) zq (by kernel_rfl)
theorem zj9 (a0) (a1):gI (a0,a1,())=UO vY a0 a1:=zpe vY a0 a1
abbrev uv:List VT:=[⟨false,(.list zv)⟩,⟨true,yb⟩]
abbrev uw:List VT:=[⟨false,I⟩,⟨false,I⟩]
def zsY:zW:=zN [cdF yb] [] [⟨2,30,some 2,zv,false⟩,⟨5,30,some 2,zv,false⟩] [] [84,59,148]
def zdb (zT:yf) (qK:kY) (yE:YV) (a0:(List qi)) (a1:jx):Option (Int×Int×Unit):=
 bif (zo ((a0.length:Nat):Int) 0) then some (0,(2,()))
 else bif (zi 12 ((a0.length:Nat):Int)) then some (0,(3,()))
  else opt (zI (fun s0:((Int×(Int×Unit))×Unit)=>
    bif (zi s0.1.2.1 ((a0.length:Nat):Int)) then opt (atI a0 s0.1.2.1) fun x1=>
     opt (zT (x1,())) fun x2=>
     bif !(zo x2.1 0) then some (.inl (1,((x2.1,(s0.1.2.1,())),())))
     else some (.inr ((s0.1.1,((wrF .i64 (s0.1.2.1+1)),())),()))
    else some (.inl (0,((s0.1.1,(s0.1.2.1,())),())))) zQ ((0,(0,())),())) fun x3=>
   bif Nat.beq x3.1 0 then opt (qK (a1,())) fun x4=>
    bif !(zo x4.1 0) then bif !(zo x4.1 0) then some (0,(x4.1,()))
     else opt (yE (a0,(a1.1,()))) fun x5=>
      bif !x5.2.1 then some (0,(141,()))
      else some ((wrF .i64 (a1.2+x5.1)),(0,()))
    else opt (yE (a0,(a1.1,()))) fun x6=>
     bif !x6.2.1 then some (0,(141,()))
     else some ((wrF .i64 (a1.2+x6.1)),(0,()))
   else bif !(zo x3.2.1.1 0) then bif !(zo x3.2.1.1 0) then some (0,(x3.2.1.1,()))
     else opt (yE (a0,(a1.1,()))) fun x7=>
      bif !x7.2.1 then some (0,(141,()))
      else some ((wrF .i64 (a1.2+x7.1)),(0,()))
    else opt (qK (a1,())) fun x8=>
     bif !(zo x8.1 0) then bif !(zo x8.1 0) then some (0,(x8.1,()))
      else opt (yE (a0,(a1.1,()))) fun x9=>
       bif !x9.2.1 then some (0,(141,()))
       else some ((wrF .i64 (a1.2+x9.1)),(0,()))
     else opt (yE (a0,(a1.1,()))) fun x10=>
      bif !x10.2.1 then some (0,(141,()))
      else some ((wrF .i64 (a1.2+x10.1)),(0,()))
abbrev Ul:Type:=((List qi)×jx×Unit)→Option (Int×Int×Unit)
def zjx:yf→kY→YV→Ul:=fun zT qK yE=>sF Tryz.prog [(84,⟨jY,jZ,zT⟩),(59,⟨xZ,ve,qK⟩),(148,⟨uI,uJ,yE⟩)] zsY (zM []) 30 103 uv uw
theorem zva (zT) (qK) (yE) (a0) (a1):zjx zT qK yE (a0,a1,())=zdb zT qK yE a0 a1:=by kernel_rfl
def ux:Ul:=zjx qR yN gI
theorem zpf:Con.Ok Tryz.prog 103 ⟨uv,uw,ux⟩:=zx (zd ZK (zd UN (zd zj8 zn))) zq (by kernel_rfl)
theorem zpg (a0) (a1):ux (a0,a1,())=zdb qR yN gI a0 a1:=zva qR yN gI a0 a1
abbrev vH:List VT:=[⟨true,zv⟩,⟨true,yb⟩]
abbrev vI:List VT:=[⟨false,I⟩]
def zlS:zW:=zN [cdF zv] [] [] [] [84,59]
def Kv (zT:yf) (qK:kY) (a0:qi) (a1:jx):Option (Int×Unit):=
 opt (zT (a0,())) fun x0=>
 bif !(zo x0.1 0) then some (x0.1,())
 else opt (qK (a1,())) fun x1=>
  bif !(zo x1.1 0) then some (x1.1,())
  else bif zi a1.1 a0.2 then some (141,())
   else some (0,())
abbrev Wu:Type:=(qi×jx×Unit)→Option (Int×Unit)
def zdF:yf→kY→Wu:=fun zT qK=>sF Tryz.prog [(84,⟨jY,jZ,zT⟩),(59,⟨xZ,ve,qK⟩)] zlS (zM []) 30 149 vH vI
theorem znf (zT) (qK) (a0) (a1):zdF zT qK (a0,a1,())=Kv zT qK a0 a1:=by kernel_rfl
def kL:Wu:=zdF qR yN
theorem ziS:Con.Ok Tryz.prog 149 ⟨vH,vI,kL⟩:=zx (zd ZK (zd UN zn)) zq (by kernel_rfl)
theorem ziT (a0) (a1):kL (a0,a1,())=Kv qR yN a0 a1:=znf qR yN a0 a1
abbrev xD:List VT:=[⟨true,zv⟩,⟨true,yb⟩]
abbrev xE:List VT:=[⟨false,I⟩,⟨false,I⟩]
def zph:zW:=zN [cdF zv] [] [] [] [149,150]
def zaD (kP:Wu) (yB:Yb) (a0:qi) (a1:jx):Option (Int×Int×Unit):=
 opt (kP (a0,(a1,()))) fun x0=>
 bif !(zo x0.1 0) then some (0,(x0.1,()))
 else opt (yB (a0.2,(a1.2,(1048576,())))) fun x1=>
  some ((wrF .i64 (a0.1+x1.1)),(0,()))
abbrev XX:Type:=(qi×jx×Unit)→Option (Int×Int×Unit)
def zgd:Wu→Yb→XX:=fun kP yB=>sF Tryz.prog [(149,⟨vH,vI,kP⟩),(150,⟨ky,kz,yB⟩)] zph (zM []) 30 104 xD xE
theorem zre (kP) (yB) (a0) (a1):zgd kP yB (a0,a1,())=zaD kP yB a0 a1:=by kernel_rfl
def xF:XX:=zgd kL vY
theorem zlT:Con.Ok Tryz.prog 104 ⟨xD,xE,xF⟩:=zx (zd ziS (zd zgc zn)) zq (by kernel_rfl)
theorem zlU (a0) (a1):xF (a0,a1,())=zaD kL vY a0 a1:=zre kL vY a0 a1
abbrev uW:List VT:=[⟨true,wK⟩,⟨false,(.list zK)⟩,⟨false,I⟩]
abbrev uX:List VT:=[⟨true,Xy⟩,⟨false,I⟩]
def zxq:zW:=zN [cdF wK,cdF zK,cdF zsA,cdF Xy,cdF zG,cdF qc,cdF zR,cdF qq] [] [⟨8,44,some 4,.unit,true⟩,⟨10,44,some 4,.unit,true⟩,⟨5,98,none,zv,true⟩,⟨8,98,none,zv,true⟩,⟨12,98,none,zv,true⟩,⟨15,98,none,zv,true⟩,⟨18,98,none,zv,true⟩,⟨21,98,none,zv,true⟩,⟨5,98,some 6,zv,false⟩,⟨8,98,some 6,zv,false⟩,⟨12,98,some 6,zv,false⟩,⟨15,98,some 6,zv,false⟩,⟨18,98,some 6,zv,false⟩,⟨21,98,some 6,zv,false⟩,⟨2,37,none,zv,true⟩,⟨4,37,none,zv,true⟩,⟨2,44,none,zv,true⟩,⟨5,44,none,zv,true⟩,⟨8,44,none,zv,true⟩,⟨10,44,none,zv,true⟩,⟨1,28,none,zv,true⟩,⟨4,28,none,zv,true⟩,⟨2,19,none,zv,true⟩,⟨4,19,none,zv,true⟩] [] [13,72,136,100,101,102,103,104]
def zgJ (vU:QU) (kQ:Wp) (jN:xr) (Xj:zea) (QQ:zaz) (QR:zaB) (ZJ:Ul) (kF:XX) (a0:uV) (a1:(List jL)) (a2:Int):Option (GW×Int×Unit):=
 opt (vU (a0,())) fun x0=>
 bif !(zo x0.1 0) then bif !(zo x0.1 0) then some (((0,0),((0,0),(0,0))),(x0.1,()))
  else opt (bif zi a2 0 then some (1,((((0,0),((0,0),(0,0))),(2,())),()))
    else bif (!(zi a2 (wrF .i64 (2*((a0.1.2.2.length:Nat):Int))))) then some (1,((((0,0),((0,0),(0,0))),(2,())),()))
     else some (0,((((0,0),((0,0),(0,0))),(0,())),()))) fun x1=>
   bif Nat.beq x1.1 0 then none
   else some (x1.2.1.1,(x1.2.1.2.1,()))
 else opt (kQ (a0.1,(a1,()))) fun x2=>
  bif !(zo x2.1 0) then bif !(zo x2.1 0) then some (((0,0),((0,0),(0,0))),(x2.1,()))
   else opt (bif zi a2 0 then some (1,((((0,0),((0,0),(0,0))),(2,())),()))
     else bif (!(zi a2 (wrF .i64 (2*((a0.1.2.2.length:Nat):Int))))) then some (1,((((0,0),((0,0),(0,0))),(2,())),()))
      else some (0,((((0,0),((0,0),(0,0))),(0,())),()))) fun x3=>
    bif Nat.beq x3.1 0 then none
    else some (x3.2.1.1,(x3.2.1.2.1,()))
  else opt (zI (fun s4:((Unit×(Int×(Int×Unit)))×Unit)=>
    bif (zi s4.1.2.2.1 ((a1.length:Nat):Int)) then opt (atI a1 s4.1.2.2.1) fun x5=>
     opt (bif !(zo x5.2.2.2.1 6) then some (1,(((),(2,())),()))
      else bif zi a0.2.2.2 x5.2.2.2.2.1 then some (1,(((),(2,())),()))
       else some (0,(((),(s4.1.2.1,())),()))) fun x6=>
     bif Nat.beq x6.1 0 then some (.inr (((),(x6.2.1.2.1,((wrF .i64 (s4.1.2.2.1+1)),()))),()))
     else some (.inl (1,(((),(x6.2.1.2.1,(s4.1.2.2.1,()))),())))
    else some (.inl (0,(((),(s4.1.2.1,(s4.1.2.2.1,()))),())))) zQ (((),(0,(0,()))),())) fun x7=>
   bif Nat.beq x7.1 0 then opt (bif zi a2 0 then some (1,((((0,0),((0,0),(0,0))),(2,())),()))
     else bif (!(zi a2 (wrF .i64 (2*((a0.1.2.2.length:Nat):Int))))) then some (1,((((0,0),((0,0),(0,0))),(2,())),()))
      else some (0,((((0,0),((0,0),(0,0))),(0,())),()))) fun x8=>
    bif Nat.beq x8.1 0 then opt (bif (!(mpH (α:=(((Int×Int)×((Int×Int)×(Int×Int)))×Int)) ([]) a2)) then opt (zI (fun s9:((Int×Unit)×(((List (Int×Int))×Unit)×(Unit×(Unit×Unit))))=>
        bif (zi s9.1.1 ((a1.length:Nat):Int)) then opt (atI a1 s9.1.1) fun x10=>
         opt (zI (fun s11:((Int×(Int×Unit))×(((List (Int×Int))×Unit)×(Unit×(Unit×Unit))))=>
          bif (zi s11.1.2.1 ((x10.2.2.2.2.2.2.2.2.length:Nat):Int)) then opt (atI x10.2.2.2.2.2.2.2.2 s11.1.2.1) fun x12=>
           opt (jN (x12,(a2,()))) fun x13=>
           bif x13.1 then some (.inl (1,((s11.1.2.1,(s11.1.2.1,())),((s11.2.1.1,()),((),((),()))))))
           else some (.inr ((s11.1.1,((wrF .i64 (s11.1.2.1+1)),())),((s11.2.1.1,()),((),((),())))))
          else some (.inl (0,((s11.1.1,(s11.1.2.1,())),((s11.2.1.1,()),((),((),()))))))) zQ ((0,(0,())),((s9.2.1.1,()),((),((),()))))) fun x14=>
         bif Nat.beq x14.1 0 then some (.inr (((wrF .i64 (s9.1.1+1)),()),((x14.2.2.1.1,()),((),((),())))))
         else bif !(zi x14.2.1.1 0) then bif (qE x14.2.2.1.1.length ((x10.2.2.2.2.2.2.1::[]).length) 16) then some (.inr (((wrF .i64 (s9.1.1+1)),()),(((x14.2.2.1.1++(x10.2.2.2.2.2.2.1::[])),()),((),((),())))))
           else none
          else some (.inr (((wrF .i64 (s9.1.1+1)),()),((x14.2.2.1.1,()),((),((),())))))
        else some (.inl (0,((s9.1.1,()),((s9.2.1.1,()),((),((),()))))))) zQ ((0,()),(([],()),((),((),()))))) fun x15=>
       bif Nat.beq x15.1 0 then bif (zo ((x15.2.2.1.1.length:Nat):Int) 0) then some (0,(((((0,0),((0,0),(0,0))),4),()),((mpP (α:=(((Int×Int)×((Int×Int)×(Int×Int)))×Int)) ([]) a2 (((0,0),((0,0),(0,0))),4)),())))
        else opt (Xj (a0.1,(a2,()))) fun x16=>
         bif !(zo x16.2.1 0) then some (0,(((((0,0),((0,0),(0,0))),x16.2.1),()),((mpP (α:=(((Int×Int)×((Int×Int)×(Int×Int)))×Int)) ([]) a2 (((0,0),((0,0),(0,0))),x16.2.1)),())))
         else opt (atI a0.2.2.1 a2) fun x17=>
          opt (QQ (x17,(x16.1,(a0.2.2.2,())))) fun x18=>
          bif !(zo x18.2.1 0) then some (0,(((((0,0),((0,0),(0,0))),411),()),((mpP (α:=(((Int×Int)×((Int×Int)×(Int×Int)))×Int)) ([]) a2 (((0,0),((0,0),(0,0))),411)),())))
          else opt (QR (x15.2.2.1.1,())) fun x19=>
           bif !(zo x19.2.1 0) then some (0,(((((0,0),((0,0),(0,0))),x19.2.1),()),((mpP (α:=(((Int×Int)×((Int×Int)×(Int×Int)))×Int)) ([]) a2 (((0,0),((0,0),(0,0))),x19.2.1)),())))
           else opt (ZJ ((x19.1::[]),(x18.1,()))) fun x20=>
            bif !(zo x20.2.1 0) then some (0,(((((0,0),((0,0),(0,0))),x20.2.1),()),((mpP (α:=(((Int×Int)×((Int×Int)×(Int×Int)))×Int)) ([]) a2 (((0,0),((0,0),(0,0))),x20.2.1)),())))
            else opt (kF (x19.1,(x18.1,()))) fun x21=>
             bif !(zo x21.2.1 0) then some (0,(((((0,0),((0,0),(0,0))),x21.2.1),()),((mpP (α:=(((Int×Int)×((Int×Int)×(Int×Int)))×Int)) ([]) a2 (((0,0),((0,0),(0,0))),x21.2.1)),())))
             else some (0,((((x19.1,(x18.1,(x20.1,x21.1))),0),()),((mpP (α:=(((Int×Int)×((Int×Int)×(Int×Int)))×Int)) ([]) a2 ((x19.1,(x18.1,(x20.1,x21.1))),0)),())))
       else bif (zo ((x15.2.2.1.1.length:Nat):Int) 0) then some (0,(((((0,0),((0,0),(0,0))),4),()),((mpP (α:=(((Int×Int)×((Int×Int)×(Int×Int)))×Int)) ([]) a2 (((0,0),((0,0),(0,0))),4)),())))
        else opt (Xj (a0.1,(a2,()))) fun x22=>
         bif !(zo x22.2.1 0) then some (0,(((((0,0),((0,0),(0,0))),x22.2.1),()),((mpP (α:=(((Int×Int)×((Int×Int)×(Int×Int)))×Int)) ([]) a2 (((0,0),((0,0),(0,0))),x22.2.1)),())))
         else opt (atI a0.2.2.1 a2) fun x23=>
          opt (QQ (x23,(x22.1,(a0.2.2.2,())))) fun x24=>
          bif !(zo x24.2.1 0) then some (0,(((((0,0),((0,0),(0,0))),411),()),((mpP (α:=(((Int×Int)×((Int×Int)×(Int×Int)))×Int)) ([]) a2 (((0,0),((0,0),(0,0))),411)),())))
          else opt (QR (x15.2.2.1.1,())) fun x25=>
           bif !(zo x25.2.1 0) then some (0,(((((0,0),((0,0),(0,0))),x25.2.1),()),((mpP (α:=(((Int×Int)×((Int×Int)×(Int×Int)))×Int)) ([]) a2 (((0,0),((0,0),(0,0))),x25.2.1)),())))
           else opt (ZJ ((x25.1::[]),(x24.1,()))) fun x26=>
            bif !(zo x26.2.1 0) then some (0,(((((0,0),((0,0),(0,0))),x26.2.1),()),((mpP (α:=(((Int×Int)×((Int×Int)×(Int×Int)))×Int)) ([]) a2 (((0,0),((0,0),(0,0))),x26.2.1)),())))
            else opt (kF (x25.1,(x24.1,()))) fun x27=>
             bif !(zo x27.2.1 0) then some (0,(((((0,0),((0,0),(0,0))),x27.2.1),()),((mpP (α:=(((Int×Int)×((Int×Int)×(Int×Int)))×Int)) ([]) a2 (((0,0),((0,0),(0,0))),x27.2.1)),())))
             else some (0,((((x25.1,(x24.1,(x26.1,x27.1))),0),()),((mpP (α:=(((Int×Int)×((Int×Int)×(Int×Int)))×Int)) ([]) a2 ((x25.1,(x24.1,(x26.1,x27.1))),0)),())))
      else some (0,(((mpD (α:=(((Int×Int)×((Int×Int)×(Int×Int)))×Int)) ([]) a2 (((0,0),((0,0),(0,0))),0)),()),([],())))) fun x28=>
     some (x28.2.1.1.1,(x28.2.1.1.2,()))
    else some (x8.2.1.1,(x8.2.1.2.1,()))
   else bif !(zo x7.2.1.2.1 0) then some (((0,0),((0,0),(0,0))),(x7.2.1.2.1,()))
    else opt (bif zi a2 0 then some (1,((((0,0),((0,0),(0,0))),(2,())),()))
      else bif (!(zi a2 (wrF .i64 (2*((a0.1.2.2.length:Nat):Int))))) then some (1,((((0,0),((0,0),(0,0))),(2,())),()))
       else some (0,((((0,0),((0,0),(0,0))),(0,())),()))) fun x29=>
     bif Nat.beq x29.1 0 then none
     else some (x29.2.1.1,(x29.2.1.2.1,()))
abbrev zgK:Type:=(uV×(List jL)×Int×Unit)→Option (GW×Int×Unit)
def znU:QU→Wp→xr→zea→zaz→zaB→Ul→XX→zgK:=fun vU kQ jN Xj QQ QR ZJ kF=>sF Tryz.prog [(13,⟨jz,jA,vU⟩),(72,⟨yK,yL,kQ⟩),(136,⟨qC,qD,jN⟩),(100,⟨ZN,ZO,Xj⟩),(101,⟨xT,xU,QQ⟩),(102,⟨ko,kp,QR⟩),(103,⟨uv,uw,ZJ⟩),(104,⟨xD,xE,kF⟩)] zxq (zM []) 30 15 uW uX
theorem zyj (vU) (kQ) (jN) (Xj) (QQ) (QR) (ZJ) (kF) (a0) (a1) (a2):znU vU kQ jN Xj QQ QR ZJ kF (a0,a1,a2,())=zgJ vU kQ jN Xj QQ QR ZJ kF a0 a1 a2:=by kernel_rfl
def XA:zgK:=znU vQ kI jf ZP xV kq ux xF
theorem zsZ:Con.Ok Tryz.prog 15 ⟨uW,uX,XA⟩:=zx (zd zgG (zd ziJ (zd Kr (zd zuW (zd zq7 (zd zq8 (zd zpf (zd zlT zn)))))))) zq (by kernel_rfl)
theorem zs0 (a0) (a1) (a2):XA (a0,a1,a2,())=zgJ vQ kI jf ZP xV kq ux xF a0 a1 a2:=zyj vQ kI jf ZP xV kq ux xF a0 a1 a2
abbrev Yc:List VT:=[⟨true,zK⟩,⟨false,I⟩]
abbrev Yd:List VT:=[⟨false,.bool⟩]
def zrf:zW:=zN [cdF zK,cdF zv] [] [] [] []
def zbP (a0:jL) (a1:Int):Option (Bool×Unit):=
 opt (zI (fun s0:((Bool×(Int×Unit))×Unit)=>
  bif (zi s0.1.2.1 ((a0.2.2.2.2.2.2.2.2.length:Nat):Int)) then opt (zI (fun s1:((Bool×(Int×Unit))×Unit)=>
    opt (atI a0.2.2.2.2.2.2.2.2 s0.1.2.1) fun x2=>
    bif (zi s1.1.2.1 ((x2.length:Nat):Int)) then opt (atI a0.2.2.2.2.2.2.2.2 s0.1.2.1) fun x3=>
     opt (atI x3 s1.1.2.1) fun x4=>
     bif zo x4 a1 then some (.inl (1,((true,(s1.1.2.1,())),())))
     else some (.inr ((s1.1.1,((wrF .i64 (s1.1.2.1+1)),())),()))
    else some (.inl (0,((s1.1.1,(s1.1.2.1,())),())))) zQ ((s0.1.1,(0,())),())) fun x5=>
   bif Nat.beq x5.1 0 then some (.inr ((x5.2.1.1,((wrF .i64 (s0.1.2.1+1)),())),()))
   else some (.inl (1,((x5.2.1.1,(s0.1.2.1,())),())))
  else some (.inl (0,((s0.1.1,(s0.1.2.1,())),())))) zQ ((false,(0,())),())) fun x6=>
 bif Nat.beq x6.1 0 then some (false,())
 else some (x6.2.1.1,())
abbrev Ye:Type:=(jL×Int×Unit)→Option (Bool×Unit)
def zhC:Ye:=sF Tryz.prog [] zrf (zM []) 30 27 Yc Yd
theorem zs1 (a0) (a1):zhC (a0,a1,())=zbP a0 a1:=by kernel_rfl
def vo:Ye:=zhC
theorem zng:Con.Ok Tryz.prog 27 ⟨Yc,Yd,vo⟩:=zx zn zq (by kernel_rfl)
theorem znh (a0) (a1):vo (a0,a1,())=zbP  a0 a1:=zs1  a0 a1
abbrev znV:List VT:=[⟨true,zG⟩,⟨false,I⟩]
abbrev znW:List VT:=[⟨false,I⟩]
def zxr:zW:=zN [cdF zG,cdF qc] [] [] [] []
def zgL (a0:zO) (a1:Int):Option (Int×Unit):=
 opt (atI a0.2.2 (wrF .i64 (Int.tdiv a1 2))) fun x0=>
 some (x0.2.2.1,())
abbrev zcb:Type:=(zO×Int×Unit)→Option (Int×Unit)
def znX:zcb:=sF Tryz.prog [] zxr (zM []) 30 76 znV znW
theorem zyk (a0) (a1):znX (a0,a1,())=zgL a0 a1:=by kernel_rfl
def KL:zcb:=znX
theorem zs2 (a0) (a1):KL (a0,a1,())=zgL  a0 a1:=zyk  a0 a1
abbrev zlV:List VT:=[⟨true,zR⟩,⟨false,I⟩,⟨false,I⟩]
abbrev zlW:List VT:=[⟨false,I⟩]
def zvb:zW:=zN [cdF zR,cdF qq] [] [] [] [42]
def zfj (JF:Uf) (a0:qn) (a1:Int) (a2:Int):Option (Int×Unit):=
 opt (JF (a0,())) fun x0=>
 bif !x0.1 then some (370,())
 else opt (bif zi a1 1 then some (1,((2,()),()))
   else bif zi 1000 a1 then some (1,((2,()),()))
    else bif zi a2 84 then some (1,((2,()),()))
     else bif zi 1542 a2 then some (1,((2,()),()))
      else some (0,((0,()),()))) fun x1=>
  bif Nat.beq x1.1 0 then some (0,())
  else some (x1.2.1.1,())
abbrev zaE:Type:=(qn×Int×Int×Unit)→Option (Int×Unit)
def zlX:Uf→zaE:=fun JF=>sF Tryz.prog [(42,⟨zjm,zjn,JF⟩)] zvb (zM []) 30 105 zlV zlW
theorem zxs (JF) (a0) (a1) (a2):zlX JF (a0,a1,a2,())=zfj JF a0 a1 a2:=by kernel_rfl
def Vw:zaE:=zlX Xo
theorem zrg (a0) (a1) (a2):Vw (a0,a1,a2,())=zfj Xo a0 a1 a2:=zxs Xo a0 a1 a2
abbrev zcc:List VT:=[⟨false,I⟩,⟨false,I⟩]
abbrev zcd:List VT:=[⟨false,.bool⟩]
def zxt:zW:=zN [] [] [] [] []
def zgM (a0:Int) (a1:Int):Option (Bool×Unit):=
 bif zi (wrF .u64 a1) 0 then none
 else some ((zo (Int.tmod (jU .i64 a0 (wrF .u64 a1)) 2) 1),())
abbrev ZT:Type:=(Int×Int×Unit)→Option (Bool×Unit)
def znY:ZT:=sF Tryz.prog [] zxt (zM []) 30 152 zcc zcd
theorem zyl (a0) (a1):znY (a0,a1,())=zgM a0 a1:=by kernel_rfl
def vZ:ZT:=znY
theorem zs3 (a0) (a1):vZ (a0,a1,())=zgM  a0 a1:=zyl  a0 a1
abbrev Ka:List VT:=[⟨true,zR⟩]
abbrev Kb:List VT:=[⟨false,.bool⟩]
def zrh:zW:=zN [cdF zR,cdF qq] [] [] [] [152]
def zbQ (jw:ZT) (a0:qn):Option (Bool×Unit):=
 opt (zI (fun s0:((Bool×(Int×Unit))×Unit)=>
  bif (zi s0.1.2.1 ((a0.1.length:Nat):Int)) then opt (atI a0.1 s0.1.2.1) fun x1=>
   opt (jw (x1.1,(6,()))) fun x2=>
   bif !x2.1 then some (.inl (1,((false,(s0.1.2.1,())),())))
   else some (.inr ((s0.1.1,((wrF .i64 (s0.1.2.1+1)),())),()))
  else some (.inl (0,((s0.1.1,(s0.1.2.1,())),())))) zQ ((false,(0,())),())) fun x3=>
 bif Nat.beq x3.1 0 then some (true,())
 else some (x3.2.1.1,())
abbrev uS:Type:=(qn×Unit)→Option (Bool×Unit)
def zhD:ZT→uS:=fun jw=>sF Tryz.prog [(152,⟨zcc,zcd,jw⟩)] zrh (zM []) 30 107 Ka Kb
theorem zs4 (jw) (a0):zhD jw (a0,())=zbQ jw a0:=by kernel_rfl
def yU:uS:=zhD vZ
theorem zni (a0):yU (a0,())=zbQ vZ a0:=zs4 vZ a0
abbrev zri:List VT:=[⟨true,zR⟩,⟨false,I⟩]
abbrev zrj:List VT:=[⟨false,I⟩,⟨false,I⟩]
def zym:zW:=zN [cdF zR,cdF qq] [] [] [] []
def ziU (a0:qn) (a1:Int):Option (Int×Int×Unit):=
 bif zo a0.2 0 then none
 else opt (bif zi (Int.tmod a1 a0.2) 0 then some (0,(((wrF .i64 ((Int.tmod a1 a0.2)+a0.2)),()),()))
   else some (0,(((Int.tmod a1 a0.2),()),()))) fun x0=>
  opt (zI (fun s1:((Int×(Int×Unit))×Unit)=>
   opt (atI a0.1 s1.1.2.1) fun x2=>
   bif !(zi s1.1.1 x2.2) then opt (atI a0.1 s1.1.2.1) fun x3=>
    some (.inr (((wrF .i64 (s1.1.1 - x3.2)),((wrF .i64 (s1.1.2.1+1)),())),()))
   else some (.inl (0,((s1.1.1,(s1.1.2.1,())),())))) zQ ((x0.2.1.1,(0,())),())) fun x4=>
  some (x4.2.1.2.1,(x4.2.1.1,()))
abbrev zeb:Type:=(qn×Int×Unit)→Option (Int×Int×Unit)
def zrk:zeb:=sF Tryz.prog [] zym (zM []) 30 172 zri zrj
theorem zAr (a0) (a1):zrk (a0,a1,())=ziU a0 a1:=by kernel_rfl
def Kc:zeb:=zrk
theorem zvc (a0) (a1):Kc (a0,a1,())=ziU  a0 a1:=zAr  a0 a1
abbrev UP:List VT:=[⟨true,zR⟩,⟨false,I⟩,⟨false,I⟩]
abbrev UQ:List VT:=[⟨false,(.list qL)⟩]
def znj:zW:=zN [cdF zR,cdF qq] [] [⟨4,68,some 6,qL,false⟩,⟨4,68,some 7,qL,true⟩,⟨8,68,some 6,qL,false⟩,⟨8,68,some 7,qL,true⟩,⟨10,68,some 6,qL,false⟩,⟨10,68,some 7,qL,true⟩] [] [172,152]
def UR (Kk:zeb) (jw:ZT) (a0:qn) (a1:Int) (a2:Int):Option ((List xx)×Unit):=
 opt (zI (fun s0:((Bool×(Int×Unit))×((List (Int×Int))×Unit))=>
  bif zi s0.1.2.1 a2 then opt (Kk (a0,(s0.1.2.1,()))) fun x1=>
   opt (atI a0.1 x1.1) fun x2=>
   opt (atI a0.1 x1.1) fun x3=>
   opt (jw (x3.1,(6,()))) fun x4=>
   opt (bif x4.1 then bif s0.1.1 then opt (atI s0.2.1 (wrF .i64 (((s0.2.1.length:Nat):Int) - 1))) fun x5=>
      opt (gl s0.2.1 (Int.toNat (wrF .i64 (((s0.2.1.length:Nat):Int) - 1)))) fun x6=>
      some (0,((),((s0.2.1.set (Int.toNat (wrF .i64 (((s0.2.1.length:Nat):Int) - 1))) (x6.1,(jh (wrF .i64 ((wrF .i64 (s0.1.2.1 - x1.2.1))+x2.2)) a2))),())))
     else some (0,((),(s0.2.1,())))
    else some (0,((),(s0.2.1,())))) fun x7=>
   opt (bif x4.1 then bif !s0.1.1 then bif (qE x7.2.2.1.length (((s0.1.2.1,(jh (wrF .i64 ((wrF .i64 (s0.1.2.1 - x1.2.1))+x2.2)) a2))::[]).length) 16) then some (0,((),((x7.2.2.1++((s0.1.2.1,(jh (wrF .i64 ((wrF .i64 (s0.1.2.1 - x1.2.1))+x2.2)) a2))::[])),())))
      else none
     else some (0,((),(x7.2.2.1,())))
    else some (0,((),(x7.2.2.1,())))) fun x8=>
   some (.inr ((x4.1,((jh (wrF .i64 ((wrF .i64 (s0.1.2.1 - x1.2.1))+x2.2)) a2),())),(x8.2.2.1,())))
  else some (.inl (0,((s0.1.1,(s0.1.2.1,())),(s0.2.1,()))))) zQ ((false,(a1,())),([],()))) fun x9=>
 some (x9.2.2.1,())
abbrev gJ:Type:=(qn×Int×Int×Unit)→Option ((List xx)×Unit)
def zfk:zeb→ZT→gJ:=fun Kk jw=>sF Tryz.prog [(172,⟨zri,zrj,Kk⟩),(152,⟨zcc,zcd,jw⟩)] znj (zM []) 30 153 UP UQ
theorem zpi (Kk) (jw) (a0) (a1) (a2):zfk Kk jw (a0,a1,a2,())=UR Kk jw a0 a1 a2:=by kernel_rfl
def xh:gJ:=zfk Kc vZ
theorem zka (a0) (a1) (a2):xh (a0,a1,a2,())=UR Kc vZ a0 a1 a2:=zpi Kc vZ a0 a1 a2
abbrev zdc:List VT:=[⟨true,zR⟩]
abbrev zdd:List VT:=[⟨false,(.list qL)⟩]
def zs5:zW:=zN [cdF zR,cdF qq] [] [⟨3,36,some 2,qL,false⟩] [] [152]
def zde (jw:ZT) (jH:gJ) (a0:qn):Option ((List xx)×Unit):=
 opt (zI (fun s0:((Int×(Int×Unit))×Unit)=>
  bif (zi s0.1.2.1 ((a0.1.length:Nat):Int)) then opt (atI a0.1 s0.1.2.1) fun x1=>
   opt (jw (x1.1,(6,()))) fun x2=>
   bif x2.1 then opt (atI a0.1 s0.1.2.1) fun x3=>
    some (.inr (((wrF .i64 (s0.1.1+x3.2)),((wrF .i64 (s0.1.2.1+1)),())),()))
   else some (.inl (0,((s0.1.1,(s0.1.2.1,())),())))
  else some (.inl (0,((s0.1.1,(s0.1.2.1,())),())))) zQ ((0,(0,())),())) fun x4=>
 opt (jH (a0,(x4.2.1.1,((wrF .i64 (x4.2.1.1+a0.2)),())))) fun x5=>
 some (x5.1,())
abbrev Jt:Type:=(qn×Unit)→Option ((List xx)×Unit)
def zjy:ZT→gJ→Jt:=fun jw jH=>sF Tryz.prog [(152,⟨zcc,zcd,jw⟩),(153,⟨UP,UQ,jH⟩)] zs5 (zM []) 30 108 zdc zdd
theorem zvd (jw) (jH) (a0):zjy jw jH (a0,())=zde jw jH a0:=by kernel_rfl
def vf:Jt:=zjy vZ xh
theorem zpj (a0):vf (a0,())=zde vZ xh a0:=zvd vZ xh a0
abbrev zgN:List VT:=[⟨false,(.list qL)⟩,⟨false,I⟩]
abbrev zgO:List VT:=[⟨false,I⟩]
def zxu:zW:=zN [cdF qL] [] [] [] []
def zgP (a0:(List xx)) (a1:Int):Option (Int×Unit):=
 opt (zI (fun s0:((Int×(Int×Unit))×Unit)=>
  bif (zi s0.1.2.1 ((a0.length:Nat):Int)) then opt (atI a0 s0.1.2.1) fun x1=>
   opt (atI a0 s0.1.2.1) fun x2=>
   some (.inr (((wrF .i64 (s0.1.1+(vq 0 (wrF .i64 ((wrF .i64 (x1.2 - x2.1)) - a1))))),((wrF .i64 (s0.1.2.1+1)),())),()))
  else some (.inl (0,((s0.1.1,(s0.1.2.1,())),())))) zQ ((0,(0,())),())) fun x3=>
 some (x3.2.1.1,())
abbrev XB:Type:=((List xx)×Int×Unit)→Option (Int×Unit)
def znZ:XB:=sF Tryz.prog [] zxu (zM []) 30 151 zgN zgO
theorem zyn (a0) (a1):znZ (a0,a1,())=zgP a0 a1:=by kernel_rfl
def ZU:XB:=znZ
theorem zs6 (a0) (a1):ZU (a0,a1,())=zgP  a0 a1:=zyn  a0 a1
abbrev zjz:List VT:=[⟨true,zR⟩,⟨false,I⟩,⟨false,I⟩]
abbrev zjA:List VT:=[⟨false,I⟩]
def zs7:zW:=zN [cdF zR,cdF qq] [] [] [] [107,151]
def Um (qH:uS) (ym:Jt) (xy:XB) (a0:qn) (a1:Int) (a2:Int):Option (Int×Unit):=
 opt (qH (a0,())) fun x0=>
 bif x0.1 then some (a0.2,())
 else opt (ym (a0,())) fun x1=>
  opt (xy (x1.1,((wrF .i64 (a2*a1)),()))) fun x2=>
  some (x2.1,())
abbrev Un:Type:=(qn×Int×Int×Unit)→Option (Int×Unit)
def zjB:uS→Jt→XB→Un:=fun qH ym xy=>sF Tryz.prog [(107,⟨Ka,Kb,qH⟩),(108,⟨zdc,zdd,ym⟩),(151,⟨zgN,zgO,xy⟩)] zs7 (zM []) 30 106 zjz zjA
theorem zve (qH) (ym) (xy) (a0) (a1) (a2):zjB qH ym xy (a0,a1,a2,())=Um qH ym xy a0 a1 a2:=by kernel_rfl
def Ju:Un:=zjB yU vf ZU
theorem zfl (a0) (a1) (a2):Ju (a0,a1,a2,())=Um yU vf ZU a0 a1 a2:=zve yU vf ZU a0 a1 a2
abbrev zjC:List VT:=[⟨true,zR⟩,⟨false,I⟩,⟨false,I⟩,⟨false,I⟩,⟨false,I⟩]
abbrev zjD:List VT:=[⟨false,I⟩]
def zs8:zW:=zN [cdF zR,cdF qq] [] [] [] [107,151]
def zdf (qH:uS) (jH:gJ) (xy:XB) (a0:qn) (a1:Int) (a2:Int) (a3:Int) (a4:Int):Option (Int×Unit):=
 opt (qH (a0,())) fun x0=>
 bif x0.1 then some ((wrF .i64 (a4 - (wrF .i64 (127*a1)))),())
 else opt (jH (a0,(a3,((wrF .i64 (a3+a4)),())))) fun x1=>
  opt (xy (x1.1,((wrF .i64 (a2*a1)),()))) fun x2=>
  some ((wrF .i64 (x2.1 - (wrF .i64 (127*a1)))),())
abbrev Uo:Type:=(qn×Int×Int×Int×Int×Unit)→Option (Int×Unit)
def zjE:uS→gJ→XB→Uo:=fun qH jH xy=>sF Tryz.prog [(107,⟨Ka,Kb,qH⟩),(153,⟨UP,UQ,jH⟩),(151,⟨zgN,zgO,xy⟩)] zs8 (zM []) 30 109 zjC zjD
theorem zvf (qH) (jH) (xy) (a0) (a1) (a2) (a3) (a4):zjE qH jH xy (a0,a1,a2,a3,a4,())=zdf qH jH xy a0 a1 a2 a3 a4:=by kernel_rfl
def Xp:Uo:=zjE yU xh ZU
theorem zpk (a0) (a1) (a2) (a3) (a4):Xp (a0,a1,a2,a3,a4,())=zdf yU xh ZU a0 a1 a2 a3 a4:=zvf yU xh ZU a0 a1 a2 a3 a4
abbrev zrl:List VT:=[⟨true,zR⟩,⟨false,I⟩,⟨false,I⟩]
abbrev zrm:List VT:=[⟨true,yb⟩,⟨false,I⟩]
def zyo:zW:=zN [cdF zR,cdF qq] [] [] [] [105,106,107,109]
def zaF (Yz:zaE) (JG:Un) (qH:uS) (ym:Jt) (JH:Uo) (a0:qn) (a1:Int) (a2:Int):Option (jx×Int×Unit):=
 opt (Yz (a0,(a1,(a2,())))) fun x0=>
 bif !(zo x0.1 0) then some ((0,0),(x0.1,()))
 else opt (JG (a0,(a1,(a2,())))) fun x1=>
  bif (zo (wrF .i64 (a0.2*a1)) 0) then none
  else bif (zi (wrF .i64 (Int.tdiv (wrF .i64 (x1.1*1048576)) (wrF .i64 (a0.2*a1)))) 1) then some ((0,0),(4,()))
   else opt (opt (qH (a0,())) fun x2=>
     bif !x2.1 then opt (ym (a0,())) fun x3=>
      opt (zI (fun s4:((Int×(Int×Unit))×Unit)=>
       bif (zi s4.1.2.1 ((x3.1.length:Nat):Int)) then opt (atI x3.1 s4.1.2.1) fun x5=>
        opt (atI x3.1 s4.1.2.1) fun x6=>
        opt (atI x3.1 s4.1.2.1) fun x7=>
        opt (zI (fun s8:((Int×(Int×Unit))×Unit)=>
         bif (zi s8.1.2.1 (wrF .i64 (2*((x3.1.length:Nat):Int)))) then bif (zo ((x3.1.length:Nat):Int) 0) then none
          else opt (atI x3.1 (Int.tmod s8.1.2.1 ((x3.1.length:Nat):Int))) fun x9=>
           bif (zo ((x3.1.length:Nat):Int) 0) then none
           else opt (bif (zi (wrF .i64 (x5.2 - (jh (wrF .i64 (x6.2 - x7.1)) (wrF .i64 (a2*a1))))) (wrF .i64 ((wrF .i64 (x9.1+(jh (wrF .i64 (x9.2 - x9.1)) (wrF .i64 (a2*a1)))))+(wrF .i64 ((wrF .i64 (Int.tdiv s8.1.2.1 ((x3.1.length:Nat):Int)))*a0.2))))) then opt (JH (a0,(a1,(a2,((wrF .i64 (x5.2 - (jh (wrF .i64 (x6.2 - x7.1)) (wrF .i64 (a2*a1))))),((wrF .i64 ((wrF .i64 ((wrF .i64 (x9.1+(jh (wrF .i64 (x9.2 - x9.1)) (wrF .i64 (a2*a1)))))+(wrF .i64 ((wrF .i64 (Int.tdiv s8.1.2.1 ((x3.1.length:Nat):Int)))*a0.2)))) - (wrF .i64 (x5.2 - (jh (wrF .i64 (x6.2 - x7.1)) (wrF .i64 (a2*a1))))))),())))))) fun x10=>
              some (0,(((vq s8.1.1 (wrF .i64 ((wrF .i64 ((wrF .i64 ((wrF .i64 ((wrF .i64 ((wrF .i64 (x9.1+(jh (wrF .i64 (x9.2 - x9.1)) (wrF .i64 (a2*a1)))))+(wrF .i64 ((wrF .i64 (Int.tdiv s8.1.2.1 ((x3.1.length:Nat):Int)))*a0.2)))) - (wrF .i64 (x5.2 - (jh (wrF .i64 (x6.2 - x7.1)) (wrF .i64 (a2*a1)))))))*(wrF .i64 (Int.tdiv (wrF .i64 (x1.1*1048576)) (wrF .i64 (a0.2*a1))))))*a1)) - (wrF .i64 (x10.1*1048576))))),()),()))
             else some (0,((s8.1.1,()),()))) fun x11=>
            some (.inr ((x11.2.1.1,((wrF .i64 (s8.1.2.1+1)),())),()))
         else some (.inl (0,((s8.1.1,(s8.1.2.1,())),())))) zQ ((s4.1.1,(0,())),())) fun x12=>
        some (.inr ((x12.2.1.1,((wrF .i64 (s4.1.2.1+1)),())),()))
       else some (.inl (0,((s4.1.1,(s4.1.2.1,())),())))) zQ (((wrF .i64 ((wrF .i64 (127*a1))*1048576)),(0,())),())) fun x13=>
      some (0,((a0,(x13.2.1.1,())),()))
     else some (0,((a0,((wrF .i64 ((wrF .i64 (127*a1))*1048576)),())),()))) fun x14=>
    bif (zo (wrF .i64 ((wrF .i64 (Int.tdiv (wrF .i64 (x1.1*1048576)) (wrF .i64 (a0.2*a1))))*a1)) 0) then none
    else some (((wrF .i64 (Int.tdiv (wrF .i64 (x1.1*1048576)) (wrF .i64 (a0.2*a1)))),(wrF .i64 (Int.tdiv (wrF .i64 ((wrF .i64 (x14.2.1.2.1+(wrF .i64 ((wrF .i64 (Int.tdiv (wrF .i64 (x1.1*1048576)) (wrF .i64 (a0.2*a1))))*a1)))) - 1)) (wrF .i64 ((wrF .i64 (Int.tdiv (wrF .i64 (x1.1*1048576)) (wrF .i64 (a0.2*a1))))*a1))))),(0,()))
abbrev zec:Type:=(qn×Int×Int×Unit)→Option (jx×Int×Unit)
def zrn:zaE→Un→uS→Jt→Uo→zec:=fun Yz JG qH ym JH=>sF Tryz.prog [(105,⟨zlV,zlW,Yz⟩),(106,⟨zjz,zjA,JG⟩),(107,⟨Ka,Kb,qH⟩),(108,⟨zdc,zdd,ym⟩),(109,⟨zjC,zjD,JH⟩)] zyo (zM []) 30 75 zrl zrm
theorem zAs (Yz) (JG) (qH) (ym) (JH) (a0) (a1) (a2):zrn Yz JG qH ym JH (a0,a1,a2,())=zaF Yz JG qH ym JH a0 a1 a2:=by kernel_rfl
def JZ:zec:=zrn Vw Ju yU vf Xp
theorem zdg (a0) (a1) (a2):JZ (a0,a1,a2,())=zaF Vw Ju yU vf Xp a0 a1 a2:=zAs Vw Ju yU vf Xp a0 a1 a2
abbrev zdh:List VT:=[⟨true,zv⟩]
abbrev zdi:List VT:=[⟨false,.bool⟩]
def zs9:zW:=zN [cdF zv] [] [] [] []
def zdj (a0:qi):Option (Bool×Unit):=
 bif !(zi a0.1 1) then bif !(zi 1048576 a0.1) then bif !(zi a0.2 1) then some ((!(zi 2097152 a0.2)),())
   else some (false,())
  else some (false,())
 else some (false,())
abbrev Jv:Type:=(qi×Unit)→Option (Bool×Unit)
def zjF:Jv:=sF Tryz.prog [] zs9 (zM []) 30 110 zdh zdi
theorem zvg (a0):zjF (a0,())=zdj a0:=by kernel_rfl
def kZ:Jv:=zjF
theorem zpl (a0):kZ (a0,())=zdj  a0:=zvg  a0
abbrev zn0:List VT:=[⟨false,(.list zv)⟩]
abbrev zn1:List VT:=[⟨true,zv⟩,⟨false,I⟩]
def zxv:zW:=zN [cdF zv] [] [] [] [110]
def zgQ (wJ:Jv) (a0:(List qi)):Option (qi×Int×Unit):=
 bif (zo ((a0.length:Nat):Int) 0) then some ((0,0),(2,()))
 else bif (zi 12 ((a0.length:Nat):Int)) then some ((0,0),(3,()))
  else opt (zI (fun s0:(((Int×Int)×((Int×Int)×(Int×(Int×Unit))))×Unit)=>
    bif (zi s0.1.2.2.2.1 ((a0.length:Nat):Int)) then opt (atI a0 s0.1.2.2.2.1) fun x1=>
     opt (wJ (x1,())) fun x2=>
     bif !x2.1 then some (.inl (1,(((0,0),(s0.1.2.1,(130,(s0.1.2.2.2.1,())))),())))
     else opt (atI a0 s0.1.2.2.2.1) fun x3=>
      opt (atI a0 s0.1.2.2.2.1) fun x4=>
      some (.inr ((s0.1.1,(((wrF .i64 (s0.1.2.1.1+x3.1)),(wrF .i64 (s0.1.2.1.2+x4.2))),(s0.1.2.2.1,((wrF .i64 (s0.1.2.2.2.1+1)),())))),()))
    else some (.inl (0,((s0.1.1,(s0.1.2.1,(s0.1.2.2.1,(s0.1.2.2.2.1,())))),())))) zQ (((0,0),((0,0),(0,(0,())))),())) fun x5=>
   bif Nat.beq x5.1 0 then opt (wJ (x5.2.1.2.1,())) fun x6=>
    bif !x6.1 then some ((0,0),(6,()))
    else some (x5.2.1.2.1,(0,()))
   else some (x5.2.1.1,(x5.2.1.2.2.1,()))
abbrev zce:Type:=((List qi)×Unit)→Option (qi×Int×Unit)
def zn2:Jv→zce:=fun wJ=>sF Tryz.prog [(110,⟨zdh,zdi,wJ⟩)] zxv (zM []) 30 77 zn0 zn1
theorem zyp (wJ) (a0):zn2 wJ (a0,())=zgQ wJ a0:=by kernel_rfl
def KM:zce:=zn2 kZ
theorem zta (a0):KM (a0,())=zgQ kZ a0:=zyp kZ a0
abbrev zjG:List VT:=[⟨true,yb⟩]
abbrev zjH:List VT:=[⟨false,.bool⟩]
def ztb:zW:=zN [cdF yb] [] [] [] []
def zdk (a0:jx):Option (Bool×Unit):=
 bif !(zi a0.1 1) then bif !(zi 2097152 a0.1) then bif !(zi a0.2 0) then some ((!(zi 268435456 a0.2)),())
   else some (false,())
  else some (false,())
 else some (false,())
abbrev Up:Type:=(jx×Unit)→Option (Bool×Unit)
def zjI:Up:=sF Tryz.prog [] ztb (zM []) 30 111 zjG zjH
theorem zvh (a0):zjI (a0,())=zdk a0:=by kernel_rfl
def Xq:Up:=zjI
theorem zpm (a0):Xq (a0,())=zdk  a0:=zvh  a0
abbrev zlY:List VT:=[⟨false,(.list zv)⟩,⟨false,I⟩]
abbrev zlZ:List VT:=[⟨false,.bool⟩]
def zvi:zW:=zN [cdF zv] [] [] [] []
def zfm (a0:(List qi)) (a1:Int):Option (Bool×Unit):=
 opt (zI (fun s0:((Bool×(Int×Unit))×Unit)=>
  bif (zi s0.1.2.1 ((a0.length:Nat):Int)) then opt (atI a0 s0.1.2.1) fun x1=>
   bif !(zi a1 x1.2) then some (.inl (1,((true,(s0.1.2.1,())),())))
   else some (.inr ((s0.1.1,((wrF .i64 (s0.1.2.1+1)),())),()))
  else some (.inl (0,((s0.1.1,(s0.1.2.1,())),())))) zQ ((false,(0,())),())) fun x2=>
 bif Nat.beq x2.1 0 then some (false,())
 else some (x2.2.1.1,())
abbrev zaG:Type:=((List qi)×Int×Unit)→Option (Bool×Unit)
def zl0:zaG:=sF Tryz.prog [] zvi (zM []) 30 112 zlY zlZ
theorem zxw (a0) (a1):zl0 (a0,a1,())=zfm a0 a1:=by kernel_rfl
def Vx:zaG:=zl0
theorem zro (a0) (a1):Vx (a0,a1,())=zfm  a0 a1:=zxw  a0 a1
abbrev zfn:List VT:=[⟨false,I⟩,⟨false,I⟩]
abbrev zfo:List VT:=[⟨false,I⟩]
def zvj:zW:=zN [] [] [] [] []
def zfp (a0:Int) (a1:Int):Option (Int×Unit):=
 bif zo a1 0 then none
 else opt (bif (zi (wrF .i64 ((wrF .i64 (Int.tdiv a0 a1))*a1)) a0) then some (0,(((wrF .i64 ((wrF .i64 (Int.tdiv a0 a1))+1)),()),()))
   else some (0,(((wrF .i64 (Int.tdiv a0 a1)),()),()))) fun x0=>
  some (x0.2.1.1,())
abbrev Yf:Type:=(Int×Int×Unit)→Option (Int×Unit)
def zl1:Yf:=sF Tryz.prog [] zvj (zM []) 30 114 zfn zfo
theorem zxx (a0) (a1):zl1 (a0,a1,())=zfp a0 a1:=by kernel_rfl
def gW:Yf:=zl1
theorem zrp (a0) (a1):gW (a0,a1,())=zfp  a0 a1:=zxx  a0 a1
abbrev zfq:List VT:=[⟨false,(.list zv)⟩,⟨false,I⟩]
abbrev zfr:List VT:=[⟨false,I⟩]
def znk:zW:=zN [cdF zv] [] [] [] [114]
def US (yC:Yf) (a0:(List qi)) (a1:Int):Option (Int×Unit):=
 opt (zI (fun s0:((Int×(Int×Unit))×Unit)=>
  bif (zi s0.1.2.1 ((a0.length:Nat):Int)) then opt (atI a0 s0.1.2.1) fun x1=>
   bif zi a1 x1.2 then some (.inr ((s0.1.1,((wrF .i64 (s0.1.2.1+1)),())),()))
   else opt (yC ((wrF .i64 (x1.1*1048576)),(a1,()))) fun x2=>
    opt (bif zi s0.1.1 0 then some (0,((x2.1,()),()))
     else bif zi x2.1 s0.1.1 then some (0,((x2.1,()),()))
      else some (0,((s0.1.1,()),()))) fun x3=>
    opt (zI (fun s4:((Int×(Int×Unit))×Unit)=>
     bif (zi s4.1.2.1 ((a0.length:Nat):Int)) then opt (atI a0 s4.1.2.1) fun x5=>
      opt (bif zi a1 x5.2 then bif zi x5.1 x1.1 then opt (yC ((wrF .i64 ((wrF .i64 ((wrF .i64 ((wrF .i64 (x5.2 - a1))*x1.1))+(wrF .i64 ((wrF .i64 (a1 - x1.2))*x5.1))))*1048576)),((wrF .i64 (a1*(wrF .i64 (x5.2 - x1.2)))),()))) fun x6=>
         some (0,(((jh s4.1.1 x6.1),()),()))
        else some (0,((s4.1.1,()),()))
       else some (0,((s4.1.1,()),()))) fun x7=>
      some (.inr ((x7.2.1.1,((wrF .i64 (s4.1.2.1+1)),())),()))
     else some (.inl (0,((s4.1.1,(s4.1.2.1,())),())))) zQ ((x3.2.1.1,(0,())),())) fun x8=>
    some (.inr ((x8.2.1.1,((wrF .i64 (s0.1.2.1+1)),())),()))
  else some (.inl (0,((s0.1.1,(s0.1.2.1,())),())))) zQ (((-1),(0,())),())) fun x9=>
 some (x9.2.1.1,())
abbrev YW:Type:=((List qi)×Int×Unit)→Option (Int×Unit)
def zfs:Yf→YW:=fun yC=>sF Tryz.prog [(114,⟨zfn,zfo,yC⟩)] znk (zM []) 30 113 zfq zfr
theorem zpn (yC) (a0) (a1):zfs yC (a0,a1,())=US yC a0 a1:=by kernel_rfl
def QI:YW:=zfs gW
theorem zkb (a0) (a1):QI (a0,a1,())=US gW a0 a1:=zpn gW a0 a1
abbrev zdl:List VT:=[⟨false,(.list zv)⟩,⟨true,yb⟩]
abbrev zdm:List VT:=[⟨false,I⟩,⟨false,I⟩]
def ztc:zW:=zN [cdF yb] [] [] [] [110,111,112,113]
def zdn (wJ:Jv) (JI:Up) (YA:zaG) (gO:YW) (a0:(List qi)) (a1:jx):Option (Int×Int×Unit):=
 bif (zo ((a0.length:Nat):Int) 0) then some (0,(2,()))
 else bif (zi 12 ((a0.length:Nat):Int)) then some (0,(3,()))
  else opt (zI (fun s0:((Int×(Int×(Int×Unit)))×Unit)=>
    bif (zi s0.1.2.2.1 ((a0.length:Nat):Int)) then opt (atI a0 s0.1.2.2.1) fun x1=>
     opt (wJ (x1,())) fun x2=>
     bif !x2.1 then some (.inl (1,((0,(130,(s0.1.2.2.1,()))),())))
     else some (.inr ((s0.1.1,(s0.1.2.1,((wrF .i64 (s0.1.2.2.1+1)),()))),()))
    else some (.inl (0,((s0.1.1,(s0.1.2.1,(s0.1.2.2.1,()))),())))) zQ ((0,(0,(0,()))),())) fun x3=>
   bif Nat.beq x3.1 0 then opt (JI (a1,())) fun x4=>
    bif !x4.1 then some (0,(140,()))
    else opt (YA (a0,(a1.1,()))) fun x5=>
     bif !x5.1 then some (0,(141,()))
     else opt (gO (a0,(a1.1,()))) fun x6=>
      some ((wrF .i64 (a1.2+x6.1)),(0,()))
   else some (x3.2.1.1,(x3.2.1.2.1,()))
abbrev Jw:Type:=((List qi)×jx×Unit)→Option (Int×Int×Unit)
def zjJ:Jv→Up→zaG→YW→Jw:=fun wJ JI YA gO=>sF Tryz.prog [(110,⟨zdh,zdi,wJ⟩),(111,⟨zjG,zjH,JI⟩),(112,⟨zlY,zlZ,YA⟩),(113,⟨zfq,zfr,gO⟩)] ztc (zM []) 30 78 zdl zdm
theorem zvk (wJ) (JI) (YA) (gO) (a0) (a1):zjJ wJ JI YA gO (a0,a1,())=zdn wJ JI YA gO a0 a1:=by kernel_rfl
def ga:Jw:=zjJ kZ Xq Vx QI
theorem zpo (a0) (a1):ga (a0,a1,())=zdn kZ Xq Vx QI a0 a1:=zvk kZ Xq Vx QI a0 a1
end Go.Proofs.YtplhphmbkmpocaaGreat.ad
end
