/- Parts of a proof, joined. -/
import Derived.Test.YtplhphmbkmpocaaGreatE64
set_option linter.unusedSectionVars false
set_option linter.unusedVariables false
set_option linter.unusedSimpArgs false
set_option maxHeartbeats 0
set_option maxRecDepth 100000
noncomputable section
namespace Go.Proofs.YtplhphmbkmpocaaGreat.ad
open Go Go.Fz Go.Fz.Sy
abbrev cdF (t:Ty):znr:=⟨t,Ji t,[]⟩
abbrev zgp:List VT:=[⟨false,(.list (.int .u8))⟩,⟨false,I⟩]
abbrev zgq:List VT:=[⟨false,I⟩]
def zxw:zT:=zO [] [] [] [] []
def zgr (a0:(List Int)) (a1:Int):Option (Int×Unit):=
 bif (zj a1 ((a0.length:Nat):Int)) then opt (atI a0 a1) fun x0=>
  some ((wrF .i64 x0),())
 else some (0,())
abbrev zbl:Type:=((List Int)×Int×Unit)→Option (Int×Unit)
def znx:zbl:=sF Tryz.prog [] zxw (zP []) 30 62 zgp zgq
theorem zAm (a0) (a1):znx (a0,a1,())=zgr a0 a1:=by kernel_rfl
def kY:zbl:=znx
theorem ztc:Con.Ok Tryz.prog 62 ⟨zgp,zgq,kY⟩:=zw zi zo (by kernel_rfl)
theorem ztd (a0) (a1):kY (a0,a1,())=zgr  a0 a1:=zAm  a0 a1
abbrev zgs:List VT:=[⟨true,zx⟩,⟨false,I⟩]
abbrev zgt:List VT:=[⟨false,.bool⟩]
def zxx:zT:=zO [cdF zx,cdF zM] [] [] [] []
def zgu (a0:zK) (a1:Int):Option (Bool×Unit):=
 bif !(zj a1 0) then some ((zj a1 a0.1),())
 else some (false,())
abbrev zbm:Type:=(zK×Int×Unit)→Option (Bool×Unit)
def zny:zbm:=sF Tryz.prog [] zxx (zP []) 30 97 zgs zgt
theorem zAn (a0) (a1):zny (a0,a1,())=zgu a0 a1:=by kernel_rfl
def YQ:zbm:=zny
theorem zte:Con.Ok Tryz.prog 97 ⟨zgs,zgt,YQ⟩:=zw zi zo (by kernel_rfl)
theorem ztf (a0) (a1):YQ (a0,a1,())=zgu  a0 a1:=zAn  a0 a1
abbrev zbn:List VT:=[⟨true,zx⟩,⟨true,zM⟩]
abbrev zbo:List VT:=[⟨false,.bool⟩]
def zxy:zT:=zO [cdF zx,cdF zM] [] [] [] [97]
def zgv (JK:zbm) (a0:zK) (a1:zaT):Option (Bool×Unit):=
 opt (opt (JK (a0,(a1.1,()))) fun x0=>
  bif !x0.1 then some (1,((false,()),()))
  else opt (JK (a0,(a1.2.1,()))) fun x1=>
   bif !x1.1 then some (1,((false,()),()))
   else bif zh a1.1 a1.2.1 then some (1,((false,()),()))
    else opt (atI a0.2.1 a1.1) fun x2=>
     bif x2 then opt (atI a0.2.1 a1.2.1) fun x3=>
      bif x3 then some (1,((false,()),()))
      else some (0,((false,()),()))
     else some (0,((false,()),()))) fun x4=>
 bif Nat.beq x4.1 0 then bif !(zj a1.2.2.1 1) then bif !(zj 1000 a1.2.2.1) then bif !(zj a1.2.2.2 0) then some ((!(zj 10000 a1.2.2.2)),())
    else some (false,())
   else some (false,())
  else some (false,())
 else some (x4.2.1.1,())
abbrev YR:Type:=(zK×zaT×Unit)→Option (Bool×Unit)
def znz:zbm→YR:=fun JK=>sF Tryz.prog [(97,⟨zgs,zgt,JK⟩)] zxy (zP []) 30 68 zbn zbo
theorem zAo (JK) (a0) (a1):znz JK (a0,a1,())=zgv JK a0 a1:=by kernel_rfl
def uE:YR:=znz YQ
theorem zh7:Con.Ok Tryz.prog 68 ⟨zbn,zbo,uE⟩:=zw (zd zte zi) zo (by kernel_rfl)
theorem ztg (a0) (a1):uE (a0,a1,())=zgv YQ a0 a1:=zAo YQ a0 a1
abbrev Gh:List VT:=[⟨true,zM⟩,⟨false,I⟩,⟨false,I⟩]
abbrev Gi:List VT:=[⟨false,.bool⟩]
def zvs:zT:=zO [cdF zM] [] [] [] []
def zem (a0:zaT) (a1:Int) (a2:Int):Option (Bool×Unit):=
 bif zh a0.1 a1 then bif zh a0.2.1 a2 then some (true,())
  else bif zh a0.1 a2 then some ((zh a0.2.1 a1),())
   else some (false,())
 else bif zh a0.1 a2 then some ((zh a0.2.1 a1),())
  else some (false,())
abbrev Wb:Type:=(zaT×Int×Int×Unit)→Option (Bool×Unit)
def zlq:Wb:=sF Tryz.prog [] zvs (zP []) 30 69 Gh Gi
theorem zxz (a0) (a1) (a2):zlq (a0,a1,a2,())=zem a0 a1 a2:=by kernel_rfl
def xw:Wb:=zlq
theorem zgw:Con.Ok Tryz.prog 69 ⟨Gh,Gi,xw⟩:=zw zi zo (by kernel_rfl)
theorem zq5 (a0) (a1) (a2):xw (a0,a1,a2,())=zem  a0 a1 a2:=zxz  a0 a1 a2
abbrev WX:List VT:=[⟨true,vf⟩]
abbrev WY:List VT:=[⟨true,zx⟩]
def zl9:zT:=zO [cdF vf,⟨zx,Ji zx,[1,2]⟩,cdF zM] [] [⟨5,141,none,.bool,true⟩,⟨9,141,none,.bool,true⟩,⟨13,141,none,.bool,true⟩,⟨16,141,none,.bool,true⟩,⟨19,141,none,.bool,true⟩,⟨21,141,none,.bool,true⟩,⟨24,141,none,.bool,true⟩,⟨3,59,none,zM,true⟩,⟨6,59,none,zM,true⟩,⟨8,59,none,zM,true⟩] [(5,141,5,[1,2]),(9,141,5,[2]),(13,141,5,[2]),(16,141,5,[2]),(19,141,5,[2]),(21,141,5,[2]),(24,141,5,[2]),(5,141,5,[1])] [62,68,69]
def KK (jL:zbl) (jY:YR) (qM:Wb) (a0:XU):Option (zK×Unit):=
 opt (zD (fun s0:((Unit×(Int×Unit))×((Int×((List Bool)×((List (Int×(Int×(Int×Int))))×Unit)))×Unit))=>
  bif zj s0.1.2.1 s0.2.1.1 then bif (qK s0.2.1.2.1.length (((!(zj s0.1.2.1 (wrF .i64 (1+(wrF .i64 (Int.tmod a0.1 6))))))::[]).length) 1) then some (.inr (((),((wrF .i64 (s0.1.2.1+1)),())),((s0.2.1.1,((s0.2.1.2.1++((!(zj s0.1.2.1 (wrF .i64 (1+(wrF .i64 (Int.tmod a0.1 6))))))::[])),(s0.2.1.2.2.1,()))),())))
   else none
  else some (.inl (0,(((),(s0.1.2.1,())),((s0.2.1.1,(s0.2.1.2.1,(s0.2.1.2.2.1,()))),()))))) zL (((),(0,())),(((wrF .i64 ((wrF .i64 (1+(wrF .i64 (Int.tmod a0.1 6))))+(wrF .i64 (2+(wrF .i64 (Int.tmod a0.2.1 5)))))),([],([],()))),()))) fun x1=>
 opt (zD (fun s2:(((Int×(Int×((List Int)×((List Int)×((List Int)×(List Int))))))×(Unit×(Int×Unit)))×((Int×((List Bool)×((List (Int×(Int×(Int×Int))))×Unit)))×Unit))=>
  bif (zj s2.1.2.2.1 (wrF .i64 (1+(wrF .i64 (Int.tmod a0.1 6))))) then opt (jL (s2.1.1.2.2.2.2.1,(((s2.2.1.2.2.1.length:Nat):Int),()))) fun x3=>
   opt (jL (s2.1.1.2.2.2.2.2,(((s2.2.1.2.2.1.length:Nat):Int),()))) fun x4=>
   bif (zh ((s2.2.1.2.2.1.length:Nat):Int) 24) then some (.inr ((s2.1.1,((),((wrF .i64 (s2.1.2.2.1+1)),()))),((s2.2.1.1,(s2.2.1.2.1,(s2.2.1.2.2.1,()))),())))
   else opt (jY ((s2.2.1.1,(s2.2.1.2.1,s2.2.1.2.2.1)),(((wrF .i64 (s2.1.2.2.1 - 1)),(s2.1.2.2.1,((wrF .i64 (1+(Int.tmod x3.1 20))),(Int.tmod x4.1 50)))),()))) fun x5=>
    bif !x5.1 then some (.inr ((s2.1.1,((),((wrF .i64 (s2.1.2.2.1+1)),()))),((s2.2.1.1,(s2.2.1.2.1,(s2.2.1.2.2.1,()))),())))
    else opt (zD (fun s6:(((Int×((List Bool)×(List (Int×(Int×(Int×Int))))))×(Int×Unit))×Unit)=>
      bif (zj s6.1.2.1 ((s2.2.1.2.2.1.length:Nat):Int)) then opt (atI s2.2.1.2.2.1 s6.1.2.1) fun x7=>
       opt (gl s2.2.1.2.2.1 (Int.toNat s6.1.2.1)) fun x8=>
       opt (qM (x8,((wrF .i64 (s2.1.2.2.1 - 1)),(s2.1.2.2.1,())))) fun x9=>
       bif x9.1 then some (.inl s6)
       else some (.inr ((s6.1.1,((wrF .i64 (s6.1.2.1+1)),())),()))
      else some (.inl s6)) zL (((0,([],[])),(0,())),())) fun x10=>
     bif (zj x10.1.2.1 ((s2.2.1.2.2.1.length:Nat):Int)) then opt (atI s2.2.1.2.2.1 x10.1.2.1) fun x11=>
      opt (gl s2.2.1.2.2.1 (Int.toNat x10.1.2.1)) fun x12=>
      opt (qM (x12,((wrF .i64 (s2.1.2.2.1 - 1)),(s2.1.2.2.1,())))) fun x13=>
      bif x13.1 then some (.inr ((s2.1.1,((),((wrF .i64 (s2.1.2.2.1+1)),()))),((s2.2.1.1,(s2.2.1.2.1,(s2.2.1.2.2.1,()))),())))
      else none
     else bif (qK s2.2.1.2.2.1.length ((((wrF .i64 (s2.1.2.2.1 - 1)),(s2.1.2.2.1,((wrF .i64 (1+(Int.tmod x3.1 20))),(Int.tmod x4.1 50))))::[]).length) 32) then some (.inr ((s2.1.1,((),((wrF .i64 (s2.1.2.2.1+1)),()))),((s2.2.1.1,(s2.2.1.2.1,((s2.2.1.2.2.1++(((wrF .i64 (s2.1.2.2.1 - 1)),(s2.1.2.2.1,((wrF .i64 (1+(Int.tmod x3.1 20))),(Int.tmod x4.1 50))))::[])),()))),())))
      else none
  else some (.inl (0,((s2.1.1,((),(s2.1.2.2.1,()))),((s2.2.1.1,(s2.2.1.2.1,(s2.2.1.2.2.1,()))),()))))) zL ((a0,((),(1,()))),((x1.2.2.1.1,(x1.2.2.1.2.1,(x1.2.2.1.2.2.1,()))),()))) fun x14=>
 opt (zD (fun s15:(((Int×(Int×((List Int)×((List Int)×((List Int)×(List Int))))))×(Unit×(Int×Unit)))×((Int×((List Bool)×((List (Int×(Int×(Int×Int))))×Unit)))×Unit))=>
  bif (zj s15.1.2.2.1 (wrF .i64 (2+(wrF .i64 (Int.tmod a0.2.1 5))))) then opt (jL (s15.1.1.2.2.2.1,((wrF .i64 (2*s15.1.2.2.1)),()))) fun x16=>
   bif (zh (wrF .i64 (1+(wrF .i64 (Int.tmod a0.1 6)))) 0) then none
   else opt (jL (s15.1.1.2.2.2.2.1,(((s15.2.1.2.2.1.length:Nat):Int),()))) fun x17=>
    opt (jL (s15.1.1.2.2.2.2.2,(((s15.2.1.2.2.1.length:Nat):Int),()))) fun x18=>
    bif (zh ((s15.2.1.2.2.1.length:Nat):Int) 24) then some (.inr ((s15.1.1,((),((wrF .i64 (s15.1.2.2.1+1)),()))),((s15.2.1.1,(s15.2.1.2.1,(s15.2.1.2.2.1,()))),())))
    else opt (jY ((s15.2.1.1,(s15.2.1.2.1,s15.2.1.2.2.1)),(((wrF .i64 ((wrF .i64 (1+(wrF .i64 (Int.tmod a0.1 6))))+s15.1.2.2.1)),((Int.tmod x16.1 (wrF .i64 (1+(wrF .i64 (Int.tmod a0.1 6))))),((wrF .i64 (1+(Int.tmod x17.1 20))),(Int.tmod x18.1 50)))),()))) fun x19=>
     bif !x19.1 then some (.inr ((s15.1.1,((),((wrF .i64 (s15.1.2.2.1+1)),()))),((s15.2.1.1,(s15.2.1.2.1,(s15.2.1.2.2.1,()))),())))
     else opt (zD (fun s20:(((Int×((List Bool)×(List (Int×(Int×(Int×Int))))))×(Int×Unit))×Unit)=>
       bif (zj s20.1.2.1 ((s15.2.1.2.2.1.length:Nat):Int)) then opt (atI s15.2.1.2.2.1 s20.1.2.1) fun x21=>
        opt (gl s15.2.1.2.2.1 (Int.toNat s20.1.2.1)) fun x22=>
        opt (qM (x22,((wrF .i64 ((wrF .i64 (1+(wrF .i64 (Int.tmod a0.1 6))))+s15.1.2.2.1)),((Int.tmod x16.1 (wrF .i64 (1+(wrF .i64 (Int.tmod a0.1 6))))),())))) fun x23=>
        bif x23.1 then some (.inl s20)
        else some (.inr ((s20.1.1,((wrF .i64 (s20.1.2.1+1)),())),()))
       else some (.inl s20)) zL (((0,([],[])),(0,())),())) fun x24=>
      bif (zj x24.1.2.1 ((s15.2.1.2.2.1.length:Nat):Int)) then opt (atI s15.2.1.2.2.1 x24.1.2.1) fun x25=>
       opt (gl s15.2.1.2.2.1 (Int.toNat x24.1.2.1)) fun x26=>
       opt (qM (x26,((wrF .i64 ((wrF .i64 (1+(wrF .i64 (Int.tmod a0.1 6))))+s15.1.2.2.1)),((Int.tmod x16.1 (wrF .i64 (1+(wrF .i64 (Int.tmod a0.1 6))))),())))) fun x27=>
       bif x27.1 then some (.inr ((s15.1.1,((),((wrF .i64 (s15.1.2.2.1+1)),()))),((s15.2.1.1,(s15.2.1.2.1,(s15.2.1.2.2.1,()))),())))
       else none
      else bif (qK s15.2.1.2.2.1.length ((((wrF .i64 ((wrF .i64 (1+(wrF .i64 (Int.tmod a0.1 6))))+s15.1.2.2.1)),((Int.tmod x16.1 (wrF .i64 (1+(wrF .i64 (Int.tmod a0.1 6))))),((wrF .i64 (1+(Int.tmod x17.1 20))),(Int.tmod x18.1 50))))::[]).length) 32) then some (.inr ((s15.1.1,((),((wrF .i64 (s15.1.2.2.1+1)),()))),((s15.2.1.1,(s15.2.1.2.1,((s15.2.1.2.2.1++(((wrF .i64 ((wrF .i64 (1+(wrF .i64 (Int.tmod a0.1 6))))+s15.1.2.2.1)),((Int.tmod x16.1 (wrF .i64 (1+(wrF .i64 (Int.tmod a0.1 6))))),((wrF .i64 (1+(Int.tmod x17.1 20))),(Int.tmod x18.1 50))))::[])),()))),())))
       else none
  else some (.inl (0,((s15.1.1,((),(s15.1.2.2.1,()))),((s15.2.1.1,(s15.2.1.2.1,(s15.2.1.2.2.1,()))),()))))) zL ((x14.2.1.1,((),(0,()))),((x14.2.2.1.1,(x14.2.2.1.2.1,(x14.2.2.1.2.2.1,()))),()))) fun x28=>
 opt (bif (zj 2 (wrF .i64 (1+(wrF .i64 (Int.tmod a0.1 6))))) then bif zh (Int.tmod x28.2.1.1.1 2) 0 then opt (jL (x28.2.1.1.2.2.2.2.1,(((x28.2.2.1.2.2.1.length:Nat):Int),()))) fun x29=>
    opt (jL (x28.2.1.1.2.2.2.2.2,(((x28.2.2.1.2.2.1.length:Nat):Int),()))) fun x30=>
    bif (zh ((x28.2.2.1.2.2.1.length:Nat):Int) 24) then some (0,((x28.2.1.1,((),())),((x28.2.2.1.1,(x28.2.2.1.2.1,(x28.2.2.1.2.2.1,()))),())))
    else opt (jY ((x28.2.2.1.1,(x28.2.2.1.2.1,x28.2.2.1.2.2.1)),(((wrF .i64 ((wrF .i64 (1+(wrF .i64 (Int.tmod a0.1 6)))) - 1)),(0,((wrF .i64 (1+(Int.tmod x29.1 20))),(Int.tmod x30.1 50)))),()))) fun x31=>
     bif !x31.1 then some (0,((x28.2.1.1,((),())),((x28.2.2.1.1,(x28.2.2.1.2.1,(x28.2.2.1.2.2.1,()))),())))
     else opt (zD (fun s32:(((Int×((List Bool)×(List (Int×(Int×(Int×Int))))))×(Int×Unit))×Unit)=>
       bif (zj s32.1.2.1 ((x28.2.2.1.2.2.1.length:Nat):Int)) then opt (atI x28.2.2.1.2.2.1 s32.1.2.1) fun x33=>
        opt (gl x28.2.2.1.2.2.1 (Int.toNat s32.1.2.1)) fun x34=>
        opt (qM (x34,((wrF .i64 ((wrF .i64 (1+(wrF .i64 (Int.tmod a0.1 6)))) - 1)),(0,())))) fun x35=>
        bif x35.1 then some (.inl s32)
        else some (.inr ((s32.1.1,((wrF .i64 (s32.1.2.1+1)),())),()))
       else some (.inl s32)) zL (((0,([],[])),(0,())),())) fun x36=>
      bif (zj x36.1.2.1 ((x28.2.2.1.2.2.1.length:Nat):Int)) then opt (atI x28.2.2.1.2.2.1 x36.1.2.1) fun x37=>
       opt (gl x28.2.2.1.2.2.1 (Int.toNat x36.1.2.1)) fun x38=>
       opt (qM (x38,((wrF .i64 ((wrF .i64 (1+(wrF .i64 (Int.tmod a0.1 6)))) - 1)),(0,())))) fun x39=>
       bif x39.1 then some (0,((x28.2.1.1,((),())),((x28.2.2.1.1,(x28.2.2.1.2.1,(x28.2.2.1.2.2.1,()))),())))
       else none
      else bif (qK x28.2.2.1.2.2.1.length ((((wrF .i64 ((wrF .i64 (1+(wrF .i64 (Int.tmod a0.1 6)))) - 1)),(0,((wrF .i64 (1+(Int.tmod x29.1 20))),(Int.tmod x30.1 50))))::[]).length) 32) then some (0,((x28.2.1.1,((),())),((x28.2.2.1.1,(x28.2.2.1.2.1,((x28.2.2.1.2.2.1++(((wrF .i64 ((wrF .i64 (1+(wrF .i64 (Int.tmod a0.1 6)))) - 1)),(0,((wrF .i64 (1+(Int.tmod x29.1 20))),(Int.tmod x30.1 50))))::[])),()))),())))
       else none
   else some (0,((x28.2.1.1,((),())),((x28.2.2.1.1,(x28.2.2.1.2.1,(x28.2.2.1.2.2.1,()))),())))
  else some (0,((x28.2.1.1,((),())),((x28.2.2.1.1,(x28.2.2.1.2.1,(x28.2.2.1.2.2.1,()))),())))) fun x40=>
 opt (zD (fun s41:(((Int×(Int×((List Int)×((List Int)×((List Int)×(List Int))))))×(Unit×(Int×Unit)))×((Int×((List Bool)×((List (Int×(Int×(Int×Int))))×Unit)))×Unit))=>
  bif (zj s41.1.2.2.1 (wrF .i64 (2+(wrF .i64 (Int.tmod a0.2.1 5))))) then opt (opt (jL (s41.1.1.2.2.2.1,((wrF .i64 ((wrF .i64 (2*s41.1.2.2.1))+1)),()))) fun x42=>
    bif zj 0 (Int.tmod x42.1 3) then opt (jL (s41.1.1.2.2.2.1,((wrF .i64 ((wrF .i64 (2*s41.1.2.2.1))+1)),()))) fun x43=>
     bif (zh (wrF .i64 (1+(wrF .i64 (Int.tmod a0.1 6)))) 0) then none
     else opt (jL (s41.1.1.2.2.2.2.1,(((s41.2.1.2.2.1.length:Nat):Int),()))) fun x44=>
      opt (jL (s41.1.1.2.2.2.2.2,(((s41.2.1.2.2.1.length:Nat):Int),()))) fun x45=>
      bif (zh ((s41.2.1.2.2.1.length:Nat):Int) 24) then some (0,((s41.1.1,((),())),((s41.2.1.1,(s41.2.1.2.1,(s41.2.1.2.2.1,()))),())))
      else opt (jY ((s41.2.1.1,(s41.2.1.2.1,s41.2.1.2.2.1)),(((wrF .i64 ((wrF .i64 (1+(wrF .i64 (Int.tmod a0.1 6))))+s41.1.2.2.1)),((Int.tmod x43.1 (wrF .i64 (1+(wrF .i64 (Int.tmod a0.1 6))))),((wrF .i64 (1+(Int.tmod x44.1 20))),(Int.tmod x45.1 50)))),()))) fun x46=>
       bif !x46.1 then some (0,((s41.1.1,((),())),((s41.2.1.1,(s41.2.1.2.1,(s41.2.1.2.2.1,()))),())))
       else opt (zD (fun s47:(((Int×((List Bool)×(List (Int×(Int×(Int×Int))))))×(Int×Unit))×Unit)=>
         bif (zj s47.1.2.1 ((s41.2.1.2.2.1.length:Nat):Int)) then opt (atI s41.2.1.2.2.1 s47.1.2.1) fun x48=>
          opt (gl s41.2.1.2.2.1 (Int.toNat s47.1.2.1)) fun x49=>
          opt (qM (x49,((wrF .i64 ((wrF .i64 (1+(wrF .i64 (Int.tmod a0.1 6))))+s41.1.2.2.1)),((Int.tmod x43.1 (wrF .i64 (1+(wrF .i64 (Int.tmod a0.1 6))))),())))) fun x50=>
          bif x50.1 then some (.inl s47)
          else some (.inr ((s47.1.1,((wrF .i64 (s47.1.2.1+1)),())),()))
         else some (.inl s47)) zL (((0,([],[])),(0,())),())) fun x51=>
        bif (zj x51.1.2.1 ((s41.2.1.2.2.1.length:Nat):Int)) then opt (atI s41.2.1.2.2.1 x51.1.2.1) fun x52=>
         opt (gl s41.2.1.2.2.1 (Int.toNat x51.1.2.1)) fun x53=>
         opt (qM (x53,((wrF .i64 ((wrF .i64 (1+(wrF .i64 (Int.tmod a0.1 6))))+s41.1.2.2.1)),((Int.tmod x43.1 (wrF .i64 (1+(wrF .i64 (Int.tmod a0.1 6))))),())))) fun x54=>
         bif x54.1 then some (0,((s41.1.1,((),())),((s41.2.1.1,(s41.2.1.2.1,(s41.2.1.2.2.1,()))),())))
         else none
        else bif (qK s41.2.1.2.2.1.length ((((wrF .i64 ((wrF .i64 (1+(wrF .i64 (Int.tmod a0.1 6))))+s41.1.2.2.1)),((Int.tmod x43.1 (wrF .i64 (1+(wrF .i64 (Int.tmod a0.1 6))))),((wrF .i64 (1+(Int.tmod x44.1 20))),(Int.tmod x45.1 50))))::[]).length) 32) then some (0,((s41.1.1,((),())),((s41.2.1.1,(s41.2.1.2.1,((s41.2.1.2.2.1++(((wrF .i64 ((wrF .i64 (1+(wrF .i64 (Int.tmod a0.1 6))))+s41.1.2.2.1)),((Int.tmod x43.1 (wrF .i64 (1+(wrF .i64 (Int.tmod a0.1 6))))),((wrF .i64 (1+(Int.tmod x44.1 20))),(Int.tmod x45.1 50))))::[])),()))),())))
         else none
    else some (0,((s41.1.1,((),())),((s41.2.1.1,(s41.2.1.2.1,(s41.2.1.2.2.1,()))),())))) fun x55=>
   some (.inr ((x55.2.1.1,((),((wrF .i64 (s41.1.2.2.1+1)),()))),((x55.2.2.1.1,(x55.2.2.1.2.1,(x55.2.2.1.2.2.1,()))),())))
  else some (.inl (0,((s41.1.1,((),(s41.1.2.2.1,()))),((s41.2.1.1,(s41.2.1.2.1,(s41.2.1.2.2.1,()))),()))))) zL ((x40.2.1.1,((),(0,()))),((x40.2.2.1.1,(x40.2.2.1.2.1,(x40.2.2.1.2.2.1,()))),()))) fun x56=>
 opt (zD (fun s57:(((Int×(Int×((List Int)×((List Int)×((List Int)×(List Int))))))×(Unit×(Int×Unit)))×((Int×((List Bool)×((List (Int×(Int×(Int×Int))))×Unit)))×Unit))=>
  bif (zj (wrF .i64 (s57.1.2.2.1+1)) ((s57.1.1.2.2.1.length:Nat):Int)) then bif zj s57.1.2.2.1 12 then opt (atI s57.1.1.2.2.1 s57.1.2.2.1) fun x58=>
    bif (zh (wrF .i64 (1+(wrF .i64 (Int.tmod a0.1 6)))) 0) then none
    else opt (atI s57.1.1.2.2.1 (wrF .i64 (s57.1.2.2.1+1))) fun x59=>
     bif (zh (wrF .i64 (1+(wrF .i64 (Int.tmod a0.1 6)))) 0) then none
     else opt (jL (s57.1.1.2.2.2.2.1,(((s57.2.1.2.2.1.length:Nat):Int),()))) fun x60=>
      opt (jL (s57.1.1.2.2.2.2.2,(((s57.2.1.2.2.1.length:Nat):Int),()))) fun x61=>
      bif (zh ((s57.2.1.2.2.1.length:Nat):Int) 24) then some (.inr ((s57.1.1,((),((wrF .i64 (s57.1.2.2.1+2)),()))),((s57.2.1.1,(s57.2.1.2.1,(s57.2.1.2.2.1,()))),())))
      else opt (jY ((s57.2.1.1,(s57.2.1.2.1,s57.2.1.2.2.1)),(((Int.tmod (wrF .i64 x58) (wrF .i64 (1+(wrF .i64 (Int.tmod a0.1 6))))),((Int.tmod (wrF .i64 x59) (wrF .i64 (1+(wrF .i64 (Int.tmod a0.1 6))))),((wrF .i64 (1+(Int.tmod x60.1 20))),(Int.tmod x61.1 50)))),()))) fun x62=>
       bif !x62.1 then some (.inr ((s57.1.1,((),((wrF .i64 (s57.1.2.2.1+2)),()))),((s57.2.1.1,(s57.2.1.2.1,(s57.2.1.2.2.1,()))),())))
       else opt (zD (fun s63:(((Int×((List Bool)×(List (Int×(Int×(Int×Int))))))×(Int×Unit))×Unit)=>
         bif (zj s63.1.2.1 ((s57.2.1.2.2.1.length:Nat):Int)) then opt (atI s57.2.1.2.2.1 s63.1.2.1) fun x64=>
          opt (gl s57.2.1.2.2.1 (Int.toNat s63.1.2.1)) fun x65=>
          opt (qM (x65,((Int.tmod (wrF .i64 x58) (wrF .i64 (1+(wrF .i64 (Int.tmod a0.1 6))))),((Int.tmod (wrF .i64 x59) (wrF .i64 (1+(wrF .i64 (Int.tmod a0.1 6))))),())))) fun x66=>
          bif x66.1 then some (.inl s63)
          else some (.inr ((s63.1.1,((wrF .i64 (s63.1.2.1+1)),())),()))
         else some (.inl s63)) zL (((0,([],[])),(0,())),())) fun x67=>
        bif (zj x67.1.2.1 ((s57.2.1.2.2.1.length:Nat):Int)) then opt (atI s57.2.1.2.2.1 x67.1.2.1) fun x68=>
         opt (gl s57.2.1.2.2.1 (Int.toNat x67.1.2.1)) fun x69=>
         opt (qM (x69,((Int.tmod (wrF .i64 x58) (wrF .i64 (1+(wrF .i64 (Int.tmod a0.1 6))))),((Int.tmod (wrF .i64 x59) (wrF .i64 (1+(wrF .i64 (Int.tmod a0.1 6))))),())))) fun x70=>
         bif x70.1 then some (.inr ((s57.1.1,((),((wrF .i64 (s57.1.2.2.1+2)),()))),((s57.2.1.1,(s57.2.1.2.1,(s57.2.1.2.2.1,()))),())))
         else none
        else bif (qK s57.2.1.2.2.1.length ((((Int.tmod (wrF .i64 x58) (wrF .i64 (1+(wrF .i64 (Int.tmod a0.1 6))))),((Int.tmod (wrF .i64 x59) (wrF .i64 (1+(wrF .i64 (Int.tmod a0.1 6))))),((wrF .i64 (1+(Int.tmod x60.1 20))),(Int.tmod x61.1 50))))::[]).length) 32) then some (.inr ((s57.1.1,((),((wrF .i64 (s57.1.2.2.1+2)),()))),((s57.2.1.1,(s57.2.1.2.1,((s57.2.1.2.2.1++(((Int.tmod (wrF .i64 x58) (wrF .i64 (1+(wrF .i64 (Int.tmod a0.1 6))))),((Int.tmod (wrF .i64 x59) (wrF .i64 (1+(wrF .i64 (Int.tmod a0.1 6))))),((wrF .i64 (1+(Int.tmod x60.1 20))),(Int.tmod x61.1 50))))::[])),()))),())))
         else none
   else some (.inl (0,((s57.1.1,((),(s57.1.2.2.1,()))),((s57.2.1.1,(s57.2.1.2.1,(s57.2.1.2.2.1,()))),()))))
  else some (.inl (0,((s57.1.1,((),(s57.1.2.2.1,()))),((s57.2.1.1,(s57.2.1.2.1,(s57.2.1.2.2.1,()))),()))))) zL ((x56.2.1.1,((),(0,()))),((x56.2.2.1.1,(x56.2.2.1.2.1,(x56.2.2.1.2.2.1,()))),()))) fun x71=>
 some ((x71.2.2.1.1,(x71.2.2.1.2.1,x71.2.2.1.2.2.1)),())
abbrev kI:Type:=(XU×Unit)→Option (zK×Unit)
def zd1:zbl→YR→Wb→kI:=fun jL jY qM=>sF Tryz.prog [(62,⟨zgp,zgq,jL⟩),(68,⟨zbn,zbo,jY⟩),(69,⟨Gh,Gi,qM⟩)] zl9 (zP [(3,59),(8,59)] [(6,59)]) 30 32 WX WY
theorem znA (jL) (jY) (qM) (a0):zd1 jL jY qM (a0,())=KK jL jY qM a0:=by kernel_rfl
def wJ:kI:=zd1 kY uE xw
theorem zaU:Con.Ok Tryz.prog 32 ⟨WX,WY,wJ⟩:=zw (zd ztc (zd zh7 (zd zgw zi))) zo (by kernel_rfl)
theorem zjt (a0):wJ (a0,())=KK kY uE xw a0:=znA kY uE xw a0
abbrev zbp:List VT:=[⟨false,(.int .u8)⟩,⟨false,(.int .u8)⟩,⟨false,(.int .u8)⟩]
abbrev zbq:List VT:=[⟨true,Yk⟩]
def zq6:zT:=zO [cdF Yk] [] [] [] []
def zbr (a0:Int) (a1:Int) (a2:Int):Option (XV×Unit):=
 some (((wrF .i64 (100+(wrF .i64 (20*(wrF .i64 a0))))),((wrF .i64 (Int.tmod a1 40)),((wrF .i64 a2),8000))),())
abbrev Kd:Type:=(Int×Int×Int×Unit)→Option (XV×Unit)
def zh8:Kd:=sF Tryz.prog [] zq6 (zP []) 30 33 zbp zbq
theorem zth (a0) (a1) (a2):zh8 (a0,a1,a2,())=zbr a0 a1 a2:=by kernel_rfl
def ZY:Kd:=zh8
theorem znB:Con.Ok Tryz.prog 33 ⟨zbp,zbq,ZY⟩:=zw zi zo (by kernel_rfl)
theorem znC (a0) (a1) (a2):ZY (a0,a1,a2,())=zbr  a0 a1 a2:=zth  a0 a1 a2
abbrev Yt:List VT:=[⟨true,yX⟩]
abbrev Yu:List VT:=[⟨true,qf⟩]
def znD:zT:=zO [cdF yX,⟨qf,Ji qf,[7]⟩,cdF we,cdF vf,cdF zx,cdF zM,⟨(.pair (.int .u8) (.pair (.int .u8) (.int .u8))),Ji (.pair (.int .u8) (.pair (.int .u8) (.int .u8))),[]⟩,⟨zN,Ji zN,[0]⟩,cdF ZX,cdF qe] [] [⟨4,93,none,zN,true⟩,⟨7,93,none,zN,true⟩,⟨10,93,none,zN,true⟩,⟨3,55,none,qe,true⟩,⟨6,55,none,qe,true⟩,⟨8,55,none,qe,true⟩,⟨3,58,none,qe,true⟩,⟨6,58,none,qe,true⟩,⟨8,58,none,qe,true⟩] [(4,93,5,[0]),(4,93,3,[7]),(7,93,5,[0]),(10,93,5,[0]),(3,55,3,[0]),(3,58,3,[0])] [33]
def UF (jl:kI) (Qh:Kd) (a0:jU):Option (qo×Unit):=
 opt (jl (a0.1,())) fun x0=>
 opt (Qh (a0.2.2.1.1,(a0.2.2.1.2.1,(a0.2.2.1.2.2,())))) fun x1=>
 opt (zD (fun s2:((((Int×(Int×((List Int)×((List Int)×((List Int)×(List Int))))))×((List ((List Int)×(List Int)))×((Int×(Int×Int))×(Int×(Int×((List (Bool×(Bool×(Int×(Int×(Int×(Int×(Int×Int))))))))×(List Int)))))))×(Unit×(Int×Unit)))×(((Int×((List Bool)×(List (Int×(Int×(Int×Int))))))×((Int×(Int×(Int×Int)))×((List ((List (Int×Int))×Int))×(Int×Unit))))×Unit))=>
  bif (zj s2.1.2.2.1 (wrF .i64 (2*((s2.2.1.1.2.2.length:Nat):Int)))) then opt (zD (fun s3:((Unit×(Int×Unit))×(((List (Int×Int))×(Int×Unit))×Unit))=>
    bif (zj s3.1.2.1 (uC 1 (js 0 16))) then opt (bif zj s3.1.2.1 0 then none
      else some (0,(((127,1),()),()))) fun x4=>
     opt (bif zj s3.1.2.1 0 then none
      else some (0,((x4.2.1.1,()),()))) fun x5=>
     bif (qK s3.2.1.1.length ((x5.2.1.1::[]).length) 16) then some (.inr (((),((wrF .i64 (s3.1.2.1+1)),())),(((s3.2.1.1++(x5.2.1.1::[])),((wrF .i64 (s3.2.1.2.1+x5.2.1.1.2)),())),())))
     else none
    else some (.inl (0,(((),(s3.1.2.1,())),((s3.2.1.1,(s3.2.1.2.1,())),()))))) zL (((),(0,())),(([],(0,())),()))) fun x6=>
   opt (bif (zj 0 ((s2.1.1.2.1.length:Nat):Int)) then bif zj 0 (Int.tmod s2.1.2.2.1 3) then bif (zh ((s2.1.1.2.1.length:Nat):Int) 0) then none
      else opt (atI s2.1.1.2.1 (Int.tmod s2.1.2.2.1 ((s2.1.1.2.1.length:Nat):Int))) fun x7=>
       opt (zD (fun s8:((Unit×(Int×Unit))×(((List (Int×Int))×(Int×Unit))×Unit))=>
        bif (zj s8.1.2.1 (uC 1 (js ((x7.1.length:Nat):Int) 10))) then opt (bif (zj s8.1.2.1 ((x7.1.length:Nat):Int)) then opt (atI x7.1 s8.1.2.1) fun x9=>
           opt (atI (α:=Int) (128::(127::(127::(64::(255::(63::[])))))) (Int.tmod x9 6)) fun x10=>
           opt (gl (α:=Int) (128::(127::(127::(64::(255::(63::[])))))) (Int.toNat (Int.tmod x9 6))) fun x11=>
           some (0,(((x11,1),()),()))
          else some (0,(((127,1),()),()))) fun x12=>
         opt (bif (zj s8.1.2.1 ((x7.2.length:Nat):Int)) then opt (atI x7.2 s8.1.2.1) fun x13=>
           some (0,(((x12.2.1.1.1,(wrF .i64 (1+(wrF .i64 (4*(wrF .i64 x13)))))),()),()))
          else some (0,((x12.2.1.1,()),()))) fun x14=>
         bif (qK s8.2.1.1.length ((x14.2.1.1::[]).length) 16) then some (.inr (((),((wrF .i64 (s8.1.2.1+1)),())),(((s8.2.1.1++(x14.2.1.1::[])),((wrF .i64 (s8.2.1.2.1+x14.2.1.1.2)),())),())))
         else none
        else some (.inl (0,(((),(s8.1.2.1,())),((s8.2.1.1,(s8.2.1.2.1,())),()))))) zL (((),(0,())),(([],(0,())),()))) fun x15=>
       opt (zD (fun s16:((Unit×(Int×Unit))×(((List (Int×Int))×(Int×Unit))×Unit))=>
        bif (zj s16.1.2.1 ((s16.2.1.1.length:Nat):Int)) then opt (atI s16.2.1.1 s16.1.2.1) fun x17=>
         opt (gl s16.2.1.1 (Int.toNat s16.1.2.1)) fun x18=>
         opt (atI s16.2.1.1 s16.1.2.1) fun x19=>
         opt (gl s16.2.1.1 (Int.toNat s16.1.2.1)) fun x20=>
         some (.inr (((),((wrF .i64 (s16.1.2.1+1)),())),(((s16.2.1.1.set (Int.toNat s16.1.2.1) (x20.1,(wrF .i64 (40*x18.2)))),(s16.2.1.2.1,())),())))
        else some (.inl (0,(((),(s16.1.2.1,())),((s16.2.1.1,(s16.2.1.2.1,())),()))))) zL (((),(0,())),((x15.2.2.1.1,(x15.2.2.1.2.1,())),()))) fun x21=>
       some (0,((s2.1.1,((),())),((x21.2.2.1.1,((wrF .i64 (40*x21.2.2.1.2.1)),())),())))
     else some (0,((s2.1.1,((),())),((x6.2.2.1.1,(x6.2.2.1.2.1,())),())))
    else some (0,((s2.1.1,((),())),((x6.2.2.1.1,(x6.2.2.1.2.1,())),())))) fun x22=>
   bif (qK s2.2.1.2.2.1.length (((x22.2.2.1.1,x22.2.2.1.2.1)::[]).length) 32) then some (.inr ((x22.2.1.1,((),((wrF .i64 (s2.1.2.2.1+1)),()))),((s2.2.1.1,(s2.2.1.2.1,((s2.2.1.2.2.1++((x22.2.2.1.1,x22.2.2.1.2.1)::[])),(s2.2.1.2.2.2.1,())))),())))
   else none
  else some (.inl (0,((s2.1.1,((),(s2.1.2.2.1,()))),((s2.2.1.1,(s2.2.1.2.1,(s2.2.1.2.2.1,(s2.2.1.2.2.2.1,())))),()))))) zL ((a0,((),(0,()))),((x0.1,((x1.1.1,(x1.1.2.1,(x1.1.2.2.1,(wrF .i64 (2000+(wrF .i64 (200*(wrF .i64 a0.2.2.2.1)))))))),([],((wrF .i64 (339+(wrF .i64 (Int.tmod a0.2.2.2.2.1 500)))),())))),()))) fun x23=>
 some ((x23.2.2.1.1,(x23.2.2.1.2.1,(x23.2.2.1.2.2.1,x23.2.2.1.2.2.2.1))),())
abbrev UG:Type:=(jU×Unit)→Option (qo×Unit)
def zfl:kI→Kd→UG:=fun jl Qh=>sF Tryz.prog [(32,⟨WX,WY,jl⟩),(33,⟨zbp,zbq,Qh⟩)] znD (zP []) 30 10 Yt Yu
theorem zpp (jl) (Qh) (a0):zfl jl Qh (a0,())=UF jl Qh a0:=by kernel_rfl
def vT:UG:=zfl wJ ZY
theorem zkK:Con.Ok Tryz.prog 10 ⟨Yt,Yu,vT⟩:=zw (zd zaU (zd znB zi)) zo (by kernel_rfl)
theorem zkL (a0):vT (a0,())=UF wJ ZY a0:=zpp wJ ZY a0
abbrev Jj:List VT:=[⟨true,zx⟩,⟨false,I⟩]
abbrev Jk:List VT:=[⟨false,I⟩]
def zxA:zT:=zO [cdF zx,cdF zM] [] [] [] []
def zgx (a0:zK) (a1:Int):Option (Int×Unit):=
 opt (atI a0.2.2 (wrF .i64 (Int.tdiv a1 2))) fun x0=>
 bif zh (Int.tmod a1 2) 1 then some (x0.2.1,())
 else some (x0.1,())
abbrev xx:Type:=(zK×Int×Unit)→Option (Int×Unit)
def znE:xx:=sF Tryz.prog [] zxA (zP []) 30 88 Jj Jk
theorem zAp (a0) (a1):znE (a0,a1,())=zgx a0 a1:=by kernel_rfl
def jt:xx:=znE
theorem WZ:Con.Ok Tryz.prog 88 ⟨Jj,Jk,jt⟩:=zw zi zo (by kernel_rfl)
theorem zti (a0) (a1):jt (a0,a1,())=zgx  a0 a1:=zAp  a0 a1
abbrev zen:List VT:=[⟨true,zx⟩,⟨false,I⟩]
abbrev zeo:List VT:=[⟨false,(.list I)⟩]
def zvt:zT:=zO [cdF zx,cdF zM] [] [⟨3,25,some 4,I,false⟩,⟨3,25,some 5,I,true⟩,⟨5,25,some 4,I,false⟩,⟨5,25,some 5,I,true⟩] [] [88]
def zep (qi:xx) (a0:zK) (a1:Int):Option ((List Int)×Unit):=
 opt (zD (fun s0:((Int×Unit)×((List Int)×Unit))=>
  bif (zj s0.1.1 (wrF .i64 (2*((a0.2.2.length:Nat):Int)))) then opt (opt (qi (a0,(s0.1.1,()))) fun x1=>
    bif zh x1.1 a1 then bif (qK s0.2.1.length ((s0.1.1::[]).length) 8) then some (0,((),((s0.2.1++(s0.1.1::[])),())))
     else none
    else some (0,((),(s0.2.1,())))) fun x2=>
   some (.inr (((wrF .i64 (s0.1.1+1)),()),(x2.2.2.1,())))
  else some (.inl (0,((s0.1.1,()),(s0.2.1,()))))) zL ((0,()),([],()))) fun x3=>
 some (x3.2.2.1,())
abbrev Gj:Type:=(zK×Int×Unit)→Option ((List Int)×Unit)
def zlr:xx→Gj:=fun qi=>sF Tryz.prog [(88,⟨Jj,Jk,qi⟩)] zvt (zP []) 30 161 zen zeo
theorem zxB (qi) (a0) (a1):zlr qi (a0,a1,())=zep qi a0 a1:=by kernel_rfl
def Wc:Gj:=zlr jt
theorem zq7:Con.Ok Tryz.prog 161 ⟨zen,zeo,Wc⟩:=zw (zd WZ zi) zo (by kernel_rfl)
theorem zq8 (a0) (a1):Wc (a0,a1,())=zep jt a0 a1:=zxB jt a0 a1
abbrev Up:List VT:=[⟨true,zx⟩,⟨false,I⟩]
abbrev Uq:List VT:=[⟨false,I⟩]
def zBv:zT:=zO [cdF zx,cdF zM] [] [] [] []
def zkM (a0:zK) (a1:Int):Option (Int×Unit):=
 opt (atI a0.2.2 (wrF .i64 (Int.tdiv a1 2))) fun x0=>
 bif zh (Int.tmod a1 2) 1 then some (x0.1,())
 else some (x0.2.1,())
abbrev ZI:Type:=(zK×Int×Unit)→Option (Int×Unit)
def ztj:ZI:=sF Tryz.prog [] zBv (zP []) 30 89 Up Uq
theorem zDw (a0) (a1):ztj (a0,a1,())=zkM a0 a1:=by kernel_rfl
def yc:ZI:=ztj
theorem Gk:Con.Ok Tryz.prog 89 ⟨Up,Uq,yc⟩:=zw zi zo (by kernel_rfl)
theorem zxC (a0) (a1):yc (a0,a1,())=zkM  a0 a1:=zDw  a0 a1
abbrev Ur:List VT:=[⟨false,(.list I)⟩,⟨false,I⟩]
abbrev Us:List VT:=[⟨false,.bool⟩]
def zBw:zT:=zO [] [] [] [] []
def zkN (a0:(List Int)) (a1:Int):Option (Bool×Unit):=
 opt (zD (fun s0:((Bool×(Int×Unit))×Unit)=>
  bif (zj s0.1.2.1 ((a0.length:Nat):Int)) then opt (atI a0 s0.1.2.1) fun x1=>
   bif zh x1 a1 then some (.inl (1,((true,(s0.1.2.1,())),())))
   else some (.inr ((s0.1.1,((wrF .i64 (s0.1.2.1+1)),())),()))
  else some (.inl (0,((s0.1.1,(s0.1.2.1,())),())))) zL ((false,(0,())),())) fun x2=>
 bif Nat.beq x2.1 0 then some (false,())
 else some (x2.2.1.1,())
abbrev ZJ:Type:=((List Int)×Int×Unit)→Option (Bool×Unit)
def ztk:ZJ:=sF Tryz.prog [] zBw (zP []) 30 98 Ur Us
theorem zDx (a0) (a1):ztk (a0,a1,())=zkN a0 a1:=by kernel_rfl
def yN:ZJ:=ztk
theorem Gl:Con.Ok Tryz.prog 98 ⟨Ur,Us,yN⟩:=zw zi zo (by kernel_rfl)
theorem zxD (a0) (a1):yN (a0,a1,())=zkN  a0 a1:=zDx  a0 a1
abbrev zgy:List VT:=[⟨true,zx⟩,⟨false,(.int .u8)⟩,⟨false,(.int .u8)⟩]
abbrev zgz:List VT:=[⟨false,(.list I)⟩]
def zxE:zT:=zO [cdF zx,cdF zM] [] [⟨4,90,some 6,I,false⟩,⟨4,90,some 9,I,true⟩,⟨4,90,some 10,I,true⟩,⟨8,90,some 6,I,false⟩,⟨8,90,some 9,I,true⟩,⟨8,90,some 10,I,true⟩,⟨10,90,some 6,I,false⟩,⟨10,90,some 9,I,true⟩,⟨10,90,some 10,I,true⟩,⟨12,90,some 6,I,false⟩,⟨12,90,some 9,I,true⟩,⟨12,90,some 10,I,true⟩] [] [89,98]
def zgA (kj:Gj) (qv:ZI) (qJ:ZJ) (a0:zK) (a1:Int) (a2:Int):Option ((List Int)×Unit):=
 bif zh a0.1 0 then none
 else opt (zD (fun s0:(((Int×((List Bool)×(List (Int×(Int×(Int×Int))))))×((List Int)×(Int×Unit)))×((List Int)×((List Int)×Unit)))=>
   bif (zj ((s0.2.1.length:Nat):Int) 8) then bif (zh ((s0.2.1.length:Nat):Int) 0) then opt (kj (s0.1.1,(s0.1.2.2.1,()))) fun x1=>
     opt (zD (fun s2:((Int×Unit)×((List Int)×((List Int)×Unit)))=>
      bif (zj s2.1.1 ((x1.1.length:Nat):Int)) then opt (opt (atI x1.1 s2.1.1) fun x3=>
        opt (qv (s0.1.1,(x3,()))) fun x4=>
        opt (qJ (s2.2.1,(x4.1,()))) fun x5=>
        bif !x5.1 then opt (atI x1.1 s2.1.1) fun x6=>
         bif (qK s2.2.2.1.length ((x6::[]).length) 8) then some (0,((),(s2.2.1,((s2.2.2.1++(x6::[])),()))))
         else none
        else some (0,((),(s2.2.1,(s2.2.2.1,()))))) fun x7=>
       some (.inr (((wrF .i64 (s2.1.1+1)),()),(x7.2.2.1,(x7.2.2.2.1,()))))
      else some (.inl (0,((s2.1.1,()),(s2.2.1,(s2.2.2.1,())))))) zL ((0,()),(s0.2.2.1,([],())))) fun x8=>
     bif (zh ((x8.2.2.2.1.length:Nat):Int) 0) then some (.inl s0)
     else bif (zh ((x8.2.2.2.1.length:Nat):Int) 0) then none
      else opt (atI x8.2.2.2.1 (Int.tmod (wrF .i64 ((wrF .i64 a2)+(wrF .i64 (3*((s0.2.1.length:Nat):Int))))) ((x8.2.2.2.1.length:Nat):Int))) fun x9=>
       opt (gl x8.2.2.2.1 (Int.toNat (Int.tmod (wrF .i64 ((wrF .i64 a2)+(wrF .i64 (3*((s0.2.1.length:Nat):Int))))) ((x8.2.2.2.1.length:Nat):Int)))) fun x10=>
       bif (qK s0.2.1.length ((x10::[]).length) 8) then opt (qv (s0.1.1,(x10,()))) fun x11=>
        bif (qK x8.2.2.1.length ((x11.1::[]).length) 8) then some (.inr ((s0.1.1,(s0.1.2.1,(x11.1,()))),((s0.2.1++(x10::[])),((x8.2.2.1++(x11.1::[])),()))))
        else none
       else none
    else opt (atI s0.1.1.2.1 s0.1.2.2.1) fun x12=>
     bif !x12 then opt (kj (s0.1.1,(s0.1.2.2.1,()))) fun x13=>
      opt (zD (fun s14:((Int×Unit)×((List Int)×((List Int)×Unit)))=>
       bif (zj s14.1.1 ((x13.1.length:Nat):Int)) then opt (opt (atI x13.1 s14.1.1) fun x15=>
         opt (qv (s0.1.1,(x15,()))) fun x16=>
         opt (qJ (s14.2.1,(x16.1,()))) fun x17=>
         bif !x17.1 then opt (atI x13.1 s14.1.1) fun x18=>
          bif (qK s14.2.2.1.length ((x18::[]).length) 8) then some (0,((),(s14.2.1,((s14.2.2.1++(x18::[])),()))))
          else none
         else some (0,((),(s14.2.1,(s14.2.2.1,()))))) fun x19=>
        some (.inr (((wrF .i64 (s14.1.1+1)),()),(x19.2.2.1,(x19.2.2.2.1,()))))
       else some (.inl (0,((s14.1.1,()),(s14.2.1,(s14.2.2.1,())))))) zL ((0,()),(s0.2.2.1,([],())))) fun x20=>
      bif (zh ((x20.2.2.2.1.length:Nat):Int) 0) then some (.inl s0)
      else bif (zh ((x20.2.2.2.1.length:Nat):Int) 0) then none
       else opt (atI x20.2.2.2.1 (Int.tmod (wrF .i64 ((wrF .i64 a2)+(wrF .i64 (3*((s0.2.1.length:Nat):Int))))) ((x20.2.2.2.1.length:Nat):Int))) fun x21=>
        opt (gl x20.2.2.2.1 (Int.toNat (Int.tmod (wrF .i64 ((wrF .i64 a2)+(wrF .i64 (3*((s0.2.1.length:Nat):Int))))) ((x20.2.2.2.1.length:Nat):Int)))) fun x22=>
        bif (qK s0.2.1.length ((x22::[]).length) 8) then opt (qv (s0.1.1,(x22,()))) fun x23=>
         bif (qK x20.2.2.1.length ((x23.1::[]).length) 8) then some (.inr ((s0.1.1,(s0.1.2.1,(x23.1,()))),((s0.2.1++(x22::[])),((x20.2.2.1++(x23.1::[])),()))))
         else none
        else none
     else some (.inl s0)
   else some (.inl s0)) zL ((a0,([],((Int.tmod (wrF .i64 a1) a0.1),()))),([],(((Int.tmod (wrF .i64 a1) a0.1)::[]),())))) fun x24=>
  bif (zj ((x24.2.1.length:Nat):Int) 8) then bif (zh ((x24.2.1.length:Nat):Int) 0) then opt (kj (x24.1.1,(x24.1.2.2.1,()))) fun x25=>
    opt (zD (fun s26:((Int×Unit)×((List Int)×((List Int)×Unit)))=>
     bif (zj s26.1.1 ((x25.1.length:Nat):Int)) then opt (opt (atI x25.1 s26.1.1) fun x27=>
       opt (qv (x24.1.1,(x27,()))) fun x28=>
       opt (qJ (s26.2.1,(x28.1,()))) fun x29=>
       bif !x29.1 then opt (atI x25.1 s26.1.1) fun x30=>
        bif (qK s26.2.2.1.length ((x30::[]).length) 8) then some (0,((),(s26.2.1,((s26.2.2.1++(x30::[])),()))))
        else none
       else some (0,((),(s26.2.1,(s26.2.2.1,()))))) fun x31=>
      some (.inr (((wrF .i64 (s26.1.1+1)),()),(x31.2.2.1,(x31.2.2.2.1,()))))
     else some (.inl (0,((s26.1.1,()),(s26.2.1,(s26.2.2.1,())))))) zL ((0,()),(x24.2.2.1,([],())))) fun x32=>
    bif (zh ((x32.2.2.2.1.length:Nat):Int) 0) then some (x24.2.1,())
    else bif (zh ((x32.2.2.2.1.length:Nat):Int) 0) then none
     else opt (atI x32.2.2.2.1 (Int.tmod (wrF .i64 ((wrF .i64 a2)+(wrF .i64 (3*((x24.2.1.length:Nat):Int))))) ((x32.2.2.2.1.length:Nat):Int))) fun x33=>
      opt (gl x32.2.2.2.1 (Int.toNat (Int.tmod (wrF .i64 ((wrF .i64 a2)+(wrF .i64 (3*((x24.2.1.length:Nat):Int))))) ((x32.2.2.2.1.length:Nat):Int)))) fun x34=>
      bif (qK x24.2.1.length ((x34::[]).length) 8) then opt (qv (x24.1.1,(x34,()))) fun x35=>
       bif (qK x32.2.2.1.length ((x35.1::[]).length) 8) then none
       else none
      else none
   else opt (atI x24.1.1.2.1 x24.1.2.2.1) fun x36=>
    bif !x36 then opt (kj (x24.1.1,(x24.1.2.2.1,()))) fun x37=>
     opt (zD (fun s38:((Int×Unit)×((List Int)×((List Int)×Unit)))=>
      bif (zj s38.1.1 ((x37.1.length:Nat):Int)) then opt (opt (atI x37.1 s38.1.1) fun x39=>
        opt (qv (x24.1.1,(x39,()))) fun x40=>
        opt (qJ (s38.2.1,(x40.1,()))) fun x41=>
        bif !x41.1 then opt (atI x37.1 s38.1.1) fun x42=>
         bif (qK s38.2.2.1.length ((x42::[]).length) 8) then some (0,((),(s38.2.1,((s38.2.2.1++(x42::[])),()))))
         else none
        else some (0,((),(s38.2.1,(s38.2.2.1,()))))) fun x43=>
       some (.inr (((wrF .i64 (s38.1.1+1)),()),(x43.2.2.1,(x43.2.2.2.1,()))))
      else some (.inl (0,((s38.1.1,()),(s38.2.1,(s38.2.2.1,())))))) zL ((0,()),(x24.2.2.1,([],())))) fun x44=>
     bif (zh ((x44.2.2.2.1.length:Nat):Int) 0) then some (x24.2.1,())
     else bif (zh ((x44.2.2.2.1.length:Nat):Int) 0) then none
      else opt (atI x44.2.2.2.1 (Int.tmod (wrF .i64 ((wrF .i64 a2)+(wrF .i64 (3*((x24.2.1.length:Nat):Int))))) ((x44.2.2.2.1.length:Nat):Int))) fun x45=>
       opt (gl x44.2.2.2.1 (Int.toNat (Int.tmod (wrF .i64 ((wrF .i64 a2)+(wrF .i64 (3*((x24.2.1.length:Nat):Int))))) ((x44.2.2.2.1.length:Nat):Int)))) fun x46=>
       bif (qK x24.2.1.length ((x46::[]).length) 8) then opt (qv (x24.1.1,(x46,()))) fun x47=>
        bif (qK x44.2.2.1.length ((x47.1::[]).length) 8) then none
        else none
       else none
    else some (x24.2.1,())
  else some (x24.2.1,())
abbrev zbt:Type:=(zK×Int×Int×Unit)→Option ((List Int)×Unit)
def znF:Gj→ZI→ZJ→zbt:=fun kj qv qJ=>sF Tryz.prog [(161,⟨zen,zeo,kj⟩),(89,⟨Up,Uq,qv⟩),(98,⟨Ur,Us,qJ⟩)] zxE (zP [] [(4,90)]) 30 131 zgy zgz
theorem zAq (kj) (qv) (qJ) (a0) (a1) (a2):znF kj qv qJ (a0,a1,a2,())=zgA kj qv qJ a0 a1 a2:=by kernel_rfl
def ZO:zbt:=znF Wc yc yN
theorem ztl:Con.Ok Tryz.prog 131 ⟨zgy,zgz,ZO⟩:=zw (zd zq7 (zd Gk (zd Gl zi))) zo (by kernel_rfl)
theorem ztm (a0) (a1) (a2):ZO (a0,a1,a2,())=zgA Wc yc yN a0 a1 a2:=zAq Wc yc yN a0 a1 a2
abbrev zgB:List VT:=[⟨true,zx⟩,⟨false,I⟩]
abbrev zgC:List VT:=[⟨false,.bool⟩]
def zxF:zT:=zO [cdF zx,cdF zM] [] [] [] []
def zgD (a0:zK) (a1:Int):Option (Bool×Unit):=
 bif !(zj a1 0) then some ((zj a1 (wrF .i64 (2*((a0.2.2.length:Nat):Int)))),())
 else some (false,())
abbrev zbu:Type:=(zK×Int×Unit)→Option (Bool×Unit)
def znG:zbu:=sF Tryz.prog [] zxF (zP []) 30 160 zgB zgC
theorem zAr (a0) (a1):znG (a0,a1,())=zgD a0 a1:=by kernel_rfl
def YS:zbu:=znG
theorem ztn:Con.Ok Tryz.prog 160 ⟨zgB,zgC,YS⟩:=zw zi zo (by kernel_rfl)
theorem zto (a0) (a1):YS (a0,a1,())=zgD  a0 a1:=zAr  a0 a1
abbrev Gm:List VT:=[⟨true,zx⟩,⟨false,(.list I)⟩]
abbrev Gn:List VT:=[⟨false,(.list I)⟩]
def zvu:zT:=zO [cdF zx,cdF zM] [] [⟨3,29,some 4,I,false⟩] [] [88,89]
def zeq (qi:xx) (qv:ZI) (a0:zK) (a1:(List Int)):Option ((List Int)×Unit):=
 opt (atI a1 0) fun x0=>
 opt (qi (a0,(x0,()))) fun x1=>
 opt (zD (fun s2:((Int×Unit)×((List Int)×Unit))=>
  bif (zj s2.1.1 ((a1.length:Nat):Int)) then opt (atI a1 s2.1.1) fun x3=>
   opt (qv (a0,(x3,()))) fun x4=>
   bif (qK s2.2.1.length ((x4.1::[]).length) 8) then some (.inr (((wrF .i64 (s2.1.1+1)),()),((s2.2.1++(x4.1::[])),())))
   else none
  else some (.inl (0,((s2.1.1,()),(s2.2.1,()))))) zL ((0,()),((x1.1::[]),()))) fun x5=>
 some (x5.2.2.1,())
abbrev Wd:Type:=(zK×(List Int)×Unit)→Option ((List Int)×Unit)
def zls:xx→ZI→Wd:=fun qi qv=>sF Tryz.prog [(88,⟨Jj,Jk,qi⟩),(89,⟨Up,Uq,qv⟩)] zvu (zP []) 30 133 Gm Gn
theorem zxG (qi) (qv) (a0) (a1):zls qi qv (a0,a1,())=zeq qi qv a0 a1:=by kernel_rfl
def uH:Wd:=zls jt yc
theorem zgE:Con.Ok Tryz.prog 133 ⟨Gm,Gn,uH⟩:=zw (zd WZ (zd Gk zi)) zo (by kernel_rfl)
theorem zq9 (a0) (a1):uH (a0,a1,())=zeq jt yc a0 a1:=zxG jt yc a0 a1
abbrev Gp:List VT:=[⟨true,zx⟩,⟨false,(.list I)⟩]
abbrev Gq:List VT:=[⟨false,.bool⟩]
def zvv:zT:=zO [cdF zx,cdF zM] [] [] [] [160,98,88]
def zer (Xv:zbu) (jT:Wd) (qJ:ZJ) (qi:xx) (a0:zK) (a1:(List Int)):Option (Bool×Unit):=
 opt (bif (zj ((a1.length:Nat):Int) 1) then some (1,((false,()),()))
  else bif (zj 8 ((a1.length:Nat):Int)) then some (1,((false,()),()))
   else some (0,((false,()),()))) fun x0=>
 bif Nat.beq x0.1 0 then opt (zD (fun s1:((Bool×(Int×Unit))×Unit)=>
   bif (zj s1.1.2.1 ((a1.length:Nat):Int)) then opt (atI a1 s1.1.2.1) fun x2=>
    opt (Xv (a0,(x2,()))) fun x3=>
    bif !x3.1 then some (.inl (1,((false,(s1.1.2.1,())),())))
    else some (.inr ((s1.1.1,((wrF .i64 (s1.1.2.1+1)),())),()))
   else some (.inl (0,((s1.1.1,(s1.1.2.1,())),())))) zL ((x0.2.1.1,(0,())),())) fun x4=>
  bif Nat.beq x4.1 0 then opt (jT (a0,(a1,()))) fun x5=>
   opt (zD (fun s6:((Bool×(Int×Unit))×Unit)=>
    bif (zj s6.1.2.1 ((x5.1.length:Nat):Int)) then opt (QG x5.1 none (some s6.1.2.1) none) fun x7=>
     opt (atI x5.1 s6.1.2.1) fun x8=>
     opt (qJ (x7,(x8,()))) fun x9=>
     bif x9.1 then some (.inl (1,((false,(s6.1.2.1,())),())))
     else opt (bif zj 0 s6.1.2.1 then bif (zj s6.1.2.1 ((a1.length:Nat):Int)) then opt (atI x5.1 s6.1.2.1) fun x10=>
         opt (atI a0.2.1 x10) fun x11=>
         bif x11 then some (1,((false,()),()))
         else opt (atI a1 s6.1.2.1) fun x12=>
          opt (qi (a0,(x12,()))) fun x13=>
          opt (atI x5.1 s6.1.2.1) fun x14=>
          bif !(zh x13.1 x14) then some (1,((false,()),()))
          else some (0,((s6.1.1,()),()))
        else some (0,((s6.1.1,()),()))
       else some (0,((s6.1.1,()),()))) fun x15=>
      bif Nat.beq x15.1 0 then some (.inr ((x15.2.1.1,((wrF .i64 (s6.1.2.1+1)),())),()))
      else some (.inl (1,((x15.2.1.1,(s6.1.2.1,())),())))
    else some (.inl (0,((s6.1.1,(s6.1.2.1,())),())))) zL ((x4.2.1.1,(0,())),())) fun x16=>
   bif Nat.beq x16.1 0 then some (true,())
   else some (x16.2.1.1,())
  else some (x4.2.1.1,())
 else some (x0.2.1.1,())
abbrev We:Type:=(zK×(List Int)×Unit)→Option (Bool×Unit)
def zlt:zbu→Wd→ZJ→xx→We:=fun Xv jT qJ qi=>sF Tryz.prog [(160,⟨zgB,zgC,Xv⟩),(133,⟨Gm,Gn,jT⟩),(98,⟨Ur,Us,qJ⟩),(88,⟨Jj,Jk,qi⟩)] zvv (zP []) 30 129 Gp Gq
theorem zxH (Xv) (jT) (qJ) (qi) (a0) (a1):zlt Xv jT qJ qi (a0,a1,())=zer Xv jT qJ qi a0 a1:=by kernel_rfl
def vD:We:=zlt YS uH yN jt
theorem zgF:Con.Ok Tryz.prog 129 ⟨Gp,Gq,vD⟩:=zw (zd ztn (zd zgE (zd Gl (zd WZ zi)))) zo (by kernel_rfl)
theorem zra (a0) (a1):vD (a0,a1,())=zer YS uH yN jt a0 a1:=zxH YS uH yN jt a0 a1
abbrev zbv:List VT:=[⟨false,(.list I)⟩,⟨false,(.list I)⟩]
abbrev zbw:List VT:=[⟨false,.bool⟩]
def zrb:zT:=zO [] [] [] [] [98]
def zbx (qJ:ZJ) (a0:(List Int)) (a1:(List Int)):Option (Bool×Unit):=
 opt (zD (fun s0:((Bool×(Int×Unit))×Unit)=>
  bif (zj s0.1.2.1 (wrF .i64 (((a0.length:Nat):Int) - 1))) then opt (atI a0 s0.1.2.1) fun x1=>
   opt (qJ (a1,(x1,()))) fun x2=>
   bif x2.1 then some (.inl (1,((true,(s0.1.2.1,())),())))
   else some (.inr ((s0.1.1,((wrF .i64 (s0.1.2.1+1)),())),()))
  else some (.inl (0,((s0.1.1,(s0.1.2.1,())),())))) zL ((false,(1,())),())) fun x3=>
 bif Nat.beq x3.1 0 then some (false,())
 else some (x3.2.1.1,())
abbrev Ke:Type:=((List Int)×(List Int)×Unit)→Option (Bool×Unit)
def zh9:ZJ→Ke:=fun qJ=>sF Tryz.prog [(98,⟨Ur,Us,qJ⟩)] zrb (zP []) 30 132 zbv zbw
theorem ztp (qJ) (a0) (a1):zh9 qJ (a0,a1,())=zbx qJ a0 a1:=by kernel_rfl
def ZZ:Ke:=zh9 yN
theorem znH:Con.Ok Tryz.prog 132 ⟨zbv,zbw,ZZ⟩:=zw (zd Gl zi) zo (by kernel_rfl)
theorem znI (a0) (a1):ZZ (a0,a1,())=zbx yN a0 a1:=ztp yN a0 a1
abbrev Gr:List VT:=[⟨true,zx⟩,⟨false,(.list I)⟩,⟨false,(.list I)⟩]
abbrev Gs:List VT:=[⟨false,.bool⟩]
def zvw:zT:=zO [cdF zx,cdF zM] [] [] [] [132]
def zes (jT:Wd) (gu:Ke) (a0:zK) (a1:(List Int)) (a2:(List Int)):Option (Bool×Unit):=
 opt (zD (fun s0:((Bool×(Int×Unit))×Unit)=>
  bif (zj s0.1.2.1 ((a1.length:Nat):Int)) then opt (zD (fun s1:((Bool×(Int×Unit))×Unit)=>
    bif (zj s1.1.2.1 ((a2.length:Nat):Int)) then opt (atI a1 s0.1.2.1) fun x2=>
     opt (atI a2 s1.1.2.1) fun x3=>
     bif (zh (wrF .i64 (Int.tdiv x2 2)) (wrF .i64 (Int.tdiv x3 2))) then some (.inl (1,((false,(s1.1.2.1,())),())))
     else some (.inr ((s1.1.1,((wrF .i64 (s1.1.2.1+1)),())),()))
    else some (.inl (0,((s1.1.1,(s1.1.2.1,())),())))) zL ((s0.1.1,(0,())),())) fun x4=>
   bif Nat.beq x4.1 0 then some (.inr ((x4.2.1.1,((wrF .i64 (s0.1.2.1+1)),())),()))
   else some (.inl (1,((x4.2.1.1,(s0.1.2.1,())),())))
  else some (.inl (0,((s0.1.1,(s0.1.2.1,())),())))) zL ((false,(0,())),())) fun x5=>
 bif Nat.beq x5.1 0 then opt (jT (a0,(a1,()))) fun x6=>
  opt (jT (a0,(a2,()))) fun x7=>
  opt (gu (x6.1,(x7.1,()))) fun x8=>
  bif !x8.1 then opt (jT (a0,(a2,()))) fun x9=>
   opt (jT (a0,(a1,()))) fun x10=>
   opt (gu (x9.1,(x10.1,()))) fun x11=>
   some ((!x11.1),())
  else some (false,())
 else some (x5.2.1.1,())
abbrev Wf:Type:=(zK×(List Int)×(List Int)×Unit)→Option (Bool×Unit)
def zlu:Wd→Ke→Wf:=fun jT gu=>sF Tryz.prog [(133,⟨Gm,Gn,jT⟩),(132,⟨zbv,zbw,gu⟩)] zvw (zP []) 30 90 Gr Gs
theorem zxI (jT) (gu) (a0) (a1) (a2):zlu jT gu (a0,a1,a2,())=zes jT gu a0 a1 a2:=by kernel_rfl
def uI:Wf:=zlu uH ZZ
theorem zgG:Con.Ok Tryz.prog 90 ⟨Gr,Gs,uI⟩:=zw (zd zgE (zd znH zi)) zo (by kernel_rfl)
theorem zrc (a0) (a1) (a2):uI (a0,a1,a2,())=zes uH ZZ a0 a1 a2:=zxI uH ZZ a0 a1 a2
abbrev zby:List VT:=[⟨false,I⟩,⟨false,I⟩,⟨false,I⟩]
abbrev zbz:List VT:=[⟨false,.bool⟩]
def zBx:zT:=zO [] [] [] [] []
def zkO (a0:Int) (a1:Int) (a2:Int):Option (Bool×Unit):=
 bif !(zj a0 a1) then some ((!(zj a2 a0)),())
 else some (false,())
abbrev Ya:Type:=(Int×Int×Int×Unit)→Option (Bool×Unit)
def ztq:Ya:=sF Tryz.prog [] zBx (zP []) 30 71 zby zbz
theorem zDy (a0) (a1) (a2):ztq (a0,a1,a2,())=zkO a0 a1 a2:=by kernel_rfl
def uJ:Ya:=ztq
theorem zet:Con.Ok Tryz.prog 71 ⟨zby,zbz,uJ⟩:=zw zi zo (by kernel_rfl)
theorem zxJ (a0) (a1) (a2):uJ (a0,a1,a2,())=zkO  a0 a1 a2:=zDy  a0 a1 a2
abbrev zbA:List VT:=[⟨true,zx⟩,⟨false,I⟩]
abbrev zbB:List VT:=[⟨false,.bool⟩]
def zrd:zT:=zO [cdF zx,cdF zM] [] [] [] [71]
def zbC (qP:Ya) (a0:zK) (a1:Int):Option (Bool×Unit):=
 opt (qP (a1,(0,((wrF .i64 (a0.1 - 1)),())))) fun x0=>
 bif x0.1 then opt (atI a0.2.1 a1) fun x1=>
  some (x1,())
 else some (false,())
abbrev Kf:Type:=(zK×Int×Unit)→Option (Bool×Unit)
def zia:Ya→Kf:=fun qP=>sF Tryz.prog [(71,⟨zby,zbz,qP⟩)] zrd (zP []) 30 128 zbA zbB
theorem ztr (qP) (a0) (a1):zia qP (a0,a1,())=zbC qP a0 a1:=by kernel_rfl
def Qa:Kf:=zia uJ
theorem znJ:Con.Ok Tryz.prog 128 ⟨zbA,zbB,Qa⟩:=zw (zd zet zi) zo (by kernel_rfl)
theorem znK (a0) (a1):Qa (a0,a1,())=zbC uJ a0 a1:=ztr uJ a0 a1
abbrev Vv:List VT:=[⟨true,zx⟩,⟨true,zr⟩]
abbrev Vw:List VT:=[⟨false,.bool⟩]
def zvx:zT:=zO [cdF zr,cdF zx,cdF zM,cdF zv] [] [] [] [71,128,129,88,89,90]
def zeu (qP:Ya) (gv:Kf) (wQ:We) (qi:xx) (qv:ZI) (yl:Wf) (a0:zK) (a1:zA):Option (Bool×Unit):=
 opt (opt (qP (a1.1,(1,(4095,())))) fun x0=>
  bif !x0.1 then some (1,((false,()),()))
  else opt (gv (a0,(a1.2.1,()))) fun x1=>
   bif !x1.1 then some (1,((false,()),()))
   else opt (gv (a0,(a1.2.2.1,()))) fun x2=>
    bif !x2.1 then some (1,((false,()),()))
    else bif zh a1.2.1 a1.2.2.1 then some (1,((false,()),()))
     else opt (qP (a1.2.2.2.2.1,(84,(1542,())))) fun x3=>
      bif !x3.1 then some (1,((false,()),()))
      else opt (qP (a1.2.2.2.2.2.2.2.1,(1,(1099511627776,())))) fun x4=>
       bif !x4.1 then some (1,((false,()),()))
       else some (0,((false,()),()))) fun x5=>
 bif Nat.beq x5.1 0 then opt (bif zh a1.2.2.2.1 7 then opt (opt (qP (a1.2.2.2.2.2.1,(1,(240,())))) fun x6=>
     bif !x6.1 then some (1,((false,()),()))
     else bif (!((zh a1.2.2.2.2.2.2.1.1 0)&&((zh a1.2.2.2.2.2.2.1.2 0)&&true))) then some (1,((false,()),()))
      else some (0,((x5.2.1.1,()),()))) fun x7=>
    bif Nat.beq x7.1 0 then some (0,((x7.2.1.1,()),()))
    else some (1,((x7.2.1.1,()),()))
   else bif zh a1.2.2.2.1 6 then opt (bif !(zh a1.2.2.2.2.2.1 0) then some (1,((false,()),()))
      else opt (qP (a1.2.2.2.2.2.2.1.1,(a1.2.2.2.2.1,(1048576,())))) fun x8=>
       bif !x8.1 then some (1,((false,()),()))
       else opt (qP (a1.2.2.2.2.2.2.1.2,(1,(2097152,())))) fun x9=>
        bif !x9.1 then some (1,((false,()),()))
        else some (0,((x5.2.1.1,()),()))) fun x10=>
     bif Nat.beq x10.1 0 then some (0,((x10.2.1.1,()),()))
     else some (1,((x10.2.1.1,()),()))
    else some (1,((false,()),()))) fun x11=>
  bif Nat.beq x11.1 0 then opt (bif (zj ((a1.2.2.2.2.2.2.2.2.length:Nat):Int) 1) then some (1,((false,()),()))
    else bif (zj 2 ((a1.2.2.2.2.2.2.2.2.length:Nat):Int)) then some (1,((false,()),()))
     else some (0,((x11.2.1.1,()),()))) fun x12=>
   bif Nat.beq x12.1 0 then opt (zD (fun s13:((Bool×(Int×Unit))×Unit)=>
     bif (zj s13.1.2.1 ((a1.2.2.2.2.2.2.2.2.length:Nat):Int)) then opt (atI a1.2.2.2.2.2.2.2.2 s13.1.2.1) fun x14=>
      opt (opt (wQ (a0,(x14,()))) fun x15=>
       bif !x15.1 then some (1,((false,()),()))
       else opt (atI x14 0) fun x16=>
        opt (qi (a0,(x16,()))) fun x17=>
        bif !(zh x17.1 a1.2.1) then some (1,((false,()),()))
        else opt (atI x14 (wrF .i64 (((x14.length:Nat):Int) - 1))) fun x18=>
         opt (qv (a0,(x18,()))) fun x19=>
         bif !(zh x19.1 a1.2.2.1) then some (1,((false,()),()))
         else some (0,((s13.1.1,()),()))) fun x20=>
      bif Nat.beq x20.1 0 then some (.inr ((x20.2.1.1,((wrF .i64 (s13.1.2.1+1)),())),()))
      else some (.inl (1,((x20.2.1.1,(s13.1.2.1,())),())))
     else some (.inl (0,((s13.1.1,(s13.1.2.1,())),())))) zL ((x12.2.1.1,(0,())),())) fun x21=>
    bif Nat.beq x21.1 0 then bif (zh ((a1.2.2.2.2.2.2.2.2.length:Nat):Int) 1) then some (true,())
     else opt (atI a1.2.2.2.2.2.2.2.2 0) fun x22=>
      opt (atI a1.2.2.2.2.2.2.2.2 1) fun x23=>
      opt (yl (a0,(x22,(x23,())))) fun x24=>
      some (x24.1,())
    else some (x21.2.1.1,())
   else some (x12.2.1.1,())
  else some (x11.2.1.1,())
 else some (x5.2.1.1,())
abbrev gR:Type:=(zK×zA×Unit)→Option (Bool×Unit)
def zlv:Ya→Kf→We→xx→ZI→Wf→gR:=fun qP gv wQ qi qv yl=>sF Tryz.prog [(71,⟨zby,zbz,qP⟩),(128,⟨zbA,zbB,gv⟩),(129,⟨Gp,Gq,wQ⟩),(88,⟨Jj,Jk,qi⟩),(89,⟨Up,Uq,qv⟩),(90,⟨Gr,Gs,yl⟩)] zvx (zP []) 30 83 Vv Vw
theorem zxK (qP) (gv) (wQ) (qi) (qv) (yl) (a0) (a1):zlv qP gv wQ qi qv yl (a0,a1,())=zeu qP gv wQ qi qv yl a0 a1:=by kernel_rfl
def yQ:gR:=zlv uJ Qa vD jt yc uI
theorem zaj:Con.Ok Tryz.prog 83 ⟨Vv,Vw,yQ⟩:=zw (zd zet (zd znJ (zd zgF (zd WZ (zd Gk (zd zgG zi)))))) zo (by kernel_rfl)
theorem zre (a0) (a1):yQ (a0,a1,())=zeu uJ Qa vD jt yc uI a0 a1:=zxK uJ Qa vD jt yc uI a0 a1
abbrev XX:List VT:=[⟨true,we⟩,⟨true,zx⟩,⟨false,I⟩]
abbrev XY:List VT:=[⟨true,zr⟩,⟨false,.bool⟩]
def zju:zT:=zO [⟨zr,Ji zr,[9]⟩,cdF we,cdF zx,cdF zM,cdF zv] [] [⟨3,147,none,(.list I),true⟩,⟨7,147,none,(.list I),true⟩,⟨10,147,none,(.list I),true⟩,⟨16,147,none,(.list I),true⟩,⟨19,147,none,(.list I),true⟩,⟨2,54,some 6,I,false⟩,⟨5,54,some 6,I,false⟩,⟨2,54,none,(.list I),true⟩,⟨5,54,none,(.list I),true⟩] [(3,147,11,[9]),(7,147,11,[9]),(10,147,11,[9]),(16,147,11,[9]),(19,147,11,[9]),(16,147,11,[9]),(19,147,11,[9])] [129,88,89,90,83]
def XZ (JL:zbt) (wQ:We) (qi:xx) (qv:ZI) (yl:Wf) (qV:gR) (a0:XW) (a1:zK) (a2:Int):Option (zA×Bool×Unit):=
 bif zh a1.1 0 then none
 else opt (zD (fun s0:((Int×(Int×Unit))×Unit)=>
   bif zj s0.1.2.1 a1.1 then opt (atI a1.2.1 s0.1.1) fun x1=>
    bif !x1 then bif zh a1.1 0 then none
     else some (.inr (((Int.tmod (wrF .i64 (s0.1.1+1)) a1.1),((wrF .i64 (s0.1.2.1+1)),())),()))
    else some (.inl (0,((s0.1.1,(s0.1.2.1,())),())))
   else some (.inl (0,((s0.1.1,(s0.1.2.1,())),())))) zL (((Int.tmod (wrF .i64 a0.2.2.1) a1.1),(0,())),())) fun x2=>
  opt (zD (fun s3:(((Int×((List Bool)×(List (Int×(Int×(Int×Int))))))×((List Int)×(Int×Unit)))×Unit)=>
   bif zj s3.1.2.2.1 16 then opt (JL (s3.1.1,((wrF .u8 x2.2.1.1),((wrF .u8 (a0.2.2.2.1+(wrF .u8 s3.1.2.2.1))),())))) fun x4=>
    opt (bif (zj 0 ((x4.1.length:Nat):Int)) then opt (wQ (s3.1.1,(x4.1,()))) fun x5=>
      bif x5.1 then opt (atI x4.1 0) fun x6=>
       opt (qi (s3.1.1,(x6,()))) fun x7=>
       opt (atI s3.1.1.2.1 x7.1) fun x8=>
       bif x8 then opt (atI x4.1 (wrF .i64 (((x4.1.length:Nat):Int) - 1))) fun x9=>
        opt (qv (s3.1.1,(x9,()))) fun x10=>
        opt (atI s3.1.1.2.1 x10.1) fun x11=>
        bif x11 then some (1,((x4.1,()),()))
        else some (0,((s3.1.2.1,()),()))
       else some (0,((s3.1.2.1,()),()))
      else some (0,((s3.1.2.1,()),()))
     else some (0,((s3.1.2.1,()),()))) fun x12=>
    bif Nat.beq x12.1 0 then some (.inr ((s3.1.1,(x12.2.1.1,((wrF .i64 (s3.1.2.2.1+1)),()))),()))
    else some (.inl (1,((s3.1.1,(x12.2.1.1,(s3.1.2.2.1,()))),())))
   else some (.inl (0,((s3.1.1,(s3.1.2.1,(s3.1.2.2.1,()))),())))) zL ((a1,([],(0,()))),())) fun x13=>
  bif Nat.beq x13.1 0 then some ((0,(0,(0,(0,(0,(0,((0,0),(0,[])))))))),(false,()))
  else bif zsM x13.2.1.2.1 then opt (atI x13.2.1.2.1 0) fun x14=>
    opt (qi (a1,(x14,()))) fun x15=>
    opt (atI x13.2.1.2.1 (wrF .i64 (((x13.2.1.2.1.length:Nat):Int) - 1))) fun x16=>
    opt (qv (a1,(x16,()))) fun x17=>
    opt (bif a0.1 then some (0,(((),()),((a2,(x15.1,(x17.1,(6,((wrF .i64 (84+(wrF .i64 a0.2.2.2.2.1))),(0,(((wrF .i64 ((wrF .i64 (84+(wrF .i64 a0.2.2.2.2.1)))+(wrF .i64 (4*(wrF .i64 a0.2.2.2.2.2.2.1))))),(wrF .i64 (1+(wrF .i64 a0.2.2.2.2.2.2.2)))),(1099511627776,((x13.2.1.2.1::[]),()))))))))),())))
     else opt (atI (α:=Int) (4::(6::(8::(12::(16::(24::(48::(10::(5::(240::[])))))))))) (Int.tmod a0.2.2.2.2.2.1 10)) fun x18=>
      opt (gl (α:=Int) (4::(6::(8::(12::(16::(24::(48::(10::(5::(240::[])))))))))) (Int.toNat (Int.tmod a0.2.2.2.2.2.1 10))) fun x19=>
      some (0,(((),()),((a2,(x15.1,(x17.1,(7,((wrF .i64 (84+(wrF .i64 a0.2.2.2.2.1))),(x19,((0,0),(1099511627776,((x13.2.1.2.1::[]),()))))))))),())))) fun x20=>
    opt (zD (fun s21:(((Int×((List Bool)×(List (Int×(Int×(Int×Int))))))×(Unit×(Int×Unit)))×((Int×(Int×(Int×(Int×(Int×(Int×((Int×Int)×(Int×((List (List Int))×Unit)))))))))×Unit))=>
     bif zj s21.1.2.2.1 24 then bif a0.2.1 then bif (zh ((s21.2.1.2.2.2.2.2.2.2.2.1.length:Nat):Int) 1) then opt (zD (fun s22:(((Int×((List Bool)×(List (Int×(Int×(Int×Int))))))×((List Int)×(Int×Unit)))×Unit)=>
         bif zj s22.1.2.2.1 16 then opt (JL (s22.1.1,((wrF .u8 x2.2.1.1),((wrF .u8 ((wrF .u8 (a0.2.2.2.1+(wrF .u8 s21.1.2.2.1)))+(wrF .u8 s22.1.2.2.1))),())))) fun x23=>
          opt (bif (zj 0 ((x23.1.length:Nat):Int)) then opt (wQ (s22.1.1,(x23.1,()))) fun x24=>
            bif x24.1 then opt (atI x23.1 0) fun x25=>
             opt (qi (s22.1.1,(x25,()))) fun x26=>
             opt (atI s22.1.1.2.1 x26.1) fun x27=>
             bif x27 then opt (atI x23.1 (wrF .i64 (((x23.1.length:Nat):Int) - 1))) fun x28=>
              opt (qv (s22.1.1,(x28,()))) fun x29=>
              opt (atI s22.1.1.2.1 x29.1) fun x30=>
              bif x30 then some (1,((x23.1,()),()))
              else some (0,((s22.1.2.1,()),()))
             else some (0,((s22.1.2.1,()),()))
            else some (0,((s22.1.2.1,()),()))
           else some (0,((s22.1.2.1,()),()))) fun x31=>
          bif Nat.beq x31.1 0 then some (.inr ((s22.1.1,(x31.2.1.1,((wrF .i64 (s22.1.2.2.1+1)),()))),()))
          else some (.inl (1,((s22.1.1,(x31.2.1.1,(s22.1.2.2.1,()))),())))
         else some (.inl (0,((s22.1.1,(s22.1.2.1,(s22.1.2.2.1,()))),())))) zL ((s21.1.1,([],(0,()))),())) fun x32=>
        bif Nat.beq x32.1 0 then some (.inr ((s21.1.1,((),((wrF .i64 (s21.1.2.2.1+1)),()))),((s21.2.1.1,(s21.2.1.2.1,(s21.2.1.2.2.1,(s21.2.1.2.2.2.1,(s21.2.1.2.2.2.2.1,(s21.2.1.2.2.2.2.2.1,(s21.2.1.2.2.2.2.2.2.1,(s21.2.1.2.2.2.2.2.2.2.1,(s21.2.1.2.2.2.2.2.2.2.2.1,()))))))))),())))
        else opt (bif zsM x32.2.1.2.1 then opt (atI x32.2.1.2.1 (wrF .i64 (((x32.2.1.2.1.length:Nat):Int) - 1))) fun x33=>
           opt (qv (s21.1.1,(x33,()))) fun x34=>
           bif zh x34.1 s21.2.1.2.2.1 then opt (yl (s21.1.1,(x13.2.1.2.1,(x32.2.1.2.1,())))) fun x35=>
            bif x35.1 then bif (qK s21.2.1.2.2.2.2.2.2.2.2.1.length ((x32.2.1.2.1::[]).length) 24) then some (0,(((),()),((s21.2.1.1,(s21.2.1.2.1,(s21.2.1.2.2.1,(s21.2.1.2.2.2.1,(s21.2.1.2.2.2.2.1,(s21.2.1.2.2.2.2.2.1,(s21.2.1.2.2.2.2.2.2.1,(s21.2.1.2.2.2.2.2.2.2.1,((s21.2.1.2.2.2.2.2.2.2.2.1++(x32.2.1.2.1::[])),()))))))))),())))
             else none
            else some (0,(((),()),((s21.2.1.1,(s21.2.1.2.1,(s21.2.1.2.2.1,(s21.2.1.2.2.2.1,(s21.2.1.2.2.2.2.1,(s21.2.1.2.2.2.2.2.1,(s21.2.1.2.2.2.2.2.2.1,(s21.2.1.2.2.2.2.2.2.2.1,(s21.2.1.2.2.2.2.2.2.2.2.1,()))))))))),())))
           else some (0,(((),()),((s21.2.1.1,(s21.2.1.2.1,(s21.2.1.2.2.1,(s21.2.1.2.2.2.1,(s21.2.1.2.2.2.2.1,(s21.2.1.2.2.2.2.2.1,(s21.2.1.2.2.2.2.2.2.1,(s21.2.1.2.2.2.2.2.2.2.1,(s21.2.1.2.2.2.2.2.2.2.2.1,()))))))))),())))
          else none) fun x36=>
         some (.inr ((s21.1.1,((),((wrF .i64 (s21.1.2.2.1+1)),()))),((x36.2.2.1.1,(x36.2.2.1.2.1,(x36.2.2.1.2.2.1,(x36.2.2.1.2.2.2.1,(x36.2.2.1.2.2.2.2.1,(x36.2.2.1.2.2.2.2.2.1,(x36.2.2.1.2.2.2.2.2.2.1,(x36.2.2.1.2.2.2.2.2.2.2.1,(x36.2.2.1.2.2.2.2.2.2.2.2.1,()))))))))),())))
       else some (.inl (0,((s21.1.1,((),(s21.1.2.2.1,()))),((s21.2.1.1,(s21.2.1.2.1,(s21.2.1.2.2.1,(s21.2.1.2.2.2.1,(s21.2.1.2.2.2.2.1,(s21.2.1.2.2.2.2.2.1,(s21.2.1.2.2.2.2.2.2.1,(s21.2.1.2.2.2.2.2.2.2.1,(s21.2.1.2.2.2.2.2.2.2.2.1,()))))))))),()))))
      else some (.inl (0,((s21.1.1,((),(s21.1.2.2.1,()))),((s21.2.1.1,(s21.2.1.2.1,(s21.2.1.2.2.1,(s21.2.1.2.2.2.1,(s21.2.1.2.2.2.2.1,(s21.2.1.2.2.2.2.2.1,(s21.2.1.2.2.2.2.2.2.1,(s21.2.1.2.2.2.2.2.2.2.1,(s21.2.1.2.2.2.2.2.2.2.2.1,()))))))))),()))))
     else some (.inl (0,((s21.1.1,((),(s21.1.2.2.1,()))),((s21.2.1.1,(s21.2.1.2.1,(s21.2.1.2.2.1,(s21.2.1.2.2.2.1,(s21.2.1.2.2.2.2.1,(s21.2.1.2.2.2.2.2.1,(s21.2.1.2.2.2.2.2.2.1,(s21.2.1.2.2.2.2.2.2.2.1,(s21.2.1.2.2.2.2.2.2.2.2.1,()))))))))),()))))) zL ((a1,((),(0,()))),((x20.2.2.1.1,(x20.2.2.1.2.1,(x20.2.2.1.2.2.1,(x20.2.2.1.2.2.2.1,(x20.2.2.1.2.2.2.2.1,(x20.2.2.1.2.2.2.2.2.1,(x20.2.2.1.2.2.2.2.2.2.1,(x20.2.2.1.2.2.2.2.2.2.2.1,(x20.2.2.1.2.2.2.2.2.2.2.2.1,()))))))))),()))) fun x37=>
    opt (qV (x37.2.1.1,((x37.2.2.1.1,(x37.2.2.1.2.1,(x37.2.2.1.2.2.1,(x37.2.2.1.2.2.2.1,(x37.2.2.1.2.2.2.2.1,(x37.2.2.1.2.2.2.2.2.1,(x37.2.2.1.2.2.2.2.2.2.1,(x37.2.2.1.2.2.2.2.2.2.2.1,x37.2.2.1.2.2.2.2.2.2.2.2.1)))))))),()))) fun x38=>
    some ((x37.2.2.1.1,(x37.2.2.1.2.1,(x37.2.2.1.2.2.1,(x37.2.2.1.2.2.2.1,(x37.2.2.1.2.2.2.2.1,(x37.2.2.1.2.2.2.2.2.1,(x37.2.2.1.2.2.2.2.2.2.1,(x37.2.2.1.2.2.2.2.2.2.2.1,x37.2.2.1.2.2.2.2.2.2.2.2.1)))))))),(x38.1,()))
   else none
abbrev QH:Type:=(XW×zK×Int×Unit)→Option (zA×Bool×Unit)
def zbD:zbt→We→xx→ZI→Wf→gR→QH:=fun JL wQ qi qv yl qV=>sF Tryz.prog [(131,⟨zgy,zgz,JL⟩),(129,⟨Gp,Gq,wQ⟩),(88,⟨Jj,Jk,qi⟩),(89,⟨Up,Uq,qv⟩),(90,⟨Gr,Gs,yl⟩),(83,⟨Vv,Vw,qV⟩)] zju (zP []) 30 63 XX XY
theorem zkP (JL) (wQ) (qi) (qv) (yl) (qV) (a0) (a1) (a2):zbD JL wQ qi qv yl qV (a0,a1,a2,())=XZ JL wQ qi qv yl qV a0 a1 a2:=by kernel_rfl
def xp:QH:=zbD ZO vD jt yc uI yQ
theorem zhL:Con.Ok Tryz.prog 63 ⟨XX,XY,xp⟩:=zw (zd ztl (zd zgF (zd WZ (zd Gk (zd zgG (zd zaj zi)))))) zo (by kernel_rfl)
theorem zhM (a0) (a1) (a2):xp (a0,a1,a2,())=XZ ZO vD jt yc uI yQ a0 a1 a2:=zkP ZO vD jt yc uI yQ a0 a1 a2
abbrev Qb:List VT:=[⟨true,yX⟩]
abbrev Qc:List VT:=[⟨false,(.list zr)⟩]
def ziH:zT:=zO [cdF yX,cdF zr,cdF we,cdF vf,cdF zx,cdF zM,⟨(.pair (.int .u8) (.pair (.int .u8) (.int .u8))),Ji (.pair (.int .u8) (.pair (.int .u8) (.int .u8))),[]⟩,cdF ZX,cdF zv] [] [⟨3,61,some 2,zr,false⟩,⟨3,61,some 3,we,true⟩,⟨10,61,some 2,zr,false⟩,⟨10,61,some 3,we,true⟩,⟨12,61,some 2,zr,false⟩,⟨12,61,some 3,we,true⟩,⟨3,38,some 4,zr,false⟩,⟨3,38,some 5,zr,true⟩,⟨6,38,some 4,zr,false⟩,⟨6,38,some 5,zr,true⟩] [] []
def YT (jl:kI) (vQ:QH) (a0:jU):Option ((List zA)×Unit):=
 opt (zD (fun s0:((Int×Unit)×((List (Bool×(Bool×(Int×(Int×(Int×(Int×(Int×Int))))))))×Unit))=>
  bif (zj s0.1.1 ((a0.2.2.2.2.2.1.length:Nat):Int)) then opt (atI a0.2.2.2.2.2.1 s0.1.1) fun x1=>
   bif (qK s0.2.1.length (((true,x1.2)::[]).length) 10) then some (.inr (((wrF .i64 (s0.1.1+1)),()),((s0.2.1++((true,x1.2)::[])),())))
   else none
  else some (.inl (0,((s0.1.1,()),(s0.2.1,()))))) zL ((0,()),([],()))) fun x2=>
 opt (jl (a0.1,())) fun x3=>
 opt (zD (fun s4:(((Int×((List Bool)×(List (Int×(Int×(Int×Int))))))×(Int×Unit))×((List (Bool×(Bool×(Int×(Int×(Int×(Int×(Int×Int))))))))×((List (Int×(Int×(Int×(Int×(Int×(Int×((Int×Int)×(Int×(List (List Int)))))))))))×Unit)))=>
  bif (zj s4.1.2.1 ((s4.2.1.length:Nat):Int)) then bif (zj ((s4.2.2.1.length:Nat):Int) 6) then opt (atI s4.2.1 s4.1.2.1) fun x5=>
    opt (gl s4.2.1 (Int.toNat s4.1.2.1)) fun x6=>
    opt (vQ (x6,(s4.1.1,((wrF .i64 (((s4.2.2.1.length:Nat):Int)+1)),())))) fun x7=>
    opt (bif x7.2.1 then bif (qK s4.2.2.1.length ((x7.1::[]).length) 96) then some (0,((),((s4.2.2.1++(x7.1::[])),())))
      else none
     else some (0,((),(s4.2.2.1,())))) fun x8=>
    some (.inr ((s4.1.1,((wrF .i64 (s4.1.2.1+1)),())),(s4.2.1,(x8.2.2.1,()))))
   else some (.inl (0,((s4.1.1,(s4.1.2.1,())),(s4.2.1,(s4.2.2.1,())))))
  else some (.inl (0,((s4.1.1,(s4.1.2.1,())),(s4.2.1,(s4.2.2.1,())))))) zL ((x3.1,(0,())),(x2.2.2.1,([],())))) fun x9=>
 opt (zD (fun s10:((Int×Unit)×((List (Int×(Int×(Int×(Int×(Int×(Int×((Int×Int)×(Int×(List (List Int)))))))))))×Unit))=>
  bif (zj s10.1.1 ((s10.2.1.length:Nat):Int)) then opt (bif (zj s10.1.1 ((a0.2.2.2.2.2.2.length:Nat):Int)) then opt (atI a0.2.2.2.2.2.2 s10.1.1) fun x11=>
     bif zj 0 x11 then opt (atI a0.2.2.2.2.2.2 s10.1.1) fun x12=>
      opt (atI s10.2.1 s10.1.1) fun x13=>
      opt (gl s10.2.1 (Int.toNat s10.1.1)) fun x14=>
      some (0,((),((s10.2.1.set (Int.toNat s10.1.1) (x14.1,(x14.2.1,(x14.2.2.1,(x14.2.2.2.1,(x14.2.2.2.2.1,(x14.2.2.2.2.2.1,(x14.2.2.2.2.2.2.1,((wrF .i64 (20*(wrF .i64 x12))),x14.2.2.2.2.2.2.2.2))))))))),())))
     else some (0,((),(s10.2.1,())))
    else some (0,((),(s10.2.1,())))) fun x15=>
   some (.inr (((wrF .i64 (s10.1.1+1)),()),(x15.2.2.1,())))
  else some (.inl (0,((s10.1.1,()),(s10.2.1,()))))) zL ((0,()),(x9.2.2.2.1,()))) fun x16=>
 some (x16.2.2.1,())
abbrev YU:Type:=(jU×Unit)→Option ((List zA)×Unit)
def zaV:kI→QH→YU:=fun jl vQ=>sF Tryz.prog [(32,⟨WX,WY,jl⟩),(63,⟨XX,XY,vQ⟩)] ziH (zP []) 30 11 Qb Qc
theorem zjv (jl) (vQ) (a0):zaV jl vQ (a0,())=YT jl vQ a0:=by kernel_rfl
def yY:YU:=zaV wJ xp
theorem zgH:Con.Ok Tryz.prog 11 ⟨Qb,Qc,yY⟩:=zw (zd zaU (zd zhL zi)) zo (by kernel_rfl)
theorem zgI (a0):yY (a0,())=YT wJ xp a0:=zjv wJ xp a0
abbrev Kg:List VT:=[⟨true,kX⟩,⟨true,qf⟩,⟨false,(.list zr)⟩]
abbrev Kh:List VT:=[⟨true,qf⟩,⟨false,(.list zr)⟩]
def zrf:zT:=zO [cdF kX,cdF qf,cdF zr,cdF zx,cdF zM,cdF zN,cdF qe] [] [⟨8,86,some 7,zr,false⟩,⟨10,86,some 7,zr,false⟩,⟨12,86,some 7,zr,false⟩,⟨14,86,some 7,zr,false⟩,⟨16,86,some 7,zr,false⟩,⟨18,86,some 7,zr,false⟩,⟨6,86,some 7,zr,false⟩] [] []
def zbE (a0:xN) (a1:qo) (a2:(List zA)):Option (qo×(List zA)×Unit):=
 opt (QG a0.2.2.2.1.1 none (some (js ((a0.2.2.2.1.1.length:Nat):Int) 130)) none) fun x0=>
 bif qK 0 a2.length 96 then bif qK 0 a1.2.2.1.length 32 then bif zh (Int.tmod a0.1 8) 0 then bif (zh ((a1.2.2.1.length:Nat):Int) 0) then none
    else opt (atI a1.2.2.1 (Int.tmod (wrF .i64 a0.2.1) ((a1.2.2.1.length:Nat):Int))) fun x1=>
     opt (gl a1.2.2.1 (Int.toNat (Int.tmod (wrF .i64 a0.2.1) ((a1.2.2.1.length:Nat):Int)))) fun x2=>
     some ((a1.1,(a1.2.1,((a1.2.2.1.set (Int.toNat (Int.tmod (wrF .i64 a0.2.1) ((a1.2.2.1.length:Nat):Int))) (x0,a0.2.2.2.1.2)),a1.2.2.2))),(a2,()))
   else bif zh (Int.tmod a0.1 8) 1 then bif (qK a1.2.2.1.length (((x0,a0.2.2.2.1.2)::[]).length) 32) then some ((a1.1,(a1.2.1,((a1.2.2.1++((x0,a0.2.2.2.1.2)::[])),a1.2.2.2))),(a2,()))
     else none
    else bif zh (Int.tmod a0.1 8) 2 then opt (QG a1.2.2.1 (some 1) none none) fun x3=>
      some ((a1.1,(a1.2.1,(x3,a1.2.2.2))),(a2,()))
     else bif zh (Int.tmod a0.1 8) 3 then some ((a1.1,(a1.2.1,(a1.2.2.1,a0.2.2.1))),(a2,()))
      else bif zh (Int.tmod a0.1 8) 4 then some ((a1.1,((a1.2.1.1,(a1.2.1.2.1,(a1.2.1.2.2.1,a0.2.2.1))),a1.2.2)),(a2,()))
       else bif zh (Int.tmod a0.1 8) 5 then some (((a0.2.2.1,a1.1.2),a1.2),(a2,()))
        else bif (zj 0 ((a2.length:Nat):Int)) then bif (zh ((a2.length:Nat):Int) 0) then none
          else opt (atI a2 (Int.tmod (wrF .i64 a0.2.1) ((a2.length:Nat):Int))) fun x4=>
           opt (gl a2 (Int.toNat (Int.tmod (wrF .i64 a0.2.1) ((a2.length:Nat):Int)))) fun x5=>
           some (a1,((a2.set (Int.toNat (Int.tmod (wrF .i64 a0.2.1) ((a2.length:Nat):Int))) a0.2.2.2.2),()))
         else some (a1,(a2,()))
  else none
 else none
abbrev zbF:Type:=(xN×qo×(List zA)×Unit)→Option (qo×(List zA)×Unit)
def zib:zbF:=sF Tryz.prog [] zrf (fun _ _=>false) 30 12 Kg Kh
theorem zts (a0) (a1) (a2):zib (a0,a1,a2,())=zbE a0 a1 a2:=by kernel_rfl
def kZ:zbF:=zib
theorem znL:Con.Ok Tryz.prog 12 ⟨Kg,Kh,kZ⟩:=zw zi zo (by kernel_rfl)
theorem znM (a0) (a1) (a2):kZ (a0,a1,a2,())=zbE  a0 a1 a2:=zts  a0 a1 a2
abbrev Ym:List VT:=[⟨true,zx⟩,⟨false,I⟩]
abbrev Yn:List VT:=[⟨false,.bool⟩]
def zAs:zT:=zO [cdF zx,cdF zM] [] [] [] []
def ziI (a0:zK) (a1:Int):Option (Bool×Unit):=
 bif !(zj a1 0) then some ((zj a1 a0.1),())
 else some (false,())
abbrev zdG:Type:=(zK×Int×Unit)→Option (Bool×Unit)
def zqm:zdG:=sF Tryz.prog [] zAs (zP []) 30 92 Ym Yn
theorem zBy (a0) (a1):zqm (a0,a1,())=ziI a0 a1:=by kernel_rfl
def VF:zdG:=zqm
theorem zvy:Con.Ok Tryz.prog 92 ⟨Ym,Yn,VF⟩:=zw zi zo (by kernel_rfl)
theorem zvz (a0) (a1):VF (a0,a1,())=ziI  a0 a1:=zBy  a0 a1
abbrev Jl:List VT:=[⟨true,zx⟩]
abbrev Jm:List VT:=[⟨false,.bool⟩]
def zxL:zT:=zO [cdF zx,cdF zM] [] [] [] [92]
def zgJ (Yq:zdG) (a0:zK):Option (Bool×Unit):=
 opt (zD (fun s0:((Bool×(Int×Unit))×Unit)=>
  bif (zj s0.1.2.1 ((a0.2.2.length:Nat):Int)) then opt (zD (fun s1:((Bool×(Int×Unit))×Unit)=>
    bif zj s1.1.2.1 4 then bif zh s1.1.2.1 0 then opt (atI a0.2.2 s0.1.2.1) fun x2=>
      opt (Yq (a0,(x2.1,()))) fun x3=>
      bif x3.1 then opt (Yq (a0,(x2.2.1,()))) fun x4=>
       bif x4.1 then bif (!(!(zh x2.1 x2.2.1))) then some (.inl (1,((false,(s1.1.2.1,())),())))
        else some (.inr ((s1.1.1,((wrF .i64 (s1.1.2.1+1)),())),()))
       else some (.inl (1,((false,(s1.1.2.1,())),())))
      else some (.inl (1,((false,(s1.1.2.1,())),())))
     else bif zh s1.1.2.1 1 then opt (atI a0.2.2 s0.1.2.1) fun x5=>
       opt (atI a0.2.1 x5.1) fun x6=>
       bif !x6 then some (.inr ((s1.1.1,((wrF .i64 (s1.1.2.1+1)),())),()))
       else opt (atI a0.2.1 x5.2.1) fun x7=>
        bif !(!x7) then some (.inl (1,((false,(s1.1.2.1,())),())))
        else some (.inr ((s1.1.1,((wrF .i64 (s1.1.2.1+1)),())),()))
      else bif zh s1.1.2.1 2 then opt (atI a0.2.2 s0.1.2.1) fun x8=>
        opt (QG a0.2.2 none (some s0.1.2.1) none) fun x9=>
        opt (zD (fun s10:((Bool×(Int×Unit))×Unit)=>
         bif (zj s10.1.2.1 ((x9.length:Nat):Int)) then opt (atI x9 s10.1.2.1) fun x11=>
          opt (bif zh x8.1 x11.1 then bif zh x8.2.1 x11.2.1 then some (1,((false,()),()))
            else bif zh x8.1 x11.2.1 then bif zh x8.2.1 x11.1 then some (1,((false,()),()))
              else some (0,((s10.1.1,()),()))
             else some (0,((s10.1.1,()),()))
           else bif zh x8.1 x11.2.1 then bif zh x8.2.1 x11.1 then some (1,((false,()),()))
             else some (0,((s10.1.1,()),()))
            else some (0,((s10.1.1,()),()))) fun x12=>
          bif Nat.beq x12.1 0 then some (.inr ((x12.2.1.1,((wrF .i64 (s10.1.2.1+1)),())),()))
          else some (.inl (1,((x12.2.1.1,(s10.1.2.1,())),())))
         else some (.inl (0,((s10.1.1,(s10.1.2.1,())),())))) zL ((false,(0,())),())) fun x13=>
        bif Nat.beq x13.1 0 then some (.inr ((s1.1.1,((wrF .i64 (s1.1.2.1+1)),())),()))
        else bif !x13.2.1.1 then some (.inl (1,((false,(s1.1.2.1,())),())))
         else some (.inr ((s1.1.1,((wrF .i64 (s1.1.2.1+1)),())),()))
       else bif zh s1.1.2.1 3 then opt (atI a0.2.2 s0.1.2.1) fun x14=>
         bif !(zj x14.2.2.1 1) then bif !(zj 1000 x14.2.2.1) then bif !(zj x14.2.2.2 0) then bif (!(!(zj 10000 x14.2.2.2))) then some (.inl (1,((false,(s1.1.2.1,())),())))
            else some (.inr ((s1.1.1,((wrF .i64 (s1.1.2.1+1)),())),()))
           else some (.inl (1,((false,(s1.1.2.1,())),())))
          else some (.inl (1,((false,(s1.1.2.1,())),())))
         else some (.inl (1,((false,(s1.1.2.1,())),())))
        else none
    else some (.inl (0,((s1.1.1,(s1.1.2.1,())),())))) zL ((s0.1.1,(0,())),())) fun x15=>
   bif Nat.beq x15.1 0 then some (.inr ((x15.2.1.1,((wrF .i64 (s0.1.2.1+1)),())),()))
   else some (.inl (1,((x15.2.1.1,(s0.1.2.1,())),())))
  else some (.inl (0,((s0.1.1,(s0.1.2.1,())),())))) zL ((false,(0,())),())) fun x16=>
 bif Nat.beq x16.1 0 then some (true,())
 else some (x16.2.1.1,())
abbrev zbG:Type:=(zK×Unit)→Option (Bool×Unit)
def znN:zdG→zbG:=fun Yq=>sF Tryz.prog [(92,⟨Ym,Yn,Yq⟩)] zxL (zP []) 30 64 Jl Jm
theorem zAt (Yq) (a0):znN Yq (a0,())=zgJ Yq a0:=by kernel_rfl
def YV:zbG:=znN VF
theorem ztt:Con.Ok Tryz.prog 64 ⟨Jl,Jm,YV⟩:=zw (zd zvy zi) zo (by kernel_rfl)
theorem ztu (a0):YV (a0,())=zgJ VF a0:=zAt VF a0
abbrev Jn:List VT:=[⟨true,zx⟩,⟨false,I⟩,⟨true,(.pair .bool (.pair .bool (.pair .bool (.pair .bool (.pair .bool (.pair .bool (.pair .bool (.pair .bool (.pair .bool (.pair .bool (.pair .bool (.pair .bool (.pair .bool (.pair .bool (.pair .bool (.pair .bool (.pair .bool (.pair .bool (.pair .bool (.pair .bool (.pair .bool (.pair .bool (.pair .bool .bool)))))))))))))))))))))))⟩]
abbrev Jo:List VT:=[⟨false,(.list .bool)⟩]
def zxM:zT:=zO [⟨(.pair .bool (.pair .bool (.pair .bool (.pair .bool (.pair .bool (.pair .bool (.pair .bool (.pair .bool (.pair .bool (.pair .bool (.pair .bool (.pair .bool (.pair .bool (.pair .bool (.pair .bool (.pair .bool (.pair .bool (.pair .bool (.pair .bool (.pair .bool (.pair .bool (.pair .bool (.pair .bool .bool))))))))))))))))))))))),Ji (.pair .bool (.pair .bool (.pair .bool (.pair .bool (.pair .bool (.pair .bool (.pair .bool (.pair .bool (.pair .bool (.pair .bool (.pair .bool (.pair .bool (.pair .bool (.pair .bool (.pair .bool (.pair .bool (.pair .bool (.pair .bool (.pair .bool (.pair .bool (.pair .bool (.pair .bool (.pair .bool .bool))))))))))))))))))))))),[]⟩,cdF zx,cdF zM] [] [⟨4,56,some 6,.bool,false⟩,⟨6,56,some 6,.bool,false⟩,⟨8,56,some 6,.bool,false⟩] [] []
def zgK (a0:zK) (a1:Int) (a2:(Bool×(Bool×(Bool×(Bool×(Bool×(Bool×(Bool×(Bool×(Bool×(Bool×(Bool×(Bool×(Bool×(Bool×(Bool×(Bool×(Bool×(Bool×(Bool×(Bool×(Bool×(Bool×(Bool×Bool)))))))))))))))))))))))):Option ((List Bool)×Unit):=
 bif ziA a0.1 a0.1 1 then opt (atI (List.replicate (Int.toNat a0.1) false) a1) fun x0=>
  opt (gl (List.replicate (Int.toNat a0.1) false) (Int.toNat a1)) fun x1=>
  opt (zD (fun s2:((Int×Unit)×((List Bool)×Unit))=>
   bif zj s2.1.1 a0.1 then opt (zD (fun s3:((Int×Unit)×((List Bool)×Unit))=>
     bif (zj s3.1.1 ((a0.2.2.length:Nat):Int)) then opt (atI a0.2.2 s3.1.1) fun x4=>
      opt (bif zh s3.1.1 0 then bif !a2.1 then opt (atI s3.2.1 x4.1) fun x5=>
         opt (gl s3.2.1 (Int.toNat x4.1)) fun x6=>
         opt (atI s3.2.1 x4.2.1) fun x7=>
         opt (gl s3.2.1 (Int.toNat x4.2.1)) fun x8=>
         bif !(x6 == x8) then opt (atI s3.2.1 x4.1) fun x9=>
          opt (gl s3.2.1 (Int.toNat x4.1)) fun x10=>
          opt (atI (s3.2.1.set (Int.toNat x4.1) true) x4.2.1) fun x11=>
          opt (gl (s3.2.1.set (Int.toNat x4.1) true) (Int.toNat x4.2.1)) fun x12=>
          some (0,((),(((s3.2.1.set (Int.toNat x4.1) true).set (Int.toNat x4.2.1) true),())))
         else some (0,((),(s3.2.1,())))
        else some (0,((),(s3.2.1,())))
       else bif zh s3.1.1 1 then bif !a2.2.1 then opt (atI s3.2.1 x4.1) fun x13=>
          opt (gl s3.2.1 (Int.toNat x4.1)) fun x14=>
          opt (atI s3.2.1 x4.2.1) fun x15=>
          opt (gl s3.2.1 (Int.toNat x4.2.1)) fun x16=>
          bif !(x14 == x16) then opt (atI s3.2.1 x4.1) fun x17=>
           opt (gl s3.2.1 (Int.toNat x4.1)) fun x18=>
           opt (atI (s3.2.1.set (Int.toNat x4.1) true) x4.2.1) fun x19=>
           opt (gl (s3.2.1.set (Int.toNat x4.1) true) (Int.toNat x4.2.1)) fun x20=>
           some (0,((),(((s3.2.1.set (Int.toNat x4.1) true).set (Int.toNat x4.2.1) true),())))
          else some (0,((),(s3.2.1,())))
         else some (0,((),(s3.2.1,())))
        else bif zh s3.1.1 2 then bif !a2.2.2.1 then opt (atI s3.2.1 x4.1) fun x21=>
           opt (gl s3.2.1 (Int.toNat x4.1)) fun x22=>
           opt (atI s3.2.1 x4.2.1) fun x23=>
           opt (gl s3.2.1 (Int.toNat x4.2.1)) fun x24=>
           bif !(x22 == x24) then opt (atI s3.2.1 x4.1) fun x25=>
            opt (gl s3.2.1 (Int.toNat x4.1)) fun x26=>
            opt (atI (s3.2.1.set (Int.toNat x4.1) true) x4.2.1) fun x27=>
            opt (gl (s3.2.1.set (Int.toNat x4.1) true) (Int.toNat x4.2.1)) fun x28=>
            some (0,((),(((s3.2.1.set (Int.toNat x4.1) true).set (Int.toNat x4.2.1) true),())))
           else some (0,((),(s3.2.1,())))
          else some (0,((),(s3.2.1,())))
         else bif zh s3.1.1 3 then bif !a2.2.2.2.1 then opt (atI s3.2.1 x4.1) fun x29=>
            opt (gl s3.2.1 (Int.toNat x4.1)) fun x30=>
            opt (atI s3.2.1 x4.2.1) fun x31=>
            opt (gl s3.2.1 (Int.toNat x4.2.1)) fun x32=>
            bif !(x30 == x32) then opt (atI s3.2.1 x4.1) fun x33=>
             opt (gl s3.2.1 (Int.toNat x4.1)) fun x34=>
             opt (atI (s3.2.1.set (Int.toNat x4.1) true) x4.2.1) fun x35=>
             opt (gl (s3.2.1.set (Int.toNat x4.1) true) (Int.toNat x4.2.1)) fun x36=>
             some (0,((),(((s3.2.1.set (Int.toNat x4.1) true).set (Int.toNat x4.2.1) true),())))
            else some (0,((),(s3.2.1,())))
           else some (0,((),(s3.2.1,())))
          else bif zh s3.1.1 4 then bif !a2.2.2.2.2.1 then opt (atI s3.2.1 x4.1) fun x37=>
             opt (gl s3.2.1 (Int.toNat x4.1)) fun x38=>
             opt (atI s3.2.1 x4.2.1) fun x39=>
             opt (gl s3.2.1 (Int.toNat x4.2.1)) fun x40=>
             bif !(x38 == x40) then opt (atI s3.2.1 x4.1) fun x41=>
              opt (gl s3.2.1 (Int.toNat x4.1)) fun x42=>
              opt (atI (s3.2.1.set (Int.toNat x4.1) true) x4.2.1) fun x43=>
              opt (gl (s3.2.1.set (Int.toNat x4.1) true) (Int.toNat x4.2.1)) fun x44=>
              some (0,((),(((s3.2.1.set (Int.toNat x4.1) true).set (Int.toNat x4.2.1) true),())))
             else some (0,((),(s3.2.1,())))
            else some (0,((),(s3.2.1,())))
           else bif zh s3.1.1 5 then bif !a2.2.2.2.2.2.1 then opt (atI s3.2.1 x4.1) fun x45=>
              opt (gl s3.2.1 (Int.toNat x4.1)) fun x46=>
              opt (atI s3.2.1 x4.2.1) fun x47=>
              opt (gl s3.2.1 (Int.toNat x4.2.1)) fun x48=>
              bif !(x46 == x48) then opt (atI s3.2.1 x4.1) fun x49=>
               opt (gl s3.2.1 (Int.toNat x4.1)) fun x50=>
               opt (atI (s3.2.1.set (Int.toNat x4.1) true) x4.2.1) fun x51=>
               opt (gl (s3.2.1.set (Int.toNat x4.1) true) (Int.toNat x4.2.1)) fun x52=>
               some (0,((),(((s3.2.1.set (Int.toNat x4.1) true).set (Int.toNat x4.2.1) true),())))
              else some (0,((),(s3.2.1,())))
             else some (0,((),(s3.2.1,())))
            else bif zh s3.1.1 6 then bif !a2.2.2.2.2.2.2.1 then opt (atI s3.2.1 x4.1) fun x53=>
               opt (gl s3.2.1 (Int.toNat x4.1)) fun x54=>
               opt (atI s3.2.1 x4.2.1) fun x55=>
               opt (gl s3.2.1 (Int.toNat x4.2.1)) fun x56=>
               bif !(x54 == x56) then opt (atI s3.2.1 x4.1) fun x57=>
                opt (gl s3.2.1 (Int.toNat x4.1)) fun x58=>
                opt (atI (s3.2.1.set (Int.toNat x4.1) true) x4.2.1) fun x59=>
                opt (gl (s3.2.1.set (Int.toNat x4.1) true) (Int.toNat x4.2.1)) fun x60=>
                some (0,((),(((s3.2.1.set (Int.toNat x4.1) true).set (Int.toNat x4.2.1) true),())))
               else some (0,((),(s3.2.1,())))
              else some (0,((),(s3.2.1,())))
             else bif zh s3.1.1 7 then bif !a2.2.2.2.2.2.2.2.1 then opt (atI s3.2.1 x4.1) fun x61=>
                opt (gl s3.2.1 (Int.toNat x4.1)) fun x62=>
                opt (atI s3.2.1 x4.2.1) fun x63=>
                opt (gl s3.2.1 (Int.toNat x4.2.1)) fun x64=>
                bif !(x62 == x64) then opt (atI s3.2.1 x4.1) fun x65=>
                 opt (gl s3.2.1 (Int.toNat x4.1)) fun x66=>
                 opt (atI (s3.2.1.set (Int.toNat x4.1) true) x4.2.1) fun x67=>
                 opt (gl (s3.2.1.set (Int.toNat x4.1) true) (Int.toNat x4.2.1)) fun x68=>
                 some (0,((),(((s3.2.1.set (Int.toNat x4.1) true).set (Int.toNat x4.2.1) true),())))
                else some (0,((),(s3.2.1,())))
               else some (0,((),(s3.2.1,())))
              else bif zh s3.1.1 8 then bif !a2.2.2.2.2.2.2.2.2.1 then opt (atI s3.2.1 x4.1) fun x69=>
                 opt (gl s3.2.1 (Int.toNat x4.1)) fun x70=>
                 opt (atI s3.2.1 x4.2.1) fun x71=>
                 opt (gl s3.2.1 (Int.toNat x4.2.1)) fun x72=>
                 bif !(x70 == x72) then opt (atI s3.2.1 x4.1) fun x73=>
                  opt (gl s3.2.1 (Int.toNat x4.1)) fun x74=>
                  opt (atI (s3.2.1.set (Int.toNat x4.1) true) x4.2.1) fun x75=>
                  opt (gl (s3.2.1.set (Int.toNat x4.1) true) (Int.toNat x4.2.1)) fun x76=>
                  some (0,((),(((s3.2.1.set (Int.toNat x4.1) true).set (Int.toNat x4.2.1) true),())))
                 else some (0,((),(s3.2.1,())))
                else some (0,((),(s3.2.1,())))
               else bif zh s3.1.1 9 then bif !a2.2.2.2.2.2.2.2.2.2.1 then opt (atI s3.2.1 x4.1) fun x77=>
                  opt (gl s3.2.1 (Int.toNat x4.1)) fun x78=>
                  opt (atI s3.2.1 x4.2.1) fun x79=>
                  opt (gl s3.2.1 (Int.toNat x4.2.1)) fun x80=>
                  bif !(x78 == x80) then opt (atI s3.2.1 x4.1) fun x81=>
                   opt (gl s3.2.1 (Int.toNat x4.1)) fun x82=>
                   opt (atI (s3.2.1.set (Int.toNat x4.1) true) x4.2.1) fun x83=>
                   opt (gl (s3.2.1.set (Int.toNat x4.1) true) (Int.toNat x4.2.1)) fun x84=>
                   some (0,((),(((s3.2.1.set (Int.toNat x4.1) true).set (Int.toNat x4.2.1) true),())))
                  else some (0,((),(s3.2.1,())))
                 else some (0,((),(s3.2.1,())))
                else bif zh s3.1.1 10 then bif !a2.2.2.2.2.2.2.2.2.2.2.1 then opt (atI s3.2.1 x4.1) fun x85=>
                   opt (gl s3.2.1 (Int.toNat x4.1)) fun x86=>
                   opt (atI s3.2.1 x4.2.1) fun x87=>
                   opt (gl s3.2.1 (Int.toNat x4.2.1)) fun x88=>
                   bif !(x86 == x88) then opt (atI s3.2.1 x4.1) fun x89=>
                    opt (gl s3.2.1 (Int.toNat x4.1)) fun x90=>
                    opt (atI (s3.2.1.set (Int.toNat x4.1) true) x4.2.1) fun x91=>
                    opt (gl (s3.2.1.set (Int.toNat x4.1) true) (Int.toNat x4.2.1)) fun x92=>
                    some (0,((),(((s3.2.1.set (Int.toNat x4.1) true).set (Int.toNat x4.2.1) true),())))
                   else some (0,((),(s3.2.1,())))
                  else some (0,((),(s3.2.1,())))
                 else bif zh s3.1.1 11 then bif !a2.2.2.2.2.2.2.2.2.2.2.2.1 then opt (atI s3.2.1 x4.1) fun x93=>
                    opt (gl s3.2.1 (Int.toNat x4.1)) fun x94=>
                    opt (atI s3.2.1 x4.2.1) fun x95=>
                    opt (gl s3.2.1 (Int.toNat x4.2.1)) fun x96=>
                    bif !(x94 == x96) then opt (atI s3.2.1 x4.1) fun x97=>
                     opt (gl s3.2.1 (Int.toNat x4.1)) fun x98=>
                     opt (atI (s3.2.1.set (Int.toNat x4.1) true) x4.2.1) fun x99=>
                     opt (gl (s3.2.1.set (Int.toNat x4.1) true) (Int.toNat x4.2.1)) fun x100=>
                     some (0,((),(((s3.2.1.set (Int.toNat x4.1) true).set (Int.toNat x4.2.1) true),())))
                    else some (0,((),(s3.2.1,())))
                   else some (0,((),(s3.2.1,())))
                  else bif zh s3.1.1 12 then bif !a2.2.2.2.2.2.2.2.2.2.2.2.2.1 then opt (atI s3.2.1 x4.1) fun x101=>
                     opt (gl s3.2.1 (Int.toNat x4.1)) fun x102=>
                     opt (atI s3.2.1 x4.2.1) fun x103=>
                     opt (gl s3.2.1 (Int.toNat x4.2.1)) fun x104=>
                     bif !(x102 == x104) then opt (atI s3.2.1 x4.1) fun x105=>
                      opt (gl s3.2.1 (Int.toNat x4.1)) fun x106=>
                      opt (atI (s3.2.1.set (Int.toNat x4.1) true) x4.2.1) fun x107=>
                      opt (gl (s3.2.1.set (Int.toNat x4.1) true) (Int.toNat x4.2.1)) fun x108=>
                      some (0,((),(((s3.2.1.set (Int.toNat x4.1) true).set (Int.toNat x4.2.1) true),())))
                     else some (0,((),(s3.2.1,())))
                    else some (0,((),(s3.2.1,())))
                   else bif zh s3.1.1 13 then bif !a2.2.2.2.2.2.2.2.2.2.2.2.2.2.1 then opt (atI s3.2.1 x4.1) fun x109=>
                      opt (gl s3.2.1 (Int.toNat x4.1)) fun x110=>
                      opt (atI s3.2.1 x4.2.1) fun x111=>
                      opt (gl s3.2.1 (Int.toNat x4.2.1)) fun x112=>
                      bif !(x110 == x112) then opt (atI s3.2.1 x4.1) fun x113=>
                       opt (gl s3.2.1 (Int.toNat x4.1)) fun x114=>
                       opt (atI (s3.2.1.set (Int.toNat x4.1) true) x4.2.1) fun x115=>
                       opt (gl (s3.2.1.set (Int.toNat x4.1) true) (Int.toNat x4.2.1)) fun x116=>
                       some (0,((),(((s3.2.1.set (Int.toNat x4.1) true).set (Int.toNat x4.2.1) true),())))
                      else some (0,((),(s3.2.1,())))
                     else some (0,((),(s3.2.1,())))
                    else bif zh s3.1.1 14 then bif !a2.2.2.2.2.2.2.2.2.2.2.2.2.2.2.1 then opt (atI s3.2.1 x4.1) fun x117=>
                       opt (gl s3.2.1 (Int.toNat x4.1)) fun x118=>
                       opt (atI s3.2.1 x4.2.1) fun x119=>
                       opt (gl s3.2.1 (Int.toNat x4.2.1)) fun x120=>
                       bif !(x118 == x120) then opt (atI s3.2.1 x4.1) fun x121=>
                        opt (gl s3.2.1 (Int.toNat x4.1)) fun x122=>
                        opt (atI (s3.2.1.set (Int.toNat x4.1) true) x4.2.1) fun x123=>
                        opt (gl (s3.2.1.set (Int.toNat x4.1) true) (Int.toNat x4.2.1)) fun x124=>
                        some (0,((),(((s3.2.1.set (Int.toNat x4.1) true).set (Int.toNat x4.2.1) true),())))
                       else some (0,((),(s3.2.1,())))
                      else some (0,((),(s3.2.1,())))
                     else bif zh s3.1.1 15 then bif !a2.2.2.2.2.2.2.2.2.2.2.2.2.2.2.2.1 then opt (atI s3.2.1 x4.1) fun x125=>
                        opt (gl s3.2.1 (Int.toNat x4.1)) fun x126=>
                        opt (atI s3.2.1 x4.2.1) fun x127=>
                        opt (gl s3.2.1 (Int.toNat x4.2.1)) fun x128=>
                        bif !(x126 == x128) then opt (atI s3.2.1 x4.1) fun x129=>
                         opt (gl s3.2.1 (Int.toNat x4.1)) fun x130=>
                         opt (atI (s3.2.1.set (Int.toNat x4.1) true) x4.2.1) fun x131=>
                         opt (gl (s3.2.1.set (Int.toNat x4.1) true) (Int.toNat x4.2.1)) fun x132=>
                         some (0,((),(((s3.2.1.set (Int.toNat x4.1) true).set (Int.toNat x4.2.1) true),())))
                        else some (0,((),(s3.2.1,())))
                       else some (0,((),(s3.2.1,())))
                      else bif zh s3.1.1 16 then bif !a2.2.2.2.2.2.2.2.2.2.2.2.2.2.2.2.2.1 then opt (atI s3.2.1 x4.1) fun x133=>
                         opt (gl s3.2.1 (Int.toNat x4.1)) fun x134=>
                         opt (atI s3.2.1 x4.2.1) fun x135=>
                         opt (gl s3.2.1 (Int.toNat x4.2.1)) fun x136=>
                         bif !(x134 == x136) then opt (atI s3.2.1 x4.1) fun x137=>
                          opt (gl s3.2.1 (Int.toNat x4.1)) fun x138=>
                          opt (atI (s3.2.1.set (Int.toNat x4.1) true) x4.2.1) fun x139=>
                          opt (gl (s3.2.1.set (Int.toNat x4.1) true) (Int.toNat x4.2.1)) fun x140=>
                          some (0,((),(((s3.2.1.set (Int.toNat x4.1) true).set (Int.toNat x4.2.1) true),())))
                         else some (0,((),(s3.2.1,())))
                        else some (0,((),(s3.2.1,())))
                       else bif zh s3.1.1 17 then bif !a2.2.2.2.2.2.2.2.2.2.2.2.2.2.2.2.2.2.1 then opt (atI s3.2.1 x4.1) fun x141=>
                          opt (gl s3.2.1 (Int.toNat x4.1)) fun x142=>
                          opt (atI s3.2.1 x4.2.1) fun x143=>
                          opt (gl s3.2.1 (Int.toNat x4.2.1)) fun x144=>
                          bif !(x142 == x144) then opt (atI s3.2.1 x4.1) fun x145=>
                           opt (gl s3.2.1 (Int.toNat x4.1)) fun x146=>
                           opt (atI (s3.2.1.set (Int.toNat x4.1) true) x4.2.1) fun x147=>
                           opt (gl (s3.2.1.set (Int.toNat x4.1) true) (Int.toNat x4.2.1)) fun x148=>
                           some (0,((),(((s3.2.1.set (Int.toNat x4.1) true).set (Int.toNat x4.2.1) true),())))
                          else some (0,((),(s3.2.1,())))
                         else some (0,((),(s3.2.1,())))
                        else bif zh s3.1.1 18 then bif !a2.2.2.2.2.2.2.2.2.2.2.2.2.2.2.2.2.2.2.1 then opt (atI s3.2.1 x4.1) fun x149=>
                           opt (gl s3.2.1 (Int.toNat x4.1)) fun x150=>
                           opt (atI s3.2.1 x4.2.1) fun x151=>
                           opt (gl s3.2.1 (Int.toNat x4.2.1)) fun x152=>
                           bif !(x150 == x152) then opt (atI s3.2.1 x4.1) fun x153=>
                            opt (gl s3.2.1 (Int.toNat x4.1)) fun x154=>
                            opt (atI (s3.2.1.set (Int.toNat x4.1) true) x4.2.1) fun x155=>
                            opt (gl (s3.2.1.set (Int.toNat x4.1) true) (Int.toNat x4.2.1)) fun x156=>
                            some (0,((),(((s3.2.1.set (Int.toNat x4.1) true).set (Int.toNat x4.2.1) true),())))
                           else some (0,((),(s3.2.1,())))
                          else some (0,((),(s3.2.1,())))
                         else bif zh s3.1.1 19 then bif !a2.2.2.2.2.2.2.2.2.2.2.2.2.2.2.2.2.2.2.2.1 then opt (atI s3.2.1 x4.1) fun x157=>
                            opt (gl s3.2.1 (Int.toNat x4.1)) fun x158=>
                            opt (atI s3.2.1 x4.2.1) fun x159=>
                            opt (gl s3.2.1 (Int.toNat x4.2.1)) fun x160=>
                            bif !(x158 == x160) then opt (atI s3.2.1 x4.1) fun x161=>
                             opt (gl s3.2.1 (Int.toNat x4.1)) fun x162=>
                             opt (atI (s3.2.1.set (Int.toNat x4.1) true) x4.2.1) fun x163=>
                             opt (gl (s3.2.1.set (Int.toNat x4.1) true) (Int.toNat x4.2.1)) fun x164=>
                             some (0,((),(((s3.2.1.set (Int.toNat x4.1) true).set (Int.toNat x4.2.1) true),())))
                            else some (0,((),(s3.2.1,())))
                           else some (0,((),(s3.2.1,())))
                          else bif zh s3.1.1 20 then bif !a2.2.2.2.2.2.2.2.2.2.2.2.2.2.2.2.2.2.2.2.2.1 then opt (atI s3.2.1 x4.1) fun x165=>
                             opt (gl s3.2.1 (Int.toNat x4.1)) fun x166=>
                             opt (atI s3.2.1 x4.2.1) fun x167=>
                             opt (gl s3.2.1 (Int.toNat x4.2.1)) fun x168=>
                             bif !(x166 == x168) then opt (atI s3.2.1 x4.1) fun x169=>
                              opt (gl s3.2.1 (Int.toNat x4.1)) fun x170=>
                              opt (atI (s3.2.1.set (Int.toNat x4.1) true) x4.2.1) fun x171=>
                              opt (gl (s3.2.1.set (Int.toNat x4.1) true) (Int.toNat x4.2.1)) fun x172=>
                              some (0,((),(((s3.2.1.set (Int.toNat x4.1) true).set (Int.toNat x4.2.1) true),())))
                             else some (0,((),(s3.2.1,())))
                            else some (0,((),(s3.2.1,())))
                           else bif zh s3.1.1 21 then bif !a2.2.2.2.2.2.2.2.2.2.2.2.2.2.2.2.2.2.2.2.2.2.1 then opt (atI s3.2.1 x4.1) fun x173=>
                              opt (gl s3.2.1 (Int.toNat x4.1)) fun x174=>
                              opt (atI s3.2.1 x4.2.1) fun x175=>
                              opt (gl s3.2.1 (Int.toNat x4.2.1)) fun x176=>
                              bif !(x174 == x176) then opt (atI s3.2.1 x4.1) fun x177=>
                               opt (gl s3.2.1 (Int.toNat x4.1)) fun x178=>
                               opt (atI (s3.2.1.set (Int.toNat x4.1) true) x4.2.1) fun x179=>
                               opt (gl (s3.2.1.set (Int.toNat x4.1) true) (Int.toNat x4.2.1)) fun x180=>
                               some (0,((),(((s3.2.1.set (Int.toNat x4.1) true).set (Int.toNat x4.2.1) true),())))
                              else some (0,((),(s3.2.1,())))
                             else some (0,((),(s3.2.1,())))
                            else bif zh s3.1.1 22 then bif !a2.2.2.2.2.2.2.2.2.2.2.2.2.2.2.2.2.2.2.2.2.2.2.1 then opt (atI s3.2.1 x4.1) fun x181=>
                               opt (gl s3.2.1 (Int.toNat x4.1)) fun x182=>
                               opt (atI s3.2.1 x4.2.1) fun x183=>
                               opt (gl s3.2.1 (Int.toNat x4.2.1)) fun x184=>
                               bif !(x182 == x184) then opt (atI s3.2.1 x4.1) fun x185=>
                                opt (gl s3.2.1 (Int.toNat x4.1)) fun x186=>
                                opt (atI (s3.2.1.set (Int.toNat x4.1) true) x4.2.1) fun x187=>
                                opt (gl (s3.2.1.set (Int.toNat x4.1) true) (Int.toNat x4.2.1)) fun x188=>
                                some (0,((),(((s3.2.1.set (Int.toNat x4.1) true).set (Int.toNat x4.2.1) true),())))
                               else some (0,((),(s3.2.1,())))
                              else some (0,((),(s3.2.1,())))
                             else bif zh s3.1.1 23 then bif !a2.2.2.2.2.2.2.2.2.2.2.2.2.2.2.2.2.2.2.2.2.2.2.2 then opt (atI s3.2.1 x4.1) fun x189=>
                                opt (gl s3.2.1 (Int.toNat x4.1)) fun x190=>
                                opt (atI s3.2.1 x4.2.1) fun x191=>
                                opt (gl s3.2.1 (Int.toNat x4.2.1)) fun x192=>
                                bif !(x190 == x192) then opt (atI s3.2.1 x4.1) fun x193=>
                                 opt (gl s3.2.1 (Int.toNat x4.1)) fun x194=>
                                 opt (atI (s3.2.1.set (Int.toNat x4.1) true) x4.2.1) fun x195=>
                                 opt (gl (s3.2.1.set (Int.toNat x4.1) true) (Int.toNat x4.2.1)) fun x196=>
                                 some (0,((),(((s3.2.1.set (Int.toNat x4.1) true).set (Int.toNat x4.2.1) true),())))
                                else some (0,((),(s3.2.1,())))
                               else some (0,((),(s3.2.1,())))
                              else none) fun x197=>
      some (.inr (((wrF .i64 (s3.1.1+1)),()),(x197.2.2.1,())))
     else some (.inl (0,((s3.1.1,()),(s3.2.1,()))))) zL ((0,()),(s2.2.1,()))) fun x198=>
    some (.inr (((wrF .i64 (s2.1.1+1)),()),(x198.2.2.1,())))
   else some (.inl (0,((s2.1.1,()),(s2.2.1,()))))) zL ((0,()),(((List.replicate (Int.toNat a0.1) false).set (Int.toNat a1) true),()))) fun x199=>
  some (x199.2.2.1,())
 else none
abbrev zbH:Type:=(zK×Int×(Bool×(Bool×(Bool×(Bool×(Bool×(Bool×(Bool×(Bool×(Bool×(Bool×(Bool×(Bool×(Bool×(Bool×(Bool×(Bool×(Bool×(Bool×(Bool×(Bool×(Bool×(Bool×(Bool×Bool)))))))))))))))))))))))×Unit)→Option ((List Bool)×Unit)
def znO:zbH:=sF Tryz.prog [] zxM (zP []) 30 66 Jn Jo
theorem zAu (a0) (a1) (a2):znO (a0,a1,a2,())=zgK a0 a1 a2:=by kernel_rfl
def Jp:zbH:=znO
theorem ztv:Con.Ok Tryz.prog 66 ⟨Jn,Jo,Jp⟩:=zw zi zo (by kernel_rfl)
theorem ztw (a0) (a1) (a2):Jp (a0,a1,a2,())=zgK  a0 a1 a2:=zAu  a0 a1 a2
abbrev wi:List VT:=[⟨false,(.list .bool)⟩,⟨false,.bool⟩]
abbrev wj:List VT:=[⟨false,I⟩]
def zd2:zT:=zO [] [] [] [] []
def Qp (a0:(List Bool)) (a1:Bool):Option (Int×Unit):=
 opt (zD (fun s0:((Int×(Int×Unit))×Unit)=>
  bif (zj s0.1.2.1 ((a0.length:Nat):Int)) then opt (atI a0 s0.1.2.1) fun x1=>
   bif a1 == x1 then some (.inl (1,((s0.1.2.1,(s0.1.2.1,())),())))
   else some (.inr ((s0.1.1,((wrF .i64 (s0.1.2.1+1)),())),()))
  else some (.inl (0,((s0.1.1,(s0.1.2.1,())),())))) zL ((0,(0,())),())) fun x2=>
 bif Nat.beq x2.1 0 then some ((-1),())
 else some (x2.2.1.1,())
abbrev uK:Type:=((List Bool)×Bool×Unit)→Option (Int×Unit)
def Vx:uK:=sF Tryz.prog [] zd2 (zP []) 30 96 wi wj
theorem zev (a0) (a1):Vx (a0,a1,())=Qp a0 a1:=by kernel_rfl
def yj:uK:=Vx
theorem zct:Con.Ok Tryz.prog 96 ⟨wi,wj,yj⟩:=zw zi zo (by kernel_rfl)
theorem zcu (a0) (a1):yj (a0,a1,())=Qp  a0 a1:=zev  a0 a1
abbrev jD:List VT:=[⟨false,(.list .bool)⟩,⟨false,.bool⟩]
abbrev jE:List VT:=[⟨false,.bool⟩]
def zbI:zT:=zO [] [] [] [] [96]
def gX (ym:uK) (a0:(List Bool)) (a1:Bool):Option (Bool×Unit):=
 opt (ym (a0,(a1,()))) fun x0=>
 some ((!(zj x0.1 0)),())
abbrev vh:Type:=((List Bool)×Bool×Unit)→Option (Bool×Unit)
def Yr:uK→vh:=fun ym=>sF Tryz.prog [(96,⟨wi,wj,ym⟩)] zbI (zP []) 30 65 jD jE
theorem zcv (ym) (a0) (a1):Yr ym (a0,a1,())=gX ym a0 a1:=by kernel_rfl
def wC:vh:=Yr yj
theorem zak:Con.Ok Tryz.prog 65 ⟨jD,jE,wC⟩:=zw (zd zct zi) zo (by kernel_rfl)
theorem zal (a0) (a1):wC (a0,a1,())=gX yj a0 a1:=zcv yj a0 a1
abbrev ju:List VT:=[⟨true,zx⟩]
abbrev jv:List VT:=[⟨false,I⟩]
def zxN:zT:=zO [⟨(.pair .bool (.pair .bool (.pair .bool (.pair .bool (.pair .bool (.pair .bool (.pair .bool (.pair .bool (.pair .bool (.pair .bool (.pair .bool (.pair .bool (.pair .bool (.pair .bool (.pair .bool (.pair .bool (.pair .bool (.pair .bool (.pair .bool (.pair .bool (.pair .bool (.pair .bool (.pair .bool .bool))))))))))))))))))))))),Ji (.pair .bool (.pair .bool (.pair .bool (.pair .bool (.pair .bool (.pair .bool (.pair .bool (.pair .bool (.pair .bool (.pair .bool (.pair .bool (.pair .bool (.pair .bool (.pair .bool (.pair .bool (.pair .bool (.pair .bool (.pair .bool (.pair .bool (.pair .bool (.pair .bool (.pair .bool (.pair .bool .bool))))))))))))))))))))))),[]⟩,cdF zx,cdF zM] [] [] [] [64,65]
def zgL (Xw:zbG) (Xx:zbH) (wD:vh) (a0:zK):Option (Int×Unit):=
 opt (bif zj a0.1 2 then some (1,((260,()),()))
  else bif zj 12 a0.1 then some (1,((260,()),()))
   else bif (!(zh ((a0.2.1.length:Nat):Int) a0.1)) then some (1,((260,()),()))
    else some (0,((0,()),()))) fun x0=>
 bif Nat.beq x0.1 0 then opt (bif (zj 24 ((a0.2.2.length:Nat):Int)) then some (1,((260,()),()))
   else opt (Xw (a0,())) fun x1=>
    bif !x1.1 then some (1,((260,()),()))
    else some (0,((x0.2.1.1,()),()))) fun x2=>
  bif Nat.beq x2.1 0 then bif ziA a0.1 a0.1 8 then opt (zD (fun s3:((Int×Unit)×((List Int)×Unit))=>
     bif (zj s3.1.1 ((a0.2.2.length:Nat):Int)) then opt (atI a0.2.2 s3.1.1) fun x4=>
      opt (atI s3.2.1 x4.1) fun x5=>
      opt (gl s3.2.1 (Int.toNat x4.1)) fun x6=>
      opt (atI s3.2.1 x4.1) fun x7=>
      opt (gl s3.2.1 (Int.toNat x4.1)) fun x8=>
      opt (atI (s3.2.1.set (Int.toNat x4.1) (wrF .i64 (x6+1))) x4.2.1) fun x9=>
      opt (gl (s3.2.1.set (Int.toNat x4.1) (wrF .i64 (x6+1))) (Int.toNat x4.2.1)) fun x10=>
      opt (atI (s3.2.1.set (Int.toNat x4.1) (wrF .i64 (x6+1))) x4.2.1) fun x11=>
      opt (gl (s3.2.1.set (Int.toNat x4.1) (wrF .i64 (x6+1))) (Int.toNat x4.2.1)) fun x12=>
      some (.inr (((wrF .i64 (s3.1.1+1)),()),(((s3.2.1.set (Int.toNat x4.1) (wrF .i64 (x6+1))).set (Int.toNat x4.2.1) (wrF .i64 (x10+1))),())))
     else some (.inl (0,((s3.1.1,()),(s3.2.1,()))))) zL ((0,()),((List.replicate (Int.toNat a0.1) 0),()))) fun x13=>
    opt (zD (fun s14:((Int×(Int×Unit))×Unit)=>
     bif (zj s14.1.2.1 ((a0.2.1.length:Nat):Int)) then opt (atI a0.2.1 s14.1.2.1) fun x15=>
      opt (bif x15 then opt (atI x13.2.2.1 s14.1.2.1) fun x16=>
        opt (gl x13.2.2.1 (Int.toNat s14.1.2.1)) fun x17=>
        bif zj x17 1 then some (1,((260,()),()))
        else opt (atI x13.2.2.1 s14.1.2.1) fun x18=>
         opt (gl x13.2.2.1 (Int.toNat s14.1.2.1)) fun x19=>
         bif zj 2 x19 then some (1,((260,()),()))
         else some (0,((s14.1.1,()),()))
       else some (0,((s14.1.1,()),()))) fun x20=>
      bif Nat.beq x20.1 0 then some (.inr ((x20.2.1.1,((wrF .i64 (s14.1.2.1+1)),())),()))
      else some (.inl (1,((x20.2.1.1,(s14.1.2.1,())),())))
     else some (.inl (0,((s14.1.1,(s14.1.2.1,())),())))) zL ((x2.2.1.1,(0,())),())) fun x21=>
    bif Nat.beq x21.1 0 then opt (Xx (a0,(0,((false,(false,(false,(false,(false,(false,(false,(false,(false,(false,(false,(false,(false,(false,(false,(false,(false,(false,(false,(false,(false,(false,(false,false))))))))))))))))))))))),())))) fun x22=>
     opt (wD (x22.1,(false,()))) fun x23=>
     bif x23.1 then some (260,())
     else some (0,())
    else some (x21.2.1.1,())
   else none
  else some (x2.2.1.1,())
 else some (x0.2.1.1,())
abbrev yy:Type:=(zK×Unit)→Option (Int×Unit)
def znP:zbG→zbH→vh→yy:=fun Xw Xx wD=>sF Tryz.prog [(64,⟨Jl,Jm,Xw⟩),(66,⟨Jn,Jo,Xx⟩),(65,⟨jD,jE,wD⟩)] zxN (zP []) 30 37 ju jv
theorem zAv (Xw) (Xx) (wD) (a0):znP Xw Xx wD (a0,())=zgL Xw Xx wD a0:=by kernel_rfl
def jb:yy:=znP YV Jp wC
theorem Qd:Con.Ok Tryz.prog 37 ⟨ju,jv,jb⟩:=zw (zd ztt (zd ztv (zd zak zi))) zo (by kernel_rfl)
theorem ztx (a0):jb (a0,())=zgL YV Jp wC a0:=zAv YV Jp wC a0
abbrev wW:List VT:=[⟨false,I⟩,⟨false,I⟩,⟨false,I⟩]
abbrev wX:List VT:=[⟨false,.bool⟩]
def zpq:zT:=zO [] [] [] [] []
def zam (a0:Int) (a1:Int) (a2:Int):Option (Bool×Unit):=
 bif !(zj a0 a1) then some ((!(zj a2 a0)),())
 else some (false,())
abbrev vo:Type:=(Int×Int×Int×Unit)→Option (Bool×Unit)
def zgM:vo:=sF Tryz.prog [] zpq (zP []) 30 67 wW wX
theorem zrg (a0) (a1) (a2):zgM (a0,a1,a2,())=zam a0 a1 a2:=by kernel_rfl
def wk:vo:=zgM
theorem VU:Con.Ok Tryz.prog 67 ⟨wW,wX,wk⟩:=zw zi zo (by kernel_rfl)
theorem zma (a0) (a1) (a2):wk (a0,a1,a2,())=zam  a0 a1 a2:=zrg  a0 a1 a2
abbrev xO:List VT:=[⟨true,Yk⟩]
abbrev xP:List VT:=[⟨false,I⟩]
def zkQ:zT:=zO [cdF Yk] [] [] [] [67]
def VV (qc:vo) (a0:XV):Option (Int×Unit):=
 opt (opt (qc (a0.1,(1,(10000,())))) fun x0=>
  bif !x0.1 then some (1,((320,()),()))
  else opt (qc (a0.2.1,(0,(1000,())))) fun x1=>
   bif !x1.1 then some (1,((320,()),()))
   else some (0,((0,()),()))) fun x2=>
 bif Nat.beq x2.1 0 then opt (opt (qc (a0.2.2.1,(0,(10000,())))) fun x3=>
   bif !x3.1 then some (1,((320,()),()))
   else opt (qc (a0.2.2.2,(1542,(65536,())))) fun x4=>
    bif !x4.1 then some (1,((320,()),()))
    else some (0,((x2.2.1.1,()),()))) fun x5=>
  bif Nat.beq x5.1 0 then some (0,())
  else some (x5.2.1.1,())
 else some (x2.2.1.1,())
abbrev JN:Type:=(XV×Unit)→Option (Int×Unit)
def zcB:vo→JN:=fun qc=>sF Tryz.prog [(67,⟨wW,wX,qc⟩)] zkQ (zP []) 30 38 xO xP
theorem zmb (qc) (a0):zcB qc (a0,())=VV qc a0:=by kernel_rfl
def uu:JN:=zcB wk
theorem ziJ:Con.Ok Tryz.prog 38 ⟨xO,xP,uu⟩:=zw (zd VU zi) zo (by kernel_rfl)
theorem ziK (a0):uu (a0,())=VV wk a0:=zmb wk a0
abbrev xy:List VT:=[⟨true,zN⟩]
abbrev xz:List VT:=[⟨false,I⟩]
def zvA:zT:=zO [cdF zN,cdF qe] [] [] [] []
def zew (a0:qp):Option (Int×Unit):=
 opt (bif (zj ((a0.1.length:Nat):Int) 1) then some (1,((370,()),()))
  else bif (zj 128 ((a0.1.length:Nat):Int)) then some (1,((370,()),()))
   else some (0,((0,()),()))) fun x0=>
 bif Nat.beq x0.1 0 then opt (zD (fun s1:((Int×(Int×(Int×Unit)))×Unit)=>
   bif (zj s1.1.2.2.1 ((a0.1.length:Nat):Int)) then opt (atI a0.1 s1.1.2.2.1) fun x2=>
    opt (bif zj x2.1 0 then some (1,((370,()),()))
     else bif zj 255 x2.1 then some (1,((370,()),()))
      else bif zj x2.2 1 then some (1,((370,()),()))
       else bif zj 9600000 x2.2 then some (1,((370,()),()))
        else some (0,((s1.1.1,()),()))) fun x3=>
    bif Nat.beq x3.1 0 then some (.inr ((x3.2.1.1,((wrF .i64 (s1.1.2.1+x2.2)),((wrF .i64 (s1.1.2.2.1+1)),()))),()))
    else some (.inl (1,((x3.2.1.1,(s1.1.2.1,(s1.1.2.2.1,()))),())))
   else some (.inl (0,((s1.1.1,(s1.1.2.1,(s1.1.2.2.1,()))),())))) zL ((x0.2.1.1,(0,(0,()))),())) fun x4=>
  bif Nat.beq x4.1 0 then opt (bif !(zh x4.2.1.2.1 a0.2) then some (1,((370,()),()))
    else bif zj 9600000 x4.2.1.2.1 then some (1,((370,()),()))
     else some (0,((x4.2.1.1,()),()))) fun x5=>
   bif Nat.beq x5.1 0 then some (0,())
   else some (x5.2.1.1,())
  else some (x4.2.1.1,())
 else some (x0.2.1.1,())
abbrev gS:Type:=(qp×Unit)→Option (Int×Unit)
def zlw:gS:=sF Tryz.prog [] zvA (zP []) 30 39 xy xz
theorem zxO (a0):zlw (a0,())=zew a0:=by kernel_rfl
def yR:gS:=zlw
theorem zan:Con.Ok Tryz.prog 39 ⟨xy,xz,yR⟩:=zw zi zo (by kernel_rfl)
theorem zrh (a0):yR (a0,())=zew  a0:=zxO  a0
abbrev jJ:List VT:=[⟨true,qf⟩]
abbrev jK:List VT:=[⟨false,I⟩]
def zkR:zT:=zO [cdF qf,cdF zx,cdF zM,cdF zN,cdF qe] [] [] [] [37,38,39]
def VW (zY:yy) (uz:JN) (qW:gS) (a0:qo):Option (Int×Unit):=
 opt (zY (a0.1,())) fun x0=>
 bif !(zh x0.1 0) then some (x0.1,())
 else opt (uz (a0.2.1,())) fun x1=>
  bif !(zh x1.1 0) then some (x1.1,())
  else opt (zD (fun s2:((Int×(Int×Unit))×Unit)=>
    bif (zj s2.1.2.1 ((a0.2.2.1.length:Nat):Int)) then opt (atI a0.2.2.1 s2.1.2.1) fun x3=>
     opt (qW (x3,())) fun x4=>
     bif !(zh x4.1 0) then some (.inl (1,((x4.1,(s2.1.2.1,())),())))
     else some (.inr ((s2.1.1,((wrF .i64 (s2.1.2.1+1)),())),()))
    else some (.inl (0,((s2.1.1,(s2.1.2.1,())),())))) zL ((0,(0,())),())) fun x5=>
   bif Nat.beq x5.1 0 then opt (bif (!(zh ((a0.2.2.1.length:Nat):Int) (wrF .i64 (2*((a0.1.2.2.length:Nat):Int))))) then some (1,((410,()),()))
     else bif zj a0.2.2.2 84 then some (1,((410,()),()))
      else bif zj 1542 a0.2.2.2 then some (1,((410,()),()))
       else some (0,((x5.2.1.1,()),()))) fun x6=>
    bif Nat.beq x6.1 0 then some (0,())
    else some (x6.2.1.1,())
   else some (x5.2.1.1,())
abbrev JO:Type:=(qo×Unit)→Option (Int×Unit)
def zcC:yy→JN→gS→JO:=fun zY uz qW=>sF Tryz.prog [(37,⟨ju,jv,zY⟩),(38,⟨xO,xP,uz⟩),(39,⟨xy,xz,qW⟩)] zkR (zP []) 30 13 jJ jK
theorem zmc (zY) (uz) (qW) (a0):zcC zY uz qW (a0,())=VW zY uz qW a0:=by kernel_rfl
def uv:JO:=zcC jb uu yR
theorem ziL:Con.Ok Tryz.prog 13 ⟨jJ,jK,uv⟩:=zw (zd Qd (zd ziJ (zd zan zi))) zo (by kernel_rfl)
theorem ziM (a0):uv (a0,())=VW jb uu yR a0:=zmc jb uu yR a0
abbrev zex:List VT:=[⟨true,zx⟩,⟨false,I⟩,⟨false,(.list I)⟩]
abbrev zey:List VT:=[⟨false,(.list .bool)⟩]
def zvB:zT:=zO [cdF zx,cdF zM] [] [⟨4,62,some 6,.bool,false⟩,⟨7,62,some 6,.bool,false⟩,⟨10,62,some 6,.bool,false⟩] [] [98]
def zez (qJ:ZJ) (a0:zK) (a1:Int) (a2:(List Int)):Option ((List Bool)×Unit):=
 bif ziA a0.1 a0.1 1 then opt (atI (List.replicate (Int.toNat a0.1) false) a1) fun x0=>
  opt (gl (List.replicate (Int.toNat a0.1) false) (Int.toNat a1)) fun x1=>
  opt (zD (fun s2:((Int×Unit)×((List Bool)×Unit))=>
   bif zj s2.1.1 a0.1 then opt (zD (fun s3:((Int×Unit)×((List Bool)×Unit))=>
     bif (zj s3.1.1 ((a0.2.2.length:Nat):Int)) then opt (atI a0.2.2 s3.1.1) fun x4=>
      opt (opt (qJ (a2,(s3.1.1,()))) fun x5=>
       bif !x5.1 then opt (atI s3.2.1 x4.1) fun x6=>
        opt (gl s3.2.1 (Int.toNat x4.1)) fun x7=>
        bif x7 then opt (atI s3.2.1 x4.1) fun x8=>
         opt (gl s3.2.1 (Int.toNat x4.1)) fun x9=>
         opt (atI (s3.2.1.set (Int.toNat x4.1) true) x4.2.1) fun x10=>
         opt (gl (s3.2.1.set (Int.toNat x4.1) true) (Int.toNat x4.2.1)) fun x11=>
         some (0,((),(((s3.2.1.set (Int.toNat x4.1) true).set (Int.toNat x4.2.1) true),())))
        else opt (atI s3.2.1 x4.2.1) fun x12=>
         opt (gl s3.2.1 (Int.toNat x4.2.1)) fun x13=>
         bif x13 then opt (atI s3.2.1 x4.1) fun x14=>
          opt (gl s3.2.1 (Int.toNat x4.1)) fun x15=>
          opt (atI (s3.2.1.set (Int.toNat x4.1) true) x4.2.1) fun x16=>
          opt (gl (s3.2.1.set (Int.toNat x4.1) true) (Int.toNat x4.2.1)) fun x17=>
          some (0,((),(((s3.2.1.set (Int.toNat x4.1) true).set (Int.toNat x4.2.1) true),())))
         else some (0,((),(s3.2.1,())))
       else some (0,((),(s3.2.1,())))) fun x18=>
      some (.inr (((wrF .i64 (s3.1.1+1)),()),(x18.2.2.1,())))
     else some (.inl (0,((s3.1.1,()),(s3.2.1,()))))) zL ((0,()),(s2.2.1,()))) fun x19=>
    some (.inr (((wrF .i64 (s2.1.1+1)),()),(x19.2.2.1,())))
   else some (.inl (0,((s2.1.1,()),(s2.2.1,()))))) zL ((0,()),(((List.replicate (Int.toNat a0.1) false).set (Int.toNat a1) true),()))) fun x20=>
  some (x20.2.2.1,())
 else none
abbrev Gt:Type:=(zK×Int×(List Int)×Unit)→Option ((List Bool)×Unit)
def zlx:ZJ→Gt:=fun qJ=>sF Tryz.prog [(98,⟨Ur,Us,qJ⟩)] zvB (zP []) 30 70 zex zey
theorem zxP (qJ) (a0) (a1) (a2):zlx qJ (a0,a1,a2,())=zez qJ a0 a1 a2:=by kernel_rfl
def Wg:Gt:=zlx yN
theorem zri:Con.Ok Tryz.prog 70 ⟨zex,zey,Wg⟩:=zw (zd Gl zi) zo (by kernel_rfl)
theorem zrj (a0) (a1) (a2):Wg (a0,a1,a2,())=zez yN a0 a1 a2:=zxP yN a0 a1 a2
abbrev Vy:List VT:=[⟨true,zx⟩]
abbrev Vz:List VT:=[⟨false,.bool⟩]
def zvC:zT:=zO [cdF zx,cdF zM] [] [] [] [68,69]
def zeA (jY:YR) (qM:Wb) (WA:Gt) (a0:zK):Option (Bool×Unit):=
 opt (bif zj a0.1 2 then some (1,((false,()),()))
  else bif zj 12 a0.1 then some (1,((false,()),()))
   else bif (!(zh ((a0.2.1.length:Nat):Int) a0.1)) then some (1,((false,()),()))
    else bif (zj 24 ((a0.2.2.length:Nat):Int)) then some (1,((false,()),()))
     else some (0,((false,()),()))) fun x0=>
 bif Nat.beq x0.1 0 then bif ziA a0.1 a0.1 8 then opt (zD (fun s1:((Bool×(Int×Unit))×((List Int)×Unit))=>
    bif (zj s1.1.2.1 ((a0.2.2.length:Nat):Int)) then opt (atI a0.2.2 s1.1.2.1) fun x2=>
     opt (jY (a0,(x2,()))) fun x3=>
     bif !x3.1 then some (.inl (1,((false,(s1.1.2.1,())),(s1.2.1,()))))
     else opt (zD (fun s4:((Bool×(Int×Unit))×Unit)=>
       bif zj s4.1.2.1 s1.1.2.1 then opt (atI a0.2.2 s4.1.2.1) fun x5=>
        opt (qM (x5,(x2.1,(x2.2.1,())))) fun x6=>
        bif x6.1 then some (.inl (1,((false,(s4.1.2.1,())),())))
        else some (.inr ((s4.1.1,((wrF .i64 (s4.1.2.1+1)),())),()))
       else some (.inl (0,((s4.1.1,(s4.1.2.1,())),())))) zL ((s1.1.1,(0,())),())) fun x7=>
      bif Nat.beq x7.1 0 then opt (atI s1.2.1 x2.1) fun x8=>
       opt (gl s1.2.1 (Int.toNat x2.1)) fun x9=>
       opt (atI s1.2.1 x2.1) fun x10=>
       opt (gl s1.2.1 (Int.toNat x2.1)) fun x11=>
       opt (atI (s1.2.1.set (Int.toNat x2.1) (wrF .i64 (x9+1))) x2.2.1) fun x12=>
       opt (gl (s1.2.1.set (Int.toNat x2.1) (wrF .i64 (x9+1))) (Int.toNat x2.2.1)) fun x13=>
       opt (atI (s1.2.1.set (Int.toNat x2.1) (wrF .i64 (x9+1))) x2.2.1) fun x14=>
       opt (gl (s1.2.1.set (Int.toNat x2.1) (wrF .i64 (x9+1))) (Int.toNat x2.2.1)) fun x15=>
       some (.inr ((x7.2.1.1,((wrF .i64 (s1.1.2.1+1)),())),(((s1.2.1.set (Int.toNat x2.1) (wrF .i64 (x9+1))).set (Int.toNat x2.2.1) (wrF .i64 (x13+1))),())))
      else some (.inl (1,((x7.2.1.1,(s1.1.2.1,())),(s1.2.1,()))))
    else some (.inl (0,((s1.1.1,(s1.1.2.1,())),(s1.2.1,()))))) zL ((x0.2.1.1,(0,())),((List.replicate (Int.toNat a0.1) 0),()))) fun x16=>
   bif Nat.beq x16.1 0 then opt (WA (a0,(0,([],())))) fun x17=>
    opt (zD (fun s18:((Bool×(Int×Unit))×Unit)=>
     bif zj s18.1.2.1 a0.1 then opt (opt (atI x17.1 s18.1.2.1) fun x19=>
       bif !x19 then some (1,((false,()),()))
       else opt (atI a0.2.1 s18.1.2.1) fun x20=>
        bif x20 then opt (atI x16.2.2.1 s18.1.2.1) fun x21=>
         opt (gl x16.2.2.1 (Int.toNat s18.1.2.1)) fun x22=>
         bif zj x22 1 then some (1,((false,()),()))
         else opt (atI x16.2.2.1 s18.1.2.1) fun x23=>
          opt (gl x16.2.2.1 (Int.toNat s18.1.2.1)) fun x24=>
          bif zj 2 x24 then some (1,((false,()),()))
          else some (0,((s18.1.1,()),()))
        else some (0,((s18.1.1,()),()))) fun x25=>
      bif Nat.beq x25.1 0 then some (.inr ((x25.2.1.1,((wrF .i64 (s18.1.2.1+1)),())),()))
      else some (.inl (1,((x25.2.1.1,(s18.1.2.1,())),())))
     else some (.inl (0,((s18.1.1,(s18.1.2.1,())),())))) zL ((x16.2.1.1,(0,())),())) fun x26=>
    bif Nat.beq x26.1 0 then some (true,())
    else some (x26.2.1.1,())
   else some (x16.2.1.1,())
  else none
 else some (x0.2.1.1,())
abbrev gT:Type:=(zK×Unit)→Option (Bool×Unit)
def zly:YR→Wb→Gt→gT:=fun jY qM WA=>sF Tryz.prog [(68,⟨zbn,zbo,jY⟩),(69,⟨Gh,Gi,qM⟩),(70,⟨zex,zey,WA⟩)] zvC (zP []) 30 40 Vy Vz
theorem zxQ (jY) (qM) (WA) (a0):zly jY qM WA (a0,())=zeA jY qM WA a0:=by kernel_rfl
def yS:gT:=zly uE xw Wg
theorem zao:Con.Ok Tryz.prog 40 ⟨Vy,Vz,yS⟩:=zw (zd zh7 (zd zgw (zd zri zi))) zo (by kernel_rfl)
theorem zrk (a0):yS (a0,())=zeA uE xw Wg a0:=zxQ uE xw Wg a0
abbrev zeB:List VT:=[⟨true,Yk⟩]
abbrev zeC:List VT:=[⟨false,.bool⟩]
def zvD:zT:=zO [cdF Yk] [] [] [] [71]
def zeD (qP:Ya) (a0:XV):Option (Bool×Unit):=
 opt (qP (a0.1,(1,(10000,())))) fun x0=>
 bif x0.1 then opt (qP (a0.2.1,(0,(1000,())))) fun x1=>
  bif x1.1 then opt (qP (a0.2.2.1,(0,(10000,())))) fun x2=>
   bif x2.1 then opt (qP (a0.2.2.2,(1542,(65536,())))) fun x3=>
    some (x3.1,())
   else some (false,())
  else some (false,())
 else some (false,())
abbrev Gu:Type:=(XV×Unit)→Option (Bool×Unit)
def zlz:Ya→Gu:=fun qP=>sF Tryz.prog [(71,⟨zby,zbz,qP⟩)] zvD (zP []) 30 41 zeB zeC
theorem zxR (qP) (a0):zlz qP (a0,())=zeD qP a0:=by kernel_rfl
def Wh:Gu:=zlz uJ
theorem zrl:Con.Ok Tryz.prog 41 ⟨zeB,zeC,Wh⟩:=zw (zd zet zi) zo (by kernel_rfl)
theorem zrm (a0):Wh (a0,())=zeD uJ a0:=zxR uJ a0
abbrev Gv:List VT:=[⟨true,zN⟩]
abbrev Gw:List VT:=[⟨false,.bool⟩]
def zvE:zT:=zO [cdF zN,cdF qe] [] [] [] []
def zeE (a0:qp):Option (Bool×Unit):=
 opt (bif (zj ((a0.1.length:Nat):Int) 1) then some (1,((false,()),()))
  else bif (zj 128 ((a0.1.length:Nat):Int)) then some (1,((false,()),()))
   else some (0,((false,()),()))) fun x0=>
 bif Nat.beq x0.1 0 then opt (zD (fun s1:((Bool×(Int×(Int×Unit)))×Unit)=>
   bif (zj s1.1.2.2.1 ((a0.1.length:Nat):Int)) then opt (atI a0.1 s1.1.2.2.1) fun x2=>
    opt (bif zj x2.1 0 then some (1,((false,()),()))
     else bif zj 255 x2.1 then some (1,((false,()),()))
      else bif zj x2.2 1 then some (1,((false,()),()))
       else bif zj 9600000 x2.2 then some (1,((false,()),()))
        else some (0,((s1.1.1,()),()))) fun x3=>
    bif Nat.beq x3.1 0 then some (.inr ((x3.2.1.1,((wrF .i64 (s1.1.2.1+x2.2)),((wrF .i64 (s1.1.2.2.1+1)),()))),()))
    else some (.inl (1,((x3.2.1.1,(s1.1.2.1,(s1.1.2.2.1,()))),())))
   else some (.inl (0,((s1.1.1,(s1.1.2.1,(s1.1.2.2.1,()))),())))) zL ((x0.2.1.1,(0,(0,()))),())) fun x4=>
  bif Nat.beq x4.1 0 then bif zh x4.2.1.2.1 a0.2 then some ((!(zj 9600000 x4.2.1.2.1)),())
   else some (false,())
  else some (x4.2.1.1,())
 else some (x0.2.1.1,())
abbrev Wi:Type:=(qp×Unit)→Option (Bool×Unit)
def zlA:Wi:=sF Tryz.prog [] zvE (zP []) 30 42 Gv Gw
theorem zxS (a0):zlA (a0,())=zeE a0:=by kernel_rfl
def uL:Wi:=zlA
theorem zgN:Con.Ok Tryz.prog 42 ⟨Gv,Gw,uL⟩:=zw zi zo (by kernel_rfl)
theorem zrn (a0):uL (a0,())=zeE  a0:=zxS  a0
abbrev VX:List VT:=[⟨true,qf⟩]
abbrev VY:List VT:=[⟨false,I⟩]
def zkS:zT:=zO [cdF qf,cdF zx,cdF zM,cdF zN,cdF qe] [] [] [] [40,41,42]
def VZ (qX:gT) (WB:Gu) (yn:Wi) (a0:qo):Option (Int×Unit):=
 opt (qX (a0.1,())) fun x0=>
 bif !x0.1 then some (260,())
 else opt (WB (a0.2.1,())) fun x1=>
  bif !x1.1 then some (320,())
  else opt (zD (fun s2:((Int×(Int×Unit))×Unit)=>
    bif (zj s2.1.2.1 ((a0.2.2.1.length:Nat):Int)) then opt (atI a0.2.2.1 s2.1.2.1) fun x3=>
     opt (yn (x3,())) fun x4=>
     bif !x4.1 then some (.inl (1,((370,(s2.1.2.1,())),())))
     else some (.inr ((s2.1.1,((wrF .i64 (s2.1.2.1+1)),())),()))
    else some (.inl (0,((s2.1.1,(s2.1.2.1,())),())))) zL ((0,(0,())),())) fun x5=>
   bif Nat.beq x5.1 0 then opt (bif (!(zh ((a0.2.2.1.length:Nat):Int) (wrF .i64 (2*((a0.1.2.2.length:Nat):Int))))) then some (1,((410,()),()))
     else bif zj a0.2.2.2 84 then some (1,((410,()),()))
      else bif zj 1542 a0.2.2.2 then some (1,((410,()),()))
       else some (0,((x5.2.1.1,()),()))) fun x6=>
    bif Nat.beq x6.1 0 then some (0,())
    else some (x6.2.1.1,())
   else some (x5.2.1.1,())
abbrev JP:Type:=(qo×Unit)→Option (Int×Unit)
def zcD:gT→Gu→Wi→JP:=fun qX WB yn=>sF Tryz.prog [(40,⟨Vy,Vz,qX⟩),(41,⟨zeB,zeC,WB⟩),(42,⟨Gv,Gw,yn⟩)] zkS (zP []) 30 14 VX VY
theorem zmd (qX) (WB) (yn) (a0):zcD qX WB yn (a0,())=VZ qX WB yn a0:=by kernel_rfl
def uw:JP:=zcD yS Wh uL
theorem ziN:Con.Ok Tryz.prog 14 ⟨VX,VY,uw⟩:=zw (zd zao (zd zrl (zd zgN zi))) zo (by kernel_rfl)
theorem ziO (a0):uw (a0,())=VZ yS Wh uL a0:=zmd yS Wh uL a0
abbrev kr:List VT:=[⟨true,zx⟩,⟨false,I⟩]
abbrev ku:List VT:=[⟨false,.bool⟩]
def zpr:zT:=zO [cdF zx,cdF zM] [] [] [] [67]
def zap (qc:vo) (a0:zK) (a1:Int):Option (Bool×Unit):=
 opt (qc (a1,(0,((wrF .i64 (a0.1 - 1)),())))) fun x0=>
 bif x0.1 then opt (atI a0.2.1 a1) fun x1=>
  some (x1,())
 else some (false,())
abbrev Va:Type:=(zK×Int×Unit)→Option (Bool×Unit)
def zgO:vo→Va:=fun qc=>sF Tryz.prog [(67,⟨wW,wX,qc⟩)] zpr (zP []) 30 119 kr ku
theorem zro (qc) (a0) (a1):zgO qc (a0,a1,())=zap qc a0 a1:=by kernel_rfl
def Zk:Va:=zgO wk
theorem zme:Con.Ok Tryz.prog 119 ⟨kr,ku,Zk⟩:=zw (zd VU zi) zo (by kernel_rfl)
theorem zmf (a0) (a1):Zk (a0,a1,())=zap wk a0 a1:=zro wk a0 a1
abbrev xQ:List VT:=[⟨false,I⟩,⟨false,I⟩,⟨false,I⟩]
abbrev xR:List VT:=[⟨false,.bool⟩]
def zkT:zT:=zO [] [] [] [] []
def Ka (a0:Int) (a1:Int) (a2:Int):Option (Bool×Unit):=
 bif !(zj a0 a1) then some ((!(zj a2 a0)),())
 else some (false,())
abbrev JQ:Type:=(Int×Int×Int×Unit)→Option (Bool×Unit)
def zcE:JQ:=sF Tryz.prog [] zkT (zP []) 30 86 xQ xR
theorem zmg (a0) (a1) (a2):zcE (a0,a1,a2,())=Ka a0 a1 a2:=by kernel_rfl
def ux:JQ:=zcE
theorem ziP:Con.Ok Tryz.prog 86 ⟨xQ,xR,ux⟩:=zw zi zo (by kernel_rfl)
theorem ziQ (a0) (a1) (a2):ux (a0,a1,a2,())=Ka  a0 a1 a2:=zmg  a0 a1 a2
abbrev wL:List VT:=[⟨true,zv⟩]
abbrev wM:List VT:=[⟨false,I⟩]
def zty:zT:=zO [cdF zv] [] [] [] [86]
def zdc (xS:JQ) (a0:qy):Option (Int×Unit):=
 opt (opt (xS (a0.1,(1,(1048576,())))) fun x0=>
  bif !x0.1 then some (1,((130,()),()))
  else opt (xS (a0.2,(1,(2097152,())))) fun x1=>
   bif !x1.1 then some (1,((130,()),()))
   else some (0,((0,()),()))) fun x2=>
 bif Nat.beq x2.1 0 then some (0,())
 else some (x2.2.1.1,())
abbrev xK:Type:=(qy×Unit)→Option (Int×Unit)
def zjw:JQ→xK:=fun xS=>sF Tryz.prog [(86,⟨xQ,xR,xS⟩)] zty (zP []) 30 84 wL wM
theorem zvF (xS) (a0):zjw xS (a0,())=zdc xS a0:=by kernel_rfl
def jO:xK:=zjw ux
theorem Yv:Con.Ok Tryz.prog 84 ⟨wL,wM,jO⟩:=zw (zd ziP zi) zo (by kernel_rfl)
theorem zps (a0):jO (a0,())=zdc ux a0:=zvF ux a0
abbrev yz:List VT:=[⟨true,YP⟩,⟨false,(.list I)⟩]
abbrev yA:List VT:=[⟨false,(.list I)⟩]
def zmh:zT:=zO [cdF YP,cdF zM,cdF zql] [] [⟨5,30,some 4,I,false⟩,⟨5,30,none,I,true⟩,⟨5,30,some 5,I,true⟩,⟨1,54,none,I,true⟩,⟨3,54,none,I,true⟩,⟨6,54,none,I,true⟩,⟨8,54,none,I,true⟩,⟨0,54,none,I,true⟩] [(5,30,5,[0])] []
def KL (a0:VE) (a1:(List Int)):Option ((List Int)×Unit):=
 bif (ziA 0 (wrF .i64 (((a1.length:Nat):Int)+1)) 8) then opt (zD (fun s0:((Int×Unit)×(((List Int)×Unit)×(Unit×(Unit×Unit))))=>
   bif (zj s0.1.1 ((a1.length:Nat):Int)) then opt (atI a1 s0.1.1) fun x1=>
    bif zj x1 0 then some (.inl (0,((s0.1.1,()),((s0.2.1.1,()),((),((),()))))))
    else bif (!(zj x1 (wrF .i64 (2*((a0.2.2.length:Nat):Int))))) then some (.inl (0,((s0.1.1,()),((s0.2.1.1,()),((),((),()))))))
     else opt (atI a0.2.2 (wrF .i64 (Int.tdiv x1 2))) fun x2=>
      opt (bif zh (Int.tmod x1 2) 1 then some (0,(((x1,(x2.2.1,x2.1)),()),((),((),()))))
       else some (0,(((x1,(x2.1,x2.2.1)),()),((),((),()))))) fun x3=>
      opt (bif zh s0.1.1 0 then bif (qK s0.2.1.1.length ((x3.2.1.1.2.1::[]).length) 8) then some (0,((),(((s0.2.1.1++(x3.2.1.1.2.1::[])),()),((),()))))
        else none
       else some (0,((),((s0.2.1.1,()),((),()))))) fun x4=>
      bif (qK x4.2.2.1.1.length ((x3.2.1.1.2.2::[]).length) 8) then some (.inr (((wrF .i64 (s0.1.1+1)),()),(((x4.2.2.1.1++(x3.2.1.1.2.2::[])),()),((),((),())))))
      else none
   else some (.inl (0,((s0.1.1,()),((s0.2.1.1,()),((),((),()))))))) zL ((0,()),(((List.replicate (Int.toNat 0) 0),()),((),((),()))))) fun x5=>
  some (x5.2.2.1.1,())
 else none
abbrev kJ:Type:=(VE×(List Int)×Unit)→Option ((List Int)×Unit)
def zd3:kJ:=sF Tryz.prog [] zmh (zP []) 30 176 yz yA
theorem znQ (a0) (a1):zd3 (a0,a1,())=KL a0 a1:=by kernel_rfl
def yB:kJ:=zd3
theorem zaW:Con.Ok Tryz.prog 176 ⟨yz,yA,yB⟩:=zw zi zo (by kernel_rfl)
theorem zjx (a0) (a1):yB (a0,a1,())=KL  a0 a1:=znQ  a0 a1
abbrev yC:List VT:=[⟨true,YP⟩,⟨false,(.list I)⟩]
abbrev yD:List VT:=[⟨false,.bool⟩]
def zmi:zT:=zO [⟨(.pair .bool (.pair .bool (.pair .bool (.pair .bool (.pair .bool (.pair .bool (.pair .bool (.pair .bool (.pair .bool (.pair .bool (.pair .bool .bool))))))))))),Ji (.pair .bool (.pair .bool (.pair .bool (.pair .bool (.pair .bool (.pair .bool (.pair .bool (.pair .bool (.pair .bool (.pair .bool (.pair .bool .bool))))))))))),[]⟩,cdF YP,cdF zM,cdF zql] [] [] [] []
def KM (a0:VE) (a1:(List Int)):Option (Bool×Unit):=
 opt (bif (zj ((a1.length:Nat):Int) 1) then some (1,((false,()),()))
  else bif (zj 8 ((a1.length:Nat):Int)) then some (1,((false,()),()))
   else some (0,((false,()),()))) fun x0=>
 bif Nat.beq x0.1 0 then opt (zD (fun s1:((Int×(Int×(Int×Unit)))×((List Bool)×(Unit×(Unit×Unit))))=>
   bif (zj s1.1.2.2.1 ((a1.length:Nat):Int)) then opt (atI a1 s1.1.2.2.1) fun x2=>
    bif zj x2 0 then some (.inl (0,((s1.1.1,(s1.1.2.1,(s1.1.2.2.1,()))),(s1.2.1,((),((),()))))))
    else bif (!(zj x2 (wrF .i64 (2*((a0.2.2.length:Nat):Int))))) then some (.inl (0,((s1.1.1,(s1.1.2.1,(s1.1.2.2.1,()))),(s1.2.1,((),((),()))))))
     else opt (atI a0.2.2 (wrF .i64 (Int.tdiv x2 2))) fun x3=>
      opt (bif zh (Int.tmod x2 2) 1 then some (0,(((x2,(x3.2.1,x3.1)),()),((),((),()))))
       else some (0,(((x2,(x3.1,x3.2.1)),()),((),((),()))))) fun x4=>
      bif Nat.beq x4.1 0 then opt (bif zh s1.1.2.2.1 0 then bif zj x4.2.1.1.2.1 12 then opt (atI s1.2.1 x4.2.1.1.2.1) fun x5=>
          opt (gl s1.2.1 (Int.toNat x4.2.1.1.2.1)) fun x6=>
          some (0,((),((s1.2.1.set (Int.toNat x4.2.1.1.2.1) true),((),()))))
         else none
        else bif !(zh x4.2.1.1.2.1 s1.1.1) then some (1,((),(s1.2.1,((),()))))
         else opt (atI a0.2.1 s1.1.1) fun x7=>
          bif x7 then some (1,((),(s1.2.1,((),()))))
          else some (0,((),(s1.2.1,((),()))))) fun x8=>
       bif Nat.beq x8.1 0 then bif zj x4.2.1.1.2.2 12 then opt (atI x8.2.2.1 x4.2.1.1.2.2) fun x9=>
         opt (gl x8.2.2.1 (Int.toNat x4.2.1.1.2.2)) fun x10=>
         bif x10 then some (.inl (1,((s1.1.1,(s1.1.2.1,(s1.1.2.2.1,()))),(x8.2.2.1,((),((),()))))))
         else bif zj x4.2.1.1.2.2 12 then opt (atI x8.2.2.1 x4.2.1.1.2.2) fun x11=>
           opt (gl x8.2.2.1 (Int.toNat x4.2.1.1.2.2)) fun x12=>
           some (.inr ((x4.2.1.1.2.2,((wrF .i64 (s1.1.2.1+1)),((wrF .i64 (s1.1.2.2.1+1)),()))),((x8.2.2.1.set (Int.toNat x4.2.1.1.2.2) true),((),((),())))))
          else none
        else none
       else some (.inl (1,((s1.1.1,(s1.1.2.1,(s1.1.2.2.1,()))),(x8.2.2.1,((),((),()))))))
      else none
   else some (.inl (0,((s1.1.1,(s1.1.2.1,(s1.1.2.2.1,()))),(s1.2.1,((),((),()))))))) zL ((0,(0,(0,()))),((List.replicate 12 false),((),((),()))))) fun x13=>
  bif Nat.beq x13.1 0 then some ((zh x13.2.1.2.1 ((a1.length:Nat):Int)),())
  else some ((zh x13.2.1.2.1 ((a1.length:Nat):Int)),())
 else some (x0.2.1.1,())
abbrev kK:Type:=(VE×(List Int)×Unit)→Option (Bool×Unit)
def zd4:kK:=sF Tryz.prog [] zmi (zP []) 30 157 yC yD
theorem znR (a0) (a1):zd4 (a0,a1,())=KM a0 a1:=by kernel_rfl
def yE:kK:=zd4
theorem zaX:Con.Ok Tryz.prog 157 ⟨yC,yD,yE⟩:=zw zi zo (by kernel_rfl)
theorem zjy (a0) (a1):yE (a0,a1,())=KM  a0 a1:=znR  a0 a1
abbrev uM:List VT:=[⟨true,zx⟩,⟨false,(.list I)⟩]
abbrev uN:List VT:=[⟨false,I⟩]
def zvG:zT:=zO [cdF zx,cdF zM] [] [] [] [37,157]
def zeF (zY:yy) (jm:kK) (a0:zK) (a1:(List Int)):Option (Int×Unit):=
 opt (zY (a0,())) fun x0=>
 bif !(zh x0.1 0) then some (x0.1,())
 else opt (jm (a0,(a1,()))) fun x1=>
  bif !x1.1 then some (310,())
  else some (0,())
abbrev Wj:Type:=(zK×(List Int)×Unit)→Option (Int×Unit)
def zlB:yy→kK→Wj:=fun zY jm=>sF Tryz.prog [(37,⟨ju,jv,zY⟩),(157,⟨yC,yD,jm⟩)] zvG (zP []) 30 174 uM uN
theorem zxT (zY) (jm) (a0) (a1):zlB zY jm (a0,a1,())=zeF zY jm a0 a1:=by kernel_rfl
def uO:Wj:=zlB jb yE
theorem zgP:Con.Ok Tryz.prog 174 ⟨uM,uN,uO⟩:=zw (zd Qd (zd zaX zi)) zo (by kernel_rfl)
theorem zrp (a0) (a1):uO (a0,a1,())=zeF jb yE a0 a1:=zxT jb yE a0 a1
abbrev Qq:List VT:=[⟨true,zx⟩,⟨false,(.list I)⟩]
abbrev Qr:List VT:=[⟨false,(.list I)⟩,⟨false,I⟩]
def zvH:zT:=zO [cdF zx,cdF zM] [] [⟨3,23,some 6,I,false⟩,⟨3,23,some 8,I,false⟩] [] [174]
def zeG (qZ:kJ) (yp:Wj) (a0:zK) (a1:(List Int)):Option ((List Int)×Int×Unit):=
 opt (yp (a0,(a1,()))) fun x0=>
 bif !(zh x0.1 0) then some ([],(x0.1,()))
 else opt (qZ (a0,(a1,()))) fun x1=>
  some (x1.1,(0,()))
abbrev Gx:Type:=(zK×(List Int)×Unit)→Option ((List Int)×Int×Unit)
def zlC:kJ→Wj→Gx:=fun qZ yp=>sF Tryz.prog [(176,⟨yz,yA,qZ⟩),(174,⟨uM,uN,yp⟩)] zvH (zP []) 30 173 Qq Qr
theorem zxU (qZ) (yp) (a0) (a1):zlC qZ yp (a0,a1,())=zeG qZ yp a0 a1:=by kernel_rfl
def Wk:Gx:=zlC yB uO
theorem zrq:Con.Ok Tryz.prog 173 ⟨Qq,Qr,Wk⟩:=zw (zd zaW (zd zgP zi)) zo (by kernel_rfl)
theorem zrr (a0) (a1):Wk (a0,a1,())=zeG yB uO a0 a1:=zxU yB uO a0 a1
abbrev Jq:List VT:=[⟨true,zx⟩,⟨false,(.list I)⟩]
abbrev Jr:List VT:=[⟨false,I⟩,⟨false,I⟩,⟨false,I⟩]
def zxV:zT:=zO [cdF zx,cdF zM] [] [] [] []
def zgQ (WC:Gx) (a0:zK) (a1:(List Int)):Option (Int×Int×Int×Unit):=
 opt (WC (a0,(a1,()))) fun x0=>
 bif !(zh x0.2.1 0) then some (0,(0,(x0.2.1,())))
 else opt (atI x0.1 0) fun x1=>
  opt (atI x0.1 (wrF .i64 (((x0.1.length:Nat):Int) - 1))) fun x2=>
  some (x1,(x2,(0,())))
abbrev zbJ:Type:=(zK×(List Int)×Unit)→Option (Int×Int×Int×Unit)
def znS:Gx→zbJ:=fun WC=>sF Tryz.prog [(173,⟨Qq,Qr,WC⟩)] zxV (zP []) 30 154 Jq Jr
theorem zAw (WC) (a0) (a1):znS WC (a0,a1,())=zgQ WC a0 a1:=by kernel_rfl
def YW:zbJ:=znS Wk
theorem ztz:Con.Ok Tryz.prog 154 ⟨Jq,Jr,YW⟩:=zw (zd zrq zi) zo (by kernel_rfl)
theorem ztA (a0) (a1):YW (a0,a1,())=zgQ Wk a0 a1:=zAw Wk a0 a1
abbrev Zl:List VT:=[⟨true,zx⟩,⟨false,(.list I)⟩,⟨false,I⟩,⟨false,I⟩]
abbrev Zm:List VT:=[⟨false,.bool⟩]
def ztB:zT:=zO [cdF zx,cdF zM] [] [] [] [154]
def zdd (Xy:zbJ) (a0:zK) (a1:(List Int)) (a2:Int) (a3:Int):Option (Bool×Unit):=
 opt (Xy (a0,(a1,()))) fun x0=>
 bif zh x0.2.2.1 0 then bif zh x0.1 a2 then some ((zh x0.2.1 a3),())
  else some (false,())
 else some (false,())
abbrev Ut:Type:=(zK×(List Int)×Int×Int×Unit)→Option (Bool×Unit)
def zjz:zbJ→Ut:=fun Xy=>sF Tryz.prog [(154,⟨Jq,Jr,Xy⟩)] ztB (zP []) 30 125 Zl Zm
theorem zvI (Xy) (a0) (a1) (a2) (a3):zjz Xy (a0,a1,a2,a3,())=zdd Xy a0 a1 a2 a3:=by kernel_rfl
def Zn:Ut:=zjz YW
theorem zpt:Con.Ok Tryz.prog 125 ⟨Zl,Zm,Zn⟩:=zw (zd ztz zi) zo (by kernel_rfl)
theorem zpu (a0) (a1) (a2) (a3):Zn (a0,a1,a2,a3,())=zdd YW a0 a1 a2 a3:=zvI YW a0 a1 a2 a3
abbrev Zo:List VT:=[⟨false,(.list I)⟩,⟨false,(.list I)⟩]
abbrev Zp:List VT:=[⟨false,.bool⟩]
def ztC:zT:=zO [] [] [] [] []
def zde (a0:(List Int)) (a1:(List Int)):Option (Bool×Unit):=
 opt (zD (fun s0:((Bool×(Int×Unit))×Unit)=>
  bif (zj s0.1.2.1 ((a0.length:Nat):Int)) then opt (atI a0 s0.1.2.1) fun x1=>
   opt (zD (fun s2:((Bool×(Int×Unit))×Unit)=>
    bif (zj s2.1.2.1 ((a1.length:Nat):Int)) then opt (atI a1 s2.1.2.1) fun x3=>
     bif (zh (wrF .i64 (Int.tdiv x1 2)) (wrF .i64 (Int.tdiv x3 2))) then some (.inl (1,((true,(s2.1.2.1,())),())))
     else some (.inr ((s2.1.1,((wrF .i64 (s2.1.2.1+1)),())),()))
    else some (.inl (0,((s2.1.1,(s2.1.2.1,())),())))) zL ((s0.1.1,(0,())),())) fun x4=>
   bif Nat.beq x4.1 0 then some (.inr ((x4.2.1.1,((wrF .i64 (s0.1.2.1+1)),())),()))
   else some (.inl (1,((x4.2.1.1,(s0.1.2.1,())),())))
  else some (.inl (0,((s0.1.1,(s0.1.2.1,())),())))) zL ((false,(0,())),())) fun x5=>
 bif Nat.beq x5.1 0 then some (false,())
 else some (x5.2.1.1,())
abbrev Uu:Type:=((List Int)×(List Int)×Unit)→Option (Bool×Unit)
def zjA:Uu:=sF Tryz.prog [] ztC (zP []) 30 158 Zo Zp
theorem zvJ (a0) (a1):zjA (a0,a1,())=zde a0 a1:=by kernel_rfl
def QQ:Uu:=zjA
theorem zpv:Con.Ok Tryz.prog 158 ⟨Zo,Zp,QQ⟩:=zw zi zo (by kernel_rfl)
theorem zpw (a0) (a1):QQ (a0,a1,())=zde  a0 a1:=zvJ  a0 a1
abbrev wY:List VT:=[⟨false,(.list I)⟩,⟨false,I⟩]
abbrev wZ:List VT:=[⟨false,I⟩]
def zfT:zT:=zO [] [] [] [] []
def Js (a0:(List Int)) (a1:Int):Option (Int×Unit):=
 opt (zD (fun s0:((Int×(Int×Unit))×Unit)=>
  bif (zj s0.1.2.1 ((a0.length:Nat):Int)) then opt (atI a0 s0.1.2.1) fun x1=>
   bif zh a1 x1 then some (.inl (1,((s0.1.2.1,(s0.1.2.1,())),())))
   else some (.inr ((s0.1.1,((wrF .i64 (s0.1.2.1+1)),())),()))
  else some (.inl (0,((s0.1.1,(s0.1.2.1,())),())))) zL ((0,(0,())),())) fun x2=>
 bif Nat.beq x2.1 0 then some ((-1),())
 else some (x2.2.1.1,())
abbrev ga:Type:=((List Int)×Int×Unit)→Option (Int×Unit)
def KN:ga:=sF Tryz.prog [] zfT (zP []) 30 190 wY wZ
theorem zgR (a0) (a1):KN (a0,a1,())=Js a0 a1:=by kernel_rfl
def yZ:ga:=KN
theorem zd5:Con.Ok Tryz.prog 190 ⟨wY,wZ,yZ⟩:=zw zi zo (by kernel_rfl)
theorem zd6 (a0) (a1):yZ (a0,a1,())=Js  a0 a1:=zgR  a0 a1
abbrev jW:List VT:=[⟨false,(.list I)⟩,⟨false,I⟩]
abbrev jX:List VT:=[⟨false,.bool⟩]
def zdf:zT:=zO [] [] [] [] [190]
def ZP (xd:ga) (a0:(List Int)) (a1:Int):Option (Bool×Unit):=
 opt (xd (a0,(a1,()))) fun x0=>
 some ((!(zj x0.1 0)),())
abbrev ur:Type:=((List Int)×Int×Unit)→Option (Bool×Unit)
def XK:ga→ur:=fun xd=>sF Tryz.prog [(190,⟨wY,wZ,xd⟩)] zdf (zP []) 30 177 jW jX
theorem zd7 (xd) (a0) (a1):XK xd (a0,a1,())=ZP xd a0 a1:=by kernel_rfl
def yf:ur:=XK yZ
theorem zbK:Con.Ok Tryz.prog 177 ⟨jW,jX,yf⟩:=zw (zd zd5 zi) zo (by kernel_rfl)
theorem zbL (a0) (a1):yf (a0,a1,())=ZP yZ a0 a1:=zd7 yZ a0 a1
abbrev vp:List VT:=[⟨true,YP⟩,⟨false,(.list I)⟩,⟨false,(.list I)⟩]
abbrev vq:List VT:=[⟨false,.bool⟩]
def zmj:zT:=zO [cdF YP] [] [] [] [177]
def KP (qZ:kJ) (yh:ur) (a0:VE) (a1:(List Int)) (a2:(List Int)):Option (Bool×Unit):=
 opt (qZ (a0,(a1,()))) fun x0=>
 opt (qZ (a0,(a2,()))) fun x1=>
 opt (QG x0.1 (some 1) (some (wrF .i64 (((x0.1.length:Nat):Int) - 1))) (some (wrF .i64 (((x0.1.length:Nat):Int) - 1)))) fun x2=>
 opt (zD (fun s3:((Bool×(Int×Unit))×Unit)=>
  bif (zj s3.1.2.1 ((x2.length:Nat):Int)) then opt (atI x2 s3.1.2.1) fun x4=>
   opt (yh (x1.1,(x4,()))) fun x5=>
   bif x5.1 then some (.inl (1,((true,(s3.1.2.1,())),())))
   else some (.inr ((s3.1.1,((wrF .i64 (s3.1.2.1+1)),())),()))
  else some (.inl (0,((s3.1.1,(s3.1.2.1,())),())))) zL ((false,(0,())),())) fun x6=>
 bif Nat.beq x6.1 0 then some (false,())
 else some (x6.2.1.1,())
abbrev Yb:Type:=(VE×(List Int)×(List Int)×Unit)→Option (Bool×Unit)
def zd8:kJ→ur→Yb:=fun qZ yh=>sF Tryz.prog [(176,⟨yz,yA,qZ⟩),(177,⟨jW,jX,yh⟩)] zmj (zP []) 30 159 vp vq
theorem znT (qZ) (yh) (a0) (a1) (a2):zd8 qZ yh (a0,a1,a2,())=KP qZ yh a0 a1 a2:=by kernel_rfl
def kL:Yb:=zd8 yB yf
theorem zjB:Con.Ok Tryz.prog 159 ⟨vp,vq,kL⟩:=zw (zd zaW (zd zbK zi)) zo (by kernel_rfl)
theorem zjC (a0) (a1) (a2):kL (a0,a1,a2,())=KP yB yf a0 a1 a2:=znT yB yf a0 a1 a2
abbrev Qs:List VT:=[⟨true,zx⟩,⟨false,(.list I)⟩,⟨false,(.list I)⟩]
abbrev Qt:List VT:=[⟨false,.bool⟩,⟨false,I⟩]
def zvK:zT:=zO [cdF zx,cdF zM] [] [] [] [157,158,159,174]
def zeH (jm:kK) (QX:Uu) (vB:Yb) (yp:Wj) (a0:zK) (a1:(List Int)) (a2:(List Int)):Option (Bool×Int×Unit):=
 opt (yp (a0,(a1,()))) fun x0=>
 bif !(zh x0.1 0) then some (false,(x0.1,()))
 else opt (jm (a0,(a2,()))) fun x1=>
  bif !x1.1 then some (false,(310,()))
  else opt (QX (a1,(a2,()))) fun x2=>
   bif !x2.1 then opt (vB (a0,(a1,(a2,())))) fun x3=>
    bif !x3.1 then opt (vB (a0,(a2,(a1,())))) fun x4=>
     some ((!x4.1),(0,()))
    else some (false,(0,()))
   else some (false,(0,()))
abbrev Gy:Type:=(zK×(List Int)×(List Int)×Unit)→Option (Bool×Int×Unit)
def zlD:kK→Uu→Yb→Wj→Gy:=fun jm QX vB yp=>sF Tryz.prog [(157,⟨yC,yD,jm⟩),(158,⟨Zo,Zp,QX⟩),(159,⟨vp,vq,vB⟩),(174,⟨uM,uN,yp⟩)] zvK (zP []) 30 127 Qs Qt
theorem zxW (jm) (QX) (vB) (yp) (a0) (a1) (a2):zlD jm QX vB yp (a0,a1,a2,())=zeH jm QX vB yp a0 a1 a2:=by kernel_rfl
def gU:Gy:=zlD yE QQ kL uO
theorem zrs:Con.Ok Tryz.prog 127 ⟨Qs,Qt,gU⟩:=zw (zd zaX (zd zpv (zd zjB (zd zgP zi)))) zo (by kernel_rfl)
theorem zrt (a0) (a1) (a2):gU (a0,a1,a2,())=zeH yE QQ kL uO a0 a1 a2:=zxW yE QQ kL uO a0 a1 a2
abbrev vK:List VT:=[⟨true,zx⟩,⟨true,zr⟩]
abbrev vL:List VT:=[⟨false,.bool⟩]
def ztD:zT:=zO [cdF zr,cdF zx,cdF zM,cdF zv] [] [] [] [67,119,84,125,127]
def zdg (qc:vo) (kF:Va) (qm:xK) (ZB:Ut) (km:Gy) (a0:zK) (a1:zA):Option (Bool×Unit):=
 opt (qc (a1.1,(1,(4095,())))) fun x0=>
 bif !x0.1 then some (false,())
 else opt (kF (a0,(a1.2.1,()))) fun x1=>
  bif x1.1 then opt (kF (a0,(a1.2.2.1,()))) fun x2=>
   bif x2.1 then bif (!(!(zh a1.2.1 a1.2.2.1))) then some (false,())
    else opt (qc (a1.2.2.2.2.1,(84,(1542,())))) fun x3=>
     bif !x3.1 then some (false,())
     else opt (qc (a1.2.2.2.2.2.2.2.1,(1,(1099511627776,())))) fun x4=>
      bif !x4.1 then some (false,())
      else bif zh a1.2.2.2.1 7 then opt (qc (a1.2.2.2.2.2.1,(1,(240,())))) fun x5=>
        bif x5.1 then bif (!((zh a1.2.2.2.2.2.2.1.1 0)&&((zh a1.2.2.2.2.2.2.1.2 0)&&true))) then some (false,())
         else opt (qc (((a1.2.2.2.2.2.2.2.2.length:Nat):Int),(1,(2,())))) fun x6=>
          bif !x6.1 then some (false,())
          else opt (zD (fun s7:((Bool×(Int×Unit))×Unit)=>
            bif (zj s7.1.2.1 ((a1.2.2.2.2.2.2.2.2.length:Nat):Int)) then opt (atI a1.2.2.2.2.2.2.2.2 s7.1.2.1) fun x8=>
             opt (ZB (a0,(x8,(a1.2.1,(a1.2.2.1,()))))) fun x9=>
             bif !x9.1 then some (.inl (1,((false,(s7.1.2.1,())),())))
             else some (.inr ((s7.1.1,((wrF .i64 (s7.1.2.1+1)),())),()))
            else some (.inl (0,((s7.1.1,(s7.1.2.1,())),())))) zL ((false,(0,())),())) fun x10=>
           bif Nat.beq x10.1 0 then bif (zj ((a1.2.2.2.2.2.2.2.2.length:Nat):Int) 2) then some (true,())
            else opt (atI a1.2.2.2.2.2.2.2.2 0) fun x11=>
             opt (atI a1.2.2.2.2.2.2.2.2 1) fun x12=>
             opt (km (a0,(x11,(x12,())))) fun x13=>
             bif zh x13.2.1 0 then bif !x13.1 then some (false,())
              else some (true,())
             else some (false,())
           else bif !x10.2.1.1 then some (false,())
            else bif (zj ((a1.2.2.2.2.2.2.2.2.length:Nat):Int) 2) then some (true,())
             else opt (atI a1.2.2.2.2.2.2.2.2 0) fun x14=>
              opt (atI a1.2.2.2.2.2.2.2.2 1) fun x15=>
              opt (km (a0,(x14,(x15,())))) fun x16=>
              bif zh x16.2.1 0 then bif !x16.1 then some (false,())
               else some (true,())
              else some (false,())
        else some (false,())
       else bif zh a1.2.2.2.1 6 then bif zh a1.2.2.2.2.2.1 0 then opt (qm (a1.2.2.2.2.2.2.1,())) fun x17=>
          bif zh x17.1 0 then bif (!(!(zj a1.2.2.2.2.2.2.1.1 a1.2.2.2.2.1))) then some (false,())
           else opt (qc (((a1.2.2.2.2.2.2.2.2.length:Nat):Int),(1,(2,())))) fun x18=>
            bif !x18.1 then some (false,())
            else opt (zD (fun s19:((Bool×(Int×Unit))×Unit)=>
              bif (zj s19.1.2.1 ((a1.2.2.2.2.2.2.2.2.length:Nat):Int)) then opt (atI a1.2.2.2.2.2.2.2.2 s19.1.2.1) fun x20=>
               opt (ZB (a0,(x20,(a1.2.1,(a1.2.2.1,()))))) fun x21=>
               bif !x21.1 then some (.inl (1,((false,(s19.1.2.1,())),())))
               else some (.inr ((s19.1.1,((wrF .i64 (s19.1.2.1+1)),())),()))
              else some (.inl (0,((s19.1.1,(s19.1.2.1,())),())))) zL ((false,(0,())),())) fun x22=>
             bif Nat.beq x22.1 0 then bif (zj ((a1.2.2.2.2.2.2.2.2.length:Nat):Int) 2) then some (true,())
              else opt (atI a1.2.2.2.2.2.2.2.2 0) fun x23=>
               opt (atI a1.2.2.2.2.2.2.2.2 1) fun x24=>
               opt (km (a0,(x23,(x24,())))) fun x25=>
               bif zh x25.2.1 0 then bif !x25.1 then some (false,())
                else some (true,())
               else some (false,())
             else bif !x22.2.1.1 then some (false,())
              else bif (zj ((a1.2.2.2.2.2.2.2.2.length:Nat):Int) 2) then some (true,())
               else opt (atI a1.2.2.2.2.2.2.2.2 0) fun x26=>
                opt (atI a1.2.2.2.2.2.2.2.2 1) fun x27=>
                opt (km (a0,(x26,(x27,())))) fun x28=>
                bif zh x28.2.1 0 then bif !x28.1 then some (false,())
                 else some (true,())
                else some (false,())
          else some (false,())
         else some (false,())
        else some (false,())
   else some (false,())
  else some (false,())
abbrev QR:Type:=(zK×zA×Unit)→Option (Bool×Unit)
def zjD:vo→Va→xK→Ut→Gy→QR:=fun qc kF qm ZB km=>sF Tryz.prog [(67,⟨wW,wX,qc⟩),(119,⟨kr,ku,kF⟩),(84,⟨wL,wM,qm⟩),(125,⟨Zl,Zm,ZB⟩),(127,⟨Qs,Qt,km⟩)] ztD (zP []) 30 82 vK vL
theorem zvL (qc) (kF) (qm) (ZB) (km) (a0) (a1):zjD qc kF qm ZB km (a0,a1,())=zdg qc kF qm ZB km a0 a1:=by kernel_rfl
def vM:QR:=zjD wk Zk jO Zn gU
theorem zfm:Con.Ok Tryz.prog 82 ⟨vK,vL,vM⟩:=zw (zd VU (zd zme (zd Yv (zd zpt (zd zrs zi))))) zo (by kernel_rfl)
theorem zpx (a0) (a1):vM (a0,a1,())=zdg wk Zk jO Zn gU a0 a1:=zvL wk Zk jO Zn gU a0 a1
abbrev yO:List VT:=[⟨true,zx⟩,⟨false,(.list zr)⟩]
abbrev yP:List VT:=[⟨false,I⟩]
def znU:zT:=zO [cdF zr,cdF zx,cdF zM,cdF zv] [] [] [] [37,82]
def UH (zY:yy) (wO:QR) (a0:zK) (a1:(List zA)):Option (Int×Unit):=
 opt (zY (a0,())) fun x0=>
 bif !(zh x0.1 0) then some (x0.1,())
 else bif (zj 12 ((a1.length:Nat):Int)) then some (3,())
  else opt (zD (fun s1:((Int×(Int×Unit))×Unit)=>
    bif (zj s1.1.2.1 ((a1.length:Nat):Int)) then opt (atI a1 s1.1.2.1) fun x2=>
     opt (wO (a0,(x2,()))) fun x3=>
     bif !x3.1 then some (.inl (1,((321,(s1.1.2.1,())),())))
     else some (.inr ((s1.1.1,((wrF .i64 (s1.1.2.1+1)),())),()))
    else some (.inl (0,((s1.1.1,(s1.1.2.1,())),())))) zL ((0,(0,())),())) fun x4=>
   bif Nat.beq x4.1 0 then opt (zD (fun s5:((Int×(Int×Unit))×((List (Int×Bool))×Unit))=>
     bif (zj s5.1.2.1 ((a1.length:Nat):Int)) then opt (atI a1 s5.1.2.1) fun x6=>
      bif mpD (α:=Bool) s5.2.1 x6.1 false then some (.inl (1,((322,(s5.1.2.1,())),(s5.2.1,()))))
      else some (.inr ((s5.1.1,((wrF .i64 (s5.1.2.1+1)),())),((mpP (α:=Bool) s5.2.1 x6.1 true),())))
     else some (.inl (0,((s5.1.1,(s5.1.2.1,())),(s5.2.1,()))))) zL ((x4.2.1.1,(0,())),([],()))) fun x7=>
    bif Nat.beq x7.1 0 then some (0,())
    else some (x7.2.1.1,())
   else some (x4.2.1.1,())
abbrev Yw:Type:=(zK×(List zA)×Unit)→Option (Int×Unit)
def zfn:yy→QR→Yw:=fun zY wO=>sF Tryz.prog [(37,⟨ju,jv,zY⟩),(82,⟨vK,vL,wO⟩)] znU (zP []) 30 72 yO yP
theorem zpy (zY) (wO) (a0) (a1):zfn zY wO (a0,a1,())=UH zY wO a0 a1:=by kernel_rfl
def gD:Yw:=zfn jb vM
theorem zkU:Con.Ok Tryz.prog 72 ⟨yO,yP,gD⟩:=zw (zd Qd (zd zfm zi)) zo (by kernel_rfl)
theorem zkV (a0) (a1):gD (a0,a1,())=UH jb vM a0 a1:=zpy jb vM a0 a1
abbrev jP:List VT:=[⟨false,(.list I)⟩,⟨false,I⟩]
abbrev jQ:List VT:=[⟨false,I⟩]
def zcw:zT:=zO [] [] [] [] []
def Zq (a0:(List Int)) (a1:Int):Option (Int×Unit):=
 opt (zD (fun s0:((Int×(Int×Unit))×Unit)=>
  bif (zj s0.1.2.1 ((a0.length:Nat):Int)) then opt (atI a0 s0.1.2.1) fun x1=>
   bif zh a1 x1 then some (.inl (1,((s0.1.2.1,(s0.1.2.1,())),())))
   else some (.inr ((s0.1.1,((wrF .i64 (s0.1.2.1+1)),())),()))
  else some (.inl (0,((s0.1.1,(s0.1.2.1,())),())))) zL ((0,(0,())),())) fun x2=>
 bif Nat.beq x2.1 0 then some ((-1),())
 else some (x2.2.1.1,())
abbrev vN:Type:=((List Int)×Int×Unit)→Option (Int×Unit)
def YX:vN:=sF Tryz.prog [] zcw (zP []) 30 162 jP jQ
theorem zdh (a0) (a1):YX (a0,a1,())=Zq a0 a1:=by kernel_rfl
def wN:vN:=YX
theorem za1:Con.Ok Tryz.prog 162 ⟨jP,jQ,wN⟩:=zw zi zo (by kernel_rfl)
theorem za2 (a0) (a1):wN (a0,a1,())=Zq  a0 a1:=zdh  a0 a1
abbrev qH:List VT:=[⟨false,(.list I)⟩,⟨false,I⟩]
abbrev qI:List VT:=[⟨false,.bool⟩]
def zaq:zT:=zO [] [] [] [] [162]
def kP (wP:vN) (a0:(List Int)) (a1:Int):Option (Bool×Unit):=
 opt (wP (a0,(a1,()))) fun x0=>
 some ((!(zj x0.1 0)),())
abbrev xF:Type:=((List Int)×Int×Unit)→Option (Bool×Unit)
def JU:vN→xF:=fun wP=>sF Tryz.prog [(162,⟨jP,jQ,wP⟩)] zaq (zP []) 30 136 qH qI
theorem za3 (wP) (a0) (a1):JU wP (a0,a1,())=kP wP a0 a1:=by kernel_rfl
def qS:xF:=JU wN
theorem UI:Con.Ok Tryz.prog 136 ⟨qH,qI,qS⟩:=zw (zd za1 zi) zo (by kernel_rfl)
theorem UJ (a0) (a1):qS (a0,a1,())=kP wN a0 a1:=za3 wN a0 a1
abbrev Zr:List VT:=[⟨true,Uo⟩]
abbrev Zs:List VT:=[⟨false,I⟩]
def ztE:zT:=zO [cdF Uo,cdF zM] [] [] [] []
def zdi (a0:zh6):Option (Int×Unit):=
 some (a0.1.2.2.1,())
abbrev Uv:Type:=(zh6×Unit)→Option (Int×Unit)
def zjE:Uv:=sF Tryz.prog [] ztE (zP []) 30 138 Zr Zs
theorem zvM (a0):zjE (a0,())=zdi a0:=by kernel_rfl
def YY:Uv:=zjE
theorem zpz:Con.Ok Tryz.prog 138 ⟨Zr,Zs,YY⟩:=zw zi zo (by kernel_rfl)
theorem zpA (a0):YY (a0,())=zdi  a0:=zvM  a0
abbrev QI:List VT:=[⟨true,zx⟩,⟨false,I⟩]
abbrev QJ:List VT:=[⟨false,I⟩,⟨false,I⟩]
def zBz:zT:=zO [cdF zx,cdF Uo,cdF zM] [] [] [] [37,138]
def zkW (zY:yy) (QY:Uv) (a0:zK) (a1:Int):Option (Int×Int×Unit):=
 opt (zY (a0,())) fun x0=>
 bif !(zh x0.1 0) then some (0,(x0.1,()))
 else opt (bif zj a1 0 then some (1,((0,(2,())),()))
   else bif (!(zj a1 (wrF .i64 (2*((a0.2.2.length:Nat):Int))))) then some (1,((0,(2,())),()))
    else some (0,((0,(0,())),()))) fun x1=>
  bif Nat.beq x1.1 0 then opt (atI a0.2.2 (wrF .i64 (Int.tdiv a1 2))) fun x2=>
   opt (QY ((x2,a1),())) fun x3=>
   some (x3.1,(0,()))
  else some (x1.2.1.1,(x1.2.1.2.1,()))
abbrev zfU:Type:=(zK×Int×Unit)→Option (Int×Int×Unit)
def ztF:yy→Uv→zfU:=fun zY QY=>sF Tryz.prog [(37,⟨ju,jv,zY⟩),(138,⟨Zr,Zs,QY⟩)] zBz (zP []) 30 100 QI QJ
theorem zDz (zY) (QY) (a0) (a1):ztF zY QY (a0,a1,())=zkW zY QY a0 a1:=by kernel_rfl
def gb:zfU:=ztF jb YY
theorem zxX:Con.Ok Tryz.prog 100 ⟨QI,QJ,gb⟩:=zw (zd Qd (zd zpz zi)) zo (by kernel_rfl)
theorem zxY (a0) (a1):gb (a0,a1,())=zkW jb YY a0 a1:=zDz jb YY a0 a1
abbrev gf:List VT:=[⟨true,zN⟩,⟨false,I⟩,⟨false,I⟩]
abbrev gg:List VT:=[⟨false,I⟩]
def zru:zT:=zO [cdF zN,cdF qe] [] [] [] [39]
def zbM (qW:gS) (a0:qp) (a1:Int) (a2:Int):Option (Int×Unit):=
 opt (qW (a0,())) fun x0=>
 bif !(zh x0.1 0) then some (x0.1,())
 else opt (bif zj a1 1 then some (1,((2,()),()))
   else bif zj 1000 a1 then some (1,((2,()),()))
    else bif zj a2 84 then some (1,((2,()),()))
     else bif zj 1542 a2 then some (1,((2,()),()))
      else some (0,((0,()),()))) fun x1=>
  bif Nat.beq x1.1 0 then some (0,())
  else some (x1.2.1.1,())
abbrev Ki:Type:=(qp×Int×Int×Unit)→Option (Int×Unit)
def zic:gS→Ki:=fun qW=>sF Tryz.prog [(39,⟨xy,xz,qW⟩)] zru (zP []) 30 139 gf gg
theorem ztG (qW) (a0) (a1) (a2):zic qW (a0,a1,a2,())=zbM qW a0 a1 a2:=by kernel_rfl
def Qe:Ki:=zic yR
theorem znV:Con.Ok Tryz.prog 139 ⟨gf,gg,Qe⟩:=zw (zd zan zi) zo (by kernel_rfl)
theorem znW (a0) (a1) (a2):Qe (a0,a1,a2,())=zbM yR a0 a1 a2:=ztG yR a0 a1 a2
abbrev Qu:List VT:=[⟨true,zN⟩,⟨false,I⟩,⟨false,I⟩,⟨false,I⟩]
abbrev Qv:List VT:=[⟨false,I⟩]
def zvN:zT:=zO [cdF zN,cdF qe] [] [] [] [39]
def zeI (qW:gS) (a0:qp) (a1:Int) (a2:Int) (a3:Int):Option (Int×Unit):=
 opt (qW (a0,())) fun x0=>
 bif !(zh x0.1 0) then some (x0.1,())
 else opt (bif zj a1 0 then some (1,((2,()),()))
   else bif !(zj a1 8) then some (1,((2,()),()))
    else bif zj a2 (-1099511627776) then some (1,((2,()),()))
     else bif zj 1099511627776 a2 then some (1,((2,()),()))
      else bif zj a3 0 then some (1,((2,()),()))
       else bif zj 1099511627776 a3 then some (1,((2,()),()))
        else some (0,((0,()),()))) fun x1=>
  bif Nat.beq x1.1 0 then some (0,())
  else some (x1.2.1.1,())
abbrev Gz:Type:=(qp×Int×Int×Int×Unit)→Option (Int×Unit)
def zlE:gS→Gz:=fun qW=>sF Tryz.prog [(39,⟨xy,xz,qW⟩)] zvN (zP []) 30 191 Qu Qv
theorem zxZ (qW) (a0) (a1) (a2) (a3):zlE qW (a0,a1,a2,a3,())=zeI qW a0 a1 a2 a3:=by kernel_rfl
def Wl:Gz:=zlE yR
theorem zrv:Con.Ok Tryz.prog 191 ⟨Qu,Qv,Wl⟩:=zw (zd zan zi) zo (by kernel_rfl)
theorem zrw (a0) (a1) (a2) (a3):Wl (a0,a1,a2,a3,())=zeI yR a0 a1 a2 a3:=zxZ yR a0 a1 a2 a3
abbrev Jt:List VT:=[⟨true,zN⟩,⟨false,I⟩]
abbrev Ju:List VT:=[⟨false,I⟩,⟨false,I⟩]
def zx0:zT:=zO [cdF zN,cdF qe] [] [] [] []
def zgS (a0:qp) (a1:Int):Option (Int×Int×Unit):=
 bif zh a0.2 0 then none
 else bif zh a0.2 0 then none
  else opt (atI a0.1 0) fun x0=>
   bif (!(zj (Int.tmod (wrF .i64 ((Int.tmod a1 a0.2)+a0.2)) a0.2) x0.2)) then opt (atI a0.1 0) fun x1=>
    opt (zD (fun s2:((Int×(Int×(Int×Unit)))×Unit)=>
     opt (atI a0.1 s2.1.2.1) fun x3=>
     bif !(zj s2.1.1 x3.2) then opt (atI a0.1 s2.1.2.1) fun x4=>
      some (.inr (((wrF .i64 (s2.1.1 - x4.2)),((wrF .i64 (s2.1.2.1+1)),(s2.1.2.2.1,()))),()))
     else opt (atI a0.1 s2.1.2.1) fun x5=>
      some (.inl (0,((s2.1.1,(s2.1.2.1,((wrF .i64 (x5.2 - s2.1.1)),()))),())))) zL (((wrF .i64 ((Int.tmod (wrF .i64 ((Int.tmod a1 a0.2)+a0.2)) a0.2) - x1.2)),(1,(0,()))),())) fun x6=>
    some (x6.2.1.2.1,(x6.2.1.2.2.1,()))
   else opt (atI a0.1 0) fun x7=>
    some (0,((wrF .i64 (x7.2 - (Int.tmod (wrF .i64 ((Int.tmod a1 a0.2)+a0.2)) a0.2))),()))
abbrev zbN:Type:=(qp×Int×Unit)→Option (Int×Int×Unit)
def znX:zbN:=sF Tryz.prog [] zx0 (zP []) 30 197 Jt Ju
theorem zAx (a0) (a1):znX (a0,a1,())=zgS a0 a1:=by kernel_rfl
def YZ:zbN:=znX
theorem ztH:Con.Ok Tryz.prog 197 ⟨Jt,Ju,YZ⟩:=zw zi zo (by kernel_rfl)
theorem ztI (a0) (a1):YZ (a0,a1,())=zgS  a0 a1:=zAx  a0 a1
abbrev Jv:List VT:=[⟨true,zN⟩,⟨false,I⟩,⟨false,I⟩]
abbrev Jw:List VT:=[⟨false,I⟩]
def zx1:zT:=zO [cdF zN,cdF qe] [] [] [] [197]
def zgT (Xz:zbN) (a0:qp) (a1:Int) (a2:Int):Option (Int×Unit):=
 opt (Xz (a0,(a2,()))) fun x0=>
 opt (zD (fun s1:((Int×(((List (Int×Int))×Int)×(Int×(Int×(Int×(Int×(Int×Unit)))))))×Unit)=>
  bif (zj s1.1.2.2.2.2.2.2.1 (wrF .i64 (((a0.1.length:Nat):Int)+1))) then opt (atI s1.1.2.1.1 s1.1.2.2.2.2.1) fun x2=>
   bif zj s1.1.1 0 then none
   else bif (!(zh (kV .and .i64 (wa .i64 x2.1 s1.1.1) 1) 1)) then some (.inl (1,((s1.1.1,(s1.1.2.1,(s1.1.2.2.2.1,(s1.1.2.2.2.1,(s1.1.2.2.2.2.1,(s1.1.2.2.2.2.2.1,(s1.1.2.2.2.2.2.2.1,()))))))),())))
    else bif (zh ((s1.1.2.1.1.length:Nat):Int) 0) then none
     else opt (atI s1.1.2.1.1 (Int.tmod (wrF .i64 (s1.1.2.2.2.2.1+1)) ((s1.1.2.1.1.length:Nat):Int))) fun x3=>
      some (.inr ((s1.1.1,(s1.1.2.1,(s1.1.2.2.1,((wrF .i64 (s1.1.2.2.2.1+s1.1.2.2.2.2.2.1)),((Int.tmod (wrF .i64 (s1.1.2.2.2.2.1+1)) ((s1.1.2.1.1.length:Nat):Int)),(x3.2,((wrF .i64 (s1.1.2.2.2.2.2.2.1+1)),()))))))),()))
  else some (.inl (0,((s1.1.1,(s1.1.2.1,(s1.1.2.2.1,(s1.1.2.2.2.1,(s1.1.2.2.2.2.1,(s1.1.2.2.2.2.2.1,(s1.1.2.2.2.2.2.2.1,()))))))),())))) zL ((a1,(a0,(0,(0,(x0.1,(x0.2.1,(0,()))))))),())) fun x4=>
 bif Nat.beq x4.1 0 then bif zh x4.2.1.2.1.2 a0.2 then some (1099511627776,())
  else some (x4.2.1.2.1.2,())
 else bif zh x4.2.1.2.2.1 a0.2 then some (1099511627776,())
  else some (x4.2.1.2.2.1,())
abbrev zbO:Type:=(qp×Int×Int×Unit)→Option (Int×Unit)
def znY:zbN→zbO:=fun Xz=>sF Tryz.prog [(197,⟨Jt,Ju,Xz⟩)] zx1 (zP []) 30 192 Jv Jw
theorem zAy (Xz) (a0) (a1) (a2):znY Xz (a0,a1,a2,())=zgT Xz a0 a1 a2:=by kernel_rfl
def Xa:zbO:=znY YZ
theorem ztJ:Con.Ok Tryz.prog 192 ⟨Jv,Jw,Xa⟩:=zw (zd ztH zi) zo (by kernel_rfl)
theorem ztK (a0) (a1) (a2):Xa (a0,a1,a2,())=zgT YZ a0 a1 a2:=zAy YZ a0 a1 a2
abbrev Jx:List VT:=[⟨true,zN⟩,⟨false,I⟩,⟨false,I⟩]
abbrev Jy:List VT:=[⟨false,I⟩,⟨false,I⟩]
def zx2:zT:=zO [cdF zN,cdF qe] [] [] [] [191,192]
def zgU (WD:Gz) (XA:zbO) (a0:qp) (a1:Int) (a2:Int):Option (Int×Int×Unit):=
 opt (WD (a0,(a1,(a2,(0,()))))) fun x0=>
 bif !(zh x0.1 0) then some (0,(x0.1,()))
 else opt (XA (a0,(a1,(a2,())))) fun x1=>
  some (x1.1,(0,()))
abbrev zbP:Type:=(qp×Int×Int×Unit)→Option (Int×Int×Unit)
def znZ:Gz→zbO→zbP:=fun WD XA=>sF Tryz.prog [(191,⟨Qu,Qv,WD⟩),(192,⟨Jv,Jw,XA⟩)] zx2 (zP []) 30 178 Jx Jy
theorem zAz (WD) (XA) (a0) (a1) (a2):znZ WD XA (a0,a1,a2,())=zgU WD XA a0 a1 a2:=by kernel_rfl
def Xb:zbP:=znZ Wl Xa
theorem ztL:Con.Ok Tryz.prog 178 ⟨Jx,Jy,Xb⟩:=zw (zd zrv (zd ztJ zi)) zo (by kernel_rfl)
theorem ztM (a0) (a1) (a2):Xb (a0,a1,a2,())=zgU Wl Xa a0 a1 a2:=zAz Wl Xa a0 a1 a2
abbrev kx:List VT:=[⟨true,zN⟩]
abbrev ky:List VT:=[⟨false,.bool⟩]
def zpB:zT:=zO [cdF zN,cdF qe] [] [] [] [178]
def zar (XB:zbP) (a0:qp):Option (Bool×Unit):=
 opt (XB (a0,(6,(0,())))) fun x0=>
 bif zh x0.2.1 0 then some ((zh x0.1 1099511627776),())
 else some (false,())
abbrev Vb:Type:=(qp×Unit)→Option (Bool×Unit)
def zgV:zbP→Vb:=fun XB=>sF Tryz.prog [(178,⟨Jx,Jy,XB⟩)] zpB (zP []) 30 164 kx ky
theorem zrx (XB) (a0):zgV XB (a0,())=zar XB a0:=by kernel_rfl
def Zt:Vb:=zgV Xb
theorem zmk:Con.Ok Tryz.prog 164 ⟨kx,ky,Zt⟩:=zw (zd ztL zi) zo (by kernel_rfl)
theorem zml (a0):Zt (a0,())=zar Xb a0:=zrx Xb a0
abbrev xr:List VT:=[⟨true,qe⟩]
abbrev xt:List VT:=[⟨false,.bool⟩]
def zpC:zT:=zO [cdF qe] [] [] [] []
def Vc (a0:zkJ):Option (Bool×Unit):=
 some ((zh (kV .and .i64 (wa .i64 a0.1 6) 1) 1),())
abbrev Zu:Type:=(zkJ×Unit)→Option (Bool×Unit)
def zgW:Zu:=sF Tryz.prog [] zpC (zP []) 30 180 xr xt
theorem zry (a0):zgW (a0,())=Vc a0:=by kernel_rfl
def xu:Zu:=zgW
theorem zcF:Con.Ok Tryz.prog 180 ⟨xr,xt,xu⟩:=zw zi zo (by kernel_rfl)
theorem zcG (a0):xu (a0,())=Vc  a0:=zry  a0
abbrev vU:List VT:=[⟨true,zN⟩,⟨false,I⟩]
abbrev vW:List VT:=[⟨false,I⟩]
def zn0:zT:=zO [cdF zN,cdF qe] [] [] [] [164,180]
def Yx (ZC:Vb) (ji:Zu) (a0:qp) (a1:Int):Option (Int×Unit):=
 opt (ZC (a0,())) fun x0=>
 bif x0.1 then some (a0.2,())
 else opt (zD (fun s1:((Int×(Int×(Int×Unit)))×(Unit×(Unit×Unit)))=>
   bif (zj s1.1.2.2.1 ((a0.1.length:Nat):Int)) then opt (atI a0.1 s1.1.2.2.1) fun x2=>
    opt (ji (x2,())) fun x3=>
    bif x3.1 then opt (atI a0.1 s1.1.2.2.1) fun x4=>
     some (.inr ((s1.1.1,((wrF .i64 (s1.1.2.1+x4.2)),((wrF .i64 (s1.1.2.2.1+1)),()))),((),((),()))))
    else some (.inl (0,((s1.1.1,(s1.1.2.1,(s1.1.2.2.1,()))),((),((),())))))
   else some (.inl (0,((s1.1.1,(s1.1.2.1,(s1.1.2.2.1,()))),((),((),())))))) zL ((0,(0,(0,()))),((),((),())))) fun x5=>
  bif (zh x5.2.1.2.2.1 ((a0.1.length:Nat):Int)) then some (x5.2.1.1,())
  else opt (atI a0.1 x5.2.1.2.2.1) fun x6=>
   opt (zD (fun s7:(((Int×Int)×(Int×(Int×(Int×Unit))))×(Unit×(Unit×Unit)))=>
    bif (zj s7.1.2.2.2.1 ((a0.1.length:Nat):Int)) then bif (zh ((a0.1.length:Nat):Int) 0) then none
     else opt (atI a0.1 (Int.tmod (wrF .i64 ((wrF .i64 (x5.2.1.2.2.1+1))+s7.1.2.2.2.1)) ((a0.1.length:Nat):Int))) fun x8=>
      opt (ji (x8,())) fun x9=>
      bif x9.1 then opt (bif zh s7.1.1.2 0 then some (0,(((s7.1.2.2.1,s7.1.1.2),()),((),((),()))))
        else some (0,((s7.1.1,()),((),((),()))))) fun x10=>
       some (.inr (((x10.2.1.1.1,(wrF .i64 (x10.2.1.1.2+x8.2))),(s7.1.2.1,((wrF .i64 (s7.1.2.2.1+x8.2)),((wrF .i64 (s7.1.2.2.2.1+1)),())))),((),((),()))))
      else bif zj 0 s7.1.1.2 then some (.inr (((0,0),((wrF .i64 (s7.1.2.1+(uC 0 (wrF .i64 (s7.1.1.2 - a1))))),((wrF .i64 (s7.1.2.2.1+x8.2)),((wrF .i64 (s7.1.2.2.2.1+1)),())))),((),((),()))))
       else some (.inr (((0,0),(s7.1.2.1,((wrF .i64 (s7.1.2.2.1+x8.2)),((wrF .i64 (s7.1.2.2.2.1+1)),())))),((),((),()))))
    else some (.inl (0,((s7.1.1,(s7.1.2.1,(s7.1.2.2.1,(s7.1.2.2.2.1,())))),((),((),())))))) zL (((0,0),(x5.2.1.1,((wrF .i64 (x5.2.1.2.1+x6.2)),(0,())))),((),((),())))) fun x11=>
   bif Nat.beq x11.1 0 then some (x11.2.1.2.1,())
   else some (x11.2.1.2.1,())
abbrev Yy:Type:=(qp×Int×Unit)→Option (Int×Unit)
def zfo:Vb→Zu→Yy:=fun ZC ji=>sF Tryz.prog [(164,⟨kx,ky,ZC⟩),(180,⟨xr,xt,ji⟩)] zn0 (zP []) 30 140 vU vW
theorem zpD (ZC) (ji) (a0) (a1):zfo ZC ji (a0,a1,())=Yx ZC ji a0 a1:=by kernel_rfl
def vX:Yy:=zfo Zt xu
theorem zkX:Con.Ok Tryz.prog 140 ⟨vU,vW,vX⟩:=zw (zd zmk (zd zcF zi)) zo (by kernel_rfl)
theorem zbQ (a0) (a1):vX (a0,a1,())=Yx Zt xu a0 a1:=zpD Zt xu a0 a1
abbrev Qw:List VT:=[⟨false,I⟩,⟨false,I⟩]
abbrev Qx:List VT:=[⟨false,I⟩]
def zvO:zT:=zO [] [] [] [] []
def zeJ (a0:Int) (a1:Int):Option (Int×Unit):=
 bif zh a1 0 then none
 else bif zh a1 0 then none
  else some ((Int.tmod (wrF .i64 ((Int.tmod a0 a1)+a1)) a1),())
abbrev GA:Type:=(Int×Int×Unit)→Option (Int×Unit)
def zlF:GA:=sF Tryz.prog [] zvO (zP []) 30 166 Qw Qx
theorem zx3 (a0) (a1):zlF (a0,a1,())=zeJ a0 a1:=by kernel_rfl
def Wm:GA:=zlF
theorem zrz:Con.Ok Tryz.prog 166 ⟨Qw,Qx,Wm⟩:=zw zi zo (by kernel_rfl)
theorem zrA (a0) (a1):Wm (a0,a1,())=zeJ  a0 a1:=zx3  a0 a1
abbrev vr:List VT:=[⟨false,I⟩,⟨false,I⟩]
abbrev vu:List VT:=[⟨false,I⟩]
def zmm:zT:=zO [] [] [] [] [166]
def KQ (WE:GA) (a0:Int) (a1:Int):Option (Int×Unit):=
 opt (WE (a0,(a1,()))) fun x0=>
 bif zh a1 0 then none
 else some ((wrF .i64 (Int.tdiv (wrF .i64 (a0 - x0.1)) a1)),())
abbrev Yc:Type:=(Int×Int×Unit)→Option (Int×Unit)
def zd9:GA→Yc:=fun WE=>sF Tryz.prog [(166,⟨Qw,Qx,WE⟩)] zmm (zP []) 30 142 vr vu
theorem zn1 (WE) (a0) (a1):zd9 WE (a0,a1,())=KQ WE a0 a1:=by kernel_rfl
def vv:Yc:=zd9 Wm
theorem zjF:Con.Ok Tryz.prog 142 ⟨vr,vu,vv⟩:=zw (zd zrz zi) zo (by kernel_rfl)
theorem zjG (a0) (a1):vv (a0,a1,())=KQ Wm a0 a1:=zn1 Wm a0 a1
abbrev vy:List VT:=[⟨true,zN⟩,⟨false,I⟩,⟨false,I⟩]
abbrev vz:List VT:=[⟨true,xf⟩,⟨false,I⟩]
def zx4:zT:=zO [cdF zN,cdF qe] [] [⟨7,87,none,jy,true⟩,⟨12,87,none,jy,true⟩,⟨7,87,some 6,jy,false⟩,⟨12,87,some 6,jy,false⟩,⟨2,48,none,jy,true⟩,⟨6,48,none,jy,true⟩,⟨2,90,none,jy,true⟩,⟨5,90,none,jy,true⟩,⟨9,90,none,jy,true⟩,⟨12,90,none,jy,true⟩,⟨13,90,none,jy,true⟩,⟨18,90,none,jy,true⟩,⟨8,90,none,jy,true⟩] [] [139,140,142,180]
def KR (Qi:Ki) (gJ:Yy) (yH:Yc) (ji:Zu) (a0:qp) (a1:Int) (a2:Int):Option (wH×Int×Unit):=
 opt (Qi (a0,(a1,(a2,())))) fun x0=>
 bif !(zh x0.1 0) then some ((0,0),(x0.1,()))
 else opt (gJ (a0,((wrF .i64 (a2*a1)),()))) fun x1=>
  bif (zh (wrF .i64 (a0.2*a1)) 0) then none
  else bif (zj (wrF .i64 (Int.tdiv (wrF .i64 (x1.1*1048576)) (wrF .i64 (a0.2*a1)))) 1) then some ((0,0),(4,()))
   else opt (yH ((wrF .i64 ((wrF .i64 ((-127)*a1))*1048576)),((wrF .i64 ((wrF .i64 (Int.tdiv (wrF .i64 (x1.1*1048576)) (wrF .i64 (a0.2*a1))))*a1)),()))) fun x2=>
    opt (zD (fun s3:((Int×(Int×Unit))×(((List (Int×Int))×Unit)×(Unit×(Unit×Unit))))=>
     bif (zj s3.1.2.1 ((a0.1.length:Nat):Int)) then opt (atI a0.1 s3.1.2.1) fun x4=>
      opt (ji (x4,())) fun x5=>
      bif x5.1 then opt (atI a0.1 s3.1.2.1) fun x6=>
       some (.inr (((wrF .i64 (s3.1.1+x6.2)),((wrF .i64 (s3.1.2.1+1)),())),((s3.2.1.1,()),((),((),())))))
      else some (.inl (0,((s3.1.1,(s3.1.2.1,())),((s3.2.1.1,()),((),((),()))))))
     else some (.inl (0,((s3.1.1,(s3.1.2.1,())),((s3.2.1.1,()),((),((),()))))))) zL ((0,(0,())),(([],()),((),((),()))))) fun x7=>
    bif (zh x7.2.1.2.1 ((a0.1.length:Nat):Int)) then opt (zD (fun s8:((Int×(Int×(Int×(Int×Unit))))×(Unit×Unit))=>
      bif (zj s8.1.2.2.2.1 ((x7.2.2.1.1.length:Nat):Int)) then opt (atI x7.2.2.1.1 s8.1.2.2.2.1) fun x9=>
       opt (gl x7.2.2.1.1 (Int.toNat s8.1.2.2.2.1)) fun x10=>
       opt (zD (fun s11:((Int×(Int×(Int×(Int×(Int×Unit)))))×(Unit×Unit))=>
        bif (zj s11.1.2.2.2.2.1 ((x7.2.2.1.1.length:Nat):Int)) then bif (zh ((x7.2.2.1.1.length:Nat):Int) 0) then none
         else opt (atI x7.2.2.1.1 (Int.tmod (wrF .i64 ((wrF .i64 (s8.1.2.2.2.1+1))+s11.1.2.2.2.2.1)) ((x7.2.2.1.1.length:Nat):Int))) fun x12=>
          opt (gl x7.2.2.1.1 (Int.toNat (Int.tmod (wrF .i64 ((wrF .i64 (s8.1.2.2.2.1+1))+s11.1.2.2.2.2.1)) ((x7.2.2.1.1.length:Nat):Int)))) fun x13=>
          bif (zh ((x7.2.2.1.1.length:Nat):Int) 0) then none
          else opt (yH ((wrF .i64 ((wrF .i64 (s11.1.2.2.2.1 - (wrF .i64 (127*s11.1.2.2.1))))*1048576)),((wrF .i64 (s11.1.2.1*s11.1.2.2.1)),()))) fun x14=>
           some (.inr (((uC s11.1.1 (wrF .i64 ((wrF .i64 ((wrF .i64 ((wrF .i64 (x13.1+(wrF .i64 ((wrF .i64 (Int.tdiv (wrF .i64 ((wrF .i64 (s8.1.2.2.2.1+1))+s11.1.2.2.2.2.1)) ((x7.2.2.1.1.length:Nat):Int)))*a0.2))))+(js (wrF .i64 (a2*a1)) x13.2))) - (wrF .i64 ((wrF .i64 (x10.1+x10.2)) - (js (wrF .i64 (a2*a1)) x10.2))))) - x14.1))),(s11.1.2.1,(s11.1.2.2.1,((wrF .i64 (s11.1.2.2.2.1+(uC 0 (wrF .i64 (x13.2 - (wrF .i64 (a2*a1))))))),((wrF .i64 (s11.1.2.2.2.2.1+1)),()))))),((),())))
        else some (.inl (0,((s11.1.1,(s11.1.2.1,(s11.1.2.2.1,(s11.1.2.2.2.1,(s11.1.2.2.2.2.1,()))))),((),()))))) zL ((s8.1.1,(s8.1.2.1,(s8.1.2.2.1,(0,(0,()))))),((),()))) fun x15=>
       some (.inr ((x15.2.1.1,(x15.2.1.2.1,(x15.2.1.2.2.1,((wrF .i64 (s8.1.2.2.2.1+1)),())))),((),())))
      else some (.inl (0,((s8.1.1,(s8.1.2.1,(s8.1.2.2.1,(s8.1.2.2.2.1,())))),((),()))))) zL (((uC 0 (wrF .i64 (0 - x2.1))),((wrF .i64 (Int.tdiv (wrF .i64 (x1.1*1048576)) (wrF .i64 (a0.2*a1)))),(a1,(0,())))),((),()))) fun x16=>
     some ((x16.2.1.2.1,x16.2.1.1),(0,()))
    else opt (atI a0.1 x7.2.1.2.1) fun x17=>
     opt (zD (fun s18:(((Int×Int)×(Int×(Int×Unit)))×(((List (Int×Int))×Unit)×(Unit×(Unit×Unit))))=>
      bif (zj s18.1.2.2.1 ((a0.1.length:Nat):Int)) then bif (zh ((a0.1.length:Nat):Int) 0) then none
       else opt (atI a0.1 (Int.tmod (wrF .i64 ((wrF .i64 (x7.2.1.2.1+1))+s18.1.2.2.1)) ((a0.1.length:Nat):Int))) fun x19=>
        opt (ji (x19,())) fun x20=>
        bif x20.1 then opt (bif zh s18.1.1.2 0 then some (0,(((s18.1.2.1,s18.1.1.2),()),((),((),()))))
          else some (0,((s18.1.1,()),((),((),()))))) fun x21=>
         some (.inr (((x21.2.1.1.1,(wrF .i64 (x21.2.1.1.2+x19.2))),((wrF .i64 (s18.1.2.1+x19.2)),((wrF .i64 (s18.1.2.2.1+1)),()))),((s18.2.1.1,()),((),((),())))))
        else bif zj 0 s18.1.1.2 then bif (qK s18.2.1.1.length ((s18.1.1::[]).length) 16) then some (.inr (((0,0),((wrF .i64 (s18.1.2.1+x19.2)),((wrF .i64 (s18.1.2.2.1+1)),()))),(((s18.2.1.1++(s18.1.1::[])),()),((),((),())))))
          else none
         else some (.inr (((0,0),((wrF .i64 (s18.1.2.1+x19.2)),((wrF .i64 (s18.1.2.2.1+1)),()))),((s18.2.1.1,()),((),((),())))))
      else some (.inl (0,((s18.1.1,(s18.1.2.1,(s18.1.2.2.1,()))),((s18.2.1.1,()),((),((),()))))))) zL (((0,0),((wrF .i64 (x7.2.1.1+x17.2)),(0,()))),((x7.2.2.1.1,()),((),((),()))))) fun x22=>
     bif Nat.beq x22.1 0 then opt (zD (fun s23:((Int×(Int×(Int×(Int×Unit))))×(Unit×Unit))=>
       bif (zj s23.1.2.2.2.1 ((x22.2.2.1.1.length:Nat):Int)) then opt (atI x22.2.2.1.1 s23.1.2.2.2.1) fun x24=>
        opt (gl x22.2.2.1.1 (Int.toNat s23.1.2.2.2.1)) fun x25=>
        opt (zD (fun s26:((Int×(Int×(Int×(Int×(Int×Unit)))))×(Unit×Unit))=>
         bif (zj s26.1.2.2.2.2.1 ((x22.2.2.1.1.length:Nat):Int)) then bif (zh ((x22.2.2.1.1.length:Nat):Int) 0) then none
          else opt (atI x22.2.2.1.1 (Int.tmod (wrF .i64 ((wrF .i64 (s23.1.2.2.2.1+1))+s26.1.2.2.2.2.1)) ((x22.2.2.1.1.length:Nat):Int))) fun x27=>
           opt (gl x22.2.2.1.1 (Int.toNat (Int.tmod (wrF .i64 ((wrF .i64 (s23.1.2.2.2.1+1))+s26.1.2.2.2.2.1)) ((x22.2.2.1.1.length:Nat):Int)))) fun x28=>
           bif (zh ((x22.2.2.1.1.length:Nat):Int) 0) then none
           else opt (yH ((wrF .i64 ((wrF .i64 (s26.1.2.2.2.1 - (wrF .i64 (127*s26.1.2.2.1))))*1048576)),((wrF .i64 (s26.1.2.1*s26.1.2.2.1)),()))) fun x29=>
            some (.inr (((uC s26.1.1 (wrF .i64 ((wrF .i64 ((wrF .i64 ((wrF .i64 (x28.1+(wrF .i64 ((wrF .i64 (Int.tdiv (wrF .i64 ((wrF .i64 (s23.1.2.2.2.1+1))+s26.1.2.2.2.2.1)) ((x22.2.2.1.1.length:Nat):Int)))*a0.2))))+(js (wrF .i64 (a2*a1)) x28.2))) - (wrF .i64 ((wrF .i64 (x25.1+x25.2)) - (js (wrF .i64 (a2*a1)) x25.2))))) - x29.1))),(s26.1.2.1,(s26.1.2.2.1,((wrF .i64 (s26.1.2.2.2.1+(uC 0 (wrF .i64 (x28.2 - (wrF .i64 (a2*a1))))))),((wrF .i64 (s26.1.2.2.2.2.1+1)),()))))),((),())))
         else some (.inl (0,((s26.1.1,(s26.1.2.1,(s26.1.2.2.1,(s26.1.2.2.2.1,(s26.1.2.2.2.2.1,()))))),((),()))))) zL ((s23.1.1,(s23.1.2.1,(s23.1.2.2.1,(0,(0,()))))),((),()))) fun x30=>
        some (.inr ((x30.2.1.1,(x30.2.1.2.1,(x30.2.1.2.2.1,((wrF .i64 (s23.1.2.2.2.1+1)),())))),((),())))
       else some (.inl (0,((s23.1.1,(s23.1.2.1,(s23.1.2.2.1,(s23.1.2.2.2.1,())))),((),()))))) zL (((uC 0 (wrF .i64 (0 - x2.1))),((wrF .i64 (Int.tdiv (wrF .i64 (x1.1*1048576)) (wrF .i64 (a0.2*a1)))),(a1,(0,())))),((),()))) fun x31=>
      some ((x31.2.1.2.1,x31.2.1.1),(0,()))
     else opt (zD (fun s32:((Int×(Int×(Int×(Int×Unit))))×(Unit×Unit))=>
       bif (zj s32.1.2.2.2.1 ((x22.2.2.1.1.length:Nat):Int)) then opt (atI x22.2.2.1.1 s32.1.2.2.2.1) fun x33=>
        opt (gl x22.2.2.1.1 (Int.toNat s32.1.2.2.2.1)) fun x34=>
        opt (zD (fun s35:((Int×(Int×(Int×(Int×(Int×Unit)))))×(Unit×Unit))=>
         bif (zj s35.1.2.2.2.2.1 ((x22.2.2.1.1.length:Nat):Int)) then bif (zh ((x22.2.2.1.1.length:Nat):Int) 0) then none
          else opt (atI x22.2.2.1.1 (Int.tmod (wrF .i64 ((wrF .i64 (s32.1.2.2.2.1+1))+s35.1.2.2.2.2.1)) ((x22.2.2.1.1.length:Nat):Int))) fun x36=>
           opt (gl x22.2.2.1.1 (Int.toNat (Int.tmod (wrF .i64 ((wrF .i64 (s32.1.2.2.2.1+1))+s35.1.2.2.2.2.1)) ((x22.2.2.1.1.length:Nat):Int)))) fun x37=>
           bif (zh ((x22.2.2.1.1.length:Nat):Int) 0) then none
           else opt (yH ((wrF .i64 ((wrF .i64 (s35.1.2.2.2.1 - (wrF .i64 (127*s35.1.2.2.1))))*1048576)),((wrF .i64 (s35.1.2.1*s35.1.2.2.1)),()))) fun x38=>
            some (.inr (((uC s35.1.1 (wrF .i64 ((wrF .i64 ((wrF .i64 ((wrF .i64 (x37.1+(wrF .i64 ((wrF .i64 (Int.tdiv (wrF .i64 ((wrF .i64 (s32.1.2.2.2.1+1))+s35.1.2.2.2.2.1)) ((x22.2.2.1.1.length:Nat):Int)))*a0.2))))+(js (wrF .i64 (a2*a1)) x37.2))) - (wrF .i64 ((wrF .i64 (x34.1+x34.2)) - (js (wrF .i64 (a2*a1)) x34.2))))) - x38.1))),(s35.1.2.1,(s35.1.2.2.1,((wrF .i64 (s35.1.2.2.2.1+(uC 0 (wrF .i64 (x37.2 - (wrF .i64 (a2*a1))))))),((wrF .i64 (s35.1.2.2.2.2.1+1)),()))))),((),())))
         else some (.inl (0,((s35.1.1,(s35.1.2.1,(s35.1.2.2.1,(s35.1.2.2.2.1,(s35.1.2.2.2.2.1,()))))),((),()))))) zL ((s32.1.1,(s32.1.2.1,(s32.1.2.2.1,(0,(0,()))))),((),()))) fun x39=>
        some (.inr ((x39.2.1.1,(x39.2.1.2.1,(x39.2.1.2.2.1,((wrF .i64 (s32.1.2.2.2.1+1)),())))),((),())))
       else some (.inl (0,((s32.1.1,(s32.1.2.1,(s32.1.2.2.1,(s32.1.2.2.2.1,())))),((),()))))) zL (((uC 0 (wrF .i64 (0 - x2.1))),((wrF .i64 (Int.tdiv (wrF .i64 (x1.1*1048576)) (wrF .i64 (a0.2*a1)))),(a1,(0,())))),((),()))) fun x40=>
      some ((x40.2.1.2.1,x40.2.1.1),(0,()))
abbrev zbR:Type:=(qp×Int×Int×Unit)→Option (wH×Int×Unit)
def zn2:Ki→Yy→Yc→Zu→zbR:=fun Qi gJ yH ji=>sF Tryz.prog [(139,⟨gf,gg,Qi⟩),(140,⟨vU,vW,gJ⟩),(142,⟨vr,vu,yH⟩),(180,⟨xr,xt,ji⟩)] zx4 (zP []) 30 101 vy vz
theorem zAA (Qi) (gJ) (yH) (ji) (a0) (a1) (a2):zn2 Qi gJ yH ji (a0,a1,a2,())=KR Qi gJ yH ji a0 a1 a2:=by kernel_rfl
def xa:zbR:=zn2 Qe vX vv xu
theorem ztN:Con.Ok Tryz.prog 101 ⟨vy,vz,xa⟩:=zw (zd znV (zd zkX (zd zjF (zd zcF zi)))) zo (by kernel_rfl)
theorem zbS (a0) (a1) (a2):xa (a0,a1,a2,())=KR Qe vX vv xu a0 a1 a2:=zAA Qe vX vv xu a0 a1 a2
abbrev gh:List VT:=[⟨false,(.list zv)⟩]
abbrev gi:List VT:=[⟨true,zv⟩,⟨false,I⟩]
def zx5:zT:=zO [cdF zv] [] [] [] [84]
def zgX (qm:xK) (a0:(List qy)):Option (qy×Int×Unit):=
 bif (zh ((a0.length:Nat):Int) 0) then some ((0,0),(2,()))
 else bif (zj 12 ((a0.length:Nat):Int)) then some ((0,0),(3,()))
  else opt (zD (fun s0:(((Int×Int)×((Int×Int)×(Int×(Int×Unit))))×Unit)=>
    bif (zj s0.1.2.2.2.1 ((a0.length:Nat):Int)) then opt (atI a0 s0.1.2.2.2.1) fun x1=>
     opt (qm (x1,())) fun x2=>
     bif !(zh x2.1 0) then some (.inl (1,(((0,0),(s0.1.2.1,(x2.1,(s0.1.2.2.2.1,())))),())))
     else some (.inr ((s0.1.1,(((wrF .i64 (s0.1.2.1.1+x1.1)),(wrF .i64 (s0.1.2.1.2+x1.2))),(s0.1.2.2.1,((wrF .i64 (s0.1.2.2.2.1+1)),())))),()))
    else some (.inl (0,((s0.1.1,(s0.1.2.1,(s0.1.2.2.1,(s0.1.2.2.2.1,())))),())))) zL (((0,0),((0,0),(0,(0,())))),())) fun x3=>
   bif Nat.beq x3.1 0 then opt (qm (x3.2.1.2.1,())) fun x4=>
    bif !(zh x4.1 0) then some ((0,0),(6,()))
    else some (x3.2.1.2.1,(0,()))
   else some (x3.2.1.1,(x3.2.1.2.2.1,()))
abbrev zbT:Type:=((List qy)×Unit)→Option (qy×Int×Unit)
def zn3:xK→zbT:=fun qm=>sF Tryz.prog [(84,⟨wL,wM,qm⟩)] zx5 (zP []) 30 102 gh gi
theorem zAB (qm) (a0):zn3 qm (a0,())=zgX qm a0:=by kernel_rfl
def vA:zbT:=zn3 jO
theorem ztO:Con.Ok Tryz.prog 102 ⟨gh,gi,vA⟩:=zw (zd Yv zi) zo (by kernel_rfl)
theorem ztP (a0):vA (a0,())=zgX jO a0:=zAB jO a0
abbrev uP:List VT:=[⟨true,xf⟩]
abbrev uQ:List VT:=[⟨false,I⟩]
def zvP:zT:=zO [cdF xf] [] [] [] []
def zeK (a0:wH):Option (Int×Unit):=
 opt (bif zj a0.1 1 then some (1,((140,()),()))
  else bif zj 2097152 a0.1 then some (1,((140,()),()))
   else bif zj a0.2 0 then some (1,((140,()),()))
    else bif zj 268435456 a0.2 then some (1,((140,()),()))
     else some (0,((0,()),()))) fun x0=>
 bif Nat.beq x0.1 0 then some (0,())
 else some (x0.2.1.1,())
abbrev Wn:Type:=(wH×Unit)→Option (Int×Unit)
def zlG:Wn:=sF Tryz.prog [] zvP (zP []) 30 59 uP uQ
theorem zx6 (a0):zlG (a0,())=zeK a0:=by kernel_rfl
def uR:Wn:=zlG
theorem zgY:Con.Ok Tryz.prog 59 ⟨uP,uQ,uR⟩:=zw zi zo (by kernel_rfl)
theorem zrB (a0):uR (a0,())=zeK  a0:=zx6  a0
abbrev uS:List VT:=[⟨false,(.list I)⟩]
abbrev uT:List VT:=[⟨false,.bool⟩]
def zvQ:zT:=zO [] [] [] [] []
def zeL (a0:(List Int)):Option (Bool×Unit):=
 opt (zD (fun s0:((Bool×(Int×Unit))×Unit)=>
  bif (zj s0.1.2.1 ((a0.length:Nat):Int)) then opt (atI a0 s0.1.2.1) fun x1=>
   opt (bif zj x1 (-1125899906842624) then some (1,((false,()),()))
    else bif zj 1125899906842624 x1 then some (1,((false,()),()))
     else some (0,((s0.1.1,()),()))) fun x2=>
   bif Nat.beq x2.1 0 then some (.inr ((x2.2.1.1,((wrF .i64 (s0.1.2.1+1)),())),()))
   else some (.inl (1,((x2.2.1.1,(s0.1.2.1,())),())))
  else some (.inl (0,((s0.1.1,(s0.1.2.1,())),())))) zL ((false,(0,())),())) fun x3=>
 bif Nat.beq x3.1 0 then some (true,())
 else some (x3.2.1.1,())
abbrev Wo:Type:=((List Int)×Unit)→Option (Bool×Unit)
def zlH:Wo:=sF Tryz.prog [] zvQ (zP []) 30 182 uS uT
theorem zx7 (a0):zlH (a0,())=zeL a0:=by kernel_rfl
def uU:Wo:=zlH
theorem zgZ:Con.Ok Tryz.prog 182 ⟨uS,uT,uU⟩:=zw zi zo (by kernel_rfl)
theorem zrC (a0):uU (a0,())=zeL  a0:=zx7  a0
abbrev gk:List VT:=[⟨false,I⟩]
abbrev gm:List VT:=[⟨false,(.int .u64)⟩]
def zrD:zT:=zO [] [] [] [] []
def Kj (a0:Int):Option (Int×Unit):=
 bif zj a0 0 then some ((wrF .u64 (wrF .i64 (0 - a0))),())
 else some ((wrF .u64 a0),())
abbrev Kk:Type:=(Int×Unit)→Option (Int×Unit)
def zid:Kk:=sF Tryz.prog [] zrD (zP []) 30 184 gk gm
theorem ztQ (a0):zid (a0,())=Kj a0:=by kernel_rfl
def gn:Kk:=zid
theorem zn4:Con.Ok Tryz.prog 184 ⟨gk,gm,gn⟩:=zw zi zo (by kernel_rfl)
theorem zea (a0):gn (a0,())=Kj  a0:=ztQ  a0
abbrev vY:List VT:=[⟨false,(.int .u64)⟩,⟨false,(.int .u64)⟩]
abbrev vZ:List VT:=[⟨false,(.int .u64)⟩,⟨false,(.int .u64)⟩]
def zn5:zT:=zO [] [] [] [] []
def UK (a0:Int) (a1:Int):Option (Int×Int×Unit):=
 some ((wrF .u64 ((wrF .u64 ((wrF .u64 ((wa .u64 a0 32)*(wa .u64 a1 32)))+(wa .u64 (wrF .u64 ((wrF .u64 ((wa .u64 a0 32)*(kV .and .u64 a1 4294967295)))+(wa .u64 (wrF .u64 ((kV .and .u64 a0 4294967295)*(kV .and .u64 a1 4294967295))) 32))) 32)))+(wa .u64 (wrF .u64 ((kV .and .u64 (wrF .u64 ((wrF .u64 ((wa .u64 a0 32)*(kV .and .u64 a1 4294967295)))+(wa .u64 (wrF .u64 ((kV .and .u64 a0 4294967295)*(kV .and .u64 a1 4294967295))) 32))) 4294967295)+(wrF .u64 ((kV .and .u64 a0 4294967295)*(wa .u64 a1 32))))) 32))),((wrF .u64 (a0*a1)),()))
abbrev Yz:Type:=(Int×Int×Unit)→Option (Int×Int×Unit)
def zfp:Yz:=sF Tryz.prog [] zn5 (zP []) 30 183 vY vZ
theorem zpE (a0) (a1):zfp (a0,a1,())=UK a0 a1:=by kernel_rfl
def gF:Yz:=zfp
theorem zkY:Con.Ok Tryz.prog 183 ⟨vY,vZ,gF⟩:=zw zi zo (by kernel_rfl)
theorem zkZ (a0) (a1):gF (a0,a1,())=UK  a0 a1:=zpE  a0 a1
abbrev ud:List VT:=[⟨false,(.int .u64)⟩]
abbrev ue:List VT:=[⟨false,I⟩]
def zn6:zT:=zO [] [] [] [] []
def zfq:(Int×Unit)→Option (Int×Unit):=sF Tryz.prog [] zn6 (zP []) 30 196 ud ue
theorem zk0:Con.Ok Tryz.prog 196 ⟨ud,ue,zfq⟩:=zw zi zo (by kernel_rfl)
abbrev wm:List VT:=[⟨false,(.int .u64)⟩]
abbrev wo:List VT:=[⟨false,I⟩]
def zeb:zT:=zO [] [] [] [] [196]
def uV:(Int×Unit)→Option (Int×Unit):=sF Tryz.prog [(196,⟨ud,ue,zfq⟩)] zeb (zP []) 30 193 wm wo
theorem zcx:Con.Ok Tryz.prog 193 ⟨wm,wo,uV⟩:=zw (zd zk0 zi) zo (by kernel_rfl)
abbrev uf:List VT:=[⟨false,(.int .u64)⟩,⟨false,(.int .u64)⟩,⟨false,(.int .u64)⟩]
abbrev ug:List VT:=[⟨false,(.int .u64)⟩,⟨false,(.int .u64)⟩]
def zn7:zT:=zO [] [] [] [] [193]
def UL (yq:(Int×Unit)→Option (Int×Unit)) (a0:Int) (a1:Int) (a2:Int):Option (Int×Int×Unit):=
 opt (bif zh a2 0 then none
  else some (0,((),()))) fun x0=>
 opt (bif !(zj a0 a2) then none
  else some (0,((),()))) fun x1=>
 bif zh a0 0 then bif zh a2 0 then none
  else bif zh a2 0 then none
   else some ((wrF .u64 (Int.tdiv a1 a2)),((Int.tmod a1 a2),()))
 else opt (yq (a2,())) fun x2=>
  bif zj (wrF .u64 x2.1) 0 then none
  else bif zj (wrF .u64 x2.1) 0 then none
   else bif (zj (wrF .u64 (64 - (wrF .u64 x2.1))) 0) then none
    else bif zj (wrF .u64 x2.1) 0 then none
     else bif (zh (wa .u64 (yK .u64 a2 (wrF .u64 x2.1)) 32) 0) then none
      else opt (zD (fun s3:((Int×(Int×Unit))×Unit)=>
        bif !(zj s3.1.1 4294967296) then bif (!(zj (wrF .u64 (s3.1.2.1+(wa .u64 (yK .u64 a2 (wrF .u64 x2.1)) 32))) 4294967296)) then some (.inl (0,(((wrF .u64 (s3.1.1 - 1)),((wrF .u64 (s3.1.2.1+(wa .u64 (yK .u64 a2 (wrF .u64 x2.1)) 32))),())),())))
         else some (.inr (((wrF .u64 (s3.1.1 - 1)),((wrF .u64 (s3.1.2.1+(wa .u64 (yK .u64 a2 (wrF .u64 x2.1)) 32))),())),()))
        else bif (zj (wrF .u64 ((wrF .u64 (4294967296*s3.1.2.1))+(wa .u64 (yK .u64 a1 (wrF .u64 x2.1)) 32))) (wrF .u64 (s3.1.1*(kV .and .u64 (yK .u64 a2 (wrF .u64 x2.1)) 4294967295)))) then bif (!(zj (wrF .u64 (s3.1.2.1+(wa .u64 (yK .u64 a2 (wrF .u64 x2.1)) 32))) 4294967296)) then some (.inl (0,(((wrF .u64 (s3.1.1 - 1)),((wrF .u64 (s3.1.2.1+(wa .u64 (yK .u64 a2 (wrF .u64 x2.1)) 32))),())),())))
          else some (.inr (((wrF .u64 (s3.1.1 - 1)),((wrF .u64 (s3.1.2.1+(wa .u64 (yK .u64 a2 (wrF .u64 x2.1)) 32))),())),()))
         else some (.inl (0,((s3.1.1,(s3.1.2.1,())),())))) zL (((wrF .u64 (Int.tdiv (kV .or .u64 (yK .u64 a0 (wrF .u64 x2.1)) (wa .u64 a1 (wrF .u64 (64 - (wrF .u64 x2.1))))) (wa .u64 (yK .u64 a2 (wrF .u64 x2.1)) 32))),((wrF .u64 ((kV .or .u64 (yK .u64 a0 (wrF .u64 x2.1)) (wa .u64 a1 (wrF .u64 (64 - (wrF .u64 x2.1))))) - (wrF .u64 ((wrF .u64 (Int.tdiv (kV .or .u64 (yK .u64 a0 (wrF .u64 x2.1)) (wa .u64 a1 (wrF .u64 (64 - (wrF .u64 x2.1))))) (wa .u64 (yK .u64 a2 (wrF .u64 x2.1)) 32)))*(wa .u64 (yK .u64 a2 (wrF .u64 x2.1)) 32))))),())),())) fun x4=>
       bif (zh (wa .u64 (yK .u64 a2 (wrF .u64 x2.1)) 32) 0) then none
       else opt (zD (fun s5:((Int×(Int×Unit))×Unit)=>
         bif !(zj s5.1.1 4294967296) then bif (!(zj (wrF .u64 (s5.1.2.1+(wa .u64 (yK .u64 a2 (wrF .u64 x2.1)) 32))) 4294967296)) then some (.inl (0,(((wrF .u64 (s5.1.1 - 1)),((wrF .u64 (s5.1.2.1+(wa .u64 (yK .u64 a2 (wrF .u64 x2.1)) 32))),())),())))
          else some (.inr (((wrF .u64 (s5.1.1 - 1)),((wrF .u64 (s5.1.2.1+(wa .u64 (yK .u64 a2 (wrF .u64 x2.1)) 32))),())),()))
         else bif (zj (wrF .u64 ((wrF .u64 (4294967296*s5.1.2.1))+(kV .and .u64 (yK .u64 a1 (wrF .u64 x2.1)) 4294967295))) (wrF .u64 (s5.1.1*(kV .and .u64 (yK .u64 a2 (wrF .u64 x2.1)) 4294967295)))) then bif (!(zj (wrF .u64 (s5.1.2.1+(wa .u64 (yK .u64 a2 (wrF .u64 x2.1)) 32))) 4294967296)) then some (.inl (0,(((wrF .u64 (s5.1.1 - 1)),((wrF .u64 (s5.1.2.1+(wa .u64 (yK .u64 a2 (wrF .u64 x2.1)) 32))),())),())))
           else some (.inr (((wrF .u64 (s5.1.1 - 1)),((wrF .u64 (s5.1.2.1+(wa .u64 (yK .u64 a2 (wrF .u64 x2.1)) 32))),())),()))
          else some (.inl (0,((s5.1.1,(s5.1.2.1,())),())))) zL (((wrF .u64 (Int.tdiv (wrF .u64 ((wrF .u64 ((wrF .u64 ((kV .or .u64 (yK .u64 a0 (wrF .u64 x2.1)) (wa .u64 a1 (wrF .u64 (64 - (wrF .u64 x2.1)))))*4294967296))+(wa .u64 (yK .u64 a1 (wrF .u64 x2.1)) 32))) - (wrF .u64 (x4.2.1.1*(yK .u64 a2 (wrF .u64 x2.1)))))) (wa .u64 (yK .u64 a2 (wrF .u64 x2.1)) 32))),((wrF .u64 ((wrF .u64 ((wrF .u64 ((wrF .u64 ((kV .or .u64 (yK .u64 a0 (wrF .u64 x2.1)) (wa .u64 a1 (wrF .u64 (64 - (wrF .u64 x2.1)))))*4294967296))+(wa .u64 (yK .u64 a1 (wrF .u64 x2.1)) 32))) - (wrF .u64 (x4.2.1.1*(yK .u64 a2 (wrF .u64 x2.1)))))) - (wrF .u64 ((wrF .u64 (Int.tdiv (wrF .u64 ((wrF .u64 ((wrF .u64 ((kV .or .u64 (yK .u64 a0 (wrF .u64 x2.1)) (wa .u64 a1 (wrF .u64 (64 - (wrF .u64 x2.1)))))*4294967296))+(wa .u64 (yK .u64 a1 (wrF .u64 x2.1)) 32))) - (wrF .u64 (x4.2.1.1*(yK .u64 a2 (wrF .u64 x2.1)))))) (wa .u64 (yK .u64 a2 (wrF .u64 x2.1)) 32)))*(wa .u64 (yK .u64 a2 (wrF .u64 x2.1)) 32))))),())),())) fun x6=>
        bif zj (wrF .u64 x2.1) 0 then none
        else some ((wrF .u64 ((wrF .u64 (x4.2.1.1*4294967296))+x6.2.1.1)),((wa .u64 (wrF .u64 ((wrF .u64 ((wrF .u64 ((wrF .u64 ((wrF .u64 ((wrF .u64 ((kV .or .u64 (yK .u64 a0 (wrF .u64 x2.1)) (wa .u64 a1 (wrF .u64 (64 - (wrF .u64 x2.1)))))*4294967296))+(wa .u64 (yK .u64 a1 (wrF .u64 x2.1)) 32))) - (wrF .u64 (x4.2.1.1*(yK .u64 a2 (wrF .u64 x2.1))))))*4294967296))+(kV .and .u64 (yK .u64 a1 (wrF .u64 x2.1)) 4294967295))) - (wrF .u64 (x6.2.1.1*(yK .u64 a2 (wrF .u64 x2.1)))))) (wrF .u64 x2.1)),()))
abbrev YA:Type:=(Int×Int×Int×Unit)→Option (Int×Int×Unit)
def zfr:((Int×Unit)→Option (Int×Unit))→YA:=fun yq=>sF Tryz.prog [(193,⟨wm,wo,yq⟩)] zn7 (zP []) 30 185 uf ug
theorem zpF (yq) (a0) (a1) (a2):zfr yq (a0,a1,a2,())=UL yq a0 a1 a2:=by kernel_rfl
def gG:YA:=zfr uV
theorem zk1:Con.Ok Tryz.prog 185 ⟨uf,ug,gG⟩:=zw (zd zcx zi) zo (by kernel_rfl)
theorem zk2 (a0) (a1) (a2):gG (a0,a1,a2,())=UL uV a0 a1 a2:=zpF uV a0 a1 a2
abbrev Qy:List VT:=[⟨false,I⟩]
abbrev Qz:List VT:=[⟨false,I⟩,⟨false,.bool⟩]
def zvR:zT:=zO [] [] [] [] [182]
def zeM (yr:Wo) (a0:Int):Option (Int×Bool×Unit):=
 opt (yr ((a0::[]),())) fun x0=>
 bif !x0.1 then some (0,(false,()))
 else some (a0,(true,()))
abbrev GB:Type:=(Int×Unit)→Option (Int×Bool×Unit)
def zlI:Wo→GB:=fun yr=>sF Tryz.prog [(182,⟨uS,uT,yr⟩)] zvR (zP []) 30 186 Qy Qz
theorem zx8 (yr) (a0):zlI yr (a0,())=zeM yr a0:=by kernel_rfl
def Wp:GB:=zlI uU
theorem zrE:Con.Ok Tryz.prog 186 ⟨Qy,Qz,Wp⟩:=zw (zd zgZ zi) zo (by kernel_rfl)
theorem zrF (a0):Wp (a0,())=zeM uU a0:=zx8 uU a0
abbrev Jz:List VT:=[⟨false,I⟩,⟨false,I⟩,⟨false,I⟩]
abbrev JA:List VT:=[⟨false,I⟩,⟨false,.bool⟩]
def zx9:zT:=zO [] [] [] [] [182,184,183,185,186]
def zg0 (yr:Wo) (gw:Kk) (gK:Yz) (gL:YA) (WG:GB) (a0:Int) (a1:Int) (a2:Int):Option (Int×Bool×Unit):=
 opt (opt (yr ((a0::(a1::(a2::[]))),())) fun x0=>
  bif !x0.1 then some (1,((0,(false,())),()))
  else bif zj a2 1 then some (1,((0,(false,())),()))
   else some (0,((0,(false,())),()))) fun x1=>
 bif Nat.beq x1.1 0 then opt (gw (a0,())) fun x2=>
  opt (gw (a1,())) fun x3=>
  opt (gK (x2.1,(x3.1,()))) fun x4=>
  bif (!(zj x4.1 (wrF .u64 a2))) then some (0,(false,()))
  else opt (gL (x4.1,(x4.2.1,((wrF .u64 a2),())))) fun x5=>
   bif zj 1125899906842624 x5.1 then some (0,(false,()))
   else opt (bif (!((zj a0 0) == (zj a1 0))) then opt (bif !(zh x5.2.1 0) then some (0,(((wrF .i64 ((wrF .i64 (0 - (wrF .i64 x5.1))) - 1)),()),()))
       else some (0,(((wrF .i64 (0 - (wrF .i64 x5.1))),()),()))) fun x6=>
      some (0,((x6.2.1.1,()),()))
     else some (0,(((wrF .i64 x5.1),()),()))) fun x7=>
    opt (WG (x7.2.1.1,())) fun x8=>
    some (x8.1,(x8.2.1,()))
 else some (x1.2.1.1,(x1.2.1.2.1,()))
abbrev zbU:Type:=(Int×Int×Int×Unit)→Option (Int×Bool×Unit)
def zn8:Wo→Kk→Yz→YA→GB→zbU:=fun yr gw gK gL WG=>sF Tryz.prog [(182,⟨uS,uT,yr⟩),(184,⟨gk,gm,gw⟩),(183,⟨vY,vZ,gK⟩),(185,⟨uf,ug,gL⟩),(186,⟨Qy,Qz,WG⟩)] zx9 (zP []) 30 171 Jz JA
theorem zAC (yr) (gw) (gK) (gL) (WG) (a0) (a1) (a2):zn8 yr gw gK gL WG (a0,a1,a2,())=zg0 yr gw gK gL WG a0 a1 a2:=by kernel_rfl
def Xc:zbU:=zn8 uU gn gF gG Wp
theorem ztR:Con.Ok Tryz.prog 171 ⟨Jz,JA,Xc⟩:=zw (zd zgZ (zd zn4 (zd zkY (zd zk1 (zd zrE zi))))) zo (by kernel_rfl)
theorem ztS (a0) (a1) (a2):Xc (a0,a1,a2,())=zg0 uU gn gF gG Wp a0 a1 a2:=zAC uU gn gF gG Wp a0 a1 a2
abbrev gp:List VT:=[⟨false,I⟩,⟨false,I⟩,⟨false,I⟩]
abbrev gq:List VT:=[⟨false,I⟩]
def zya:zT:=zO [] [] [] [] [171]
def zg1 (XC:zbU) (a0:Int) (a1:Int) (a2:Int):Option (Int×Unit):=
 opt (XC ((wrF .i64 (0 - a0)),(a1,(a2,())))) fun x0=>
 some ((wrF .i64 (0 - x0.1)),())
abbrev Xd:Type:=(Int×Int×Int×Unit)→Option (Int×Unit)
def zn9:zbU→Xd:=fun XC=>sF Tryz.prog [(171,⟨Jz,JA,XC⟩)] zya (zP []) 30 150 gp gq
theorem zAD (XC) (a0) (a1) (a2):zn9 XC (a0,a1,a2,())=zg1 XC a0 a1 a2:=by kernel_rfl
def uF:Xd:=zn9 Xc
theorem zie:Con.Ok Tryz.prog 150 ⟨gp,gq,uF⟩:=zw (zd ztR zi) zo (by kernel_rfl)
theorem ztT (a0) (a1) (a2):uF (a0,a1,a2,())=zg1 Xc a0 a1 a2:=zAD Xc a0 a1 a2
abbrev kz:List VT:=[⟨false,(.list zv)⟩,⟨false,I⟩]
abbrev kA:List VT:=[⟨false,I⟩,⟨false,.bool⟩]
def zpG:zT:=zO [cdF zv] [] [] [] [150]
def zas (yI:Xd) (a0:(List qy)) (a1:Int):Option (Int×Bool×Unit):=
 opt (zD (fun s0:((Int×(Bool×(Int×Unit)))×(Unit×(Unit×Unit)))=>
  bif (zj s0.1.2.2.1 ((a0.length:Nat):Int)) then opt (atI a0 s0.1.2.2.1) fun x1=>
   bif zj a1 x1.2 then some (.inr ((s0.1.1,(s0.1.2.1,((wrF .i64 (s0.1.2.2.1+1)),()))),((),((),()))))
   else opt (yI (x1.1,(1048576,(a1,())))) fun x2=>
    opt (bif !s0.1.2.1 then some (0,((x2.1,(true,())),((),())))
     else bif zj x2.1 s0.1.1 then some (0,((x2.1,(true,())),((),())))
      else some (0,((s0.1.1,(s0.1.2.1,())),((),())))) fun x3=>
    opt (zD (fun s4:((Int×(Bool×(Int×Unit)))×(Unit×(Unit×Unit)))=>
     bif (zj s4.1.2.2.1 ((a0.length:Nat):Int)) then opt (atI a0 s4.1.2.2.1) fun x5=>
      bif !(zj a1 x5.2) then some (.inr ((s4.1.1,(s4.1.2.1,((wrF .i64 (s4.1.2.2.1+1)),()))),((),((),()))))
      else bif !(zj x5.1 x1.1) then some (.inr ((s4.1.1,(s4.1.2.1,((wrF .i64 (s4.1.2.2.1+1)),()))),((),((),()))))
       else opt (yI ((wrF .i64 ((wrF .i64 ((wrF .i64 (x5.2 - a1))*x1.1))+(wrF .i64 ((wrF .i64 (a1 - x1.2))*x5.1)))),(1048576,((wrF .i64 (a1*(wrF .i64 (x5.2 - x1.2)))),())))) fun x6=>
        opt (bif !s4.1.2.1 then some (0,((x6.1,(true,())),((),())))
         else bif zj x6.1 s4.1.1 then some (0,((x6.1,(true,())),((),())))
          else some (0,((s4.1.1,(s4.1.2.1,())),((),())))) fun x7=>
        some (.inr ((x7.2.1.1,(x7.2.1.2.1,((wrF .i64 (s4.1.2.2.1+1)),()))),((),((),()))))
     else some (.inl (0,((s4.1.1,(s4.1.2.1,(s4.1.2.2.1,()))),((),((),())))))) zL ((x3.2.1.1,(x3.2.1.2.1,(0,()))),((),((),())))) fun x8=>
    bif Nat.beq x8.1 0 then some (.inr ((x8.2.1.1,(x8.2.1.2.1,((wrF .i64 (s0.1.2.2.1+1)),()))),((),((),()))))
    else some (.inl (1,((x8.2.1.1,(x8.2.1.2.1,(s0.1.2.2.1,()))),((),((),())))))
  else some (.inl (0,((s0.1.1,(s0.1.2.1,(s0.1.2.2.1,()))),((),((),())))))) zL ((0,(false,(0,()))),((),((),())))) fun x9=>
 bif Nat.beq x9.1 0 then some (x9.2.1.1,(x9.2.1.2.1,()))
 else some (x9.2.1.1,(x9.2.1.2.1,()))
abbrev Vd:Type:=((List qy)×Int×Unit)→Option (Int×Bool×Unit)
def zg2:Xd→Vd:=fun yI=>sF Tryz.prog [(150,⟨gp,gq,yI⟩)] zpG (zP []) 30 148 kz kA
theorem zrG (yI) (a0) (a1):zg2 yI (a0,a1,())=zas yI a0 a1:=by kernel_rfl
def Zv:Vd:=zg2 uF
theorem zmn:Con.Ok Tryz.prog 148 ⟨kz,kA,Zv⟩:=zw (zd zie zi) zo (by kernel_rfl)
theorem zmo (a0) (a1):Zv (a0,a1,())=zas uF a0 a1:=zrG uF a0 a1
abbrev uW:List VT:=[⟨false,(.list zv)⟩,⟨true,xf⟩]
abbrev uX:List VT:=[⟨false,I⟩,⟨false,I⟩]
def zvS:zT:=zO [cdF xf] [] [⟨2,30,some 2,zv,false⟩,⟨5,30,some 2,zv,false⟩] [] [84,59,148]
def zeN (qm:xK) (wR:Wn) (yM:Vd) (a0:(List qy)) (a1:wH):Option (Int×Int×Unit):=
 bif (zh ((a0.length:Nat):Int) 0) then some (0,(2,()))
 else bif (zj 12 ((a0.length:Nat):Int)) then some (0,(3,()))
  else opt (zD (fun s0:((Int×(Int×Unit))×Unit)=>
    bif (zj s0.1.2.1 ((a0.length:Nat):Int)) then opt (atI a0 s0.1.2.1) fun x1=>
     opt (qm (x1,())) fun x2=>
     bif !(zh x2.1 0) then some (.inl (1,((x2.1,(s0.1.2.1,())),())))
     else some (.inr ((s0.1.1,((wrF .i64 (s0.1.2.1+1)),())),()))
    else some (.inl (0,((s0.1.1,(s0.1.2.1,())),())))) zL ((0,(0,())),())) fun x3=>
   bif Nat.beq x3.1 0 then opt (wR (a1,())) fun x4=>
    bif !(zh x4.1 0) then bif !(zh x4.1 0) then some (0,(x4.1,()))
     else opt (yM (a0,(a1.1,()))) fun x5=>
      bif !x5.2.1 then some (0,(141,()))
      else some ((wrF .i64 (a1.2+x5.1)),(0,()))
    else opt (yM (a0,(a1.1,()))) fun x6=>
     bif !x6.2.1 then some (0,(141,()))
     else some ((wrF .i64 (a1.2+x6.1)),(0,()))
   else bif !(zh x3.2.1.1 0) then bif !(zh x3.2.1.1 0) then some (0,(x3.2.1.1,()))
     else opt (yM (a0,(a1.1,()))) fun x7=>
      bif !x7.2.1 then some (0,(141,()))
      else some ((wrF .i64 (a1.2+x7.1)),(0,()))
    else opt (wR (a1,())) fun x8=>
     bif !(zh x8.1 0) then bif !(zh x8.1 0) then some (0,(x8.1,()))
      else opt (yM (a0,(a1.1,()))) fun x9=>
       bif !x9.2.1 then some (0,(141,()))
       else some ((wrF .i64 (a1.2+x9.1)),(0,()))
     else opt (yM (a0,(a1.1,()))) fun x10=>
      bif !x10.2.1 then some (0,(141,()))
      else some ((wrF .i64 (a1.2+x10.1)),(0,()))
abbrev GC:Type:=((List qy)×wH×Unit)→Option (Int×Int×Unit)
def zlJ:xK→Wn→Vd→GC:=fun qm wR yM=>sF Tryz.prog [(84,⟨wL,wM,qm⟩),(59,⟨uP,uQ,wR⟩),(148,⟨kz,kA,yM⟩)] zvS (zP []) 30 103 uW uX
theorem zyb (qm) (wR) (yM) (a0) (a1):zlJ qm wR yM (a0,a1,())=zeN qm wR yM a0 a1:=by kernel_rfl
def xA:GC:=zlJ jO uR Zv
theorem zrH:Con.Ok Tryz.prog 103 ⟨uW,uX,xA⟩:=zw (zd Yv (zd zgY (zd zmn zi))) zo (by kernel_rfl)
theorem zrI (a0) (a1):xA (a0,a1,())=zeN jO uR Zv a0 a1:=zyb jO uR Zv a0 a1
abbrev uh:List VT:=[⟨true,zv⟩,⟨true,xf⟩]
abbrev ui:List VT:=[⟨false,I⟩]
def zoa:zT:=zO [cdF zv] [] [] [] [84,59]
def UM (qm:xK) (wR:Wn) (a0:qy) (a1:wH):Option (Int×Unit):=
 opt (qm (a0,())) fun x0=>
 bif !(zh x0.1 0) then some (x0.1,())
 else opt (wR (a1,())) fun x1=>
  bif !(zh x1.1 0) then some (x1.1,())
  else bif zj a1.1 a0.2 then some (141,())
   else some (0,())
abbrev YB:Type:=(qy×wH×Unit)→Option (Int×Unit)
def zfs:xK→Wn→YB:=fun qm wR=>sF Tryz.prog [(84,⟨wL,wM,qm⟩),(59,⟨uP,uQ,wR⟩)] zoa (zP []) 30 149 uh ui
theorem zpH (qm) (wR) (a0) (a1):zfs qm wR (a0,a1,())=UM qm wR a0 a1:=by kernel_rfl
def gH:YB:=zfs jO uR
theorem zk3:Con.Ok Tryz.prog 149 ⟨uh,ui,gH⟩:=zw (zd Yv (zd zgY zi)) zo (by kernel_rfl)
theorem zk4 (a0) (a1):gH (a0,a1,())=UM jO uR a0 a1:=zpH jO uR a0 a1
abbrev xT:List VT:=[⟨true,zv⟩,⟨true,xf⟩]
abbrev xU:List VT:=[⟨false,I⟩,⟨false,I⟩]
def zrJ:zT:=zO [cdF zv] [] [] [] [149,150]
def zbV (gM:YB) (yI:Xd) (a0:qy) (a1:wH):Option (Int×Int×Unit):=
 opt (gM (a0,(a1,()))) fun x0=>
 bif !(zh x0.1 0) then some (0,(x0.1,()))
 else opt (yI (a0.2,(a1.2,(1048576,())))) fun x1=>
  some ((wrF .i64 (a0.1+x1.1)),(0,()))
abbrev Kl:Type:=(qy×wH×Unit)→Option (Int×Int×Unit)
def zif:YB→Xd→Kl:=fun gM yI=>sF Tryz.prog [(149,⟨uh,ui,gM⟩),(150,⟨gp,gq,yI⟩)] zrJ (zP []) 30 104 xT xU
theorem ztU (gM) (yI) (a0) (a1):zif gM yI (a0,a1,())=zbV gM yI a0 a1:=by kernel_rfl
def yF:Kl:=zif gH uF
theorem zob:Con.Ok Tryz.prog 104 ⟨xT,xU,yF⟩:=zw (zd zk3 (zd zie zi)) zo (by kernel_rfl)
theorem zoc (a0) (a1):yF (a0,a1,())=zbV gH uF a0 a1:=ztU gH uF a0 a1
end Go.Proofs.YtplhphmbkmpocaaGreat.ad
end
