/- Parts of a proof, joined. -/
import Derived.Test.YtplhphmbkmpocaaGreatE34
set_option linter.unusedSectionVars false
set_option linter.unusedVariables false
set_option linter.unusedSimpArgs false
set_option maxHeartbeats 0
set_option maxRecDepth 100000
noncomputable section
namespace Go.Proofs.YtplhphmbkmpocaaGreat.ad
open Go Go.Fz Go.Fz.Sy
abbrev cdF (t:Ty):zmM:=⟨t,QB t,[]⟩
abbrev zfO:List VT:=[⟨false,(.list (.int .u8))⟩,⟨false,I⟩]
abbrev zfP:List VT:=[⟨false,I⟩]
def zwr:zR:=zM [] [] [] [] []
def zfQ (a0:(List Int)) (a1:Int):Option (Int×Unit):=
 bif (zh a1 ((a0.length:Nat):Int)) then opt (atI a0 a1) fun x0=>
  some ((wrF .i64 x0),())
 else some (0,())
abbrev zaW:Type:=((List Int)×Int×Unit)→Option (Int×Unit)
def zmR:zaW:=sF Tryz.prog [] zwr (zN []) 30 62 zfO zfP
theorem zzf (a0) (a1):zmR (a0,a1,())=zfQ a0 a1:=by kernel_rfl
def kX:zaW:=zmR
theorem zsd:Con.Ok Tryz.prog 62 ⟨zfO,zfP,kX⟩:=zv zk zo (by kernel_rfl)
theorem zse (a0) (a1):kX (a0,a1,())=zfQ  a0 a1:=zzf  a0 a1
abbrev zfR:List VT:=[⟨true,zx⟩,⟨false,I⟩]
abbrev zfS:List VT:=[⟨false,.bool⟩]
def zws:zR:=zM [cdF zx,cdF zO] [] [] [] []
def zfT (a0:zK) (a1:Int):Option (Bool×Unit):=
 bif !(zh a1 0) then some ((zh a1 a0.1),())
 else some (false,())
abbrev zaX:Type:=(zK×Int×Unit)→Option (Bool×Unit)
def zmS:zaX:=sF Tryz.prog [] zws (zN []) 30 97 zfR zfS
theorem zzg (a0) (a1):zmS (a0,a1,())=zfT a0 a1:=by kernel_rfl
def YK:zaX:=zmS
theorem zsf:Con.Ok Tryz.prog 97 ⟨zfR,zfS,YK⟩:=zv zk zo (by kernel_rfl)
theorem zsg (a0) (a1):YK (a0,a1,())=zfT  a0 a1:=zzg  a0 a1
abbrev zaY:List VT:=[⟨true,zx⟩,⟨true,zO⟩]
abbrev zaZ:List VT:=[⟨false,.bool⟩]
def zwt:zR:=zM [cdF zx,cdF zO] [] [] [] [97]
def zfU (JB:zaX) (a0:zK) (a1:zat):Option (Bool×Unit):=
 opt (opt (JB (a0,(a1.1,()))) fun x0=>
  bif !x0.1 then some (1,((false,()),()))
  else opt (JB (a0,(a1.2.1,()))) fun x1=>
   bif !x1.1 then some (1,((false,()),()))
   else bif zg a1.1 a1.2.1 then some (1,((false,()),()))
    else opt (atI a0.2.1 a1.1) fun x2=>
     bif x2 then opt (atI a0.2.1 a1.2.1) fun x3=>
      bif x3 then some (1,((false,()),()))
      else some (0,((false,()),()))
     else some (0,((false,()),()))) fun x4=>
 bif Nat.beq x4.1 0 then bif !(zh a1.2.2.1 1) then bif !(zh 1000 a1.2.2.1) then bif !(zh a1.2.2.2 0) then some ((!(zh 10000 a1.2.2.2)),())
    else some (false,())
   else some (false,())
  else some (false,())
 else some (x4.2.1.1,())
abbrev YL:Type:=(zK×zat×Unit)→Option (Bool×Unit)
def zmT:zaX→YL:=fun JB=>sF Tryz.prog [(97,⟨zfR,zfS,JB⟩)] zwt (zN []) 30 68 zaY zaZ
theorem zzh (JB) (a0) (a1):zmT JB (a0,a1,())=zfU JB a0 a1:=by kernel_rfl
def ux:YL:=zmT YK
theorem zhw:Con.Ok Tryz.prog 68 ⟨zaY,zaZ,ux⟩:=zv (zd zsf zk) zo (by kernel_rfl)
theorem zsh (a0) (a1):ux (a0,a1,())=zfU YK a0 a1:=zzh YK a0 a1
abbrev UM:List VT:=[⟨true,zO⟩,⟨false,I⟩,⟨false,I⟩]
abbrev UN:List VT:=[⟨false,.bool⟩]
def zuo:zR:=zM [cdF zO] [] [] [] []
def zdX (a0:zat) (a1:Int) (a2:Int):Option (Bool×Unit):=
 bif zg a0.1 a1 then bif zg a0.2.1 a2 then some (true,())
  else bif zg a0.1 a2 then some ((zg a0.2.1 a1),())
   else some (false,())
 else bif zg a0.1 a2 then some ((zg a0.2.1 a1),())
  else some (false,())
abbrev JQ:Type:=(zat×Int×Int×Unit)→Option (Bool×Unit)
def zkQ:JQ:=sF Tryz.prog [] zuo (zN []) 30 69 UM UN
theorem zwu (a0) (a1) (a2):zkQ (a0,a1,a2,())=zdX a0 a1 a2:=by kernel_rfl
def xH:JQ:=zkQ
theorem zfV:Con.Ok Tryz.prog 69 ⟨UM,UN,xH⟩:=zv zk zo (by kernel_rfl)
theorem zqj (a0) (a1) (a2):xH (a0,a1,a2,())=zdX  a0 a1 a2:=zwu  a0 a1 a2
abbrev WN:List VT:=[⟨true,vp⟩]
abbrev WO:List VT:=[⟨true,zx⟩]
def zlv:zR:=zM [cdF vp,⟨zx,QB zx,[1,2]⟩,cdF zO] [] [⟨5,141,none,.bool,true⟩,⟨9,141,none,.bool,true⟩,⟨13,141,none,.bool,true⟩,⟨16,141,none,.bool,true⟩,⟨19,141,none,.bool,true⟩,⟨21,141,none,.bool,true⟩,⟨24,141,none,.bool,true⟩,⟨3,59,none,zO,true⟩,⟨6,59,none,zO,true⟩,⟨8,59,none,zO,true⟩] [(5,141,5,[1,2]),(9,141,5,[2]),(13,141,5,[2]),(16,141,5,[2]),(19,141,5,[2]),(21,141,5,[2]),(24,141,5,[2]),(5,141,5,[1])] [62,68,69]
def Ks (jN:zaW) (wi:YL) (qL:JQ) (a0:XQ):Option (zK×Unit):=
 opt (zy (fun s0:((Unit×(Int×Unit))×((Int×((List Bool)×((List (Int×(Int×(Int×Int))))×Unit)))×Unit))=>
  bif zh s0.1.2.1 s0.2.1.1 then bif (qW s0.2.1.2.1.length (((!(zh s0.1.2.1 (wrF .i64 (1+(wrF .i64 (Int.tmod a0.1 6))))))::[]).length) 1) then some (.inr (((),((wrF .i64 (s0.1.2.1+1)),())),((s0.2.1.1,((s0.2.1.2.1++((!(zh s0.1.2.1 (wrF .i64 (1+(wrF .i64 (Int.tmod a0.1 6))))))::[])),(s0.2.1.2.2.1,()))),())))
   else none
  else some (.inl (0,(((),(s0.1.2.1,())),((s0.2.1.1,(s0.2.1.2.1,(s0.2.1.2.2.1,()))),()))))) zH (((),(0,())),(((wrF .i64 ((wrF .i64 (1+(wrF .i64 (Int.tmod a0.1 6))))+(wrF .i64 (2+(wrF .i64 (Int.tmod a0.2.1 5)))))),([],([],()))),()))) fun x1=>
 opt (zy (fun s2:(((Int×(Int×((List Int)×((List Int)×((List Int)×(List Int))))))×(Unit×(Int×Unit)))×((Int×((List Bool)×((List (Int×(Int×(Int×Int))))×Unit)))×Unit))=>
  bif (zh s2.1.2.2.1 (wrF .i64 (1+(wrF .i64 (Int.tmod a0.1 6))))) then opt (jN (s2.1.1.2.2.2.2.1,(((s2.2.1.2.2.1.length:Nat):Int),()))) fun x3=>
   opt (jN (s2.1.1.2.2.2.2.2,(((s2.2.1.2.2.1.length:Nat):Int),()))) fun x4=>
   bif (zg ((s2.2.1.2.2.1.length:Nat):Int) 24) then some (.inr ((s2.1.1,((),((wrF .i64 (s2.1.2.2.1+1)),()))),((s2.2.1.1,(s2.2.1.2.1,(s2.2.1.2.2.1,()))),())))
   else opt (wi ((s2.2.1.1,(s2.2.1.2.1,s2.2.1.2.2.1)),(((wrF .i64 (s2.1.2.2.1 - 1)),(s2.1.2.2.1,((wrF .i64 (1+(Int.tmod x3.1 20))),(Int.tmod x4.1 50)))),()))) fun x5=>
    bif !x5.1 then some (.inr ((s2.1.1,((),((wrF .i64 (s2.1.2.2.1+1)),()))),((s2.2.1.1,(s2.2.1.2.1,(s2.2.1.2.2.1,()))),())))
    else opt (zy (fun s6:(((Int×((List Bool)×(List (Int×(Int×(Int×Int))))))×(Int×Unit))×Unit)=>
      bif (zh s6.1.2.1 ((s2.2.1.2.2.1.length:Nat):Int)) then opt (atI s2.2.1.2.2.1 s6.1.2.1) fun x7=>
       opt (gl s2.2.1.2.2.1 (Int.toNat s6.1.2.1)) fun x8=>
       opt (qL (x8,((wrF .i64 (s2.1.2.2.1 - 1)),(s2.1.2.2.1,())))) fun x9=>
       bif x9.1 then some (.inl s6)
       else some (.inr ((s6.1.1,((wrF .i64 (s6.1.2.1+1)),())),()))
      else some (.inl s6)) zH (((0,([],[])),(0,())),())) fun x10=>
     bif (zh x10.1.2.1 ((s2.2.1.2.2.1.length:Nat):Int)) then opt (atI s2.2.1.2.2.1 x10.1.2.1) fun x11=>
      opt (gl s2.2.1.2.2.1 (Int.toNat x10.1.2.1)) fun x12=>
      opt (qL (x12,((wrF .i64 (s2.1.2.2.1 - 1)),(s2.1.2.2.1,())))) fun x13=>
      bif x13.1 then some (.inr ((s2.1.1,((),((wrF .i64 (s2.1.2.2.1+1)),()))),((s2.2.1.1,(s2.2.1.2.1,(s2.2.1.2.2.1,()))),())))
      else none
     else bif (qW s2.2.1.2.2.1.length ((((wrF .i64 (s2.1.2.2.1 - 1)),(s2.1.2.2.1,((wrF .i64 (1+(Int.tmod x3.1 20))),(Int.tmod x4.1 50))))::[]).length) 32) then some (.inr ((s2.1.1,((),((wrF .i64 (s2.1.2.2.1+1)),()))),((s2.2.1.1,(s2.2.1.2.1,((s2.2.1.2.2.1++(((wrF .i64 (s2.1.2.2.1 - 1)),(s2.1.2.2.1,((wrF .i64 (1+(Int.tmod x3.1 20))),(Int.tmod x4.1 50))))::[])),()))),())))
      else none
  else some (.inl (0,((s2.1.1,((),(s2.1.2.2.1,()))),((s2.2.1.1,(s2.2.1.2.1,(s2.2.1.2.2.1,()))),()))))) zH ((a0,((),(1,()))),((x1.2.2.1.1,(x1.2.2.1.2.1,(x1.2.2.1.2.2.1,()))),()))) fun x14=>
 opt (zy (fun s15:(((Int×(Int×((List Int)×((List Int)×((List Int)×(List Int))))))×(Unit×(Int×Unit)))×((Int×((List Bool)×((List (Int×(Int×(Int×Int))))×Unit)))×Unit))=>
  bif (zh s15.1.2.2.1 (wrF .i64 (2+(wrF .i64 (Int.tmod a0.2.1 5))))) then opt (jN (s15.1.1.2.2.2.1,((wrF .i64 (2*s15.1.2.2.1)),()))) fun x16=>
   bif (zg (wrF .i64 (1+(wrF .i64 (Int.tmod a0.1 6)))) 0) then none
   else opt (jN (s15.1.1.2.2.2.2.1,(((s15.2.1.2.2.1.length:Nat):Int),()))) fun x17=>
    opt (jN (s15.1.1.2.2.2.2.2,(((s15.2.1.2.2.1.length:Nat):Int),()))) fun x18=>
    bif (zg ((s15.2.1.2.2.1.length:Nat):Int) 24) then some (.inr ((s15.1.1,((),((wrF .i64 (s15.1.2.2.1+1)),()))),((s15.2.1.1,(s15.2.1.2.1,(s15.2.1.2.2.1,()))),())))
    else opt (wi ((s15.2.1.1,(s15.2.1.2.1,s15.2.1.2.2.1)),(((wrF .i64 ((wrF .i64 (1+(wrF .i64 (Int.tmod a0.1 6))))+s15.1.2.2.1)),((Int.tmod x16.1 (wrF .i64 (1+(wrF .i64 (Int.tmod a0.1 6))))),((wrF .i64 (1+(Int.tmod x17.1 20))),(Int.tmod x18.1 50)))),()))) fun x19=>
     bif !x19.1 then some (.inr ((s15.1.1,((),((wrF .i64 (s15.1.2.2.1+1)),()))),((s15.2.1.1,(s15.2.1.2.1,(s15.2.1.2.2.1,()))),())))
     else opt (zy (fun s20:(((Int×((List Bool)×(List (Int×(Int×(Int×Int))))))×(Int×Unit))×Unit)=>
       bif (zh s20.1.2.1 ((s15.2.1.2.2.1.length:Nat):Int)) then opt (atI s15.2.1.2.2.1 s20.1.2.1) fun x21=>
        opt (gl s15.2.1.2.2.1 (Int.toNat s20.1.2.1)) fun x22=>
        opt (qL (x22,((wrF .i64 ((wrF .i64 (1+(wrF .i64 (Int.tmod a0.1 6))))+s15.1.2.2.1)),((Int.tmod x16.1 (wrF .i64 (1+(wrF .i64 (Int.tmod a0.1 6))))),())))) fun x23=>
        bif x23.1 then some (.inl s20)
        else some (.inr ((s20.1.1,((wrF .i64 (s20.1.2.1+1)),())),()))
       else some (.inl s20)) zH (((0,([],[])),(0,())),())) fun x24=>
      bif (zh x24.1.2.1 ((s15.2.1.2.2.1.length:Nat):Int)) then opt (atI s15.2.1.2.2.1 x24.1.2.1) fun x25=>
       opt (gl s15.2.1.2.2.1 (Int.toNat x24.1.2.1)) fun x26=>
       opt (qL (x26,((wrF .i64 ((wrF .i64 (1+(wrF .i64 (Int.tmod a0.1 6))))+s15.1.2.2.1)),((Int.tmod x16.1 (wrF .i64 (1+(wrF .i64 (Int.tmod a0.1 6))))),())))) fun x27=>
       bif x27.1 then some (.inr ((s15.1.1,((),((wrF .i64 (s15.1.2.2.1+1)),()))),((s15.2.1.1,(s15.2.1.2.1,(s15.2.1.2.2.1,()))),())))
       else none
      else bif (qW s15.2.1.2.2.1.length ((((wrF .i64 ((wrF .i64 (1+(wrF .i64 (Int.tmod a0.1 6))))+s15.1.2.2.1)),((Int.tmod x16.1 (wrF .i64 (1+(wrF .i64 (Int.tmod a0.1 6))))),((wrF .i64 (1+(Int.tmod x17.1 20))),(Int.tmod x18.1 50))))::[]).length) 32) then some (.inr ((s15.1.1,((),((wrF .i64 (s15.1.2.2.1+1)),()))),((s15.2.1.1,(s15.2.1.2.1,((s15.2.1.2.2.1++(((wrF .i64 ((wrF .i64 (1+(wrF .i64 (Int.tmod a0.1 6))))+s15.1.2.2.1)),((Int.tmod x16.1 (wrF .i64 (1+(wrF .i64 (Int.tmod a0.1 6))))),((wrF .i64 (1+(Int.tmod x17.1 20))),(Int.tmod x18.1 50))))::[])),()))),())))
       else none
  else some (.inl (0,((s15.1.1,((),(s15.1.2.2.1,()))),((s15.2.1.1,(s15.2.1.2.1,(s15.2.1.2.2.1,()))),()))))) zH ((x14.2.1.1,((),(0,()))),((x14.2.2.1.1,(x14.2.2.1.2.1,(x14.2.2.1.2.2.1,()))),()))) fun x28=>
 opt (bif (zh 2 (wrF .i64 (1+(wrF .i64 (Int.tmod a0.1 6))))) then bif zg (Int.tmod x28.2.1.1.1 2) 0 then opt (jN (x28.2.1.1.2.2.2.2.1,(((x28.2.2.1.2.2.1.length:Nat):Int),()))) fun x29=>
    opt (jN (x28.2.1.1.2.2.2.2.2,(((x28.2.2.1.2.2.1.length:Nat):Int),()))) fun x30=>
    bif (zg ((x28.2.2.1.2.2.1.length:Nat):Int) 24) then some (0,((x28.2.1.1,((),())),((x28.2.2.1.1,(x28.2.2.1.2.1,(x28.2.2.1.2.2.1,()))),())))
    else opt (wi ((x28.2.2.1.1,(x28.2.2.1.2.1,x28.2.2.1.2.2.1)),(((wrF .i64 ((wrF .i64 (1+(wrF .i64 (Int.tmod a0.1 6)))) - 1)),(0,((wrF .i64 (1+(Int.tmod x29.1 20))),(Int.tmod x30.1 50)))),()))) fun x31=>
     bif !x31.1 then some (0,((x28.2.1.1,((),())),((x28.2.2.1.1,(x28.2.2.1.2.1,(x28.2.2.1.2.2.1,()))),())))
     else opt (zy (fun s32:(((Int×((List Bool)×(List (Int×(Int×(Int×Int))))))×(Int×Unit))×Unit)=>
       bif (zh s32.1.2.1 ((x28.2.2.1.2.2.1.length:Nat):Int)) then opt (atI x28.2.2.1.2.2.1 s32.1.2.1) fun x33=>
        opt (gl x28.2.2.1.2.2.1 (Int.toNat s32.1.2.1)) fun x34=>
        opt (qL (x34,((wrF .i64 ((wrF .i64 (1+(wrF .i64 (Int.tmod a0.1 6)))) - 1)),(0,())))) fun x35=>
        bif x35.1 then some (.inl s32)
        else some (.inr ((s32.1.1,((wrF .i64 (s32.1.2.1+1)),())),()))
       else some (.inl s32)) zH (((0,([],[])),(0,())),())) fun x36=>
      bif (zh x36.1.2.1 ((x28.2.2.1.2.2.1.length:Nat):Int)) then opt (atI x28.2.2.1.2.2.1 x36.1.2.1) fun x37=>
       opt (gl x28.2.2.1.2.2.1 (Int.toNat x36.1.2.1)) fun x38=>
       opt (qL (x38,((wrF .i64 ((wrF .i64 (1+(wrF .i64 (Int.tmod a0.1 6)))) - 1)),(0,())))) fun x39=>
       bif x39.1 then some (0,((x28.2.1.1,((),())),((x28.2.2.1.1,(x28.2.2.1.2.1,(x28.2.2.1.2.2.1,()))),())))
       else none
      else bif (qW x28.2.2.1.2.2.1.length ((((wrF .i64 ((wrF .i64 (1+(wrF .i64 (Int.tmod a0.1 6)))) - 1)),(0,((wrF .i64 (1+(Int.tmod x29.1 20))),(Int.tmod x30.1 50))))::[]).length) 32) then some (0,((x28.2.1.1,((),())),((x28.2.2.1.1,(x28.2.2.1.2.1,((x28.2.2.1.2.2.1++(((wrF .i64 ((wrF .i64 (1+(wrF .i64 (Int.tmod a0.1 6)))) - 1)),(0,((wrF .i64 (1+(Int.tmod x29.1 20))),(Int.tmod x30.1 50))))::[])),()))),())))
       else none
   else some (0,((x28.2.1.1,((),())),((x28.2.2.1.1,(x28.2.2.1.2.1,(x28.2.2.1.2.2.1,()))),())))
  else some (0,((x28.2.1.1,((),())),((x28.2.2.1.1,(x28.2.2.1.2.1,(x28.2.2.1.2.2.1,()))),())))) fun x40=>
 opt (zy (fun s41:(((Int×(Int×((List Int)×((List Int)×((List Int)×(List Int))))))×(Unit×(Int×Unit)))×((Int×((List Bool)×((List (Int×(Int×(Int×Int))))×Unit)))×Unit))=>
  bif (zh s41.1.2.2.1 (wrF .i64 (2+(wrF .i64 (Int.tmod a0.2.1 5))))) then opt (opt (jN (s41.1.1.2.2.2.1,((wrF .i64 ((wrF .i64 (2*s41.1.2.2.1))+1)),()))) fun x42=>
    bif zh 0 (Int.tmod x42.1 3) then opt (jN (s41.1.1.2.2.2.1,((wrF .i64 ((wrF .i64 (2*s41.1.2.2.1))+1)),()))) fun x43=>
     bif (zg (wrF .i64 (1+(wrF .i64 (Int.tmod a0.1 6)))) 0) then none
     else opt (jN (s41.1.1.2.2.2.2.1,(((s41.2.1.2.2.1.length:Nat):Int),()))) fun x44=>
      opt (jN (s41.1.1.2.2.2.2.2,(((s41.2.1.2.2.1.length:Nat):Int),()))) fun x45=>
      bif (zg ((s41.2.1.2.2.1.length:Nat):Int) 24) then some (0,((s41.1.1,((),())),((s41.2.1.1,(s41.2.1.2.1,(s41.2.1.2.2.1,()))),())))
      else opt (wi ((s41.2.1.1,(s41.2.1.2.1,s41.2.1.2.2.1)),(((wrF .i64 ((wrF .i64 (1+(wrF .i64 (Int.tmod a0.1 6))))+s41.1.2.2.1)),((Int.tmod x43.1 (wrF .i64 (1+(wrF .i64 (Int.tmod a0.1 6))))),((wrF .i64 (1+(Int.tmod x44.1 20))),(Int.tmod x45.1 50)))),()))) fun x46=>
       bif !x46.1 then some (0,((s41.1.1,((),())),((s41.2.1.1,(s41.2.1.2.1,(s41.2.1.2.2.1,()))),())))
       else opt (zy (fun s47:(((Int×((List Bool)×(List (Int×(Int×(Int×Int))))))×(Int×Unit))×Unit)=>
         bif (zh s47.1.2.1 ((s41.2.1.2.2.1.length:Nat):Int)) then opt (atI s41.2.1.2.2.1 s47.1.2.1) fun x48=>
          opt (gl s41.2.1.2.2.1 (Int.toNat s47.1.2.1)) fun x49=>
          opt (qL (x49,((wrF .i64 ((wrF .i64 (1+(wrF .i64 (Int.tmod a0.1 6))))+s41.1.2.2.1)),((Int.tmod x43.1 (wrF .i64 (1+(wrF .i64 (Int.tmod a0.1 6))))),())))) fun x50=>
          bif x50.1 then some (.inl s47)
          else some (.inr ((s47.1.1,((wrF .i64 (s47.1.2.1+1)),())),()))
         else some (.inl s47)) zH (((0,([],[])),(0,())),())) fun x51=>
        bif (zh x51.1.2.1 ((s41.2.1.2.2.1.length:Nat):Int)) then opt (atI s41.2.1.2.2.1 x51.1.2.1) fun x52=>
         opt (gl s41.2.1.2.2.1 (Int.toNat x51.1.2.1)) fun x53=>
         opt (qL (x53,((wrF .i64 ((wrF .i64 (1+(wrF .i64 (Int.tmod a0.1 6))))+s41.1.2.2.1)),((Int.tmod x43.1 (wrF .i64 (1+(wrF .i64 (Int.tmod a0.1 6))))),())))) fun x54=>
         bif x54.1 then some (0,((s41.1.1,((),())),((s41.2.1.1,(s41.2.1.2.1,(s41.2.1.2.2.1,()))),())))
         else none
        else bif (qW s41.2.1.2.2.1.length ((((wrF .i64 ((wrF .i64 (1+(wrF .i64 (Int.tmod a0.1 6))))+s41.1.2.2.1)),((Int.tmod x43.1 (wrF .i64 (1+(wrF .i64 (Int.tmod a0.1 6))))),((wrF .i64 (1+(Int.tmod x44.1 20))),(Int.tmod x45.1 50))))::[]).length) 32) then some (0,((s41.1.1,((),())),((s41.2.1.1,(s41.2.1.2.1,((s41.2.1.2.2.1++(((wrF .i64 ((wrF .i64 (1+(wrF .i64 (Int.tmod a0.1 6))))+s41.1.2.2.1)),((Int.tmod x43.1 (wrF .i64 (1+(wrF .i64 (Int.tmod a0.1 6))))),((wrF .i64 (1+(Int.tmod x44.1 20))),(Int.tmod x45.1 50))))::[])),()))),())))
         else none
    else some (0,((s41.1.1,((),())),((s41.2.1.1,(s41.2.1.2.1,(s41.2.1.2.2.1,()))),())))) fun x55=>
   some (.inr ((x55.2.1.1,((),((wrF .i64 (s41.1.2.2.1+1)),()))),((x55.2.2.1.1,(x55.2.2.1.2.1,(x55.2.2.1.2.2.1,()))),())))
  else some (.inl (0,((s41.1.1,((),(s41.1.2.2.1,()))),((s41.2.1.1,(s41.2.1.2.1,(s41.2.1.2.2.1,()))),()))))) zH ((x40.2.1.1,((),(0,()))),((x40.2.2.1.1,(x40.2.2.1.2.1,(x40.2.2.1.2.2.1,()))),()))) fun x56=>
 opt (zy (fun s57:(((Int×(Int×((List Int)×((List Int)×((List Int)×(List Int))))))×(Unit×(Int×Unit)))×((Int×((List Bool)×((List (Int×(Int×(Int×Int))))×Unit)))×Unit))=>
  bif (zh (wrF .i64 (s57.1.2.2.1+1)) ((s57.1.1.2.2.1.length:Nat):Int)) then bif zh s57.1.2.2.1 12 then opt (atI s57.1.1.2.2.1 s57.1.2.2.1) fun x58=>
    bif (zg (wrF .i64 (1+(wrF .i64 (Int.tmod a0.1 6)))) 0) then none
    else opt (atI s57.1.1.2.2.1 (wrF .i64 (s57.1.2.2.1+1))) fun x59=>
     bif (zg (wrF .i64 (1+(wrF .i64 (Int.tmod a0.1 6)))) 0) then none
     else opt (jN (s57.1.1.2.2.2.2.1,(((s57.2.1.2.2.1.length:Nat):Int),()))) fun x60=>
      opt (jN (s57.1.1.2.2.2.2.2,(((s57.2.1.2.2.1.length:Nat):Int),()))) fun x61=>
      bif (zg ((s57.2.1.2.2.1.length:Nat):Int) 24) then some (.inr ((s57.1.1,((),((wrF .i64 (s57.1.2.2.1+2)),()))),((s57.2.1.1,(s57.2.1.2.1,(s57.2.1.2.2.1,()))),())))
      else opt (wi ((s57.2.1.1,(s57.2.1.2.1,s57.2.1.2.2.1)),(((Int.tmod (wrF .i64 x58) (wrF .i64 (1+(wrF .i64 (Int.tmod a0.1 6))))),((Int.tmod (wrF .i64 x59) (wrF .i64 (1+(wrF .i64 (Int.tmod a0.1 6))))),((wrF .i64 (1+(Int.tmod x60.1 20))),(Int.tmod x61.1 50)))),()))) fun x62=>
       bif !x62.1 then some (.inr ((s57.1.1,((),((wrF .i64 (s57.1.2.2.1+2)),()))),((s57.2.1.1,(s57.2.1.2.1,(s57.2.1.2.2.1,()))),())))
       else opt (zy (fun s63:(((Int×((List Bool)×(List (Int×(Int×(Int×Int))))))×(Int×Unit))×Unit)=>
         bif (zh s63.1.2.1 ((s57.2.1.2.2.1.length:Nat):Int)) then opt (atI s57.2.1.2.2.1 s63.1.2.1) fun x64=>
          opt (gl s57.2.1.2.2.1 (Int.toNat s63.1.2.1)) fun x65=>
          opt (qL (x65,((Int.tmod (wrF .i64 x58) (wrF .i64 (1+(wrF .i64 (Int.tmod a0.1 6))))),((Int.tmod (wrF .i64 x59) (wrF .i64 (1+(wrF .i64 (Int.tmod a0.1 6))))),())))) fun x66=>
          bif x66.1 then some (.inl s63)
          else some (.inr ((s63.1.1,((wrF .i64 (s63.1.2.1+1)),())),()))
         else some (.inl s63)) zH (((0,([],[])),(0,())),())) fun x67=>
        bif (zh x67.1.2.1 ((s57.2.1.2.2.1.length:Nat):Int)) then opt (atI s57.2.1.2.2.1 x67.1.2.1) fun x68=>
         opt (gl s57.2.1.2.2.1 (Int.toNat x67.1.2.1)) fun x69=>
         opt (qL (x69,((Int.tmod (wrF .i64 x58) (wrF .i64 (1+(wrF .i64 (Int.tmod a0.1 6))))),((Int.tmod (wrF .i64 x59) (wrF .i64 (1+(wrF .i64 (Int.tmod a0.1 6))))),())))) fun x70=>
         bif x70.1 then some (.inr ((s57.1.1,((),((wrF .i64 (s57.1.2.2.1+2)),()))),((s57.2.1.1,(s57.2.1.2.1,(s57.2.1.2.2.1,()))),())))
         else none
        else bif (qW s57.2.1.2.2.1.length ((((Int.tmod (wrF .i64 x58) (wrF .i64 (1+(wrF .i64 (Int.tmod a0.1 6))))),((Int.tmod (wrF .i64 x59) (wrF .i64 (1+(wrF .i64 (Int.tmod a0.1 6))))),((wrF .i64 (1+(Int.tmod x60.1 20))),(Int.tmod x61.1 50))))::[]).length) 32) then some (.inr ((s57.1.1,((),((wrF .i64 (s57.1.2.2.1+2)),()))),((s57.2.1.1,(s57.2.1.2.1,((s57.2.1.2.2.1++(((Int.tmod (wrF .i64 x58) (wrF .i64 (1+(wrF .i64 (Int.tmod a0.1 6))))),((Int.tmod (wrF .i64 x59) (wrF .i64 (1+(wrF .i64 (Int.tmod a0.1 6))))),((wrF .i64 (1+(Int.tmod x60.1 20))),(Int.tmod x61.1 50))))::[])),()))),())))
         else none
   else some (.inl (0,((s57.1.1,((),(s57.1.2.2.1,()))),((s57.2.1.1,(s57.2.1.2.1,(s57.2.1.2.2.1,()))),()))))
  else some (.inl (0,((s57.1.1,((),(s57.1.2.2.1,()))),((s57.2.1.1,(s57.2.1.2.1,(s57.2.1.2.2.1,()))),()))))) zH ((x56.2.1.1,((),(0,()))),((x56.2.2.1.1,(x56.2.2.1.2.1,(x56.2.2.1.2.2.1,()))),()))) fun x71=>
 some ((x71.2.2.1.1,(x71.2.2.1.2.1,x71.2.2.1.2.2.1)),())
abbrev kz:Type:=(XQ×Unit)→Option (zK×Unit)
def zdB:zaW→YL→JQ→kz:=fun jN wi qL=>sF Tryz.prog [(62,⟨zfO,zfP,jN⟩),(68,⟨zaY,zaZ,wi⟩),(69,⟨UM,UN,qL⟩)] zlv (zN [(3,59),(8,59)] [(6,59)]) 30 32 WN WO
theorem zmU (jN) (wi) (qL) (a0):zdB jN wi qL (a0,())=Ks jN wi qL a0:=by kernel_rfl
def wQ:kz:=zdB kX ux xH
theorem zau:Con.Ok Tryz.prog 32 ⟨WN,WO,wQ⟩:=zv (zd zsd (zd zhw (zd zfV zk))) zo (by kernel_rfl)
theorem ziX (a0):wQ (a0,())=Ks kX ux xH a0:=zmU kX ux xH a0
abbrev za0:List VT:=[⟨false,(.int .u8)⟩,⟨false,(.int .u8)⟩,⟨false,(.int .u8)⟩]
abbrev za1:List VT:=[⟨true,Ya⟩]
def zqk:zR:=zM [cdF Ya] [] [] [] []
def za2 (a0:Int) (a1:Int) (a2:Int):Option (XR×Unit):=
 some (((wrF .i64 (100+(wrF .i64 (20*(wrF .i64 a0))))),((wrF .i64 (Int.tmod a1 40)),((wrF .i64 a2),8000))),())
abbrev VQ:Type:=(Int×Int×Int×Unit)→Option (XR×Unit)
def zhx:VQ:=sF Tryz.prog [] zqk (zN []) 30 33 za0 za1
theorem zsi (a0) (a1) (a2):zhx (a0,a1,a2,())=za2 a0 a1 a2:=by kernel_rfl
def ZR:VQ:=zhx
theorem zmV:Con.Ok Tryz.prog 33 ⟨za0,za1,ZR⟩:=zv zk zo (by kernel_rfl)
theorem zmW (a0) (a1) (a2):ZR (a0,a1,a2,())=za2  a0 a1 a2:=zsi  a0 a1 a2
abbrev Ym:List VT:=[⟨true,xh⟩]
abbrev Yn:List VT:=[⟨true,qn⟩]
def zmX:zR:=zM [cdF xh,⟨qn,QB qn,[7]⟩,cdF wq,cdF vp,cdF zx,cdF zO,⟨(.pair (.int .u8) (.pair (.int .u8) (.int .u8))),QB (.pair (.int .u8) (.pair (.int .u8) (.int .u8))),[]⟩,⟨zL,QB zL,[0]⟩,cdF ZQ,cdF qg] [] [⟨4,93,none,zL,true⟩,⟨7,93,none,zL,true⟩,⟨10,93,none,zL,true⟩,⟨3,55,none,qg,true⟩,⟨6,55,none,qg,true⟩,⟨8,55,none,qg,true⟩,⟨3,58,none,qg,true⟩,⟨6,58,none,qg,true⟩,⟨8,58,none,qg,true⟩] [(4,93,5,[0]),(4,93,3,[7]),(7,93,5,[0]),(10,93,5,[0]),(3,55,3,[0]),(3,58,3,[0])] [33]
def Uk (jm:kz) (Qc:VQ) (a0:jZ):Option (qx×Unit):=
 opt (jm (a0.1,())) fun x0=>
 opt (Qc (a0.2.2.1.1,(a0.2.2.1.2.1,(a0.2.2.1.2.2,())))) fun x1=>
 opt (zy (fun s2:((((Int×(Int×((List Int)×((List Int)×((List Int)×(List Int))))))×((List ((List Int)×(List Int)))×((Int×(Int×Int))×(Int×(Int×((List (Bool×(Bool×(Int×(Int×(Int×(Int×(Int×Int))))))))×(List Int)))))))×(Unit×(Int×Unit)))×(((Int×((List Bool)×(List (Int×(Int×(Int×Int))))))×((Int×(Int×(Int×Int)))×((List ((List (Int×Int))×Int))×(Int×Unit))))×Unit))=>
  bif (zh s2.1.2.2.1 (wrF .i64 (2*((s2.2.1.1.2.2.length:Nat):Int)))) then opt (zy (fun s3:((Unit×(Int×Unit))×(((List (Int×Int))×(Int×Unit))×Unit))=>
    bif (zh s3.1.2.1 (uv 1 (jt 0 16))) then opt (bif zh s3.1.2.1 0 then none
      else some (0,(((127,1),()),()))) fun x4=>
     opt (bif zh s3.1.2.1 0 then none
      else some (0,((x4.2.1.1,()),()))) fun x5=>
     bif (qW s3.2.1.1.length ((x5.2.1.1::[]).length) 16) then some (.inr (((),((wrF .i64 (s3.1.2.1+1)),())),(((s3.2.1.1++(x5.2.1.1::[])),((wrF .i64 (s3.2.1.2.1+x5.2.1.1.2)),())),())))
     else none
    else some (.inl (0,(((),(s3.1.2.1,())),((s3.2.1.1,(s3.2.1.2.1,())),()))))) zH (((),(0,())),(([],(0,())),()))) fun x6=>
   opt (bif (zh 0 ((s2.1.1.2.1.length:Nat):Int)) then bif zh 0 (Int.tmod s2.1.2.2.1 3) then bif (zg ((s2.1.1.2.1.length:Nat):Int) 0) then none
      else opt (atI s2.1.1.2.1 (Int.tmod s2.1.2.2.1 ((s2.1.1.2.1.length:Nat):Int))) fun x7=>
       opt (zy (fun s8:((Unit×(Int×Unit))×(((List (Int×Int))×(Int×Unit))×Unit))=>
        bif (zh s8.1.2.1 (uv 1 (jt ((x7.1.length:Nat):Int) 10))) then opt (bif (zh s8.1.2.1 ((x7.1.length:Nat):Int)) then opt (atI x7.1 s8.1.2.1) fun x9=>
           opt (atI (α:=Int) (128::(127::(127::(64::(255::(63::[])))))) (Int.tmod x9 6)) fun x10=>
           opt (gl (α:=Int) (128::(127::(127::(64::(255::(63::[])))))) (Int.toNat (Int.tmod x9 6))) fun x11=>
           some (0,(((x11,1),()),()))
          else some (0,(((127,1),()),()))) fun x12=>
         opt (bif (zh s8.1.2.1 ((x7.2.length:Nat):Int)) then opt (atI x7.2 s8.1.2.1) fun x13=>
           some (0,(((x12.2.1.1.1,(wrF .i64 (1+(wrF .i64 (4*(wrF .i64 x13)))))),()),()))
          else some (0,((x12.2.1.1,()),()))) fun x14=>
         bif (qW s8.2.1.1.length ((x14.2.1.1::[]).length) 16) then some (.inr (((),((wrF .i64 (s8.1.2.1+1)),())),(((s8.2.1.1++(x14.2.1.1::[])),((wrF .i64 (s8.2.1.2.1+x14.2.1.1.2)),())),())))
         else none
        else some (.inl (0,(((),(s8.1.2.1,())),((s8.2.1.1,(s8.2.1.2.1,())),()))))) zH (((),(0,())),(([],(0,())),()))) fun x15=>
       opt (zy (fun s16:((Unit×(Int×Unit))×(((List (Int×Int))×(Int×Unit))×Unit))=>
        bif (zh s16.1.2.1 ((s16.2.1.1.length:Nat):Int)) then opt (atI s16.2.1.1 s16.1.2.1) fun x17=>
         opt (gl s16.2.1.1 (Int.toNat s16.1.2.1)) fun x18=>
         opt (atI s16.2.1.1 s16.1.2.1) fun x19=>
         opt (gl s16.2.1.1 (Int.toNat s16.1.2.1)) fun x20=>
         some (.inr (((),((wrF .i64 (s16.1.2.1+1)),())),(((s16.2.1.1.set (Int.toNat s16.1.2.1) (x20.1,(wrF .i64 (40*x18.2)))),(s16.2.1.2.1,())),())))
        else some (.inl (0,(((),(s16.1.2.1,())),((s16.2.1.1,(s16.2.1.2.1,())),()))))) zH (((),(0,())),((x15.2.2.1.1,(x15.2.2.1.2.1,())),()))) fun x21=>
       some (0,((s2.1.1,((),())),((x21.2.2.1.1,((wrF .i64 (40*x21.2.2.1.2.1)),())),())))
     else some (0,((s2.1.1,((),())),((x6.2.2.1.1,(x6.2.2.1.2.1,())),())))
    else some (0,((s2.1.1,((),())),((x6.2.2.1.1,(x6.2.2.1.2.1,())),())))) fun x22=>
   bif (qW s2.2.1.2.2.1.length (((x22.2.2.1.1,x22.2.2.1.2.1)::[]).length) 32) then some (.inr ((x22.2.1.1,((),((wrF .i64 (s2.1.2.2.1+1)),()))),((s2.2.1.1,(s2.2.1.2.1,((s2.2.1.2.2.1++((x22.2.2.1.1,x22.2.2.1.2.1)::[])),(s2.2.1.2.2.2.1,())))),())))
   else none
  else some (.inl (0,((s2.1.1,((),(s2.1.2.2.1,()))),((s2.2.1.1,(s2.2.1.2.1,(s2.2.1.2.2.1,(s2.2.1.2.2.2.1,())))),()))))) zH ((a0,((),(0,()))),((x0.1,((x1.1.1,(x1.1.2.1,(x1.1.2.2.1,(wrF .i64 (2000+(wrF .i64 (200*(wrF .i64 a0.2.2.2.1)))))))),([],((wrF .i64 (339+(wrF .i64 (Int.tmod a0.2.2.2.2.1 500)))),())))),()))) fun x23=>
 some ((x23.2.2.1.1,(x23.2.2.1.2.1,(x23.2.2.1.2.2.1,x23.2.2.1.2.2.2.1))),())
abbrev Ul:Type:=(jZ×Unit)→Option (qx×Unit)
def zeN:kz→VQ→Ul:=fun jm Qc=>sF Tryz.prog [(32,⟨WN,WO,jm⟩),(33,⟨za0,za1,Qc⟩)] zmX (zN []) 30 10 Ym Yn
theorem zoD (jm) (Qc) (a0):zeN jm Qc (a0,())=Uk jm Qc a0:=by kernel_rfl
def vS:Ul:=zeN wQ ZR
theorem zj9:Con.Ok Tryz.prog 10 ⟨Ym,Yn,vS⟩:=zv (zd zau (zd zmV zk)) zo (by kernel_rfl)
theorem zka (a0):vS (a0,())=Uk wQ ZR a0:=zoD wQ ZR a0
abbrev Jb:List VT:=[⟨true,zx⟩,⟨false,I⟩]
abbrev Jc:List VT:=[⟨false,I⟩]
def zwv:zR:=zM [cdF zx,cdF zO] [] [] [] []
def zfW (a0:zK) (a1:Int):Option (Int×Unit):=
 opt (atI a0.2.2 (wrF .i64 (Int.tdiv a1 2))) fun x0=>
 bif zg (Int.tmod a1 2) 1 then some (x0.2.1,())
 else some (x0.1,())
abbrev xI:Type:=(zK×Int×Unit)→Option (Int×Unit)
def zmY:xI:=sF Tryz.prog [] zwv (zN []) 30 88 Jb Jc
theorem zzi (a0) (a1):zmY (a0,a1,())=zfW a0 a1:=by kernel_rfl
def ju:xI:=zmY
theorem WQ:Con.Ok Tryz.prog 88 ⟨Jb,Jc,ju⟩:=zv zk zo (by kernel_rfl)
theorem zsj (a0) (a1):ju (a0,a1,())=zfW  a0 a1:=zzi  a0 a1
abbrev zdY:List VT:=[⟨true,zx⟩,⟨false,I⟩]
abbrev zdZ:List VT:=[⟨false,(.list I)⟩]
def zup:zR:=zM [cdF zx,cdF zO] [] [⟨3,25,some 4,I,false⟩,⟨3,25,some 5,I,true⟩,⟨5,25,some 4,I,false⟩,⟨5,25,some 5,I,true⟩] [] [88]
def zd0 (qe:xI) (a0:zK) (a1:Int):Option ((List Int)×Unit):=
 opt (zy (fun s0:((Int×Unit)×((List Int)×Unit))=>
  bif (zh s0.1.1 (wrF .i64 (2*((a0.2.2.length:Nat):Int)))) then opt (opt (qe (a0,(s0.1.1,()))) fun x1=>
    bif zg x1.1 a1 then bif (qW s0.2.1.length ((s0.1.1::[]).length) 8) then some (0,((),((s0.2.1++(s0.1.1::[])),())))
     else none
    else some (0,((),(s0.2.1,())))) fun x2=>
   some (.inr (((wrF .i64 (s0.1.1+1)),()),(x2.2.2.1,())))
  else some (.inl (0,((s0.1.1,()),(s0.2.1,()))))) zH ((0,()),([],()))) fun x3=>
 some (x3.2.2.1,())
abbrev UO:Type:=(zK×Int×Unit)→Option ((List Int)×Unit)
def zkR:xI→UO:=fun qe=>sF Tryz.prog [(88,⟨Jb,Jc,qe⟩)] zup (zN []) 30 161 zdY zdZ
theorem zww (qe) (a0) (a1):zkR qe (a0,a1,())=zd0 qe a0 a1:=by kernel_rfl
def JR:UO:=zkR ju
theorem zql:Con.Ok Tryz.prog 161 ⟨zdY,zdZ,JR⟩:=zv (zd WQ zk) zo (by kernel_rfl)
theorem zqm (a0) (a1):JR (a0,a1,())=zd0 ju a0 a1:=zww ju a0 a1
abbrev KS:List VT:=[⟨true,zx⟩,⟨false,I⟩]
abbrev KT:List VT:=[⟨false,I⟩]
def zAp:zR:=zM [cdF zx,cdF zO] [] [] [] []
def zkb (a0:zK) (a1:Int):Option (Int×Unit):=
 opt (atI a0.2.2 (wrF .i64 (Int.tdiv a1 2))) fun x0=>
 bif zg (Int.tmod a1 2) 1 then some (x0.1,())
 else some (x0.2.1,())
abbrev Zz:Type:=(zK×Int×Unit)→Option (Int×Unit)
def zsk:Zz:=sF Tryz.prog [] zAp (zN []) 30 89 KS KT
theorem zCr (a0) (a1):zsk (a0,a1,())=zkb a0 a1:=by kernel_rfl
def yk:Zz:=zsk
theorem UP:Con.Ok Tryz.prog 89 ⟨KS,KT,yk⟩:=zv zk zo (by kernel_rfl)
theorem zwx (a0) (a1):yk (a0,a1,())=zkb  a0 a1:=zCr  a0 a1
abbrev KU:List VT:=[⟨false,(.list I)⟩,⟨false,I⟩]
abbrev KV:List VT:=[⟨false,.bool⟩]
def zAq:zR:=zM [] [] [] [] []
def zkc (a0:(List Int)) (a1:Int):Option (Bool×Unit):=
 opt (zy (fun s0:((Bool×(Int×Unit))×Unit)=>
  bif (zh s0.1.2.1 ((a0.length:Nat):Int)) then opt (atI a0 s0.1.2.1) fun x1=>
   bif zg x1 a1 then some (.inl (1,((true,(s0.1.2.1,())),())))
   else some (.inr ((s0.1.1,((wrF .i64 (s0.1.2.1+1)),())),()))
  else some (.inl (0,((s0.1.1,(s0.1.2.1,())),())))) zH ((false,(0,())),())) fun x2=>
 bif Nat.beq x2.1 0 then some (false,())
 else some (x2.2.1.1,())
abbrev ZA:Type:=((List Int)×Int×Unit)→Option (Bool×Unit)
def zsl:ZA:=sF Tryz.prog [] zAq (zN []) 30 98 KU KV
theorem zCs (a0) (a1):zsl (a0,a1,())=zkc a0 a1:=by kernel_rfl
def yZ:ZA:=zsl
theorem UQ:Con.Ok Tryz.prog 98 ⟨KU,KV,yZ⟩:=zv zk zo (by kernel_rfl)
theorem zwy (a0) (a1):yZ (a0,a1,())=zkc  a0 a1:=zCs  a0 a1
abbrev zfX:List VT:=[⟨true,zx⟩,⟨false,(.int .u8)⟩,⟨false,(.int .u8)⟩]
abbrev zfY:List VT:=[⟨false,(.list I)⟩]
def zwz:zR:=zM [cdF zx,cdF zO] [] [⟨4,90,some 6,I,false⟩,⟨4,90,some 9,I,true⟩,⟨4,90,some 10,I,true⟩,⟨8,90,some 6,I,false⟩,⟨8,90,some 9,I,true⟩,⟨8,90,some 10,I,true⟩,⟨10,90,some 6,I,false⟩,⟨10,90,some 9,I,true⟩,⟨10,90,some 10,I,true⟩,⟨12,90,some 6,I,false⟩,⟨12,90,some 9,I,true⟩,⟨12,90,some 10,I,true⟩] [] [89,98]
def zfZ (uZ:UO) (qv:Zz) (qK:ZA) (a0:zK) (a1:Int) (a2:Int):Option ((List Int)×Unit):=
 bif zg a0.1 0 then none
 else opt (zy (fun s0:(((Int×((List Bool)×(List (Int×(Int×(Int×Int))))))×((List Int)×(Int×Unit)))×((List Int)×((List Int)×Unit)))=>
   bif (zh ((s0.2.1.length:Nat):Int) 8) then bif (zg ((s0.2.1.length:Nat):Int) 0) then opt (uZ (s0.1.1,(s0.1.2.2.1,()))) fun x1=>
     opt (zy (fun s2:((Int×Unit)×((List Int)×((List Int)×Unit)))=>
      bif (zh s2.1.1 ((x1.1.length:Nat):Int)) then opt (opt (atI x1.1 s2.1.1) fun x3=>
        opt (qv (s0.1.1,(x3,()))) fun x4=>
        opt (qK (s2.2.1,(x4.1,()))) fun x5=>
        bif !x5.1 then opt (atI x1.1 s2.1.1) fun x6=>
         bif (qW s2.2.2.1.length ((x6::[]).length) 8) then some (0,((),(s2.2.1,((s2.2.2.1++(x6::[])),()))))
         else none
        else some (0,((),(s2.2.1,(s2.2.2.1,()))))) fun x7=>
       some (.inr (((wrF .i64 (s2.1.1+1)),()),(x7.2.2.1,(x7.2.2.2.1,()))))
      else some (.inl (0,((s2.1.1,()),(s2.2.1,(s2.2.2.1,())))))) zH ((0,()),(s0.2.2.1,([],())))) fun x8=>
     bif (zg ((x8.2.2.2.1.length:Nat):Int) 0) then some (.inl s0)
     else bif (zg ((x8.2.2.2.1.length:Nat):Int) 0) then none
      else opt (atI x8.2.2.2.1 (Int.tmod (wrF .i64 ((wrF .i64 a2)+(wrF .i64 (3*((s0.2.1.length:Nat):Int))))) ((x8.2.2.2.1.length:Nat):Int))) fun x9=>
       opt (gl x8.2.2.2.1 (Int.toNat (Int.tmod (wrF .i64 ((wrF .i64 a2)+(wrF .i64 (3*((s0.2.1.length:Nat):Int))))) ((x8.2.2.2.1.length:Nat):Int)))) fun x10=>
       bif (qW s0.2.1.length ((x10::[]).length) 8) then opt (qv (s0.1.1,(x10,()))) fun x11=>
        bif (qW x8.2.2.1.length ((x11.1::[]).length) 8) then some (.inr ((s0.1.1,(s0.1.2.1,(x11.1,()))),((s0.2.1++(x10::[])),((x8.2.2.1++(x11.1::[])),()))))
        else none
       else none
    else opt (atI s0.1.1.2.1 s0.1.2.2.1) fun x12=>
     bif !x12 then opt (uZ (s0.1.1,(s0.1.2.2.1,()))) fun x13=>
      opt (zy (fun s14:((Int×Unit)×((List Int)×((List Int)×Unit)))=>
       bif (zh s14.1.1 ((x13.1.length:Nat):Int)) then opt (opt (atI x13.1 s14.1.1) fun x15=>
         opt (qv (s0.1.1,(x15,()))) fun x16=>
         opt (qK (s14.2.1,(x16.1,()))) fun x17=>
         bif !x17.1 then opt (atI x13.1 s14.1.1) fun x18=>
          bif (qW s14.2.2.1.length ((x18::[]).length) 8) then some (0,((),(s14.2.1,((s14.2.2.1++(x18::[])),()))))
          else none
         else some (0,((),(s14.2.1,(s14.2.2.1,()))))) fun x19=>
        some (.inr (((wrF .i64 (s14.1.1+1)),()),(x19.2.2.1,(x19.2.2.2.1,()))))
       else some (.inl (0,((s14.1.1,()),(s14.2.1,(s14.2.2.1,())))))) zH ((0,()),(s0.2.2.1,([],())))) fun x20=>
      bif (zg ((x20.2.2.2.1.length:Nat):Int) 0) then some (.inl s0)
      else bif (zg ((x20.2.2.2.1.length:Nat):Int) 0) then none
       else opt (atI x20.2.2.2.1 (Int.tmod (wrF .i64 ((wrF .i64 a2)+(wrF .i64 (3*((s0.2.1.length:Nat):Int))))) ((x20.2.2.2.1.length:Nat):Int))) fun x21=>
        opt (gl x20.2.2.2.1 (Int.toNat (Int.tmod (wrF .i64 ((wrF .i64 a2)+(wrF .i64 (3*((s0.2.1.length:Nat):Int))))) ((x20.2.2.2.1.length:Nat):Int)))) fun x22=>
        bif (qW s0.2.1.length ((x22::[]).length) 8) then opt (qv (s0.1.1,(x22,()))) fun x23=>
         bif (qW x20.2.2.1.length ((x23.1::[]).length) 8) then some (.inr ((s0.1.1,(s0.1.2.1,(x23.1,()))),((s0.2.1++(x22::[])),((x20.2.2.1++(x23.1::[])),()))))
         else none
        else none
     else some (.inl s0)
   else some (.inl s0)) zH ((a0,([],((Int.tmod (wrF .i64 a1) a0.1),()))),([],(((Int.tmod (wrF .i64 a1) a0.1)::[]),())))) fun x24=>
  bif (zh ((x24.2.1.length:Nat):Int) 8) then bif (zg ((x24.2.1.length:Nat):Int) 0) then opt (uZ (x24.1.1,(x24.1.2.2.1,()))) fun x25=>
    opt (zy (fun s26:((Int×Unit)×((List Int)×((List Int)×Unit)))=>
     bif (zh s26.1.1 ((x25.1.length:Nat):Int)) then opt (opt (atI x25.1 s26.1.1) fun x27=>
       opt (qv (x24.1.1,(x27,()))) fun x28=>
       opt (qK (s26.2.1,(x28.1,()))) fun x29=>
       bif !x29.1 then opt (atI x25.1 s26.1.1) fun x30=>
        bif (qW s26.2.2.1.length ((x30::[]).length) 8) then some (0,((),(s26.2.1,((s26.2.2.1++(x30::[])),()))))
        else none
       else some (0,((),(s26.2.1,(s26.2.2.1,()))))) fun x31=>
      some (.inr (((wrF .i64 (s26.1.1+1)),()),(x31.2.2.1,(x31.2.2.2.1,()))))
     else some (.inl (0,((s26.1.1,()),(s26.2.1,(s26.2.2.1,())))))) zH ((0,()),(x24.2.2.1,([],())))) fun x32=>
    bif (zg ((x32.2.2.2.1.length:Nat):Int) 0) then some (x24.2.1,())
    else bif (zg ((x32.2.2.2.1.length:Nat):Int) 0) then none
     else opt (atI x32.2.2.2.1 (Int.tmod (wrF .i64 ((wrF .i64 a2)+(wrF .i64 (3*((x24.2.1.length:Nat):Int))))) ((x32.2.2.2.1.length:Nat):Int))) fun x33=>
      opt (gl x32.2.2.2.1 (Int.toNat (Int.tmod (wrF .i64 ((wrF .i64 a2)+(wrF .i64 (3*((x24.2.1.length:Nat):Int))))) ((x32.2.2.2.1.length:Nat):Int)))) fun x34=>
      bif (qW x24.2.1.length ((x34::[]).length) 8) then opt (qv (x24.1.1,(x34,()))) fun x35=>
       bif (qW x32.2.2.1.length ((x35.1::[]).length) 8) then none
       else none
      else none
   else opt (atI x24.1.1.2.1 x24.1.2.2.1) fun x36=>
    bif !x36 then opt (uZ (x24.1.1,(x24.1.2.2.1,()))) fun x37=>
     opt (zy (fun s38:((Int×Unit)×((List Int)×((List Int)×Unit)))=>
      bif (zh s38.1.1 ((x37.1.length:Nat):Int)) then opt (opt (atI x37.1 s38.1.1) fun x39=>
        opt (qv (x24.1.1,(x39,()))) fun x40=>
        opt (qK (s38.2.1,(x40.1,()))) fun x41=>
        bif !x41.1 then opt (atI x37.1 s38.1.1) fun x42=>
         bif (qW s38.2.2.1.length ((x42::[]).length) 8) then some (0,((),(s38.2.1,((s38.2.2.1++(x42::[])),()))))
         else none
        else some (0,((),(s38.2.1,(s38.2.2.1,()))))) fun x43=>
       some (.inr (((wrF .i64 (s38.1.1+1)),()),(x43.2.2.1,(x43.2.2.2.1,()))))
      else some (.inl (0,((s38.1.1,()),(s38.2.1,(s38.2.2.1,())))))) zH ((0,()),(x24.2.2.1,([],())))) fun x44=>
     bif (zg ((x44.2.2.2.1.length:Nat):Int) 0) then some (x24.2.1,())
     else bif (zg ((x44.2.2.2.1.length:Nat):Int) 0) then none
      else opt (atI x44.2.2.2.1 (Int.tmod (wrF .i64 ((wrF .i64 a2)+(wrF .i64 (3*((x24.2.1.length:Nat):Int))))) ((x44.2.2.2.1.length:Nat):Int))) fun x45=>
       opt (gl x44.2.2.2.1 (Int.toNat (Int.tmod (wrF .i64 ((wrF .i64 a2)+(wrF .i64 (3*((x24.2.1.length:Nat):Int))))) ((x44.2.2.2.1.length:Nat):Int)))) fun x46=>
       bif (qW x24.2.1.length ((x46::[]).length) 8) then opt (qv (x24.1.1,(x46,()))) fun x47=>
        bif (qW x44.2.2.1.length ((x47.1::[]).length) 8) then none
        else none
       else none
    else some (x24.2.1,())
  else some (x24.2.1,())
abbrev za3:Type:=(zK×Int×Int×Unit)→Option ((List Int)×Unit)
def zmZ:UO→Zz→ZA→za3:=fun uZ qv qK=>sF Tryz.prog [(161,⟨zdY,zdZ,uZ⟩),(89,⟨KS,KT,qv⟩),(98,⟨KU,KV,qK⟩)] zwz (zN [] [(4,90)]) 30 131 zfX zfY
theorem zzj (uZ) (qv) (qK) (a0) (a1) (a2):zmZ uZ qv qK (a0,a1,a2,())=zfZ uZ qv qK a0 a1 a2:=by kernel_rfl
def ZJ:za3:=zmZ JR yk yZ
theorem zsm:Con.Ok Tryz.prog 131 ⟨zfX,zfY,ZJ⟩:=zv (zd zql (zd UP (zd UQ zk))) zo (by kernel_rfl)
theorem zsn (a0) (a1) (a2):ZJ (a0,a1,a2,())=zfZ JR yk yZ a0 a1 a2:=zzj JR yk yZ a0 a1 a2
abbrev zf0:List VT:=[⟨true,zx⟩,⟨false,I⟩]
abbrev zf1:List VT:=[⟨false,.bool⟩]
def zwA:zR:=zM [cdF zx,cdF zO] [] [] [] []
def zf2 (a0:zK) (a1:Int):Option (Bool×Unit):=
 bif !(zh a1 0) then some ((zh a1 (wrF .i64 (2*((a0.2.2.length:Nat):Int)))),())
 else some (false,())
abbrev za4:Type:=(zK×Int×Unit)→Option (Bool×Unit)
def zm0:za4:=sF Tryz.prog [] zwA (zN []) 30 160 zf0 zf1
theorem zzk (a0) (a1):zm0 (a0,a1,())=zf2 a0 a1:=by kernel_rfl
def YM:za4:=zm0
theorem zso:Con.Ok Tryz.prog 160 ⟨zf0,zf1,YM⟩:=zv zk zo (by kernel_rfl)
theorem zsp (a0) (a1):YM (a0,a1,())=zf2  a0 a1:=zzk  a0 a1
abbrev UR:List VT:=[⟨true,zx⟩,⟨false,(.list I)⟩]
abbrev US:List VT:=[⟨false,(.list I)⟩]
def zuq:zR:=zM [cdF zx,cdF zO] [] [⟨3,29,some 4,I,false⟩] [] [88,89]
def zd1 (qe:xI) (qv:Zz) (a0:zK) (a1:(List Int)):Option ((List Int)×Unit):=
 opt (atI a1 0) fun x0=>
 opt (qe (a0,(x0,()))) fun x1=>
 opt (zy (fun s2:((Int×Unit)×((List Int)×Unit))=>
  bif (zh s2.1.1 ((a1.length:Nat):Int)) then opt (atI a1 s2.1.1) fun x3=>
   opt (qv (a0,(x3,()))) fun x4=>
   bif (qW s2.2.1.length ((x4.1::[]).length) 8) then some (.inr (((wrF .i64 (s2.1.1+1)),()),((s2.2.1++(x4.1::[])),())))
   else none
  else some (.inl (0,((s2.1.1,()),(s2.2.1,()))))) zH ((0,()),((x1.1::[]),()))) fun x5=>
 some (x5.2.2.1,())
abbrev JS:Type:=(zK×(List Int)×Unit)→Option ((List Int)×Unit)
def zkS:xI→Zz→JS:=fun qe qv=>sF Tryz.prog [(88,⟨Jb,Jc,qe⟩),(89,⟨KS,KT,qv⟩)] zuq (zN []) 30 133 UR US
theorem zwB (qe) (qv) (a0) (a1):zkS qe qv (a0,a1,())=zd1 qe qv a0 a1:=by kernel_rfl
def uF:JS:=zkS ju yk
theorem zf3:Con.Ok Tryz.prog 133 ⟨UR,US,uF⟩:=zv (zd WQ (zd UP zk)) zo (by kernel_rfl)
theorem zqn (a0) (a1):uF (a0,a1,())=zd1 ju yk a0 a1:=zwB ju yk a0 a1
abbrev UT:List VT:=[⟨true,zx⟩,⟨false,(.list I)⟩]
abbrev UU:List VT:=[⟨false,.bool⟩]
def zur:zR:=zM [cdF zx,cdF zO] [] [] [] [160,98,88]
def zd2 (Xr:za4) (jY:JS) (qK:ZA) (qe:xI) (a0:zK) (a1:(List Int)):Option (Bool×Unit):=
 opt (bif (zh ((a1.length:Nat):Int) 1) then some (1,((false,()),()))
  else bif (zh 8 ((a1.length:Nat):Int)) then some (1,((false,()),()))
   else some (0,((false,()),()))) fun x0=>
 bif Nat.beq x0.1 0 then opt (zy (fun s1:((Bool×(Int×Unit))×Unit)=>
   bif (zh s1.1.2.1 ((a1.length:Nat):Int)) then opt (atI a1 s1.1.2.1) fun x2=>
    opt (Xr (a0,(x2,()))) fun x3=>
    bif !x3.1 then some (.inl (1,((false,(s1.1.2.1,())),())))
    else some (.inr ((s1.1.1,((wrF .i64 (s1.1.2.1+1)),())),()))
   else some (.inl (0,((s1.1.1,(s1.1.2.1,())),())))) zH ((x0.2.1.1,(0,())),())) fun x4=>
  bif Nat.beq x4.1 0 then opt (jY (a0,(a1,()))) fun x5=>
   opt (zy (fun s6:((Bool×(Int×Unit))×Unit)=>
    bif (zh s6.1.2.1 ((x5.1.length:Nat):Int)) then opt (Kk x5.1 none (some s6.1.2.1) none) fun x7=>
     opt (atI x5.1 s6.1.2.1) fun x8=>
     opt (qK (x7,(x8,()))) fun x9=>
     bif x9.1 then some (.inl (1,((false,(s6.1.2.1,())),())))
     else opt (bif zh 0 s6.1.2.1 then bif (zh s6.1.2.1 ((a1.length:Nat):Int)) then opt (atI x5.1 s6.1.2.1) fun x10=>
         opt (atI a0.2.1 x10) fun x11=>
         bif x11 then some (1,((false,()),()))
         else opt (atI a1 s6.1.2.1) fun x12=>
          opt (qe (a0,(x12,()))) fun x13=>
          opt (atI x5.1 s6.1.2.1) fun x14=>
          bif !(zg x13.1 x14) then some (1,((false,()),()))
          else some (0,((s6.1.1,()),()))
        else some (0,((s6.1.1,()),()))
       else some (0,((s6.1.1,()),()))) fun x15=>
      bif Nat.beq x15.1 0 then some (.inr ((x15.2.1.1,((wrF .i64 (s6.1.2.1+1)),())),()))
      else some (.inl (1,((x15.2.1.1,(s6.1.2.1,())),())))
    else some (.inl (0,((s6.1.1,(s6.1.2.1,())),())))) zH ((x4.2.1.1,(0,())),())) fun x16=>
   bif Nat.beq x16.1 0 then some (true,())
   else some (x16.2.1.1,())
  else some (x4.2.1.1,())
 else some (x0.2.1.1,())
abbrev JT:Type:=(zK×(List Int)×Unit)→Option (Bool×Unit)
def zkT:za4→JS→ZA→xI→JT:=fun Xr jY qK qe=>sF Tryz.prog [(160,⟨zf0,zf1,Xr⟩),(133,⟨UR,US,jY⟩),(98,⟨KU,KV,qK⟩),(88,⟨Jb,Jc,qe⟩)] zur (zN []) 30 129 UT UU
theorem zwC (Xr) (jY) (qK) (qe) (a0) (a1):zkT Xr jY qK qe (a0,a1,())=zd2 Xr jY qK qe a0 a1:=by kernel_rfl
def vG:JT:=zkT YM uF yZ ju
theorem zf4:Con.Ok Tryz.prog 129 ⟨UT,UU,vG⟩:=zv (zd zso (zd zf3 (zd UQ (zd WQ zk)))) zo (by kernel_rfl)
theorem zqo (a0) (a1):vG (a0,a1,())=zd2 YM uF yZ ju a0 a1:=zwC YM uF yZ ju a0 a1
abbrev za5:List VT:=[⟨false,(.list I)⟩,⟨false,(.list I)⟩]
abbrev za6:List VT:=[⟨false,.bool⟩]
def zqp:zR:=zM [] [] [] [] [98]
def za7 (qK:ZA) (a0:(List Int)) (a1:(List Int)):Option (Bool×Unit):=
 opt (zy (fun s0:((Bool×(Int×Unit))×Unit)=>
  bif (zh s0.1.2.1 (wrF .i64 (((a0.length:Nat):Int) - 1))) then opt (atI a0 s0.1.2.1) fun x1=>
   opt (qK (a1,(x1,()))) fun x2=>
   bif x2.1 then some (.inl (1,((true,(s0.1.2.1,())),())))
   else some (.inr ((s0.1.1,((wrF .i64 (s0.1.2.1+1)),())),()))
  else some (.inl (0,((s0.1.1,(s0.1.2.1,())),())))) zH ((false,(1,())),())) fun x3=>
 bif Nat.beq x3.1 0 then some (false,())
 else some (x3.2.1.1,())
abbrev VR:Type:=((List Int)×(List Int)×Unit)→Option (Bool×Unit)
def zhy:ZA→VR:=fun qK=>sF Tryz.prog [(98,⟨KU,KV,qK⟩)] zqp (zN []) 30 132 za5 za6
theorem zsq (qK) (a0) (a1):zhy qK (a0,a1,())=za7 qK a0 a1:=by kernel_rfl
def ZS:VR:=zhy yZ
theorem zm1:Con.Ok Tryz.prog 132 ⟨za5,za6,ZS⟩:=zv (zd UQ zk) zo (by kernel_rfl)
theorem zm2 (a0) (a1):ZS (a0,a1,())=za7 yZ a0 a1:=zsq yZ a0 a1
abbrev UW:List VT:=[⟨true,zx⟩,⟨false,(.list I)⟩,⟨false,(.list I)⟩]
abbrev UX:List VT:=[⟨false,.bool⟩]
def zus:zR:=zM [cdF zx,cdF zO] [] [] [] [132]
def zd3 (jY:JS) (gp:VR) (a0:zK) (a1:(List Int)) (a2:(List Int)):Option (Bool×Unit):=
 opt (zy (fun s0:((Bool×(Int×Unit))×Unit)=>
  bif (zh s0.1.2.1 ((a1.length:Nat):Int)) then opt (zy (fun s1:((Bool×(Int×Unit))×Unit)=>
    bif (zh s1.1.2.1 ((a2.length:Nat):Int)) then opt (atI a1 s0.1.2.1) fun x2=>
     opt (atI a2 s1.1.2.1) fun x3=>
     bif (zg (wrF .i64 (Int.tdiv x2 2)) (wrF .i64 (Int.tdiv x3 2))) then some (.inl (1,((false,(s1.1.2.1,())),())))
     else some (.inr ((s1.1.1,((wrF .i64 (s1.1.2.1+1)),())),()))
    else some (.inl (0,((s1.1.1,(s1.1.2.1,())),())))) zH ((s0.1.1,(0,())),())) fun x4=>
   bif Nat.beq x4.1 0 then some (.inr ((x4.2.1.1,((wrF .i64 (s0.1.2.1+1)),())),()))
   else some (.inl (1,((x4.2.1.1,(s0.1.2.1,())),())))
  else some (.inl (0,((s0.1.1,(s0.1.2.1,())),())))) zH ((false,(0,())),())) fun x5=>
 bif Nat.beq x5.1 0 then opt (jY (a0,(a1,()))) fun x6=>
  opt (jY (a0,(a2,()))) fun x7=>
  opt (gp (x6.1,(x7.1,()))) fun x8=>
  bif !x8.1 then opt (jY (a0,(a2,()))) fun x9=>
   opt (jY (a0,(a1,()))) fun x10=>
   opt (gp (x9.1,(x10.1,()))) fun x11=>
   some ((!x11.1),())
  else some (false,())
 else some (x5.2.1.1,())
abbrev JU:Type:=(zK×(List Int)×(List Int)×Unit)→Option (Bool×Unit)
def zkU:JS→VR→JU:=fun jY gp=>sF Tryz.prog [(133,⟨UR,US,jY⟩),(132,⟨za5,za6,gp⟩)] zus (zN []) 30 90 UW UX
theorem zwD (jY) (gp) (a0) (a1) (a2):zkU jY gp (a0,a1,a2,())=zd3 jY gp a0 a1 a2:=by kernel_rfl
def uG:JU:=zkU uF ZS
theorem zf5:Con.Ok Tryz.prog 90 ⟨UW,UX,uG⟩:=zv (zd zf3 (zd zm1 zk)) zo (by kernel_rfl)
theorem zqq (a0) (a1) (a2):uG (a0,a1,a2,())=zd3 uF ZS a0 a1 a2:=zwD uF ZS a0 a1 a2
abbrev za8:List VT:=[⟨false,I⟩,⟨false,I⟩,⟨false,I⟩]
abbrev za9:List VT:=[⟨false,.bool⟩]
def zAr:zR:=zM [] [] [] [] []
def zkd (a0:Int) (a1:Int) (a2:Int):Option (Bool×Unit):=
 bif !(zh a0 a1) then some ((!(zh a2 a0)),())
 else some (false,())
abbrev WR:Type:=(Int×Int×Int×Unit)→Option (Bool×Unit)
def zsr:WR:=sF Tryz.prog [] zAr (zN []) 30 71 za8 za9
theorem zCt (a0) (a1) (a2):zsr (a0,a1,a2,())=zkd a0 a1 a2:=by kernel_rfl
def uH:WR:=zsr
theorem zd4:Con.Ok Tryz.prog 71 ⟨za8,za9,uH⟩:=zv zk zo (by kernel_rfl)
theorem zwE (a0) (a1) (a2):uH (a0,a1,a2,())=zkd  a0 a1 a2:=zCt  a0 a1 a2
abbrev zba:List VT:=[⟨true,zx⟩,⟨false,I⟩]
abbrev zbb:List VT:=[⟨false,.bool⟩]
def zqr:zR:=zM [cdF zx,cdF zO] [] [] [] [71]
def zbc (qP:WR) (a0:zK) (a1:Int):Option (Bool×Unit):=
 opt (qP (a1,(0,((wrF .i64 (a0.1 - 1)),())))) fun x0=>
 bif x0.1 then opt (atI a0.2.1 a1) fun x1=>
  some (x1,())
 else some (false,())
abbrev VS:Type:=(zK×Int×Unit)→Option (Bool×Unit)
def zhz:WR→VS:=fun qP=>sF Tryz.prog [(71,⟨za8,za9,qP⟩)] zqr (zN []) 30 128 zba zbb
theorem zss (qP) (a0) (a1):zhz qP (a0,a1,())=zbc qP a0 a1:=by kernel_rfl
def ZT:VS:=zhz uH
theorem zm3:Con.Ok Tryz.prog 128 ⟨zba,zbb,ZT⟩:=zv (zd zd4 zk) zo (by kernel_rfl)
theorem zm4 (a0) (a1):ZT (a0,a1,())=zbc uH a0 a1:=zss uH a0 a1
abbrev UY:List VT:=[⟨true,zx⟩,⟨true,zD⟩]
abbrev UZ:List VT:=[⟨false,.bool⟩]
def zut:zR:=zM [cdF zD,cdF zx,cdF zO,cdF zq] [] [] [] [71,128,129,88,89,90]
def zd5 (qP:WR) (gq:VS) (wY:JT) (qe:xI) (qv:Zz) (yA:JU) (a0:zK) (a1:zY):Option (Bool×Unit):=
 opt (opt (qP (a1.1,(1,(4095,())))) fun x0=>
  bif !x0.1 then some (1,((false,()),()))
  else opt (gq (a0,(a1.2.1,()))) fun x1=>
   bif !x1.1 then some (1,((false,()),()))
   else opt (gq (a0,(a1.2.2.1,()))) fun x2=>
    bif !x2.1 then some (1,((false,()),()))
    else bif zg a1.2.1 a1.2.2.1 then some (1,((false,()),()))
     else opt (qP (a1.2.2.2.2.1,(84,(1542,())))) fun x3=>
      bif !x3.1 then some (1,((false,()),()))
      else opt (qP (a1.2.2.2.2.2.2.2.1,(1,(1099511627776,())))) fun x4=>
       bif !x4.1 then some (1,((false,()),()))
       else some (0,((false,()),()))) fun x5=>
 bif Nat.beq x5.1 0 then opt (bif zg a1.2.2.2.1 7 then opt (opt (qP (a1.2.2.2.2.2.1,(1,(240,())))) fun x6=>
     bif !x6.1 then some (1,((false,()),()))
     else bif (!((zg a1.2.2.2.2.2.2.1.1 0)&&((zg a1.2.2.2.2.2.2.1.2 0)&&true))) then some (1,((false,()),()))
      else some (0,((x5.2.1.1,()),()))) fun x7=>
    bif Nat.beq x7.1 0 then some (0,((x7.2.1.1,()),()))
    else some (1,((x7.2.1.1,()),()))
   else bif zg a1.2.2.2.1 6 then opt (bif !(zg a1.2.2.2.2.2.1 0) then some (1,((false,()),()))
      else opt (qP (a1.2.2.2.2.2.2.1.1,(a1.2.2.2.2.1,(1048576,())))) fun x8=>
       bif !x8.1 then some (1,((false,()),()))
       else opt (qP (a1.2.2.2.2.2.2.1.2,(1,(2097152,())))) fun x9=>
        bif !x9.1 then some (1,((false,()),()))
        else some (0,((x5.2.1.1,()),()))) fun x10=>
     bif Nat.beq x10.1 0 then some (0,((x10.2.1.1,()),()))
     else some (1,((x10.2.1.1,()),()))
    else some (1,((false,()),()))) fun x11=>
  bif Nat.beq x11.1 0 then opt (bif (zh ((a1.2.2.2.2.2.2.2.2.length:Nat):Int) 1) then some (1,((false,()),()))
    else bif (zh 2 ((a1.2.2.2.2.2.2.2.2.length:Nat):Int)) then some (1,((false,()),()))
     else some (0,((x11.2.1.1,()),()))) fun x12=>
   bif Nat.beq x12.1 0 then opt (zy (fun s13:((Bool×(Int×Unit))×Unit)=>
     bif (zh s13.1.2.1 ((a1.2.2.2.2.2.2.2.2.length:Nat):Int)) then opt (atI a1.2.2.2.2.2.2.2.2 s13.1.2.1) fun x14=>
      opt (opt (wY (a0,(x14,()))) fun x15=>
       bif !x15.1 then some (1,((false,()),()))
       else opt (atI x14 0) fun x16=>
        opt (qe (a0,(x16,()))) fun x17=>
        bif !(zg x17.1 a1.2.1) then some (1,((false,()),()))
        else opt (atI x14 (wrF .i64 (((x14.length:Nat):Int) - 1))) fun x18=>
         opt (qv (a0,(x18,()))) fun x19=>
         bif !(zg x19.1 a1.2.2.1) then some (1,((false,()),()))
         else some (0,((s13.1.1,()),()))) fun x20=>
      bif Nat.beq x20.1 0 then some (.inr ((x20.2.1.1,((wrF .i64 (s13.1.2.1+1)),())),()))
      else some (.inl (1,((x20.2.1.1,(s13.1.2.1,())),())))
     else some (.inl (0,((s13.1.1,(s13.1.2.1,())),())))) zH ((x12.2.1.1,(0,())),())) fun x21=>
    bif Nat.beq x21.1 0 then bif (zg ((a1.2.2.2.2.2.2.2.2.length:Nat):Int) 1) then some (true,())
     else opt (atI a1.2.2.2.2.2.2.2.2 0) fun x22=>
      opt (atI a1.2.2.2.2.2.2.2.2 1) fun x23=>
      opt (yA (a0,(x22,(x23,())))) fun x24=>
      some (x24.1,())
    else some (x21.2.1.1,())
   else some (x12.2.1.1,())
  else some (x11.2.1.1,())
 else some (x5.2.1.1,())
abbrev JV:Type:=(zK×zY×Unit)→Option (Bool×Unit)
def zkV:WR→VS→JT→xI→Zz→JU→JV:=fun qP gq wY qe qv yA=>sF Tryz.prog [(71,⟨za8,za9,qP⟩),(128,⟨zba,zbb,gq⟩),(129,⟨UT,UU,wY⟩),(88,⟨Jb,Jc,qe⟩),(89,⟨KS,KT,qv⟩),(90,⟨UW,UX,yA⟩)] zut (zN []) 30 83 UY UZ
theorem zwF (qP) (gq) (wY) (qe) (qv) (yA) (a0) (a1):zkV qP gq wY qe qv yA (a0,a1,())=zd5 qP gq wY qe qv yA a0 a1:=by kernel_rfl
def uI:JV:=zkV uH ZT vG ju yk uG
theorem zf6:Con.Ok Tryz.prog 83 ⟨UY,UZ,uI⟩:=zv (zd zd4 (zd zm3 (zd zf4 (zd WQ (zd UP (zd zf5 zk)))))) zo (by kernel_rfl)
theorem zqs (a0) (a1):uI (a0,a1,())=zd5 uH ZT vG ju yk uG a0 a1:=zwF uH ZT vG ju yk uG a0 a1
abbrev XT:List VT:=[⟨true,wq⟩,⟨true,zx⟩,⟨false,I⟩]
abbrev XU:List VT:=[⟨true,zD⟩,⟨false,.bool⟩]
def ziY:zR:=zM [⟨zD,QB zD,[9]⟩,cdF wq,cdF zx,cdF zO,cdF zq] [] [⟨3,147,none,(.list I),true⟩,⟨7,147,none,(.list I),true⟩,⟨10,147,none,(.list I),true⟩,⟨16,147,none,(.list I),true⟩,⟨19,147,none,(.list I),true⟩,⟨2,54,some 6,I,false⟩,⟨5,54,some 6,I,false⟩,⟨2,54,none,(.list I),true⟩,⟨5,54,none,(.list I),true⟩] [(3,147,11,[9]),(7,147,11,[9]),(10,147,11,[9]),(16,147,11,[9]),(19,147,11,[9]),(16,147,11,[9]),(19,147,11,[9])] [129,88,89,90,83]
def XV (JC:za3) (wY:JT) (qe:xI) (qv:Zz) (yA:JU) (yB:JV) (a0:XS) (a1:zK) (a2:Int):Option (zY×Bool×Unit):=
 bif zg a1.1 0 then none
 else opt (zy (fun s0:((Int×(Int×Unit))×Unit)=>
   bif zh s0.1.2.1 a1.1 then opt (atI a1.2.1 s0.1.1) fun x1=>
    bif !x1 then bif zg a1.1 0 then none
     else some (.inr (((Int.tmod (wrF .i64 (s0.1.1+1)) a1.1),((wrF .i64 (s0.1.2.1+1)),())),()))
    else some (.inl (0,((s0.1.1,(s0.1.2.1,())),())))
   else some (.inl (0,((s0.1.1,(s0.1.2.1,())),())))) zH (((Int.tmod (wrF .i64 a0.2.2.1) a1.1),(0,())),())) fun x2=>
  opt (zy (fun s3:(((Int×((List Bool)×(List (Int×(Int×(Int×Int))))))×((List Int)×(Int×Unit)))×Unit)=>
   bif zh s3.1.2.2.1 16 then opt (JC (s3.1.1,((wrF .u8 x2.2.1.1),((wrF .u8 (a0.2.2.2.1+(wrF .u8 s3.1.2.2.1))),())))) fun x4=>
    opt (bif (zh 0 ((x4.1.length:Nat):Int)) then opt (wY (s3.1.1,(x4.1,()))) fun x5=>
      bif x5.1 then opt (atI x4.1 0) fun x6=>
       opt (qe (s3.1.1,(x6,()))) fun x7=>
       opt (atI s3.1.1.2.1 x7.1) fun x8=>
       bif x8 then opt (atI x4.1 (wrF .i64 (((x4.1.length:Nat):Int) - 1))) fun x9=>
        opt (qv (s3.1.1,(x9,()))) fun x10=>
        opt (atI s3.1.1.2.1 x10.1) fun x11=>
        bif x11 then some (1,((x4.1,()),()))
        else some (0,((s3.1.2.1,()),()))
       else some (0,((s3.1.2.1,()),()))
      else some (0,((s3.1.2.1,()),()))
     else some (0,((s3.1.2.1,()),()))) fun x12=>
    bif Nat.beq x12.1 0 then some (.inr ((s3.1.1,(x12.2.1.1,((wrF .i64 (s3.1.2.2.1+1)),()))),()))
    else some (.inl (1,((s3.1.1,(x12.2.1.1,(s3.1.2.2.1,()))),())))
   else some (.inl (0,((s3.1.1,(s3.1.2.1,(s3.1.2.2.1,()))),())))) zH ((a1,([],(0,()))),())) fun x13=>
  bif Nat.beq x13.1 0 then some ((0,(0,(0,(0,(0,(0,((0,0),(0,[])))))))),(false,()))
  else bif zrO x13.2.1.2.1 then opt (atI x13.2.1.2.1 0) fun x14=>
    opt (qe (a1,(x14,()))) fun x15=>
    opt (atI x13.2.1.2.1 (wrF .i64 (((x13.2.1.2.1.length:Nat):Int) - 1))) fun x16=>
    opt (qv (a1,(x16,()))) fun x17=>
    opt (bif a0.1 then some (0,(((),()),((a2,(x15.1,(x17.1,(6,((wrF .i64 (84+(wrF .i64 a0.2.2.2.2.1))),(0,(((wrF .i64 ((wrF .i64 (84+(wrF .i64 a0.2.2.2.2.1)))+(wrF .i64 (4*(wrF .i64 a0.2.2.2.2.2.2.1))))),(wrF .i64 (1+(wrF .i64 a0.2.2.2.2.2.2.2)))),(1099511627776,((x13.2.1.2.1::[]),()))))))))),())))
     else opt (atI (α:=Int) (4::(6::(8::(12::(16::(24::(48::(10::(5::(240::[])))))))))) (Int.tmod a0.2.2.2.2.2.1 10)) fun x18=>
      opt (gl (α:=Int) (4::(6::(8::(12::(16::(24::(48::(10::(5::(240::[])))))))))) (Int.toNat (Int.tmod a0.2.2.2.2.2.1 10))) fun x19=>
      some (0,(((),()),((a2,(x15.1,(x17.1,(7,((wrF .i64 (84+(wrF .i64 a0.2.2.2.2.1))),(x19,((0,0),(1099511627776,((x13.2.1.2.1::[]),()))))))))),())))) fun x20=>
    opt (zy (fun s21:(((Int×((List Bool)×(List (Int×(Int×(Int×Int))))))×(Unit×(Int×Unit)))×((Int×(Int×(Int×(Int×(Int×(Int×((Int×Int)×(Int×((List (List Int))×Unit)))))))))×Unit))=>
     bif zh s21.1.2.2.1 24 then bif a0.2.1 then bif (zg ((s21.2.1.2.2.2.2.2.2.2.2.1.length:Nat):Int) 1) then opt (zy (fun s22:(((Int×((List Bool)×(List (Int×(Int×(Int×Int))))))×((List Int)×(Int×Unit)))×Unit)=>
         bif zh s22.1.2.2.1 16 then opt (JC (s22.1.1,((wrF .u8 x2.2.1.1),((wrF .u8 ((wrF .u8 (a0.2.2.2.1+(wrF .u8 s21.1.2.2.1)))+(wrF .u8 s22.1.2.2.1))),())))) fun x23=>
          opt (bif (zh 0 ((x23.1.length:Nat):Int)) then opt (wY (s22.1.1,(x23.1,()))) fun x24=>
            bif x24.1 then opt (atI x23.1 0) fun x25=>
             opt (qe (s22.1.1,(x25,()))) fun x26=>
             opt (atI s22.1.1.2.1 x26.1) fun x27=>
             bif x27 then opt (atI x23.1 (wrF .i64 (((x23.1.length:Nat):Int) - 1))) fun x28=>
              opt (qv (s22.1.1,(x28,()))) fun x29=>
              opt (atI s22.1.1.2.1 x29.1) fun x30=>
              bif x30 then some (1,((x23.1,()),()))
              else some (0,((s22.1.2.1,()),()))
             else some (0,((s22.1.2.1,()),()))
            else some (0,((s22.1.2.1,()),()))
           else some (0,((s22.1.2.1,()),()))) fun x31=>
          bif Nat.beq x31.1 0 then some (.inr ((s22.1.1,(x31.2.1.1,((wrF .i64 (s22.1.2.2.1+1)),()))),()))
          else some (.inl (1,((s22.1.1,(x31.2.1.1,(s22.1.2.2.1,()))),())))
         else some (.inl (0,((s22.1.1,(s22.1.2.1,(s22.1.2.2.1,()))),())))) zH ((s21.1.1,([],(0,()))),())) fun x32=>
        bif Nat.beq x32.1 0 then some (.inr ((s21.1.1,((),((wrF .i64 (s21.1.2.2.1+1)),()))),((s21.2.1.1,(s21.2.1.2.1,(s21.2.1.2.2.1,(s21.2.1.2.2.2.1,(s21.2.1.2.2.2.2.1,(s21.2.1.2.2.2.2.2.1,(s21.2.1.2.2.2.2.2.2.1,(s21.2.1.2.2.2.2.2.2.2.1,(s21.2.1.2.2.2.2.2.2.2.2.1,()))))))))),())))
        else opt (bif zrO x32.2.1.2.1 then opt (atI x32.2.1.2.1 (wrF .i64 (((x32.2.1.2.1.length:Nat):Int) - 1))) fun x33=>
           opt (qv (s21.1.1,(x33,()))) fun x34=>
           bif zg x34.1 s21.2.1.2.2.1 then opt (yA (s21.1.1,(x13.2.1.2.1,(x32.2.1.2.1,())))) fun x35=>
            bif x35.1 then bif (qW s21.2.1.2.2.2.2.2.2.2.2.1.length ((x32.2.1.2.1::[]).length) 24) then some (0,(((),()),((s21.2.1.1,(s21.2.1.2.1,(s21.2.1.2.2.1,(s21.2.1.2.2.2.1,(s21.2.1.2.2.2.2.1,(s21.2.1.2.2.2.2.2.1,(s21.2.1.2.2.2.2.2.2.1,(s21.2.1.2.2.2.2.2.2.2.1,((s21.2.1.2.2.2.2.2.2.2.2.1++(x32.2.1.2.1::[])),()))))))))),())))
             else none
            else some (0,(((),()),((s21.2.1.1,(s21.2.1.2.1,(s21.2.1.2.2.1,(s21.2.1.2.2.2.1,(s21.2.1.2.2.2.2.1,(s21.2.1.2.2.2.2.2.1,(s21.2.1.2.2.2.2.2.2.1,(s21.2.1.2.2.2.2.2.2.2.1,(s21.2.1.2.2.2.2.2.2.2.2.1,()))))))))),())))
           else some (0,(((),()),((s21.2.1.1,(s21.2.1.2.1,(s21.2.1.2.2.1,(s21.2.1.2.2.2.1,(s21.2.1.2.2.2.2.1,(s21.2.1.2.2.2.2.2.1,(s21.2.1.2.2.2.2.2.2.1,(s21.2.1.2.2.2.2.2.2.2.1,(s21.2.1.2.2.2.2.2.2.2.2.1,()))))))))),())))
          else none) fun x36=>
         some (.inr ((s21.1.1,((),((wrF .i64 (s21.1.2.2.1+1)),()))),((x36.2.2.1.1,(x36.2.2.1.2.1,(x36.2.2.1.2.2.1,(x36.2.2.1.2.2.2.1,(x36.2.2.1.2.2.2.2.1,(x36.2.2.1.2.2.2.2.2.1,(x36.2.2.1.2.2.2.2.2.2.1,(x36.2.2.1.2.2.2.2.2.2.2.1,(x36.2.2.1.2.2.2.2.2.2.2.2.1,()))))))))),())))
       else some (.inl (0,((s21.1.1,((),(s21.1.2.2.1,()))),((s21.2.1.1,(s21.2.1.2.1,(s21.2.1.2.2.1,(s21.2.1.2.2.2.1,(s21.2.1.2.2.2.2.1,(s21.2.1.2.2.2.2.2.1,(s21.2.1.2.2.2.2.2.2.1,(s21.2.1.2.2.2.2.2.2.2.1,(s21.2.1.2.2.2.2.2.2.2.2.1,()))))))))),()))))
      else some (.inl (0,((s21.1.1,((),(s21.1.2.2.1,()))),((s21.2.1.1,(s21.2.1.2.1,(s21.2.1.2.2.1,(s21.2.1.2.2.2.1,(s21.2.1.2.2.2.2.1,(s21.2.1.2.2.2.2.2.1,(s21.2.1.2.2.2.2.2.2.1,(s21.2.1.2.2.2.2.2.2.2.1,(s21.2.1.2.2.2.2.2.2.2.2.1,()))))))))),()))))
     else some (.inl (0,((s21.1.1,((),(s21.1.2.2.1,()))),((s21.2.1.1,(s21.2.1.2.1,(s21.2.1.2.2.1,(s21.2.1.2.2.2.1,(s21.2.1.2.2.2.2.1,(s21.2.1.2.2.2.2.2.1,(s21.2.1.2.2.2.2.2.2.1,(s21.2.1.2.2.2.2.2.2.2.1,(s21.2.1.2.2.2.2.2.2.2.2.1,()))))))))),()))))) zH ((a1,((),(0,()))),((x20.2.2.1.1,(x20.2.2.1.2.1,(x20.2.2.1.2.2.1,(x20.2.2.1.2.2.2.1,(x20.2.2.1.2.2.2.2.1,(x20.2.2.1.2.2.2.2.2.1,(x20.2.2.1.2.2.2.2.2.2.1,(x20.2.2.1.2.2.2.2.2.2.2.1,(x20.2.2.1.2.2.2.2.2.2.2.2.1,()))))))))),()))) fun x37=>
    opt (yB (x37.2.1.1,((x37.2.2.1.1,(x37.2.2.1.2.1,(x37.2.2.1.2.2.1,(x37.2.2.1.2.2.2.1,(x37.2.2.1.2.2.2.2.1,(x37.2.2.1.2.2.2.2.2.1,(x37.2.2.1.2.2.2.2.2.2.1,(x37.2.2.1.2.2.2.2.2.2.2.1,x37.2.2.1.2.2.2.2.2.2.2.2.1)))))))),()))) fun x38=>
    some ((x37.2.2.1.1,(x37.2.2.1.2.1,(x37.2.2.1.2.2.1,(x37.2.2.1.2.2.2.1,(x37.2.2.1.2.2.2.2.1,(x37.2.2.1.2.2.2.2.2.1,(x37.2.2.1.2.2.2.2.2.2.1,(x37.2.2.1.2.2.2.2.2.2.2.1,x37.2.2.1.2.2.2.2.2.2.2.2.1)))))))),(x38.1,()))
   else none
abbrev QD:Type:=(XS×zK×Int×Unit)→Option (zY×Bool×Unit)
def zbd:za3→JT→xI→Zz→JU→JV→QD:=fun JC wY qe qv yA yB=>sF Tryz.prog [(131,⟨zfX,zfY,JC⟩),(129,⟨UT,UU,wY⟩),(88,⟨Jb,Jc,qe⟩),(89,⟨KS,KT,qv⟩),(90,⟨UW,UX,yA⟩),(83,⟨UY,UZ,yB⟩)] ziY (zN []) 30 63 XT XU
theorem zke (JC) (wY) (qe) (qv) (yA) (yB) (a0) (a1) (a2):zbd JC wY qe qv yA yB (a0,a1,a2,())=XV JC wY qe qv yA yB a0 a1 a2:=by kernel_rfl
def xC:QD:=zbd ZJ vG ju yk uG uI
theorem zha:Con.Ok Tryz.prog 63 ⟨XT,XU,xC⟩:=zv (zd zsm (zd zf4 (zd WQ (zd UP (zd zf5 (zd zf6 zk)))))) zo (by kernel_rfl)
theorem zhb (a0) (a1) (a2):xC (a0,a1,a2,())=XV ZJ vG ju yk uG uI a0 a1 a2:=zke ZJ vG ju yk uG uI a0 a1 a2
abbrev ZU:List VT:=[⟨true,xh⟩]
abbrev ZV:List VT:=[⟨false,(.list zD)⟩]
def zh8:zR:=zM [cdF xh,cdF zD,cdF wq,cdF vp,cdF zx,cdF zO,⟨(.pair (.int .u8) (.pair (.int .u8) (.int .u8))),QB (.pair (.int .u8) (.pair (.int .u8) (.int .u8))),[]⟩,cdF ZQ,cdF zq] [] [⟨3,61,some 2,zD,false⟩,⟨3,61,some 3,wq,true⟩,⟨10,61,some 2,zD,false⟩,⟨10,61,some 3,wq,true⟩,⟨12,61,some 2,zD,false⟩,⟨12,61,some 3,wq,true⟩,⟨3,38,some 4,zD,false⟩,⟨3,38,some 5,zD,true⟩,⟨6,38,some 4,zD,false⟩,⟨6,38,some 5,zD,true⟩] [] []
def YN (jm:kz) (vO:QD) (a0:jZ):Option ((List zY)×Unit):=
 opt (zy (fun s0:((Int×Unit)×((List (Bool×(Bool×(Int×(Int×(Int×(Int×(Int×Int))))))))×Unit))=>
  bif (zh s0.1.1 ((a0.2.2.2.2.2.1.length:Nat):Int)) then opt (atI a0.2.2.2.2.2.1 s0.1.1) fun x1=>
   bif (qW s0.2.1.length (((true,x1.2)::[]).length) 10) then some (.inr (((wrF .i64 (s0.1.1+1)),()),((s0.2.1++((true,x1.2)::[])),())))
   else none
  else some (.inl (0,((s0.1.1,()),(s0.2.1,()))))) zH ((0,()),([],()))) fun x2=>
 opt (jm (a0.1,())) fun x3=>
 opt (zy (fun s4:(((Int×((List Bool)×(List (Int×(Int×(Int×Int))))))×(Int×Unit))×((List (Bool×(Bool×(Int×(Int×(Int×(Int×(Int×Int))))))))×((List (Int×(Int×(Int×(Int×(Int×(Int×((Int×Int)×(Int×(List (List Int)))))))))))×Unit)))=>
  bif (zh s4.1.2.1 ((s4.2.1.length:Nat):Int)) then bif (zh ((s4.2.2.1.length:Nat):Int) 6) then opt (atI s4.2.1 s4.1.2.1) fun x5=>
    opt (gl s4.2.1 (Int.toNat s4.1.2.1)) fun x6=>
    opt (vO (x6,(s4.1.1,((wrF .i64 (((s4.2.2.1.length:Nat):Int)+1)),())))) fun x7=>
    opt (bif x7.2.1 then bif (qW s4.2.2.1.length ((x7.1::[]).length) 96) then some (0,((),((s4.2.2.1++(x7.1::[])),())))
      else none
     else some (0,((),(s4.2.2.1,())))) fun x8=>
    some (.inr ((s4.1.1,((wrF .i64 (s4.1.2.1+1)),())),(s4.2.1,(x8.2.2.1,()))))
   else some (.inl (0,((s4.1.1,(s4.1.2.1,())),(s4.2.1,(s4.2.2.1,())))))
  else some (.inl (0,((s4.1.1,(s4.1.2.1,())),(s4.2.1,(s4.2.2.1,())))))) zH ((x3.1,(0,())),(x2.2.2.1,([],())))) fun x9=>
 opt (zy (fun s10:((Int×Unit)×((List (Int×(Int×(Int×(Int×(Int×(Int×((Int×Int)×(Int×(List (List Int)))))))))))×Unit))=>
  bif (zh s10.1.1 ((s10.2.1.length:Nat):Int)) then opt (bif (zh s10.1.1 ((a0.2.2.2.2.2.2.length:Nat):Int)) then opt (atI a0.2.2.2.2.2.2 s10.1.1) fun x11=>
     bif zh 0 x11 then opt (atI a0.2.2.2.2.2.2 s10.1.1) fun x12=>
      opt (atI s10.2.1 s10.1.1) fun x13=>
      opt (gl s10.2.1 (Int.toNat s10.1.1)) fun x14=>
      some (0,((),((s10.2.1.set (Int.toNat s10.1.1) (x14.1,(x14.2.1,(x14.2.2.1,(x14.2.2.2.1,(x14.2.2.2.2.1,(x14.2.2.2.2.2.1,(x14.2.2.2.2.2.2.1,((wrF .i64 (20*(wrF .i64 x12))),x14.2.2.2.2.2.2.2.2))))))))),())))
     else some (0,((),(s10.2.1,())))
    else some (0,((),(s10.2.1,())))) fun x15=>
   some (.inr (((wrF .i64 (s10.1.1+1)),()),(x15.2.2.1,())))
  else some (.inl (0,((s10.1.1,()),(s10.2.1,()))))) zH ((0,()),(x9.2.2.2.1,()))) fun x16=>
 some (x16.2.2.1,())
abbrev YO:Type:=(jZ×Unit)→Option ((List zY)×Unit)
def zav:kz→QD→YO:=fun jm vO=>sF Tryz.prog [(32,⟨WN,WO,jm⟩),(63,⟨XT,XU,vO⟩)] zh8 (zN []) 30 11 ZU ZV
theorem ziZ (jm) (vO) (a0):zav jm vO (a0,())=YN jm vO a0:=by kernel_rfl
def xk:YO:=zav wQ xC
theorem zf7:Con.Ok Tryz.prog 11 ⟨ZU,ZV,xk⟩:=zv (zd zau (zd zha zk)) zo (by kernel_rfl)
theorem zf8 (a0):xk (a0,())=YN wQ xC a0:=ziZ wQ xC a0
abbrev VU:List VT:=[⟨true,kW⟩,⟨true,qn⟩,⟨false,(.list zD)⟩]
abbrev VV:List VT:=[⟨true,qn⟩,⟨false,(.list zD)⟩]
def zqt:zR:=zM [cdF kW,cdF qn,cdF zD,cdF zx,cdF zO,cdF zL,cdF qg] [] [⟨8,86,some 7,zD,false⟩,⟨10,86,some 7,zD,false⟩,⟨12,86,some 7,zD,false⟩,⟨14,86,some 7,zD,false⟩,⟨16,86,some 7,zD,false⟩,⟨18,86,some 7,zD,false⟩,⟨6,86,some 7,zD,false⟩] [] []
def zbe (a0:xX) (a1:qx) (a2:(List zY)):Option (qx×(List zY)×Unit):=
 opt (Kk a0.2.2.2.1.1 none (some (jt ((a0.2.2.2.1.1.length:Nat):Int) 130)) none) fun x0=>
 bif qW 0 a2.length 96 then bif qW 0 a1.2.2.1.length 32 then bif zg (Int.tmod a0.1 8) 0 then bif (zg ((a1.2.2.1.length:Nat):Int) 0) then none
    else opt (atI a1.2.2.1 (Int.tmod (wrF .i64 a0.2.1) ((a1.2.2.1.length:Nat):Int))) fun x1=>
     opt (gl a1.2.2.1 (Int.toNat (Int.tmod (wrF .i64 a0.2.1) ((a1.2.2.1.length:Nat):Int)))) fun x2=>
     some ((a1.1,(a1.2.1,((a1.2.2.1.set (Int.toNat (Int.tmod (wrF .i64 a0.2.1) ((a1.2.2.1.length:Nat):Int))) (x0,a0.2.2.2.1.2)),a1.2.2.2))),(a2,()))
   else bif zg (Int.tmod a0.1 8) 1 then bif (qW a1.2.2.1.length (((x0,a0.2.2.2.1.2)::[]).length) 32) then some ((a1.1,(a1.2.1,((a1.2.2.1++((x0,a0.2.2.2.1.2)::[])),a1.2.2.2))),(a2,()))
     else none
    else bif zg (Int.tmod a0.1 8) 2 then opt (Kk a1.2.2.1 (some 1) none none) fun x3=>
      some ((a1.1,(a1.2.1,(x3,a1.2.2.2))),(a2,()))
     else bif zg (Int.tmod a0.1 8) 3 then some ((a1.1,(a1.2.1,(a1.2.2.1,a0.2.2.1))),(a2,()))
      else bif zg (Int.tmod a0.1 8) 4 then some ((a1.1,((a1.2.1.1,(a1.2.1.2.1,(a1.2.1.2.2.1,a0.2.2.1))),a1.2.2)),(a2,()))
       else bif zg (Int.tmod a0.1 8) 5 then some (((a0.2.2.1,a1.1.2),a1.2),(a2,()))
        else bif (zh 0 ((a2.length:Nat):Int)) then bif (zg ((a2.length:Nat):Int) 0) then none
          else opt (atI a2 (Int.tmod (wrF .i64 a0.2.1) ((a2.length:Nat):Int))) fun x4=>
           opt (gl a2 (Int.toNat (Int.tmod (wrF .i64 a0.2.1) ((a2.length:Nat):Int)))) fun x5=>
           some (a1,((a2.set (Int.toNat (Int.tmod (wrF .i64 a0.2.1) ((a2.length:Nat):Int))) a0.2.2.2.2),()))
         else some (a1,(a2,()))
  else none
 else none
abbrev zbf:Type:=(xX×qx×(List zY)×Unit)→Option (qx×(List zY)×Unit)
def zhA:zbf:=sF Tryz.prog [] zqt (fun _ _=>false) 30 12 VU VV
theorem zst (a0) (a1) (a2):zhA (a0,a1,a2,())=zbe a0 a1 a2:=by kernel_rfl
def kY:zbf:=zhA
theorem zm5:Con.Ok Tryz.prog 12 ⟨VU,VV,kY⟩:=zv zk zo (by kernel_rfl)
theorem zm6 (a0) (a1) (a2):kY (a0,a1,a2,())=zbe  a0 a1 a2:=zst  a0 a1 a2
abbrev Yb:List VT:=[⟨true,zx⟩,⟨false,I⟩]
abbrev Yc:List VT:=[⟨false,.bool⟩]
def zzl:zR:=zM [cdF zx,cdF zO] [] [] [] []
def zh9 (a0:zK) (a1:Int):Option (Bool×Unit):=
 bif !(zh a1 0) then some ((zh a1 a0.1),())
 else some (false,())
abbrev zdd:Type:=(zK×Int×Unit)→Option (Bool×Unit)
def zpy:zdd:=sF Tryz.prog [] zzl (zN []) 30 92 Yb Yc
theorem zAs (a0) (a1):zpy (a0,a1,())=zh9 a0 a1:=by kernel_rfl
def Vx:zdd:=zpy
theorem zuu:Con.Ok Tryz.prog 92 ⟨Yb,Yc,Vx⟩:=zv zk zo (by kernel_rfl)
theorem zuv (a0) (a1):Vx (a0,a1,())=zh9  a0 a1:=zAs  a0 a1
abbrev Jd:List VT:=[⟨true,zx⟩]
abbrev Je:List VT:=[⟨false,.bool⟩]
def zwG:zR:=zM [cdF zx,cdF zO] [] [] [] [92]
def zf9 (Yh:zdd) (a0:zK):Option (Bool×Unit):=
 opt (zy (fun s0:((Bool×(Int×Unit))×Unit)=>
  bif (zh s0.1.2.1 ((a0.2.2.length:Nat):Int)) then opt (zy (fun s1:((Bool×(Int×Unit))×Unit)=>
    bif zh s1.1.2.1 4 then bif zg s1.1.2.1 0 then opt (atI a0.2.2 s0.1.2.1) fun x2=>
      opt (Yh (a0,(x2.1,()))) fun x3=>
      bif x3.1 then opt (Yh (a0,(x2.2.1,()))) fun x4=>
       bif x4.1 then bif (!(!(zg x2.1 x2.2.1))) then some (.inl (1,((false,(s1.1.2.1,())),())))
        else some (.inr ((s1.1.1,((wrF .i64 (s1.1.2.1+1)),())),()))
       else some (.inl (1,((false,(s1.1.2.1,())),())))
      else some (.inl (1,((false,(s1.1.2.1,())),())))
     else bif zg s1.1.2.1 1 then opt (atI a0.2.2 s0.1.2.1) fun x5=>
       opt (atI a0.2.1 x5.1) fun x6=>
       bif !x6 then some (.inr ((s1.1.1,((wrF .i64 (s1.1.2.1+1)),())),()))
       else opt (atI a0.2.1 x5.2.1) fun x7=>
        bif !(!x7) then some (.inl (1,((false,(s1.1.2.1,())),())))
        else some (.inr ((s1.1.1,((wrF .i64 (s1.1.2.1+1)),())),()))
      else bif zg s1.1.2.1 2 then opt (atI a0.2.2 s0.1.2.1) fun x8=>
        opt (Kk a0.2.2 none (some s0.1.2.1) none) fun x9=>
        opt (zy (fun s10:((Bool×(Int×Unit))×Unit)=>
         bif (zh s10.1.2.1 ((x9.length:Nat):Int)) then opt (atI x9 s10.1.2.1) fun x11=>
          opt (bif zg x8.1 x11.1 then bif zg x8.2.1 x11.2.1 then some (1,((false,()),()))
            else bif zg x8.1 x11.2.1 then bif zg x8.2.1 x11.1 then some (1,((false,()),()))
              else some (0,((s10.1.1,()),()))
             else some (0,((s10.1.1,()),()))
           else bif zg x8.1 x11.2.1 then bif zg x8.2.1 x11.1 then some (1,((false,()),()))
             else some (0,((s10.1.1,()),()))
            else some (0,((s10.1.1,()),()))) fun x12=>
          bif Nat.beq x12.1 0 then some (.inr ((x12.2.1.1,((wrF .i64 (s10.1.2.1+1)),())),()))
          else some (.inl (1,((x12.2.1.1,(s10.1.2.1,())),())))
         else some (.inl (0,((s10.1.1,(s10.1.2.1,())),())))) zH ((false,(0,())),())) fun x13=>
        bif Nat.beq x13.1 0 then some (.inr ((s1.1.1,((wrF .i64 (s1.1.2.1+1)),())),()))
        else bif !x13.2.1.1 then some (.inl (1,((false,(s1.1.2.1,())),())))
         else some (.inr ((s1.1.1,((wrF .i64 (s1.1.2.1+1)),())),()))
       else bif zg s1.1.2.1 3 then opt (atI a0.2.2 s0.1.2.1) fun x14=>
         bif !(zh x14.2.2.1 1) then bif !(zh 1000 x14.2.2.1) then bif !(zh x14.2.2.2 0) then bif (!(!(zh 10000 x14.2.2.2))) then some (.inl (1,((false,(s1.1.2.1,())),())))
            else some (.inr ((s1.1.1,((wrF .i64 (s1.1.2.1+1)),())),()))
           else some (.inl (1,((false,(s1.1.2.1,())),())))
          else some (.inl (1,((false,(s1.1.2.1,())),())))
         else some (.inl (1,((false,(s1.1.2.1,())),())))
        else none
    else some (.inl (0,((s1.1.1,(s1.1.2.1,())),())))) zH ((s0.1.1,(0,())),())) fun x15=>
   bif Nat.beq x15.1 0 then some (.inr ((x15.2.1.1,((wrF .i64 (s0.1.2.1+1)),())),()))
   else some (.inl (1,((x15.2.1.1,(s0.1.2.1,())),())))
  else some (.inl (0,((s0.1.1,(s0.1.2.1,())),())))) zH ((false,(0,())),())) fun x16=>
 bif Nat.beq x16.1 0 then some (true,())
 else some (x16.2.1.1,())
abbrev zbg:Type:=(zK×Unit)→Option (Bool×Unit)
def zm7:zdd→zbg:=fun Yh=>sF Tryz.prog [(92,⟨Yb,Yc,Yh⟩)] zwG (zN []) 30 64 Jd Je
theorem zzm (Yh) (a0):zm7 Yh (a0,())=zf9 Yh a0:=by kernel_rfl
def YP:zbg:=zm7 Vx
theorem zsu:Con.Ok Tryz.prog 64 ⟨Jd,Je,YP⟩:=zv (zd zuu zk) zo (by kernel_rfl)
theorem zsv (a0):YP (a0,())=zf9 Vx a0:=zzm Vx a0
abbrev Jf:List VT:=[⟨true,zx⟩,⟨false,I⟩,⟨true,(.pair .bool (.pair .bool (.pair .bool (.pair .bool (.pair .bool (.pair .bool (.pair .bool (.pair .bool (.pair .bool (.pair .bool (.pair .bool (.pair .bool (.pair .bool (.pair .bool (.pair .bool (.pair .bool (.pair .bool (.pair .bool (.pair .bool (.pair .bool (.pair .bool (.pair .bool (.pair .bool .bool)))))))))))))))))))))))⟩]
abbrev Jg:List VT:=[⟨false,(.list .bool)⟩]
def zwH:zR:=zM [⟨(.pair .bool (.pair .bool (.pair .bool (.pair .bool (.pair .bool (.pair .bool (.pair .bool (.pair .bool (.pair .bool (.pair .bool (.pair .bool (.pair .bool (.pair .bool (.pair .bool (.pair .bool (.pair .bool (.pair .bool (.pair .bool (.pair .bool (.pair .bool (.pair .bool (.pair .bool (.pair .bool .bool))))))))))))))))))))))),QB (.pair .bool (.pair .bool (.pair .bool (.pair .bool (.pair .bool (.pair .bool (.pair .bool (.pair .bool (.pair .bool (.pair .bool (.pair .bool (.pair .bool (.pair .bool (.pair .bool (.pair .bool (.pair .bool (.pair .bool (.pair .bool (.pair .bool (.pair .bool (.pair .bool (.pair .bool (.pair .bool .bool))))))))))))))))))))))),[]⟩,cdF zx,cdF zO] [] [⟨4,56,some 6,.bool,false⟩,⟨6,56,some 6,.bool,false⟩,⟨8,56,some 6,.bool,false⟩] [] []
def zga (a0:zK) (a1:Int) (a2:(Bool×(Bool×(Bool×(Bool×(Bool×(Bool×(Bool×(Bool×(Bool×(Bool×(Bool×(Bool×(Bool×(Bool×(Bool×(Bool×(Bool×(Bool×(Bool×(Bool×(Bool×(Bool×(Bool×Bool)))))))))))))))))))))))):Option ((List Bool)×Unit):=
 bif zh1 a0.1 a0.1 1 then opt (atI (List.replicate (Int.toNat a0.1) false) a1) fun x0=>
  opt (gl (List.replicate (Int.toNat a0.1) false) (Int.toNat a1)) fun x1=>
  opt (zy (fun s2:((Int×Unit)×((List Bool)×Unit))=>
   bif zh s2.1.1 a0.1 then opt (zy (fun s3:((Int×Unit)×((List Bool)×Unit))=>
     bif (zh s3.1.1 ((a0.2.2.length:Nat):Int)) then opt (atI a0.2.2 s3.1.1) fun x4=>
      opt (bif zg s3.1.1 0 then bif !a2.1 then opt (atI s3.2.1 x4.1) fun x5=>
         opt (gl s3.2.1 (Int.toNat x4.1)) fun x6=>
         opt (atI s3.2.1 x4.2.1) fun x7=>
         opt (gl s3.2.1 (Int.toNat x4.2.1)) fun x8=>
         bif !(x6 == x8) then opt (atI s3.2.1 x4.1) fun x9=>
          opt (gl s3.2.1 (Int.toNat x4.1)) fun x10=>
          opt (atI (s3.2.1.set (Int.toNat x4.1) true) x4.2.1) fun x11=>
          opt (gl (s3.2.1.set (Int.toNat x4.1) true) (Int.toNat x4.2.1)) fun x12=>
          some (0,((),(((s3.2.1.set (Int.toNat x4.1) true).set (Int.toNat x4.2.1) true),())))
         else some (0,((),(s3.2.1,())))
        else some (0,((),(s3.2.1,())))
       else bif zg s3.1.1 1 then bif !a2.2.1 then opt (atI s3.2.1 x4.1) fun x13=>
          opt (gl s3.2.1 (Int.toNat x4.1)) fun x14=>
          opt (atI s3.2.1 x4.2.1) fun x15=>
          opt (gl s3.2.1 (Int.toNat x4.2.1)) fun x16=>
          bif !(x14 == x16) then opt (atI s3.2.1 x4.1) fun x17=>
           opt (gl s3.2.1 (Int.toNat x4.1)) fun x18=>
           opt (atI (s3.2.1.set (Int.toNat x4.1) true) x4.2.1) fun x19=>
           opt (gl (s3.2.1.set (Int.toNat x4.1) true) (Int.toNat x4.2.1)) fun x20=>
           some (0,((),(((s3.2.1.set (Int.toNat x4.1) true).set (Int.toNat x4.2.1) true),())))
          else some (0,((),(s3.2.1,())))
         else some (0,((),(s3.2.1,())))
        else bif zg s3.1.1 2 then bif !a2.2.2.1 then opt (atI s3.2.1 x4.1) fun x21=>
           opt (gl s3.2.1 (Int.toNat x4.1)) fun x22=>
           opt (atI s3.2.1 x4.2.1) fun x23=>
           opt (gl s3.2.1 (Int.toNat x4.2.1)) fun x24=>
           bif !(x22 == x24) then opt (atI s3.2.1 x4.1) fun x25=>
            opt (gl s3.2.1 (Int.toNat x4.1)) fun x26=>
            opt (atI (s3.2.1.set (Int.toNat x4.1) true) x4.2.1) fun x27=>
            opt (gl (s3.2.1.set (Int.toNat x4.1) true) (Int.toNat x4.2.1)) fun x28=>
            some (0,((),(((s3.2.1.set (Int.toNat x4.1) true).set (Int.toNat x4.2.1) true),())))
           else some (0,((),(s3.2.1,())))
          else some (0,((),(s3.2.1,())))
         else bif zg s3.1.1 3 then bif !a2.2.2.2.1 then opt (atI s3.2.1 x4.1) fun x29=>
            opt (gl s3.2.1 (Int.toNat x4.1)) fun x30=>
            opt (atI s3.2.1 x4.2.1) fun x31=>
            opt (gl s3.2.1 (Int.toNat x4.2.1)) fun x32=>
            bif !(x30 == x32) then opt (atI s3.2.1 x4.1) fun x33=>
             opt (gl s3.2.1 (Int.toNat x4.1)) fun x34=>
             opt (atI (s3.2.1.set (Int.toNat x4.1) true) x4.2.1) fun x35=>
             opt (gl (s3.2.1.set (Int.toNat x4.1) true) (Int.toNat x4.2.1)) fun x36=>
             some (0,((),(((s3.2.1.set (Int.toNat x4.1) true).set (Int.toNat x4.2.1) true),())))
            else some (0,((),(s3.2.1,())))
           else some (0,((),(s3.2.1,())))
          else bif zg s3.1.1 4 then bif !a2.2.2.2.2.1 then opt (atI s3.2.1 x4.1) fun x37=>
             opt (gl s3.2.1 (Int.toNat x4.1)) fun x38=>
             opt (atI s3.2.1 x4.2.1) fun x39=>
             opt (gl s3.2.1 (Int.toNat x4.2.1)) fun x40=>
             bif !(x38 == x40) then opt (atI s3.2.1 x4.1) fun x41=>
              opt (gl s3.2.1 (Int.toNat x4.1)) fun x42=>
              opt (atI (s3.2.1.set (Int.toNat x4.1) true) x4.2.1) fun x43=>
              opt (gl (s3.2.1.set (Int.toNat x4.1) true) (Int.toNat x4.2.1)) fun x44=>
              some (0,((),(((s3.2.1.set (Int.toNat x4.1) true).set (Int.toNat x4.2.1) true),())))
             else some (0,((),(s3.2.1,())))
            else some (0,((),(s3.2.1,())))
           else bif zg s3.1.1 5 then bif !a2.2.2.2.2.2.1 then opt (atI s3.2.1 x4.1) fun x45=>
              opt (gl s3.2.1 (Int.toNat x4.1)) fun x46=>
              opt (atI s3.2.1 x4.2.1) fun x47=>
              opt (gl s3.2.1 (Int.toNat x4.2.1)) fun x48=>
              bif !(x46 == x48) then opt (atI s3.2.1 x4.1) fun x49=>
               opt (gl s3.2.1 (Int.toNat x4.1)) fun x50=>
               opt (atI (s3.2.1.set (Int.toNat x4.1) true) x4.2.1) fun x51=>
               opt (gl (s3.2.1.set (Int.toNat x4.1) true) (Int.toNat x4.2.1)) fun x52=>
               some (0,((),(((s3.2.1.set (Int.toNat x4.1) true).set (Int.toNat x4.2.1) true),())))
              else some (0,((),(s3.2.1,())))
             else some (0,((),(s3.2.1,())))
            else bif zg s3.1.1 6 then bif !a2.2.2.2.2.2.2.1 then opt (atI s3.2.1 x4.1) fun x53=>
               opt (gl s3.2.1 (Int.toNat x4.1)) fun x54=>
               opt (atI s3.2.1 x4.2.1) fun x55=>
               opt (gl s3.2.1 (Int.toNat x4.2.1)) fun x56=>
               bif !(x54 == x56) then opt (atI s3.2.1 x4.1) fun x57=>
                opt (gl s3.2.1 (Int.toNat x4.1)) fun x58=>
                opt (atI (s3.2.1.set (Int.toNat x4.1) true) x4.2.1) fun x59=>
                opt (gl (s3.2.1.set (Int.toNat x4.1) true) (Int.toNat x4.2.1)) fun x60=>
                some (0,((),(((s3.2.1.set (Int.toNat x4.1) true).set (Int.toNat x4.2.1) true),())))
               else some (0,((),(s3.2.1,())))
              else some (0,((),(s3.2.1,())))
             else bif zg s3.1.1 7 then bif !a2.2.2.2.2.2.2.2.1 then opt (atI s3.2.1 x4.1) fun x61=>
                opt (gl s3.2.1 (Int.toNat x4.1)) fun x62=>
                opt (atI s3.2.1 x4.2.1) fun x63=>
                opt (gl s3.2.1 (Int.toNat x4.2.1)) fun x64=>
                bif !(x62 == x64) then opt (atI s3.2.1 x4.1) fun x65=>
                 opt (gl s3.2.1 (Int.toNat x4.1)) fun x66=>
                 opt (atI (s3.2.1.set (Int.toNat x4.1) true) x4.2.1) fun x67=>
                 opt (gl (s3.2.1.set (Int.toNat x4.1) true) (Int.toNat x4.2.1)) fun x68=>
                 some (0,((),(((s3.2.1.set (Int.toNat x4.1) true).set (Int.toNat x4.2.1) true),())))
                else some (0,((),(s3.2.1,())))
               else some (0,((),(s3.2.1,())))
              else bif zg s3.1.1 8 then bif !a2.2.2.2.2.2.2.2.2.1 then opt (atI s3.2.1 x4.1) fun x69=>
                 opt (gl s3.2.1 (Int.toNat x4.1)) fun x70=>
                 opt (atI s3.2.1 x4.2.1) fun x71=>
                 opt (gl s3.2.1 (Int.toNat x4.2.1)) fun x72=>
                 bif !(x70 == x72) then opt (atI s3.2.1 x4.1) fun x73=>
                  opt (gl s3.2.1 (Int.toNat x4.1)) fun x74=>
                  opt (atI (s3.2.1.set (Int.toNat x4.1) true) x4.2.1) fun x75=>
                  opt (gl (s3.2.1.set (Int.toNat x4.1) true) (Int.toNat x4.2.1)) fun x76=>
                  some (0,((),(((s3.2.1.set (Int.toNat x4.1) true).set (Int.toNat x4.2.1) true),())))
                 else some (0,((),(s3.2.1,())))
                else some (0,((),(s3.2.1,())))
               else bif zg s3.1.1 9 then bif !a2.2.2.2.2.2.2.2.2.2.1 then opt (atI s3.2.1 x4.1) fun x77=>
                  opt (gl s3.2.1 (Int.toNat x4.1)) fun x78=>
                  opt (atI s3.2.1 x4.2.1) fun x79=>
                  opt (gl s3.2.1 (Int.toNat x4.2.1)) fun x80=>
                  bif !(x78 == x80) then opt (atI s3.2.1 x4.1) fun x81=>
                   opt (gl s3.2.1 (Int.toNat x4.1)) fun x82=>
                   opt (atI (s3.2.1.set (Int.toNat x4.1) true) x4.2.1) fun x83=>
                   opt (gl (s3.2.1.set (Int.toNat x4.1) true) (Int.toNat x4.2.1)) fun x84=>
                   some (0,((),(((s3.2.1.set (Int.toNat x4.1) true).set (Int.toNat x4.2.1) true),())))
                  else some (0,((),(s3.2.1,())))
                 else some (0,((),(s3.2.1,())))
                else bif zg s3.1.1 10 then bif !a2.2.2.2.2.2.2.2.2.2.2.1 then opt (atI s3.2.1 x4.1) fun x85=>
                   opt (gl s3.2.1 (Int.toNat x4.1)) fun x86=>
                   opt (atI s3.2.1 x4.2.1) fun x87=>
                   opt (gl s3.2.1 (Int.toNat x4.2.1)) fun x88=>
                   bif !(x86 == x88) then opt (atI s3.2.1 x4.1) fun x89=>
                    opt (gl s3.2.1 (Int.toNat x4.1)) fun x90=>
                    opt (atI (s3.2.1.set (Int.toNat x4.1) true) x4.2.1) fun x91=>
                    opt (gl (s3.2.1.set (Int.toNat x4.1) true) (Int.toNat x4.2.1)) fun x92=>
                    some (0,((),(((s3.2.1.set (Int.toNat x4.1) true).set (Int.toNat x4.2.1) true),())))
                   else some (0,((),(s3.2.1,())))
                  else some (0,((),(s3.2.1,())))
                 else bif zg s3.1.1 11 then bif !a2.2.2.2.2.2.2.2.2.2.2.2.1 then opt (atI s3.2.1 x4.1) fun x93=>
                    opt (gl s3.2.1 (Int.toNat x4.1)) fun x94=>
                    opt (atI s3.2.1 x4.2.1) fun x95=>
                    opt (gl s3.2.1 (Int.toNat x4.2.1)) fun x96=>
                    bif !(x94 == x96) then opt (atI s3.2.1 x4.1) fun x97=>
                     opt (gl s3.2.1 (Int.toNat x4.1)) fun x98=>
                     opt (atI (s3.2.1.set (Int.toNat x4.1) true) x4.2.1) fun x99=>
                     opt (gl (s3.2.1.set (Int.toNat x4.1) true) (Int.toNat x4.2.1)) fun x100=>
                     some (0,((),(((s3.2.1.set (Int.toNat x4.1) true).set (Int.toNat x4.2.1) true),())))
                    else some (0,((),(s3.2.1,())))
                   else some (0,((),(s3.2.1,())))
                  else bif zg s3.1.1 12 then bif !a2.2.2.2.2.2.2.2.2.2.2.2.2.1 then opt (atI s3.2.1 x4.1) fun x101=>
                     opt (gl s3.2.1 (Int.toNat x4.1)) fun x102=>
                     opt (atI s3.2.1 x4.2.1) fun x103=>
                     opt (gl s3.2.1 (Int.toNat x4.2.1)) fun x104=>
                     bif !(x102 == x104) then opt (atI s3.2.1 x4.1) fun x105=>
                      opt (gl s3.2.1 (Int.toNat x4.1)) fun x106=>
                      opt (atI (s3.2.1.set (Int.toNat x4.1) true) x4.2.1) fun x107=>
                      opt (gl (s3.2.1.set (Int.toNat x4.1) true) (Int.toNat x4.2.1)) fun x108=>
                      some (0,((),(((s3.2.1.set (Int.toNat x4.1) true).set (Int.toNat x4.2.1) true),())))
                     else some (0,((),(s3.2.1,())))
                    else some (0,((),(s3.2.1,())))
                   else bif zg s3.1.1 13 then bif !a2.2.2.2.2.2.2.2.2.2.2.2.2.2.1 then opt (atI s3.2.1 x4.1) fun x109=>
                      opt (gl s3.2.1 (Int.toNat x4.1)) fun x110=>
                      opt (atI s3.2.1 x4.2.1) fun x111=>
                      opt (gl s3.2.1 (Int.toNat x4.2.1)) fun x112=>
                      bif !(x110 == x112) then opt (atI s3.2.1 x4.1) fun x113=>
                       opt (gl s3.2.1 (Int.toNat x4.1)) fun x114=>
                       opt (atI (s3.2.1.set (Int.toNat x4.1) true) x4.2.1) fun x115=>
                       opt (gl (s3.2.1.set (Int.toNat x4.1) true) (Int.toNat x4.2.1)) fun x116=>
                       some (0,((),(((s3.2.1.set (Int.toNat x4.1) true).set (Int.toNat x4.2.1) true),())))
                      else some (0,((),(s3.2.1,())))
                     else some (0,((),(s3.2.1,())))
                    else bif zg s3.1.1 14 then bif !a2.2.2.2.2.2.2.2.2.2.2.2.2.2.2.1 then opt (atI s3.2.1 x4.1) fun x117=>
                       opt (gl s3.2.1 (Int.toNat x4.1)) fun x118=>
                       opt (atI s3.2.1 x4.2.1) fun x119=>
                       opt (gl s3.2.1 (Int.toNat x4.2.1)) fun x120=>
                       bif !(x118 == x120) then opt (atI s3.2.1 x4.1) fun x121=>
                        opt (gl s3.2.1 (Int.toNat x4.1)) fun x122=>
                        opt (atI (s3.2.1.set (Int.toNat x4.1) true) x4.2.1) fun x123=>
                        opt (gl (s3.2.1.set (Int.toNat x4.1) true) (Int.toNat x4.2.1)) fun x124=>
                        some (0,((),(((s3.2.1.set (Int.toNat x4.1) true).set (Int.toNat x4.2.1) true),())))
                       else some (0,((),(s3.2.1,())))
                      else some (0,((),(s3.2.1,())))
                     else bif zg s3.1.1 15 then bif !a2.2.2.2.2.2.2.2.2.2.2.2.2.2.2.2.1 then opt (atI s3.2.1 x4.1) fun x125=>
                        opt (gl s3.2.1 (Int.toNat x4.1)) fun x126=>
                        opt (atI s3.2.1 x4.2.1) fun x127=>
                        opt (gl s3.2.1 (Int.toNat x4.2.1)) fun x128=>
                        bif !(x126 == x128) then opt (atI s3.2.1 x4.1) fun x129=>
                         opt (gl s3.2.1 (Int.toNat x4.1)) fun x130=>
                         opt (atI (s3.2.1.set (Int.toNat x4.1) true) x4.2.1) fun x131=>
                         opt (gl (s3.2.1.set (Int.toNat x4.1) true) (Int.toNat x4.2.1)) fun x132=>
                         some (0,((),(((s3.2.1.set (Int.toNat x4.1) true).set (Int.toNat x4.2.1) true),())))
                        else some (0,((),(s3.2.1,())))
                       else some (0,((),(s3.2.1,())))
                      else bif zg s3.1.1 16 then bif !a2.2.2.2.2.2.2.2.2.2.2.2.2.2.2.2.2.1 then opt (atI s3.2.1 x4.1) fun x133=>
                         opt (gl s3.2.1 (Int.toNat x4.1)) fun x134=>
                         opt (atI s3.2.1 x4.2.1) fun x135=>
                         opt (gl s3.2.1 (Int.toNat x4.2.1)) fun x136=>
                         bif !(x134 == x136) then opt (atI s3.2.1 x4.1) fun x137=>
                          opt (gl s3.2.1 (Int.toNat x4.1)) fun x138=>
                          opt (atI (s3.2.1.set (Int.toNat x4.1) true) x4.2.1) fun x139=>
                          opt (gl (s3.2.1.set (Int.toNat x4.1) true) (Int.toNat x4.2.1)) fun x140=>
                          some (0,((),(((s3.2.1.set (Int.toNat x4.1) true).set (Int.toNat x4.2.1) true),())))
                         else some (0,((),(s3.2.1,())))
                        else some (0,((),(s3.2.1,())))
                       else bif zg s3.1.1 17 then bif !a2.2.2.2.2.2.2.2.2.2.2.2.2.2.2.2.2.2.1 then opt (atI s3.2.1 x4.1) fun x141=>
                          opt (gl s3.2.1 (Int.toNat x4.1)) fun x142=>
                          opt (atI s3.2.1 x4.2.1) fun x143=>
                          opt (gl s3.2.1 (Int.toNat x4.2.1)) fun x144=>
                          bif !(x142 == x144) then opt (atI s3.2.1 x4.1) fun x145=>
                           opt (gl s3.2.1 (Int.toNat x4.1)) fun x146=>
                           opt (atI (s3.2.1.set (Int.toNat x4.1) true) x4.2.1) fun x147=>
                           opt (gl (s3.2.1.set (Int.toNat x4.1) true) (Int.toNat x4.2.1)) fun x148=>
                           some (0,((),(((s3.2.1.set (Int.toNat x4.1) true).set (Int.toNat x4.2.1) true),())))
                          else some (0,((),(s3.2.1,())))
                         else some (0,((),(s3.2.1,())))
                        else bif zg s3.1.1 18 then bif !a2.2.2.2.2.2.2.2.2.2.2.2.2.2.2.2.2.2.2.1 then opt (atI s3.2.1 x4.1) fun x149=>
                           opt (gl s3.2.1 (Int.toNat x4.1)) fun x150=>
                           opt (atI s3.2.1 x4.2.1) fun x151=>
                           opt (gl s3.2.1 (Int.toNat x4.2.1)) fun x152=>
                           bif !(x150 == x152) then opt (atI s3.2.1 x4.1) fun x153=>
                            opt (gl s3.2.1 (Int.toNat x4.1)) fun x154=>
                            opt (atI (s3.2.1.set (Int.toNat x4.1) true) x4.2.1) fun x155=>
                            opt (gl (s3.2.1.set (Int.toNat x4.1) true) (Int.toNat x4.2.1)) fun x156=>
                            some (0,((),(((s3.2.1.set (Int.toNat x4.1) true).set (Int.toNat x4.2.1) true),())))
                           else some (0,((),(s3.2.1,())))
                          else some (0,((),(s3.2.1,())))
                         else bif zg s3.1.1 19 then bif !a2.2.2.2.2.2.2.2.2.2.2.2.2.2.2.2.2.2.2.2.1 then opt (atI s3.2.1 x4.1) fun x157=>
                            opt (gl s3.2.1 (Int.toNat x4.1)) fun x158=>
                            opt (atI s3.2.1 x4.2.1) fun x159=>
                            opt (gl s3.2.1 (Int.toNat x4.2.1)) fun x160=>
                            bif !(x158 == x160) then opt (atI s3.2.1 x4.1) fun x161=>
                             opt (gl s3.2.1 (Int.toNat x4.1)) fun x162=>
                             opt (atI (s3.2.1.set (Int.toNat x4.1) true) x4.2.1) fun x163=>
                             opt (gl (s3.2.1.set (Int.toNat x4.1) true) (Int.toNat x4.2.1)) fun x164=>
                             some (0,((),(((s3.2.1.set (Int.toNat x4.1) true).set (Int.toNat x4.2.1) true),())))
                            else some (0,((),(s3.2.1,())))
                           else some (0,((),(s3.2.1,())))
                          else bif zg s3.1.1 20 then bif !a2.2.2.2.2.2.2.2.2.2.2.2.2.2.2.2.2.2.2.2.2.1 then opt (atI s3.2.1 x4.1) fun x165=>
                             opt (gl s3.2.1 (Int.toNat x4.1)) fun x166=>
                             opt (atI s3.2.1 x4.2.1) fun x167=>
                             opt (gl s3.2.1 (Int.toNat x4.2.1)) fun x168=>
                             bif !(x166 == x168) then opt (atI s3.2.1 x4.1) fun x169=>
                              opt (gl s3.2.1 (Int.toNat x4.1)) fun x170=>
                              opt (atI (s3.2.1.set (Int.toNat x4.1) true) x4.2.1) fun x171=>
                              opt (gl (s3.2.1.set (Int.toNat x4.1) true) (Int.toNat x4.2.1)) fun x172=>
                              some (0,((),(((s3.2.1.set (Int.toNat x4.1) true).set (Int.toNat x4.2.1) true),())))
                             else some (0,((),(s3.2.1,())))
                            else some (0,((),(s3.2.1,())))
                           else bif zg s3.1.1 21 then bif !a2.2.2.2.2.2.2.2.2.2.2.2.2.2.2.2.2.2.2.2.2.2.1 then opt (atI s3.2.1 x4.1) fun x173=>
                              opt (gl s3.2.1 (Int.toNat x4.1)) fun x174=>
                              opt (atI s3.2.1 x4.2.1) fun x175=>
                              opt (gl s3.2.1 (Int.toNat x4.2.1)) fun x176=>
                              bif !(x174 == x176) then opt (atI s3.2.1 x4.1) fun x177=>
                               opt (gl s3.2.1 (Int.toNat x4.1)) fun x178=>
                               opt (atI (s3.2.1.set (Int.toNat x4.1) true) x4.2.1) fun x179=>
                               opt (gl (s3.2.1.set (Int.toNat x4.1) true) (Int.toNat x4.2.1)) fun x180=>
                               some (0,((),(((s3.2.1.set (Int.toNat x4.1) true).set (Int.toNat x4.2.1) true),())))
                              else some (0,((),(s3.2.1,())))
                             else some (0,((),(s3.2.1,())))
                            else bif zg s3.1.1 22 then bif !a2.2.2.2.2.2.2.2.2.2.2.2.2.2.2.2.2.2.2.2.2.2.2.1 then opt (atI s3.2.1 x4.1) fun x181=>
                               opt (gl s3.2.1 (Int.toNat x4.1)) fun x182=>
                               opt (atI s3.2.1 x4.2.1) fun x183=>
                               opt (gl s3.2.1 (Int.toNat x4.2.1)) fun x184=>
                               bif !(x182 == x184) then opt (atI s3.2.1 x4.1) fun x185=>
                                opt (gl s3.2.1 (Int.toNat x4.1)) fun x186=>
                                opt (atI (s3.2.1.set (Int.toNat x4.1) true) x4.2.1) fun x187=>
                                opt (gl (s3.2.1.set (Int.toNat x4.1) true) (Int.toNat x4.2.1)) fun x188=>
                                some (0,((),(((s3.2.1.set (Int.toNat x4.1) true).set (Int.toNat x4.2.1) true),())))
                               else some (0,((),(s3.2.1,())))
                              else some (0,((),(s3.2.1,())))
                             else bif zg s3.1.1 23 then bif !a2.2.2.2.2.2.2.2.2.2.2.2.2.2.2.2.2.2.2.2.2.2.2.2 then opt (atI s3.2.1 x4.1) fun x189=>
                                opt (gl s3.2.1 (Int.toNat x4.1)) fun x190=>
                                opt (atI s3.2.1 x4.2.1) fun x191=>
                                opt (gl s3.2.1 (Int.toNat x4.2.1)) fun x192=>
                                bif !(x190 == x192) then opt (atI s3.2.1 x4.1) fun x193=>
                                 opt (gl s3.2.1 (Int.toNat x4.1)) fun x194=>
                                 opt (atI (s3.2.1.set (Int.toNat x4.1) true) x4.2.1) fun x195=>
                                 opt (gl (s3.2.1.set (Int.toNat x4.1) true) (Int.toNat x4.2.1)) fun x196=>
                                 some (0,((),(((s3.2.1.set (Int.toNat x4.1) true).set (Int.toNat x4.2.1) true),())))
                                else some (0,((),(s3.2.1,())))
                               else some (0,((),(s3.2.1,())))
                              else none) fun x197=>
      some (.inr (((wrF .i64 (s3.1.1+1)),()),(x197.2.2.1,())))
     else some (.inl (0,((s3.1.1,()),(s3.2.1,()))))) zH ((0,()),(s2.2.1,()))) fun x198=>
    some (.inr (((wrF .i64 (s2.1.1+1)),()),(x198.2.2.1,())))
   else some (.inl (0,((s2.1.1,()),(s2.2.1,()))))) zH ((0,()),(((List.replicate (Int.toNat a0.1) false).set (Int.toNat a1) true),()))) fun x199=>
  some (x199.2.2.1,())
 else none
abbrev zbh:Type:=(zK×Int×(Bool×(Bool×(Bool×(Bool×(Bool×(Bool×(Bool×(Bool×(Bool×(Bool×(Bool×(Bool×(Bool×(Bool×(Bool×(Bool×(Bool×(Bool×(Bool×(Bool×(Bool×(Bool×(Bool×Bool)))))))))))))))))))))))×Unit)→Option ((List Bool)×Unit)
def zm8:zbh:=sF Tryz.prog [] zwH (zN []) 30 66 Jf Jg
theorem zzn (a0) (a1) (a2):zm8 (a0,a1,a2,())=zga a0 a1 a2:=by kernel_rfl
def Jh:zbh:=zm8
theorem zsw:Con.Ok Tryz.prog 66 ⟨Jf,Jg,Jh⟩:=zv zk zo (by kernel_rfl)
theorem zsx (a0) (a1) (a2):Jh (a0,a1,a2,())=zga  a0 a1 a2:=zzn  a0 a1 a2
abbrev wv:List VT:=[⟨false,(.list .bool)⟩,⟨false,.bool⟩]
abbrev wA:List VT:=[⟨false,I⟩]
def zdC:zR:=zM [] [] [] [] []
def Qk (a0:(List Bool)) (a1:Bool):Option (Int×Unit):=
 opt (zy (fun s0:((Int×(Int×Unit))×Unit)=>
  bif (zh s0.1.2.1 ((a0.length:Nat):Int)) then opt (atI a0 s0.1.2.1) fun x1=>
   bif a1 == x1 then some (.inl (1,((s0.1.2.1,(s0.1.2.1,())),())))
   else some (.inr ((s0.1.1,((wrF .i64 (s0.1.2.1+1)),())),()))
  else some (.inl (0,((s0.1.1,(s0.1.2.1,())),())))) zH ((0,(0,())),())) fun x2=>
 bif Nat.beq x2.1 0 then some ((-1),())
 else some (x2.2.1.1,())
abbrev uJ:Type:=((List Bool)×Bool×Unit)→Option (Int×Unit)
def Vr:uJ:=sF Tryz.prog [] zdC (zN []) 30 96 wv wA
theorem zd6 (a0) (a1):Vr (a0,a1,())=Qk a0 a1:=by kernel_rfl
def yy:uJ:=Vr
theorem zb0:Con.Ok Tryz.prog 96 ⟨wv,wA,yy⟩:=zv zk zo (by kernel_rfl)
theorem zb1 (a0) (a1):yy (a0,a1,())=Qk  a0 a1:=zd6  a0 a1
abbrev jD:List VT:=[⟨false,(.list .bool)⟩,⟨false,.bool⟩]
abbrev jE:List VT:=[⟨false,.bool⟩]
def zbi:zR:=zM [] [] [] [] [96]
def gM (yC:uJ) (a0:(List Bool)) (a1:Bool):Option (Bool×Unit):=
 opt (yC (a0,(a1,()))) fun x0=>
 some ((!(zh x0.1 0)),())
abbrev vr:Type:=((List Bool)×Bool×Unit)→Option (Bool×Unit)
def Yk:uJ→vr:=fun yC=>sF Tryz.prog [(96,⟨wv,wA,yC⟩)] zbi (zN []) 30 65 jD jE
theorem zb2 (yC) (a0) (a1):Yk yC (a0,a1,())=gM yC a0 a1:=by kernel_rfl
def wK:vr:=Yk yy
theorem GM:Con.Ok Tryz.prog 65 ⟨jD,jE,wK⟩:=zv (zd zb0 zk) zo (by kernel_rfl)
theorem GN (a0) (a1):wK (a0,a1,())=gM yy a0 a1:=zb2 yy a0 a1
abbrev jI:List VT:=[⟨true,zx⟩]
abbrev jJ:List VT:=[⟨false,I⟩]
def zwI:zR:=zM [⟨(.pair .bool (.pair .bool (.pair .bool (.pair .bool (.pair .bool (.pair .bool (.pair .bool (.pair .bool (.pair .bool (.pair .bool (.pair .bool (.pair .bool (.pair .bool (.pair .bool (.pair .bool (.pair .bool (.pair .bool (.pair .bool (.pair .bool (.pair .bool (.pair .bool (.pair .bool (.pair .bool .bool))))))))))))))))))))))),QB (.pair .bool (.pair .bool (.pair .bool (.pair .bool (.pair .bool (.pair .bool (.pair .bool (.pair .bool (.pair .bool (.pair .bool (.pair .bool (.pair .bool (.pair .bool (.pair .bool (.pair .bool (.pair .bool (.pair .bool (.pair .bool (.pair .bool (.pair .bool (.pair .bool (.pair .bool (.pair .bool .bool))))))))))))))))))))))),[]⟩,cdF zx,cdF zO] [] [] [] [64,65]
def zgb (Xt:zbg) (Xu:zbh) (wM:vr) (a0:zK):Option (Int×Unit):=
 opt (bif zh a0.1 2 then some (1,((260,()),()))
  else bif zh 12 a0.1 then some (1,((260,()),()))
   else bif (!(zg ((a0.2.1.length:Nat):Int) a0.1)) then some (1,((260,()),()))
    else some (0,((0,()),()))) fun x0=>
 bif Nat.beq x0.1 0 then opt (bif (zh 24 ((a0.2.2.length:Nat):Int)) then some (1,((260,()),()))
   else opt (Xt (a0,())) fun x1=>
    bif !x1.1 then some (1,((260,()),()))
    else some (0,((x0.2.1.1,()),()))) fun x2=>
  bif Nat.beq x2.1 0 then bif zh1 a0.1 a0.1 8 then opt (zy (fun s3:((Int×Unit)×((List Int)×Unit))=>
     bif (zh s3.1.1 ((a0.2.2.length:Nat):Int)) then opt (atI a0.2.2 s3.1.1) fun x4=>
      opt (atI s3.2.1 x4.1) fun x5=>
      opt (gl s3.2.1 (Int.toNat x4.1)) fun x6=>
      opt (atI s3.2.1 x4.1) fun x7=>
      opt (gl s3.2.1 (Int.toNat x4.1)) fun x8=>
      opt (atI (s3.2.1.set (Int.toNat x4.1) (wrF .i64 (x6+1))) x4.2.1) fun x9=>
      opt (gl (s3.2.1.set (Int.toNat x4.1) (wrF .i64 (x6+1))) (Int.toNat x4.2.1)) fun x10=>
      opt (atI (s3.2.1.set (Int.toNat x4.1) (wrF .i64 (x6+1))) x4.2.1) fun x11=>
      opt (gl (s3.2.1.set (Int.toNat x4.1) (wrF .i64 (x6+1))) (Int.toNat x4.2.1)) fun x12=>
      some (.inr (((wrF .i64 (s3.1.1+1)),()),(((s3.2.1.set (Int.toNat x4.1) (wrF .i64 (x6+1))).set (Int.toNat x4.2.1) (wrF .i64 (x10+1))),())))
     else some (.inl (0,((s3.1.1,()),(s3.2.1,()))))) zH ((0,()),((List.replicate (Int.toNat a0.1) 0),()))) fun x13=>
    opt (zy (fun s14:((Int×(Int×Unit))×Unit)=>
     bif (zh s14.1.2.1 ((a0.2.1.length:Nat):Int)) then opt (atI a0.2.1 s14.1.2.1) fun x15=>
      opt (bif x15 then opt (atI x13.2.2.1 s14.1.2.1) fun x16=>
        opt (gl x13.2.2.1 (Int.toNat s14.1.2.1)) fun x17=>
        bif zh x17 1 then some (1,((260,()),()))
        else opt (atI x13.2.2.1 s14.1.2.1) fun x18=>
         opt (gl x13.2.2.1 (Int.toNat s14.1.2.1)) fun x19=>
         bif zh 2 x19 then some (1,((260,()),()))
         else some (0,((s14.1.1,()),()))
       else some (0,((s14.1.1,()),()))) fun x20=>
      bif Nat.beq x20.1 0 then some (.inr ((x20.2.1.1,((wrF .i64 (s14.1.2.1+1)),())),()))
      else some (.inl (1,((x20.2.1.1,(s14.1.2.1,())),())))
     else some (.inl (0,((s14.1.1,(s14.1.2.1,())),())))) zH ((x2.2.1.1,(0,())),())) fun x21=>
    bif Nat.beq x21.1 0 then opt (Xu (a0,(0,((false,(false,(false,(false,(false,(false,(false,(false,(false,(false,(false,(false,(false,(false,(false,(false,(false,(false,(false,(false,(false,(false,(false,false))))))))))))))))))))))),())))) fun x22=>
     opt (wM (x22.1,(false,()))) fun x23=>
     bif x23.1 then some (260,())
     else some (0,())
    else some (x21.2.1.1,())
   else none
  else some (x2.2.1.1,())
 else some (x0.2.1.1,())
abbrev xJ:Type:=(zK×Unit)→Option (Int×Unit)
def zm9:zbg→zbh→vr→xJ:=fun Xt Xu wM=>sF Tryz.prog [(64,⟨Jd,Je,Xt⟩),(66,⟨Jf,Jg,Xu⟩),(65,⟨jD,jE,wM⟩)] zwI (zN []) 30 37 jI jJ
theorem zzo (Xt) (Xu) (wM) (a0):zm9 Xt Xu wM (a0,())=zgb Xt Xu wM a0:=by kernel_rfl
def jK:xJ:=zm9 YP Jh wK
theorem WS:Con.Ok Tryz.prog 37 ⟨jI,jJ,jK⟩:=zv (zd zsu (zd zsw (zd GM zk))) zo (by kernel_rfl)
theorem zsy (a0):jK (a0,())=zgb YP Jh wK a0:=zzo YP Jh wK a0
abbrev yb:List VT:=[⟨false,I⟩,⟨false,I⟩,⟨false,I⟩]
abbrev yc:List VT:=[⟨false,.bool⟩]
def zoE:zR:=zM [] [] [] [] []
def GO (a0:Int) (a1:Int) (a2:Int):Option (Bool×Unit):=
 bif !(zh a0 a1) then some ((!(zh a2 a0)),())
 else some (false,())
abbrev vz:Type:=(Int×Int×Int×Unit)→Option (Bool×Unit)
def zgc:vz:=sF Tryz.prog [] zoE (zN []) 30 67 yb yc
theorem zqu (a0) (a1) (a2):zgc (a0,a1,a2,())=GO a0 a1 a2:=by kernel_rfl
def wB:vz:=zgc
theorem VI:Con.Ok Tryz.prog 67 ⟨yb,yc,wB⟩:=zv zk zo (by kernel_rfl)
theorem zlw (a0) (a1) (a2):wB (a0,a1,a2,())=GO  a0 a1 a2:=zqu  a0 a1 a2
abbrev xY:List VT:=[⟨true,Ya⟩]
abbrev xZ:List VT:=[⟨false,I⟩]
def zkf:zR:=zM [cdF Ya] [] [] [] [67]
def VJ (qa:vz) (a0:XR):Option (Int×Unit):=
 opt (opt (qa (a0.1,(1,(10000,())))) fun x0=>
  bif !x0.1 then some (1,((320,()),()))
  else opt (qa (a0.2.1,(0,(1000,())))) fun x1=>
   bif !x1.1 then some (1,((320,()),()))
   else some (0,((0,()),()))) fun x2=>
 bif Nat.beq x2.1 0 then opt (opt (qa (a0.2.2.1,(0,(10000,())))) fun x3=>
   bif !x3.1 then some (1,((320,()),()))
   else opt (qa (a0.2.2.2,(1542,(65536,())))) fun x4=>
    bif !x4.1 then some (1,((320,()),()))
    else some (0,((x2.2.1.1,()),()))) fun x5=>
  bif Nat.beq x5.1 0 then some (0,())
  else some (x5.2.1.1,())
 else some (x2.2.1.1,())
abbrev JE:Type:=(XR×Unit)→Option (Int×Unit)
def zb8:vz→JE:=fun qa=>sF Tryz.prog [(67,⟨yb,yc,qa⟩)] zkf (zN []) 30 38 xY xZ
theorem zlx (qa) (a0):zb8 qa (a0,())=VJ qa a0:=by kernel_rfl
def uq:JE:=zb8 wB
theorem zia:Con.Ok Tryz.prog 38 ⟨xY,xZ,uq⟩:=zv (zd VI zk) zo (by kernel_rfl)
theorem zib (a0):uq (a0,())=VJ wB a0:=zlx wB a0
abbrev xK:List VT:=[⟨true,zL⟩]
abbrev xL:List VT:=[⟨false,I⟩]
def zuw:zR:=zM [cdF zL,cdF qg] [] [] [] []
def zd7 (a0:qq):Option (Int×Unit):=
 opt (bif (zh ((a0.1.length:Nat):Int) 1) then some (1,((370,()),()))
  else bif (zh 128 ((a0.1.length:Nat):Int)) then some (1,((370,()),()))
   else some (0,((0,()),()))) fun x0=>
 bif Nat.beq x0.1 0 then opt (zy (fun s1:((Int×(Int×(Int×Unit)))×Unit)=>
   bif (zh s1.1.2.2.1 ((a0.1.length:Nat):Int)) then opt (atI a0.1 s1.1.2.2.1) fun x2=>
    opt (bif zh x2.1 0 then some (1,((370,()),()))
     else bif zh 255 x2.1 then some (1,((370,()),()))
      else bif zh x2.2 1 then some (1,((370,()),()))
       else bif zh 9600000 x2.2 then some (1,((370,()),()))
        else some (0,((s1.1.1,()),()))) fun x3=>
    bif Nat.beq x3.1 0 then some (.inr ((x3.2.1.1,((wrF .i64 (s1.1.2.1+x2.2)),((wrF .i64 (s1.1.2.2.1+1)),()))),()))
    else some (.inl (1,((x3.2.1.1,(s1.1.2.1,(s1.1.2.2.1,()))),())))
   else some (.inl (0,((s1.1.1,(s1.1.2.1,(s1.1.2.2.1,()))),())))) zH ((x0.2.1.1,(0,(0,()))),())) fun x4=>
  bif Nat.beq x4.1 0 then opt (bif !(zg x4.2.1.2.1 a0.2) then some (1,((370,()),()))
    else bif zh 9600000 x4.2.1.2.1 then some (1,((370,()),()))
     else some (0,((x4.2.1.1,()),()))) fun x5=>
   bif Nat.beq x5.1 0 then some (0,())
   else some (x5.2.1.1,())
  else some (x4.2.1.1,())
 else some (x0.2.1.1,())
abbrev gI:Type:=(qq×Unit)→Option (Int×Unit)
def zkW:gI:=sF Tryz.prog [] zuw (zN []) 30 39 xK xL
theorem zwJ (a0):zkW (a0,())=zd7 a0:=by kernel_rfl
def xb:gI:=zkW
theorem GP:Con.Ok Tryz.prog 39 ⟨xK,xL,xb⟩:=zv zk zo (by kernel_rfl)
theorem zqv (a0):xb (a0,())=zd7  a0:=zwJ  a0
abbrev qS:List VT:=[⟨true,qn⟩]
abbrev qT:List VT:=[⟨false,I⟩]
def zkg:zR:=zM [cdF qn,cdF zx,cdF zO,cdF zL,cdF qg] [] [] [] [37,38,39]
def VK (ql:xJ) (uu:JE) (qY:gI) (a0:qx):Option (Int×Unit):=
 opt (ql (a0.1,())) fun x0=>
 bif !(zg x0.1 0) then some (x0.1,())
 else opt (uu (a0.2.1,())) fun x1=>
  bif !(zg x1.1 0) then some (x1.1,())
  else opt (zy (fun s2:((Int×(Int×Unit))×Unit)=>
    bif (zh s2.1.2.1 ((a0.2.2.1.length:Nat):Int)) then opt (atI a0.2.2.1 s2.1.2.1) fun x3=>
     opt (qY (x3,())) fun x4=>
     bif !(zg x4.1 0) then some (.inl (1,((x4.1,(s2.1.2.1,())),())))
     else some (.inr ((s2.1.1,((wrF .i64 (s2.1.2.1+1)),())),()))
    else some (.inl (0,((s2.1.1,(s2.1.2.1,())),())))) zH ((0,(0,())),())) fun x5=>
   bif Nat.beq x5.1 0 then opt (bif (!(zg ((a0.2.2.1.length:Nat):Int) (wrF .i64 (2*((a0.1.2.2.length:Nat):Int))))) then some (1,((410,()),()))
     else bif zh a0.2.2.2 84 then some (1,((410,()),()))
      else bif zh 1542 a0.2.2.2 then some (1,((410,()),()))
       else some (0,((x5.2.1.1,()),()))) fun x6=>
    bif Nat.beq x6.1 0 then some (0,())
    else some (x6.2.1.1,())
   else some (x5.2.1.1,())
abbrev ve:Type:=(qx×Unit)→Option (Int×Unit)
def zb9:xJ→JE→gI→ve:=fun ql uu qY=>sF Tryz.prog [(37,⟨jI,jJ,ql⟩),(38,⟨xY,xZ,uu⟩),(39,⟨xK,xL,qY⟩)] zkg (zN []) 30 13 qS qT
theorem zly (ql) (uu) (qY) (a0):zb9 ql uu qY (a0,())=VK ql uu qY a0:=by kernel_rfl
def jo:ve:=zb9 jK uq xb
theorem Yd:Con.Ok Tryz.prog 13 ⟨qS,qT,jo⟩:=zv (zd WS (zd zia (zd GP zk))) zo (by kernel_rfl)
theorem zic (a0):jo (a0,())=VK jK uq xb a0:=zly jK uq xb a0
abbrev zd8:List VT:=[⟨true,zx⟩,⟨false,I⟩,⟨false,(.list I)⟩]
abbrev zd9:List VT:=[⟨false,(.list .bool)⟩]
def zux:zR:=zM [cdF zx,cdF zO] [] [⟨4,62,some 6,.bool,false⟩,⟨7,62,some 6,.bool,false⟩,⟨10,62,some 6,.bool,false⟩] [] [98]
def zea (qK:ZA) (a0:zK) (a1:Int) (a2:(List Int)):Option ((List Bool)×Unit):=
 bif zh1 a0.1 a0.1 1 then opt (atI (List.replicate (Int.toNat a0.1) false) a1) fun x0=>
  opt (gl (List.replicate (Int.toNat a0.1) false) (Int.toNat a1)) fun x1=>
  opt (zy (fun s2:((Int×Unit)×((List Bool)×Unit))=>
   bif zh s2.1.1 a0.1 then opt (zy (fun s3:((Int×Unit)×((List Bool)×Unit))=>
     bif (zh s3.1.1 ((a0.2.2.length:Nat):Int)) then opt (atI a0.2.2 s3.1.1) fun x4=>
      opt (opt (qK (a2,(s3.1.1,()))) fun x5=>
       bif !x5.1 then opt (atI s3.2.1 x4.1) fun x6=>
        opt (gl s3.2.1 (Int.toNat x4.1)) fun x7=>
        bif x7 then opt (atI s3.2.1 x4.1) fun x8=>
         opt (gl s3.2.1 (Int.toNat x4.1)) fun x9=>
         opt (atI (s3.2.1.set (Int.toNat x4.1) true) x4.2.1) fun x10=>
         opt (gl (s3.2.1.set (Int.toNat x4.1) true) (Int.toNat x4.2.1)) fun x11=>
         some (0,((),(((s3.2.1.set (Int.toNat x4.1) true).set (Int.toNat x4.2.1) true),())))
        else opt (atI s3.2.1 x4.2.1) fun x12=>
         opt (gl s3.2.1 (Int.toNat x4.2.1)) fun x13=>
         bif x13 then opt (atI s3.2.1 x4.1) fun x14=>
          opt (gl s3.2.1 (Int.toNat x4.1)) fun x15=>
          opt (atI (s3.2.1.set (Int.toNat x4.1) true) x4.2.1) fun x16=>
          opt (gl (s3.2.1.set (Int.toNat x4.1) true) (Int.toNat x4.2.1)) fun x17=>
          some (0,((),(((s3.2.1.set (Int.toNat x4.1) true).set (Int.toNat x4.2.1) true),())))
         else some (0,((),(s3.2.1,())))
       else some (0,((),(s3.2.1,())))) fun x18=>
      some (.inr (((wrF .i64 (s3.1.1+1)),()),(x18.2.2.1,())))
     else some (.inl (0,((s3.1.1,()),(s3.2.1,()))))) zH ((0,()),(s2.2.1,()))) fun x19=>
    some (.inr (((wrF .i64 (s2.1.1+1)),()),(x19.2.2.1,())))
   else some (.inl (0,((s2.1.1,()),(s2.2.1,()))))) zH ((0,()),(((List.replicate (Int.toNat a0.1) false).set (Int.toNat a1) true),()))) fun x20=>
  some (x20.2.2.1,())
 else none
abbrev Ga:Type:=(zK×Int×(List Int)×Unit)→Option ((List Bool)×Unit)
def zkX:ZA→Ga:=fun qK=>sF Tryz.prog [(98,⟨KU,KV,qK⟩)] zux (zN []) 30 70 zd8 zd9
theorem zwK (qK) (a0) (a1) (a2):zkX qK (a0,a1,a2,())=zea qK a0 a1 a2:=by kernel_rfl
def JW:Ga:=zkX yZ
theorem zqw:Con.Ok Tryz.prog 70 ⟨zd8,zd9,JW⟩:=zv (zd UQ zk) zo (by kernel_rfl)
theorem zqx (a0) (a1) (a2):JW (a0,a1,a2,())=zea yZ a0 a1 a2:=zwK yZ a0 a1 a2
abbrev Gb:List VT:=[⟨true,zx⟩]
abbrev Gc:List VT:=[⟨false,.bool⟩]
def zuy:zR:=zM [cdF zx,cdF zO] [] [] [] [68,69]
def zeb (wi:YL) (qL:JQ) (Wr:Ga) (a0:zK):Option (Bool×Unit):=
 opt (bif zh a0.1 2 then some (1,((false,()),()))
  else bif zh 12 a0.1 then some (1,((false,()),()))
   else bif (!(zg ((a0.2.1.length:Nat):Int) a0.1)) then some (1,((false,()),()))
    else bif (zh 24 ((a0.2.2.length:Nat):Int)) then some (1,((false,()),()))
     else some (0,((false,()),()))) fun x0=>
 bif Nat.beq x0.1 0 then bif zh1 a0.1 a0.1 8 then opt (zy (fun s1:((Bool×(Int×Unit))×((List Int)×Unit))=>
    bif (zh s1.1.2.1 ((a0.2.2.length:Nat):Int)) then opt (atI a0.2.2 s1.1.2.1) fun x2=>
     opt (wi (a0,(x2,()))) fun x3=>
     bif !x3.1 then some (.inl (1,((false,(s1.1.2.1,())),(s1.2.1,()))))
     else opt (zy (fun s4:((Bool×(Int×Unit))×Unit)=>
       bif zh s4.1.2.1 s1.1.2.1 then opt (atI a0.2.2 s4.1.2.1) fun x5=>
        opt (qL (x5,(x2.1,(x2.2.1,())))) fun x6=>
        bif x6.1 then some (.inl (1,((false,(s4.1.2.1,())),())))
        else some (.inr ((s4.1.1,((wrF .i64 (s4.1.2.1+1)),())),()))
       else some (.inl (0,((s4.1.1,(s4.1.2.1,())),())))) zH ((s1.1.1,(0,())),())) fun x7=>
      bif Nat.beq x7.1 0 then opt (atI s1.2.1 x2.1) fun x8=>
       opt (gl s1.2.1 (Int.toNat x2.1)) fun x9=>
       opt (atI s1.2.1 x2.1) fun x10=>
       opt (gl s1.2.1 (Int.toNat x2.1)) fun x11=>
       opt (atI (s1.2.1.set (Int.toNat x2.1) (wrF .i64 (x9+1))) x2.2.1) fun x12=>
       opt (gl (s1.2.1.set (Int.toNat x2.1) (wrF .i64 (x9+1))) (Int.toNat x2.2.1)) fun x13=>
       opt (atI (s1.2.1.set (Int.toNat x2.1) (wrF .i64 (x9+1))) x2.2.1) fun x14=>
       opt (gl (s1.2.1.set (Int.toNat x2.1) (wrF .i64 (x9+1))) (Int.toNat x2.2.1)) fun x15=>
       some (.inr ((x7.2.1.1,((wrF .i64 (s1.1.2.1+1)),())),(((s1.2.1.set (Int.toNat x2.1) (wrF .i64 (x9+1))).set (Int.toNat x2.2.1) (wrF .i64 (x13+1))),())))
      else some (.inl (1,((x7.2.1.1,(s1.1.2.1,())),(s1.2.1,()))))
    else some (.inl (0,((s1.1.1,(s1.1.2.1,())),(s1.2.1,()))))) zH ((x0.2.1.1,(0,())),((List.replicate (Int.toNat a0.1) 0),()))) fun x16=>
   bif Nat.beq x16.1 0 then opt (Wr (a0,(0,([],())))) fun x17=>
    opt (zy (fun s18:((Bool×(Int×Unit))×Unit)=>
     bif zh s18.1.2.1 a0.1 then opt (opt (atI x17.1 s18.1.2.1) fun x19=>
       bif !x19 then some (1,((false,()),()))
       else opt (atI a0.2.1 s18.1.2.1) fun x20=>
        bif x20 then opt (atI x16.2.2.1 s18.1.2.1) fun x21=>
         opt (gl x16.2.2.1 (Int.toNat s18.1.2.1)) fun x22=>
         bif zh x22 1 then some (1,((false,()),()))
         else opt (atI x16.2.2.1 s18.1.2.1) fun x23=>
          opt (gl x16.2.2.1 (Int.toNat s18.1.2.1)) fun x24=>
          bif zh 2 x24 then some (1,((false,()),()))
          else some (0,((s18.1.1,()),()))
        else some (0,((s18.1.1,()),()))) fun x25=>
      bif Nat.beq x25.1 0 then some (.inr ((x25.2.1.1,((wrF .i64 (s18.1.2.1+1)),())),()))
      else some (.inl (1,((x25.2.1.1,(s18.1.2.1,())),())))
     else some (.inl (0,((s18.1.1,(s18.1.2.1,())),())))) zH ((x16.2.1.1,(0,())),())) fun x26=>
    bif Nat.beq x26.1 0 then some (true,())
    else some (x26.2.1.1,())
   else some (x16.2.1.1,())
  else none
 else some (x0.2.1.1,())
abbrev JX:Type:=(zK×Unit)→Option (Bool×Unit)
def zkY:YL→JQ→Ga→JX:=fun wi qL Wr=>sF Tryz.prog [(68,⟨zaY,zaZ,wi⟩),(69,⟨UM,UN,qL⟩),(70,⟨zd8,zd9,Wr⟩)] zuy (zN []) 30 40 Gb Gc
theorem zwL (wi) (qL) (Wr) (a0):zkY wi qL Wr (a0,())=zeb wi qL Wr a0:=by kernel_rfl
def uK:JX:=zkY ux xH JW
theorem zgd:Con.Ok Tryz.prog 40 ⟨Gb,Gc,uK⟩:=zv (zd zhw (zd zfV (zd zqw zk))) zo (by kernel_rfl)
theorem zqy (a0):uK (a0,())=zeb ux xH JW a0:=zwL ux xH JW a0
abbrev zec:List VT:=[⟨true,Ya⟩]
abbrev zed:List VT:=[⟨false,.bool⟩]
def zuz:zR:=zM [cdF Ya] [] [] [] [71]
def zee (qP:WR) (a0:XR):Option (Bool×Unit):=
 opt (qP (a0.1,(1,(10000,())))) fun x0=>
 bif x0.1 then opt (qP (a0.2.1,(0,(1000,())))) fun x1=>
  bif x1.1 then opt (qP (a0.2.2.1,(0,(10000,())))) fun x2=>
   bif x2.1 then opt (qP (a0.2.2.2,(1542,(65536,())))) fun x3=>
    some (x3.1,())
   else some (false,())
  else some (false,())
 else some (false,())
abbrev Gd:Type:=(XR×Unit)→Option (Bool×Unit)
def zkZ:WR→Gd:=fun qP=>sF Tryz.prog [(71,⟨za8,za9,qP⟩)] zuz (zN []) 30 41 zec zed
theorem zwM (qP) (a0):zkZ qP (a0,())=zee qP a0:=by kernel_rfl
def JY:Gd:=zkZ uH
theorem zqz:Con.Ok Tryz.prog 41 ⟨zec,zed,JY⟩:=zv (zd zd4 zk) zo (by kernel_rfl)
theorem zqA (a0):JY (a0,())=zee uH a0:=zwM uH a0
abbrev Ge:List VT:=[⟨true,zL⟩]
abbrev Gf:List VT:=[⟨false,.bool⟩]
def zuA:zR:=zM [cdF zL,cdF qg] [] [] [] []
def zef (a0:qq):Option (Bool×Unit):=
 opt (bif (zh ((a0.1.length:Nat):Int) 1) then some (1,((false,()),()))
  else bif (zh 128 ((a0.1.length:Nat):Int)) then some (1,((false,()),()))
   else some (0,((false,()),()))) fun x0=>
 bif Nat.beq x0.1 0 then opt (zy (fun s1:((Bool×(Int×(Int×Unit)))×Unit)=>
   bif (zh s1.1.2.2.1 ((a0.1.length:Nat):Int)) then opt (atI a0.1 s1.1.2.2.1) fun x2=>
    opt (bif zh x2.1 0 then some (1,((false,()),()))
     else bif zh 255 x2.1 then some (1,((false,()),()))
      else bif zh x2.2 1 then some (1,((false,()),()))
       else bif zh 9600000 x2.2 then some (1,((false,()),()))
        else some (0,((s1.1.1,()),()))) fun x3=>
    bif Nat.beq x3.1 0 then some (.inr ((x3.2.1.1,((wrF .i64 (s1.1.2.1+x2.2)),((wrF .i64 (s1.1.2.2.1+1)),()))),()))
    else some (.inl (1,((x3.2.1.1,(s1.1.2.1,(s1.1.2.2.1,()))),())))
   else some (.inl (0,((s1.1.1,(s1.1.2.1,(s1.1.2.2.1,()))),())))) zH ((x0.2.1.1,(0,(0,()))),())) fun x4=>
  bif Nat.beq x4.1 0 then bif zg x4.2.1.2.1 a0.2 then some ((!(zh 9600000 x4.2.1.2.1)),())
   else some (false,())
  else some (x4.2.1.1,())
 else some (x0.2.1.1,())
abbrev JZ:Type:=(qq×Unit)→Option (Bool×Unit)
def zk0:JZ:=sF Tryz.prog [] zuA (zN []) 30 42 Ge Gf
theorem zwN (a0):zk0 (a0,())=zef a0:=by kernel_rfl
def uL:JZ:=zk0
theorem zge:Con.Ok Tryz.prog 42 ⟨Ge,Gf,uL⟩:=zv zk zo (by kernel_rfl)
theorem zqB (a0):uL (a0,())=zef  a0:=zwN  a0
abbrev gT:List VT:=[⟨true,qn⟩]
abbrev gU:List VT:=[⟨false,I⟩]
def zkh:zR:=zM [cdF qn,cdF zx,cdF zO,cdF zL,cdF qg] [] [] [] [40,41,42]
def VL (yD:JX) (Ws:Gd) (yE:JZ) (a0:qx):Option (Int×Unit):=
 opt (yD (a0.1,())) fun x0=>
 bif !x0.1 then some (260,())
 else opt (Ws (a0.2.1,())) fun x1=>
  bif !x1.1 then some (320,())
  else opt (zy (fun s2:((Int×(Int×Unit))×Unit)=>
    bif (zh s2.1.2.1 ((a0.2.2.1.length:Nat):Int)) then opt (atI a0.2.2.1 s2.1.2.1) fun x3=>
     opt (yE (x3,())) fun x4=>
     bif !x4.1 then some (.inl (1,((370,(s2.1.2.1,())),())))
     else some (.inr ((s2.1.1,((wrF .i64 (s2.1.2.1+1)),())),()))
    else some (.inl (0,((s2.1.1,(s2.1.2.1,())),())))) zH ((0,(0,())),())) fun x5=>
   bif Nat.beq x5.1 0 then opt (bif (!(zg ((a0.2.2.1.length:Nat):Int) (wrF .i64 (2*((a0.1.2.2.length:Nat):Int))))) then some (1,((410,()),()))
     else bif zh a0.2.2.2 84 then some (1,((410,()),()))
      else bif zh 1542 a0.2.2.2 then some (1,((410,()),()))
       else some (0,((x5.2.1.1,()),()))) fun x6=>
    bif Nat.beq x6.1 0 then some (0,())
    else some (x6.2.1.1,())
   else some (x5.2.1.1,())
abbrev gV:Type:=(qx×Unit)→Option (Int×Unit)
def zca:JX→Gd→JZ→gV:=fun yD Ws yE=>sF Tryz.prog [(40,⟨Gb,Gc,yD⟩),(41,⟨zec,zed,Ws⟩),(42,⟨Ge,Gf,yE⟩)] zkh (zN []) 30 14 gT gU
theorem zlz (yD) (Ws) (yE) (a0):zca yD Ws yE (a0,())=VL yD Ws yE a0:=by kernel_rfl
def yl:gV:=zca uK JY uL
theorem UE:Con.Ok Tryz.prog 14 ⟨gT,gU,yl⟩:=zv (zd zgd (zd zqz (zd zge zk))) zo (by kernel_rfl)
theorem zid (a0):yl (a0,())=VL uK JY uL a0:=zlz uK JY uL a0
abbrev kh:List VT:=[⟨true,zx⟩,⟨false,I⟩]
abbrev kj:List VT:=[⟨false,.bool⟩]
def zoF:zR:=zM [cdF zx,cdF zO] [] [] [] [67]
def GQ (qa:vz) (a0:zK) (a1:Int):Option (Bool×Unit):=
 opt (qa (a1,(0,((wrF .i64 (a0.1 - 1)),())))) fun x0=>
 bif x0.1 then opt (atI a0.2.1 a1) fun x1=>
  some (x1,())
 else some (false,())
abbrev XW:Type:=(zK×Int×Unit)→Option (Bool×Unit)
def zgf:vz→XW:=fun qa=>sF Tryz.prog [(67,⟨yb,yc,qa⟩)] zoF (zN []) 30 119 kh kj
theorem zqC (qa) (a0) (a1):zgf qa (a0,a1,())=GQ qa a0 a1:=by kernel_rfl
def Za:XW:=zgf wB
theorem zlA:Con.Ok Tryz.prog 119 ⟨kh,kj,Za⟩:=zv (zd VI zk) zo (by kernel_rfl)
theorem zlB (a0) (a1):Za (a0,a1,())=GQ wB a0 a1:=zqC wB a0 a1
abbrev vf:List VT:=[⟨false,I⟩,⟨false,I⟩,⟨false,I⟩]
abbrev vg:List VT:=[⟨false,.bool⟩]
def zki:zR:=zM [] [] [] [] []
def VM (a0:Int) (a1:Int) (a2:Int):Option (Bool×Unit):=
 bif !(zh a0 a1) then some ((!(zh a2 a0)),())
 else some (false,())
abbrev JF:Type:=(Int×Int×Int×Unit)→Option (Bool×Unit)
def zcb:JF:=sF Tryz.prog [] zki (zN []) 30 86 vf vg
theorem zlC (a0) (a1) (a2):zcb (a0,a1,a2,())=VM a0 a1 a2:=by kernel_rfl
def ur:JF:=zcb
theorem zie:Con.Ok Tryz.prog 86 ⟨vf,vg,ur⟩:=zv zk zo (by kernel_rfl)
theorem zif (a0) (a1) (a2):ur (a0,a1,a2,())=VM  a0 a1 a2:=zlC  a0 a1 a2
abbrev wS:List VT:=[⟨true,zq⟩]
abbrev wT:List VT:=[⟨false,I⟩]
def zsz:zR:=zM [cdF zq] [] [] [] [86]
def zcJ (vi:JF) (a0:qC):Option (Int×Unit):=
 opt (opt (vi (a0.1,(1,(1048576,())))) fun x0=>
  bif !x0.1 then some (1,((130,()),()))
  else opt (vi (a0.2,(1,(2097152,())))) fun x1=>
   bif !x1.1 then some (1,((130,()),()))
   else some (0,((0,()),()))) fun x2=>
 bif Nat.beq x2.1 0 then some (0,())
 else some (x2.2.1.1,())
abbrev xU:Type:=(qC×Unit)→Option (Int×Unit)
def zi0:JF→xU:=fun vi=>sF Tryz.prog [(86,⟨vf,vg,vi⟩)] zsz (zN []) 30 84 wS wT
theorem zuB (vi) (a0):zi0 vi (a0,())=zcJ vi a0:=by kernel_rfl
def jS:xU:=zi0 ur
theorem Yo:Con.Ok Tryz.prog 84 ⟨wS,wT,jS⟩:=zv (zd zie zk) zo (by kernel_rfl)
theorem zoG (a0):jS (a0,())=zcJ ur a0:=zuB ur a0
abbrev yM:List VT:=[⟨true,YJ⟩,⟨false,(.list I)⟩]
abbrev yN:List VT:=[⟨false,(.list I)⟩]
def zlD:zR:=zM [cdF YJ,cdF zO,cdF zpx] [] [⟨5,30,some 4,I,false⟩,⟨5,30,none,I,true⟩,⟨5,30,some 5,I,true⟩,⟨1,54,none,I,true⟩,⟨3,54,none,I,true⟩,⟨6,54,none,I,true⟩,⟨8,54,none,I,true⟩,⟨0,54,none,I,true⟩] [(5,30,5,[0])] []
def Kt (a0:Vw) (a1:(List Int)):Option ((List Int)×Unit):=
 bif (zh1 0 (wrF .i64 (((a1.length:Nat):Int)+1)) 8) then opt (zy (fun s0:((Int×Unit)×(((List Int)×Unit)×(Unit×(Unit×Unit))))=>
   bif (zh s0.1.1 ((a1.length:Nat):Int)) then opt (atI a1 s0.1.1) fun x1=>
    bif zh x1 0 then some (.inl (0,((s0.1.1,()),((s0.2.1.1,()),((),((),()))))))
    else bif (!(zh x1 (wrF .i64 (2*((a0.2.2.length:Nat):Int))))) then some (.inl (0,((s0.1.1,()),((s0.2.1.1,()),((),((),()))))))
     else opt (atI a0.2.2 (wrF .i64 (Int.tdiv x1 2))) fun x2=>
      opt (bif zg (Int.tmod x1 2) 1 then some (0,(((x1,(x2.2.1,x2.1)),()),((),((),()))))
       else some (0,(((x1,(x2.1,x2.2.1)),()),((),((),()))))) fun x3=>
      opt (bif zg s0.1.1 0 then bif (qW s0.2.1.1.length ((x3.2.1.1.2.1::[]).length) 8) then some (0,((),(((s0.2.1.1++(x3.2.1.1.2.1::[])),()),((),()))))
        else none
       else some (0,((),((s0.2.1.1,()),((),()))))) fun x4=>
      bif (qW x4.2.2.1.1.length ((x3.2.1.1.2.2::[]).length) 8) then some (.inr (((wrF .i64 (s0.1.1+1)),()),(((x4.2.2.1.1++(x3.2.1.1.2.2::[])),()),((),((),())))))
      else none
   else some (.inl (0,((s0.1.1,()),((s0.2.1.1,()),((),((),()))))))) zH ((0,()),(((List.replicate (Int.toNat 0) 0),()),((),((),()))))) fun x5=>
  some (x5.2.2.1.1,())
 else none
abbrev kA:Type:=(Vw×(List Int)×Unit)→Option ((List Int)×Unit)
def zdD:kA:=sF Tryz.prog [] zlD (zN []) 30 176 yM yN
theorem zna (a0) (a1):zdD (a0,a1,())=Kt a0 a1:=by kernel_rfl
def yO:kA:=zdD
theorem zaw:Con.Ok Tryz.prog 176 ⟨yM,yN,yO⟩:=zv zk zo (by kernel_rfl)
theorem zi1 (a0) (a1):yO (a0,a1,())=Kt  a0 a1:=zna  a0 a1
abbrev yP:List VT:=[⟨true,YJ⟩,⟨false,(.list I)⟩]
abbrev yQ:List VT:=[⟨false,.bool⟩]
def zlE:zR:=zM [⟨(.pair .bool (.pair .bool (.pair .bool (.pair .bool (.pair .bool (.pair .bool (.pair .bool (.pair .bool (.pair .bool (.pair .bool (.pair .bool .bool))))))))))),QB (.pair .bool (.pair .bool (.pair .bool (.pair .bool (.pair .bool (.pair .bool (.pair .bool (.pair .bool (.pair .bool (.pair .bool (.pair .bool .bool))))))))))),[]⟩,cdF YJ,cdF zO,cdF zpx] [] [] [] []
def Ku (a0:Vw) (a1:(List Int)):Option (Bool×Unit):=
 opt (bif (zh ((a1.length:Nat):Int) 1) then some (1,((false,()),()))
  else bif (zh 8 ((a1.length:Nat):Int)) then some (1,((false,()),()))
   else some (0,((false,()),()))) fun x0=>
 bif Nat.beq x0.1 0 then opt (zy (fun s1:((Int×(Int×(Int×Unit)))×((List Bool)×(Unit×(Unit×Unit))))=>
   bif (zh s1.1.2.2.1 ((a1.length:Nat):Int)) then opt (atI a1 s1.1.2.2.1) fun x2=>
    bif zh x2 0 then some (.inl (0,((s1.1.1,(s1.1.2.1,(s1.1.2.2.1,()))),(s1.2.1,((),((),()))))))
    else bif (!(zh x2 (wrF .i64 (2*((a0.2.2.length:Nat):Int))))) then some (.inl (0,((s1.1.1,(s1.1.2.1,(s1.1.2.2.1,()))),(s1.2.1,((),((),()))))))
     else opt (atI a0.2.2 (wrF .i64 (Int.tdiv x2 2))) fun x3=>
      opt (bif zg (Int.tmod x2 2) 1 then some (0,(((x2,(x3.2.1,x3.1)),()),((),((),()))))
       else some (0,(((x2,(x3.1,x3.2.1)),()),((),((),()))))) fun x4=>
      bif Nat.beq x4.1 0 then opt (bif zg s1.1.2.2.1 0 then bif zh x4.2.1.1.2.1 12 then opt (atI s1.2.1 x4.2.1.1.2.1) fun x5=>
          opt (gl s1.2.1 (Int.toNat x4.2.1.1.2.1)) fun x6=>
          some (0,((),((s1.2.1.set (Int.toNat x4.2.1.1.2.1) true),((),()))))
         else none
        else bif !(zg x4.2.1.1.2.1 s1.1.1) then some (1,((),(s1.2.1,((),()))))
         else opt (atI a0.2.1 s1.1.1) fun x7=>
          bif x7 then some (1,((),(s1.2.1,((),()))))
          else some (0,((),(s1.2.1,((),()))))) fun x8=>
       bif Nat.beq x8.1 0 then bif zh x4.2.1.1.2.2 12 then opt (atI x8.2.2.1 x4.2.1.1.2.2) fun x9=>
         opt (gl x8.2.2.1 (Int.toNat x4.2.1.1.2.2)) fun x10=>
         bif x10 then some (.inl (1,((s1.1.1,(s1.1.2.1,(s1.1.2.2.1,()))),(x8.2.2.1,((),((),()))))))
         else bif zh x4.2.1.1.2.2 12 then opt (atI x8.2.2.1 x4.2.1.1.2.2) fun x11=>
           opt (gl x8.2.2.1 (Int.toNat x4.2.1.1.2.2)) fun x12=>
           some (.inr ((x4.2.1.1.2.2,((wrF .i64 (s1.1.2.1+1)),((wrF .i64 (s1.1.2.2.1+1)),()))),((x8.2.2.1.set (Int.toNat x4.2.1.1.2.2) true),((),((),())))))
          else none
        else none
       else some (.inl (1,((s1.1.1,(s1.1.2.1,(s1.1.2.2.1,()))),(x8.2.2.1,((),((),()))))))
      else none
   else some (.inl (0,((s1.1.1,(s1.1.2.1,(s1.1.2.2.1,()))),(s1.2.1,((),((),()))))))) zH ((0,(0,(0,()))),((List.replicate 12 false),((),((),()))))) fun x13=>
  bif Nat.beq x13.1 0 then some ((zg x13.2.1.2.1 ((a1.length:Nat):Int)),())
  else some ((zg x13.2.1.2.1 ((a1.length:Nat):Int)),())
 else some (x0.2.1.1,())
abbrev kB:Type:=(Vw×(List Int)×Unit)→Option (Bool×Unit)
def zdE:kB:=sF Tryz.prog [] zlE (zN []) 30 157 yP yQ
theorem znb (a0) (a1):zdE (a0,a1,())=Ku a0 a1:=by kernel_rfl
def yR:kB:=zdE
theorem zax:Con.Ok Tryz.prog 157 ⟨yP,yQ,yR⟩:=zv zk zo (by kernel_rfl)
theorem zi2 (a0) (a1):yR (a0,a1,())=Ku  a0 a1:=znb  a0 a1
abbrev uM:List VT:=[⟨true,zx⟩,⟨false,(.list I)⟩]
abbrev uN:List VT:=[⟨false,I⟩]
def zuC:zR:=zM [cdF zx,cdF zO] [] [] [] [37,157]
def zeg (ql:xJ) (jn:kB) (a0:zK) (a1:(List Int)):Option (Int×Unit):=
 opt (ql (a0,())) fun x0=>
 bif !(zg x0.1 0) then some (x0.1,())
 else opt (jn (a0,(a1,()))) fun x1=>
  bif !x1.1 then some (310,())
  else some (0,())
abbrev Wa:Type:=(zK×(List Int)×Unit)→Option (Int×Unit)
def zk1:xJ→kB→Wa:=fun ql jn=>sF Tryz.prog [(37,⟨jI,jJ,ql⟩),(157,⟨yP,yQ,jn⟩)] zuC (zN []) 30 174 uM uN
theorem zwO (ql) (jn) (a0) (a1):zk1 ql jn (a0,a1,())=zeg ql jn a0 a1:=by kernel_rfl
def uO:Wa:=zk1 jK yR
theorem zgg:Con.Ok Tryz.prog 174 ⟨uM,uN,uO⟩:=zv (zd WS (zd zax zk)) zo (by kernel_rfl)
theorem zqD (a0) (a1):uO (a0,a1,())=zeg jK yR a0 a1:=zwO jK yR a0 a1
abbrev Ql:List VT:=[⟨true,zx⟩,⟨false,(.list I)⟩]
abbrev Qm:List VT:=[⟨false,(.list I)⟩,⟨false,I⟩]
def zuD:zR:=zM [cdF zx,cdF zO] [] [⟨3,23,some 6,I,false⟩,⟨3,23,some 8,I,false⟩] [] [174]
def zeh (ja:kA) (yF:Wa) (a0:zK) (a1:(List Int)):Option ((List Int)×Int×Unit):=
 opt (yF (a0,(a1,()))) fun x0=>
 bif !(zg x0.1 0) then some ([],(x0.1,()))
 else opt (ja (a0,(a1,()))) fun x1=>
  some (x1.1,(0,()))
abbrev Gg:Type:=(zK×(List Int)×Unit)→Option ((List Int)×Int×Unit)
def zk2:kA→Wa→Gg:=fun ja yF=>sF Tryz.prog [(176,⟨yM,yN,ja⟩),(174,⟨uM,uN,yF⟩)] zuD (zN []) 30 173 Ql Qm
theorem zwP (ja) (yF) (a0) (a1):zk2 ja yF (a0,a1,())=zeh ja yF a0 a1:=by kernel_rfl
def Wb:Gg:=zk2 yO uO
theorem zqE:Con.Ok Tryz.prog 173 ⟨Ql,Qm,Wb⟩:=zv (zd zaw (zd zgg zk)) zo (by kernel_rfl)
theorem zqF (a0) (a1):Wb (a0,a1,())=zeh yO uO a0 a1:=zwP yO uO a0 a1
abbrev Ji:List VT:=[⟨true,zx⟩,⟨false,(.list I)⟩]
abbrev Jj:List VT:=[⟨false,I⟩,⟨false,I⟩,⟨false,I⟩]
def zwQ:zR:=zM [cdF zx,cdF zO] [] [] [] []
def zgh (Wt:Gg) (a0:zK) (a1:(List Int)):Option (Int×Int×Int×Unit):=
 opt (Wt (a0,(a1,()))) fun x0=>
 bif !(zg x0.2.1 0) then some (0,(0,(x0.2.1,())))
 else opt (atI x0.1 0) fun x1=>
  opt (atI x0.1 (wrF .i64 (((x0.1.length:Nat):Int) - 1))) fun x2=>
  some (x1,(x2,(0,())))
abbrev zbj:Type:=(zK×(List Int)×Unit)→Option (Int×Int×Int×Unit)
def znc:Gg→zbj:=fun Wt=>sF Tryz.prog [(173,⟨Ql,Qm,Wt⟩)] zwQ (zN []) 30 154 Ji Jj
theorem zzp (Wt) (a0) (a1):znc Wt (a0,a1,())=zgh Wt a0 a1:=by kernel_rfl
def YQ:zbj:=znc Wb
theorem zsA:Con.Ok Tryz.prog 154 ⟨Ji,Jj,YQ⟩:=zv (zd zqE zk) zo (by kernel_rfl)
theorem zsB (a0) (a1):YQ (a0,a1,())=zgh Wb a0 a1:=zzp Wb a0 a1
abbrev Zb:List VT:=[⟨true,zx⟩,⟨false,(.list I)⟩,⟨false,I⟩,⟨false,I⟩]
abbrev Zc:List VT:=[⟨false,.bool⟩]
def zsC:zR:=zM [cdF zx,cdF zO] [] [] [] [154]
def zcK (Xv:zbj) (a0:zK) (a1:(List Int)) (a2:Int) (a3:Int):Option (Bool×Unit):=
 opt (Xv (a0,(a1,()))) fun x0=>
 bif zg x0.2.2.1 0 then bif zg x0.1 a2 then some ((zg x0.2.1 a3),())
  else some (false,())
 else some (false,())
abbrev KW:Type:=(zK×(List Int)×Int×Int×Unit)→Option (Bool×Unit)
def zi3:zbj→KW:=fun Xv=>sF Tryz.prog [(154,⟨Ji,Jj,Xv⟩)] zsC (zN []) 30 125 Zb Zc
theorem zuE (Xv) (a0) (a1) (a2) (a3):zi3 Xv (a0,a1,a2,a3,())=zcK Xv a0 a1 a2 a3:=by kernel_rfl
def Zd:KW:=zi3 YQ
theorem zoH:Con.Ok Tryz.prog 125 ⟨Zb,Zc,Zd⟩:=zv (zd zsA zk) zo (by kernel_rfl)
theorem zoI (a0) (a1) (a2) (a3):Zd (a0,a1,a2,a3,())=zcK YQ a0 a1 a2 a3:=zuE YQ a0 a1 a2 a3
abbrev Ze:List VT:=[⟨false,(.list I)⟩,⟨false,(.list I)⟩]
abbrev Zf:List VT:=[⟨false,.bool⟩]
def zsD:zR:=zM [] [] [] [] []
def zcL (a0:(List Int)) (a1:(List Int)):Option (Bool×Unit):=
 opt (zy (fun s0:((Bool×(Int×Unit))×Unit)=>
  bif (zh s0.1.2.1 ((a0.length:Nat):Int)) then opt (atI a0 s0.1.2.1) fun x1=>
   opt (zy (fun s2:((Bool×(Int×Unit))×Unit)=>
    bif (zh s2.1.2.1 ((a1.length:Nat):Int)) then opt (atI a1 s2.1.2.1) fun x3=>
     bif (zg (wrF .i64 (Int.tdiv x1 2)) (wrF .i64 (Int.tdiv x3 2))) then some (.inl (1,((true,(s2.1.2.1,())),())))
     else some (.inr ((s2.1.1,((wrF .i64 (s2.1.2.1+1)),())),()))
    else some (.inl (0,((s2.1.1,(s2.1.2.1,())),())))) zH ((s0.1.1,(0,())),())) fun x4=>
   bif Nat.beq x4.1 0 then some (.inr ((x4.2.1.1,((wrF .i64 (s0.1.2.1+1)),())),()))
   else some (.inl (1,((x4.2.1.1,(s0.1.2.1,())),())))
  else some (.inl (0,((s0.1.1,(s0.1.2.1,())),())))) zH ((false,(0,())),())) fun x5=>
 bif Nat.beq x5.1 0 then some (false,())
 else some (x5.2.1.1,())
abbrev KY:Type:=((List Int)×(List Int)×Unit)→Option (Bool×Unit)
def zi4:KY:=sF Tryz.prog [] zsD (zN []) 30 158 Ze Zf
theorem zuF (a0) (a1):zi4 (a0,a1,())=zcL a0 a1:=by kernel_rfl
def QK:KY:=zi4
theorem zoJ:Con.Ok Tryz.prog 158 ⟨Ze,Zf,QK⟩:=zv zk zo (by kernel_rfl)
theorem zoK (a0) (a1):QK (a0,a1,())=zcL  a0 a1:=zuF  a0 a1
abbrev yd:List VT:=[⟨false,(.list I)⟩,⟨false,I⟩]
abbrev ye:List VT:=[⟨false,I⟩]
def zfk:zR:=zM [] [] [] [] []
def Jk (a0:(List Int)) (a1:Int):Option (Int×Unit):=
 opt (zy (fun s0:((Int×(Int×Unit))×Unit)=>
  bif (zh s0.1.2.1 ((a0.length:Nat):Int)) then opt (atI a0 s0.1.2.1) fun x1=>
   bif zg a1 x1 then some (.inl (1,((s0.1.2.1,(s0.1.2.1,())),())))
   else some (.inr ((s0.1.1,((wrF .i64 (s0.1.2.1+1)),())),()))
  else some (.inl (0,((s0.1.1,(s0.1.2.1,())),())))) zH ((0,(0,())),())) fun x2=>
 bif Nat.beq x2.1 0 then some ((-1),())
 else some (x2.2.1.1,())
abbrev kZ:Type:=((List Int)×Int×Unit)→Option (Int×Unit)
def Kv:kZ:=sF Tryz.prog [] zfk (zN []) 30 190 yd ye
theorem zgi (a0) (a1):Kv (a0,a1,())=Jk a0 a1:=by kernel_rfl
def xl:kZ:=Kv
theorem zdF:Con.Ok Tryz.prog 190 ⟨yd,ye,xl⟩:=zv zk zo (by kernel_rfl)
theorem zdG (a0) (a1):xl (a0,a1,())=Jk  a0 a1:=zgi  a0 a1
abbrev we:List VT:=[⟨false,(.list I)⟩,⟨false,I⟩]
abbrev wh:List VT:=[⟨false,.bool⟩]
def zcM:zR:=zM [] [] [] [] [190]
def ZK (xm:kZ) (a0:(List Int)) (a1:Int):Option (Bool×Unit):=
 opt (xm (a0,(a1,()))) fun x0=>
 some ((!(zh x0.1 0)),())
abbrev uo:Type:=((List Int)×Int×Unit)→Option (Bool×Unit)
def XG:kZ→uo:=fun xm=>sF Tryz.prog [(190,⟨yd,ye,xm⟩)] zcM (zN []) 30 177 we wh
theorem zdH (xm) (a0) (a1):XG xm (a0,a1,())=ZK xm a0 a1:=by kernel_rfl
def yp:uo:=XG xl
theorem zbk:Con.Ok Tryz.prog 177 ⟨we,wh,yp⟩:=zv (zd zdF zk) zo (by kernel_rfl)
theorem zbl (a0) (a1):yp (a0,a1,())=ZK xl a0 a1:=zdH xl a0 a1
abbrev vA:List VT:=[⟨true,YJ⟩,⟨false,(.list I)⟩,⟨false,(.list I)⟩]
abbrev vB:List VT:=[⟨false,.bool⟩]
def zlF:zR:=zM [cdF YJ] [] [] [] [177]
def Kw (ja:kA) (yr:uo) (a0:Vw) (a1:(List Int)) (a2:(List Int)):Option (Bool×Unit):=
 opt (ja (a0,(a1,()))) fun x0=>
 opt (ja (a0,(a2,()))) fun x1=>
 opt (Kk x0.1 (some 1) (some (wrF .i64 (((x0.1.length:Nat):Int) - 1))) (some (wrF .i64 (((x0.1.length:Nat):Int) - 1)))) fun x2=>
 opt (zy (fun s3:((Bool×(Int×Unit))×Unit)=>
  bif (zh s3.1.2.1 ((x2.length:Nat):Int)) then opt (atI x2 s3.1.2.1) fun x4=>
   opt (yr (x1.1,(x4,()))) fun x5=>
   bif x5.1 then some (.inl (1,((true,(s3.1.2.1,())),())))
   else some (.inr ((s3.1.1,((wrF .i64 (s3.1.2.1+1)),())),()))
  else some (.inl (0,((s3.1.1,(s3.1.2.1,())),())))) zH ((false,(0,())),())) fun x6=>
 bif Nat.beq x6.1 0 then some (false,())
 else some (x6.2.1.1,())
abbrev WT:Type:=(Vw×(List Int)×(List Int)×Unit)→Option (Bool×Unit)
def zdI:kA→uo→WT:=fun ja yr=>sF Tryz.prog [(176,⟨yM,yN,ja⟩),(177,⟨we,wh,yr⟩)] zlF (zN []) 30 159 vA vB
theorem znd (ja) (yr) (a0) (a1) (a2):zdI ja yr (a0,a1,a2,())=Kw ja yr a0 a1 a2:=by kernel_rfl
def kC:WT:=zdI yO yp
theorem zi5:Con.Ok Tryz.prog 159 ⟨vA,vB,kC⟩:=zv (zd zaw (zd zbk zk)) zo (by kernel_rfl)
theorem zi6 (a0) (a1) (a2):kC (a0,a1,a2,())=Kw yO yp a0 a1 a2:=znd yO yp a0 a1 a2
abbrev Qn:List VT:=[⟨true,zx⟩,⟨false,(.list I)⟩,⟨false,(.list I)⟩]
abbrev Qo:List VT:=[⟨false,.bool⟩,⟨false,I⟩]
def zuG:zR:=zM [cdF zx,cdF zO] [] [] [] [157,158,159,174]
def zei (jn:kB) (QR:KY) (vF:WT) (yF:Wa) (a0:zK) (a1:(List Int)) (a2:(List Int)):Option (Bool×Int×Unit):=
 opt (yF (a0,(a1,()))) fun x0=>
 bif !(zg x0.1 0) then some (false,(x0.1,()))
 else opt (jn (a0,(a2,()))) fun x1=>
  bif !x1.1 then some (false,(310,()))
  else opt (QR (a1,(a2,()))) fun x2=>
   bif !x2.1 then opt (vF (a0,(a1,(a2,())))) fun x3=>
    bif !x3.1 then opt (vF (a0,(a2,(a1,())))) fun x4=>
     some ((!x4.1),(0,()))
    else some (false,(0,()))
   else some (false,(0,()))
abbrev Gh:Type:=(zK×(List Int)×(List Int)×Unit)→Option (Bool×Int×Unit)
def zk3:kB→KY→WT→Wa→Gh:=fun jn QR vF yF=>sF Tryz.prog [(157,⟨yP,yQ,jn⟩),(158,⟨Ze,Zf,QR⟩),(159,⟨vA,vB,vF⟩),(174,⟨uM,uN,yF⟩)] zuG (zN []) 30 127 Qn Qo
theorem zwR (jn) (QR) (vF) (yF) (a0) (a1) (a2):zk3 jn QR vF yF (a0,a1,a2,())=zei jn QR vF yF a0 a1 a2:=by kernel_rfl
def gJ:Gh:=zk3 yR QK kC uO
theorem zqG:Con.Ok Tryz.prog 127 ⟨Qn,Qo,gJ⟩:=zv (zd zax (zd zoJ (zd zi5 (zd zgg zk)))) zo (by kernel_rfl)
theorem zqH (a0) (a1) (a2):gJ (a0,a1,a2,())=zei yR QK kC uO a0 a1 a2:=zwR yR QK kC uO a0 a1 a2
abbrev kD:List VT:=[⟨true,zx⟩,⟨true,zD⟩]
abbrev kF:List VT:=[⟨false,.bool⟩]
def zsE:zR:=zM [cdF zD,cdF zx,cdF zO,cdF zq] [] [] [] [67,119,84,125,127]
def zcN (qa:vz) (kx:XW) (qo:xU) (Zs:KW) (ka:Gh) (a0:zK) (a1:zY):Option (Bool×Unit):=
 opt (qa (a1.1,(1,(4095,())))) fun x0=>
 bif !x0.1 then some (false,())
 else opt (kx (a0,(a1.2.1,()))) fun x1=>
  bif x1.1 then opt (kx (a0,(a1.2.2.1,()))) fun x2=>
   bif x2.1 then bif (!(!(zg a1.2.1 a1.2.2.1))) then some (false,())
    else opt (qa (a1.2.2.2.2.1,(84,(1542,())))) fun x3=>
     bif !x3.1 then some (false,())
     else opt (qa (a1.2.2.2.2.2.2.2.1,(1,(1099511627776,())))) fun x4=>
      bif !x4.1 then some (false,())
      else bif zg a1.2.2.2.1 7 then opt (qa (a1.2.2.2.2.2.1,(1,(240,())))) fun x5=>
        bif x5.1 then bif (!((zg a1.2.2.2.2.2.2.1.1 0)&&((zg a1.2.2.2.2.2.2.1.2 0)&&true))) then some (false,())
         else opt (qa (((a1.2.2.2.2.2.2.2.2.length:Nat):Int),(1,(2,())))) fun x6=>
          bif !x6.1 then some (false,())
          else opt (zy (fun s7:((Bool×(Int×Unit))×Unit)=>
            bif (zh s7.1.2.1 ((a1.2.2.2.2.2.2.2.2.length:Nat):Int)) then opt (atI a1.2.2.2.2.2.2.2.2 s7.1.2.1) fun x8=>
             opt (Zs (a0,(x8,(a1.2.1,(a1.2.2.1,()))))) fun x9=>
             bif !x9.1 then some (.inl (1,((false,(s7.1.2.1,())),())))
             else some (.inr ((s7.1.1,((wrF .i64 (s7.1.2.1+1)),())),()))
            else some (.inl (0,((s7.1.1,(s7.1.2.1,())),())))) zH ((false,(0,())),())) fun x10=>
           bif Nat.beq x10.1 0 then bif (zh ((a1.2.2.2.2.2.2.2.2.length:Nat):Int) 2) then some (true,())
            else opt (atI a1.2.2.2.2.2.2.2.2 0) fun x11=>
             opt (atI a1.2.2.2.2.2.2.2.2 1) fun x12=>
             opt (ka (a0,(x11,(x12,())))) fun x13=>
             bif zg x13.2.1 0 then bif !x13.1 then some (false,())
              else some (true,())
             else some (false,())
           else bif !x10.2.1.1 then some (false,())
            else bif (zh ((a1.2.2.2.2.2.2.2.2.length:Nat):Int) 2) then some (true,())
             else opt (atI a1.2.2.2.2.2.2.2.2 0) fun x14=>
              opt (atI a1.2.2.2.2.2.2.2.2 1) fun x15=>
              opt (ka (a0,(x14,(x15,())))) fun x16=>
              bif zg x16.2.1 0 then bif !x16.1 then some (false,())
               else some (true,())
              else some (false,())
        else some (false,())
       else bif zg a1.2.2.2.1 6 then bif zg a1.2.2.2.2.2.1 0 then opt (qo (a1.2.2.2.2.2.2.1,())) fun x17=>
          bif zg x17.1 0 then bif (!(!(zh a1.2.2.2.2.2.2.1.1 a1.2.2.2.2.1))) then some (false,())
           else opt (qa (((a1.2.2.2.2.2.2.2.2.length:Nat):Int),(1,(2,())))) fun x18=>
            bif !x18.1 then some (false,())
            else opt (zy (fun s19:((Bool×(Int×Unit))×Unit)=>
              bif (zh s19.1.2.1 ((a1.2.2.2.2.2.2.2.2.length:Nat):Int)) then opt (atI a1.2.2.2.2.2.2.2.2 s19.1.2.1) fun x20=>
               opt (Zs (a0,(x20,(a1.2.1,(a1.2.2.1,()))))) fun x21=>
               bif !x21.1 then some (.inl (1,((false,(s19.1.2.1,())),())))
               else some (.inr ((s19.1.1,((wrF .i64 (s19.1.2.1+1)),())),()))
              else some (.inl (0,((s19.1.1,(s19.1.2.1,())),())))) zH ((false,(0,())),())) fun x22=>
             bif Nat.beq x22.1 0 then bif (zh ((a1.2.2.2.2.2.2.2.2.length:Nat):Int) 2) then some (true,())
              else opt (atI a1.2.2.2.2.2.2.2.2 0) fun x23=>
               opt (atI a1.2.2.2.2.2.2.2.2 1) fun x24=>
               opt (ka (a0,(x23,(x24,())))) fun x25=>
               bif zg x25.2.1 0 then bif !x25.1 then some (false,())
                else some (true,())
               else some (false,())
             else bif !x22.2.1.1 then some (false,())
              else bif (zh ((a1.2.2.2.2.2.2.2.2.length:Nat):Int) 2) then some (true,())
               else opt (atI a1.2.2.2.2.2.2.2.2 0) fun x26=>
                opt (atI a1.2.2.2.2.2.2.2.2 1) fun x27=>
                opt (ka (a0,(x26,(x27,())))) fun x28=>
                bif zg x28.2.1 0 then bif !x28.1 then some (false,())
                 else some (true,())
                else some (false,())
          else some (false,())
         else some (false,())
        else some (false,())
   else some (false,())
  else some (false,())
abbrev KZ:Type:=(zK×zY×Unit)→Option (Bool×Unit)
def zi7:vz→XW→xU→KW→Gh→KZ:=fun qa kx qo Zs ka=>sF Tryz.prog [(67,⟨yb,yc,qa⟩),(119,⟨kh,kj,kx⟩),(84,⟨wS,wT,qo⟩),(125,⟨Zb,Zc,Zs⟩),(127,⟨Qn,Qo,ka⟩)] zsE (zN []) 30 82 kD kF
theorem zuH (qa) (kx) (qo) (Zs) (ka) (a0) (a1):zi7 qa kx qo Zs ka (a0,a1,())=zcN qa kx qo Zs ka a0 a1:=by kernel_rfl
def QL:KZ:=zi7 wB Za jS Zd gJ
theorem zoL:Con.Ok Tryz.prog 82 ⟨kD,kF,QL⟩:=zv (zd VI (zd zlA (zd Yo (zd zoH (zd zqG zk))))) zo (by kernel_rfl)
theorem zoM (a0) (a1):QL (a0,a1,())=zcN wB Za jS Zd gJ a0 a1:=zuH wB Za jS Zd gJ a0 a1
abbrev yu:List VT:=[⟨true,zx⟩,⟨false,(.list zD)⟩]
abbrev yv:List VT:=[⟨false,I⟩]
def zne:zR:=zM [cdF zD,cdF zx,cdF zO,cdF zq] [] [] [] [37,82]
def Um (ql:xJ) (QS:KZ) (a0:zK) (a1:(List zY)):Option (Int×Unit):=
 opt (ql (a0,())) fun x0=>
 bif !(zg x0.1 0) then some (x0.1,())
 else bif (zh 12 ((a1.length:Nat):Int)) then some (3,())
  else opt (zy (fun s1:((Int×(Int×Unit))×Unit)=>
    bif (zh s1.1.2.1 ((a1.length:Nat):Int)) then opt (atI a1 s1.1.2.1) fun x2=>
     opt (QS (a0,(x2,()))) fun x3=>
     bif !x3.1 then some (.inl (1,((321,(s1.1.2.1,())),())))
     else some (.inr ((s1.1.1,((wrF .i64 (s1.1.2.1+1)),())),()))
    else some (.inl (0,((s1.1.1,(s1.1.2.1,())),())))) zH ((0,(0,())),())) fun x4=>
   bif Nat.beq x4.1 0 then opt (zy (fun s5:((Int×(Int×Unit))×((List (Int×Bool))×Unit))=>
     bif (zh s5.1.2.1 ((a1.length:Nat):Int)) then opt (atI a1 s5.1.2.1) fun x6=>
      bif mpD (α:=Bool) s5.2.1 x6.1 false then some (.inl (1,((322,(s5.1.2.1,())),(s5.2.1,()))))
      else some (.inr ((s5.1.1,((wrF .i64 (s5.1.2.1+1)),())),((mpP (α:=Bool) s5.2.1 x6.1 true),())))
     else some (.inl (0,((s5.1.1,(s5.1.2.1,())),(s5.2.1,()))))) zH ((x4.2.1.1,(0,())),([],()))) fun x7=>
    bif Nat.beq x7.1 0 then some (0,())
    else some (x7.2.1.1,())
   else some (x4.2.1.1,())
abbrev gu:Type:=(zK×(List zY)×Unit)→Option (Int×Unit)
def zeO:xJ→KZ→gu:=fun ql QS=>sF Tryz.prog [(37,⟨jI,jJ,ql⟩),(82,⟨kD,kF,QS⟩)] zne (zN []) 30 72 yu yv
theorem zoN (ql) (QS) (a0) (a1):zeO ql QS (a0,a1,())=Um ql QS a0 a1:=by kernel_rfl
def xa:gu:=zeO jK QL
theorem zbm:Con.Ok Tryz.prog 72 ⟨yu,yv,xa⟩:=zv (zd WS (zd zoL zk)) zo (by kernel_rfl)
theorem zkj (a0) (a1):xa (a0,a1,())=Um jK QL a0 a1:=zoN jK QL a0 a1
abbrev jT:List VT:=[⟨false,(.list I)⟩,⟨false,I⟩]
abbrev jU:List VT:=[⟨false,I⟩]
def zb3:zR:=zM [] [] [] [] []
def Zg (a0:(List Int)) (a1:Int):Option (Int×Unit):=
 opt (zy (fun s0:((Int×(Int×Unit))×Unit)=>
  bif (zh s0.1.2.1 ((a0.length:Nat):Int)) then opt (atI a0 s0.1.2.1) fun x1=>
   bif zg a1 x1 then some (.inl (1,((s0.1.2.1,(s0.1.2.1,())),())))
   else some (.inr ((s0.1.1,((wrF .i64 (s0.1.2.1+1)),())),()))
  else some (.inl (0,((s0.1.1,(s0.1.2.1,())),())))) zH ((0,(0,())),())) fun x2=>
 bif Nat.beq x2.1 0 then some ((-1),())
 else some (x2.2.1.1,())
abbrev vN:Type:=((List Int)×Int×Unit)→Option (Int×Unit)
def YR:vN:=sF Tryz.prog [] zb3 (zN []) 30 162 jT jU
theorem zcO (a0) (a1):YR (a0,a1,())=Zg a0 a1:=by kernel_rfl
def wU:vN:=YR
theorem zaC:Con.Ok Tryz.prog 162 ⟨jT,jU,wU⟩:=zv zk zo (by kernel_rfl)
theorem zaD (a0) (a1):wU (a0,a1,())=Zg  a0 a1:=zcO  a0 a1
abbrev qD:List VT:=[⟨false,(.list I)⟩,⟨false,I⟩]
abbrev qE:List VT:=[⟨false,.bool⟩]
def GR:zR:=zM [] [] [] [] [162]
def kL (wW:vN) (a0:(List Int)) (a1:Int):Option (Bool×Unit):=
 opt (wW (a0,(a1,()))) fun x0=>
 some ((!(zh x0.1 0)),())
abbrev wc:Type:=((List Int)×Int×Unit)→Option (Bool×Unit)
def JJ:vN→wc:=fun wW=>sF Tryz.prog [(162,⟨jT,jU,wW⟩)] GR (zN []) 30 136 qD qE
theorem zaE (wW) (a0) (a1):JJ wW (a0,a1,())=kL wW a0 a1:=by kernel_rfl
def qy:wc:=JJ wU
theorem QC:Con.Ok Tryz.prog 136 ⟨qD,qE,qy⟩:=zv (zd zaC zk) zo (by kernel_rfl)
theorem Un (a0) (a1):qy (a0,a1,())=kL wU a0 a1:=zaE wU a0 a1
abbrev Zh:List VT:=[⟨true,KR⟩]
abbrev Zi:List VT:=[⟨false,I⟩]
def zsF:zR:=zM [cdF KR,cdF zO] [] [] [] []
def zcP (a0:zhv):Option (Int×Unit):=
 some (a0.1.2.2.1,())
abbrev Ua:Type:=(zhv×Unit)→Option (Int×Unit)
def zi8:Ua:=sF Tryz.prog [] zsF (zN []) 30 138 Zh Zi
theorem zuI (a0):zi8 (a0,())=zcP a0:=by kernel_rfl
def YS:Ua:=zi8
theorem zoO:Con.Ok Tryz.prog 138 ⟨Zh,Zi,YS⟩:=zv zk zo (by kernel_rfl)
theorem zoP (a0):YS (a0,())=zcP  a0:=zuI  a0
abbrev ZB:List VT:=[⟨true,zx⟩,⟨false,I⟩]
abbrev ZC:List VT:=[⟨false,I⟩,⟨false,I⟩]
def zAt:zR:=zM [cdF zx,cdF KR,cdF zO] [] [] [] [37,138]
def zkk (ql:xJ) (QT:Ua) (a0:zK) (a1:Int):Option (Int×Int×Unit):=
 opt (ql (a0,())) fun x0=>
 bif !(zg x0.1 0) then some (0,(x0.1,()))
 else opt (bif zh a1 0 then some (1,((0,(2,())),()))
   else bif (!(zh a1 (wrF .i64 (2*((a0.2.2.length:Nat):Int))))) then some (1,((0,(2,())),()))
    else some (0,((0,(0,())),()))) fun x1=>
  bif Nat.beq x1.1 0 then opt (atI a0.2.2 (wrF .i64 (Int.tdiv a1 2))) fun x2=>
   opt (QT ((x2,a1),())) fun x3=>
   some (x3.1,(0,()))
  else some (x1.2.1.1,(x1.2.1.2.1,()))
abbrev Ub:Type:=(zK×Int×Unit)→Option (Int×Int×Unit)
def zsG:xJ→Ua→Ub:=fun ql QT=>sF Tryz.prog [(37,⟨jI,jJ,ql⟩),(138,⟨Zh,Zi,QT⟩)] zAt (zN []) 30 100 ZB ZC
theorem zCu (ql) (QT) (a0) (a1):zsG ql QT (a0,a1,())=zkk ql QT a0 a1:=by kernel_rfl
def vj:Ub:=zsG jK YS
theorem zk4:Con.Ok Tryz.prog 100 ⟨ZB,ZC,vj⟩:=zv (zd WS (zd zoO zk)) zo (by kernel_rfl)
theorem zwS (a0) (a1):vj (a0,a1,())=zkk jK YS a0 a1:=zCu jK YS a0 a1
abbrev ga:List VT:=[⟨true,zL⟩,⟨false,I⟩,⟨false,I⟩]
abbrev gb:List VT:=[⟨false,I⟩]
def zqI:zR:=zM [cdF zL,cdF qg] [] [] [] [39]
def zbn (qY:gI) (a0:qq) (a1:Int) (a2:Int):Option (Int×Unit):=
 opt (qY (a0,())) fun x0=>
 bif !(zg x0.1 0) then some (x0.1,())
 else opt (bif zh a1 1 then some (1,((2,()),()))
   else bif zh 1000 a1 then some (1,((2,()),()))
    else bif zh a2 84 then some (1,((2,()),()))
     else bif zh 1542 a2 then some (1,((2,()),()))
      else some (0,((0,()),()))) fun x1=>
  bif Nat.beq x1.1 0 then some (0,())
  else some (x1.2.1.1,())
abbrev VW:Type:=(qq×Int×Int×Unit)→Option (Int×Unit)
def zhB:gI→VW:=fun qY=>sF Tryz.prog [(39,⟨xK,xL,qY⟩)] zqI (zN []) 30 139 ga gb
theorem zsH (qY) (a0) (a1) (a2):zhB qY (a0,a1,a2,())=zbn qY a0 a1 a2:=by kernel_rfl
def ZW:VW:=zhB xb
theorem znf:Con.Ok Tryz.prog 139 ⟨ga,gb,ZW⟩:=zv (zd GP zk) zo (by kernel_rfl)
theorem zng (a0) (a1) (a2):ZW (a0,a1,a2,())=zbn xb a0 a1 a2:=zsH xb a0 a1 a2
abbrev Qp:List VT:=[⟨true,zL⟩,⟨false,I⟩,⟨false,I⟩,⟨false,I⟩]
abbrev Qq:List VT:=[⟨false,I⟩]
def zuJ:zR:=zM [cdF zL,cdF qg] [] [] [] [39]
def zej (qY:gI) (a0:qq) (a1:Int) (a2:Int) (a3:Int):Option (Int×Unit):=
 opt (qY (a0,())) fun x0=>
 bif !(zg x0.1 0) then some (x0.1,())
 else opt (bif zh a1 0 then some (1,((2,()),()))
   else bif !(zh a1 8) then some (1,((2,()),()))
    else bif zh a2 (-1099511627776) then some (1,((2,()),()))
     else bif zh 1099511627776 a2 then some (1,((2,()),()))
      else bif zh a3 0 then some (1,((2,()),()))
       else bif zh 1099511627776 a3 then some (1,((2,()),()))
        else some (0,((0,()),()))) fun x1=>
  bif Nat.beq x1.1 0 then some (0,())
  else some (x1.2.1.1,())
abbrev Gi:Type:=(qq×Int×Int×Int×Unit)→Option (Int×Unit)
def zk5:gI→Gi:=fun qY=>sF Tryz.prog [(39,⟨xK,xL,qY⟩)] zuJ (zN []) 30 191 Qp Qq
theorem zwT (qY) (a0) (a1) (a2) (a3):zk5 qY (a0,a1,a2,a3,())=zej qY a0 a1 a2 a3:=by kernel_rfl
def Wc:Gi:=zk5 xb
theorem zqJ:Con.Ok Tryz.prog 191 ⟨Qp,Qq,Wc⟩:=zv (zd GP zk) zo (by kernel_rfl)
theorem zqK (a0) (a1) (a2) (a3):Wc (a0,a1,a2,a3,())=zej xb a0 a1 a2 a3:=zwT xb a0 a1 a2 a3
abbrev Jl:List VT:=[⟨true,zL⟩,⟨false,I⟩]
abbrev Jm:List VT:=[⟨false,I⟩,⟨false,I⟩]
def zwU:zR:=zM [cdF zL,cdF qg] [] [] [] []
def zgj (a0:qq) (a1:Int):Option (Int×Int×Unit):=
 bif zg a0.2 0 then none
 else bif zg a0.2 0 then none
  else opt (atI a0.1 0) fun x0=>
   bif (!(zh (Int.tmod (wrF .i64 ((Int.tmod a1 a0.2)+a0.2)) a0.2) x0.2)) then opt (atI a0.1 0) fun x1=>
    opt (zy (fun s2:((Int×(Int×(Int×Unit)))×Unit)=>
     opt (atI a0.1 s2.1.2.1) fun x3=>
     bif !(zh s2.1.1 x3.2) then opt (atI a0.1 s2.1.2.1) fun x4=>
      some (.inr (((wrF .i64 (s2.1.1 - x4.2)),((wrF .i64 (s2.1.2.1+1)),(s2.1.2.2.1,()))),()))
     else opt (atI a0.1 s2.1.2.1) fun x5=>
      some (.inl (0,((s2.1.1,(s2.1.2.1,((wrF .i64 (x5.2 - s2.1.1)),()))),())))) zH (((wrF .i64 ((Int.tmod (wrF .i64 ((Int.tmod a1 a0.2)+a0.2)) a0.2) - x1.2)),(1,(0,()))),())) fun x6=>
    some (x6.2.1.2.1,(x6.2.1.2.2.1,()))
   else opt (atI a0.1 0) fun x7=>
    some (0,((wrF .i64 (x7.2 - (Int.tmod (wrF .i64 ((Int.tmod a1 a0.2)+a0.2)) a0.2))),()))
abbrev zbo:Type:=(qq×Int×Unit)→Option (Int×Int×Unit)
def znh:zbo:=sF Tryz.prog [] zwU (zN []) 30 197 Jl Jm
theorem zzq (a0) (a1):znh (a0,a1,())=zgj a0 a1:=by kernel_rfl
def YT:zbo:=znh
theorem zsI:Con.Ok Tryz.prog 197 ⟨Jl,Jm,YT⟩:=zv zk zo (by kernel_rfl)
theorem zsJ (a0) (a1):YT (a0,a1,())=zgj  a0 a1:=zzq  a0 a1
abbrev Jn:List VT:=[⟨true,zL⟩,⟨false,I⟩,⟨false,I⟩]
abbrev Jo:List VT:=[⟨false,I⟩]
def zwV:zR:=zM [cdF zL,cdF qg] [] [] [] [197]
def zgk (Xw:zbo) (a0:qq) (a1:Int) (a2:Int):Option (Int×Unit):=
 opt (Xw (a0,(a2,()))) fun x0=>
 opt (zy (fun s1:((Int×(((List (Int×Int))×Int)×(Int×(Int×(Int×(Int×(Int×Unit)))))))×Unit)=>
  bif (zh s1.1.2.2.2.2.2.2.1 (wrF .i64 (((a0.1.length:Nat):Int)+1))) then opt (atI s1.1.2.1.1 s1.1.2.2.2.2.1) fun x2=>
   bif zh s1.1.1 0 then none
   else bif (!(zg (kU .and .i64 (wk .i64 x2.1 s1.1.1) 1) 1)) then some (.inl (1,((s1.1.1,(s1.1.2.1,(s1.1.2.2.2.1,(s1.1.2.2.2.1,(s1.1.2.2.2.2.1,(s1.1.2.2.2.2.2.1,(s1.1.2.2.2.2.2.2.1,()))))))),())))
    else bif (zg ((s1.1.2.1.1.length:Nat):Int) 0) then none
     else opt (atI s1.1.2.1.1 (Int.tmod (wrF .i64 (s1.1.2.2.2.2.1+1)) ((s1.1.2.1.1.length:Nat):Int))) fun x3=>
      some (.inr ((s1.1.1,(s1.1.2.1,(s1.1.2.2.1,((wrF .i64 (s1.1.2.2.2.1+s1.1.2.2.2.2.2.1)),((Int.tmod (wrF .i64 (s1.1.2.2.2.2.1+1)) ((s1.1.2.1.1.length:Nat):Int)),(x3.2,((wrF .i64 (s1.1.2.2.2.2.2.2.1+1)),()))))))),()))
  else some (.inl (0,((s1.1.1,(s1.1.2.1,(s1.1.2.2.1,(s1.1.2.2.2.1,(s1.1.2.2.2.2.1,(s1.1.2.2.2.2.2.1,(s1.1.2.2.2.2.2.2.1,()))))))),())))) zH ((a1,(a0,(0,(0,(x0.1,(x0.2.1,(0,()))))))),())) fun x4=>
 bif Nat.beq x4.1 0 then bif zg x4.2.1.2.1.2 a0.2 then some (1099511627776,())
  else some (x4.2.1.2.1.2,())
 else bif zg x4.2.1.2.2.1 a0.2 then some (1099511627776,())
  else some (x4.2.1.2.2.1,())
abbrev zbp:Type:=(qq×Int×Int×Unit)→Option (Int×Unit)
def zni:zbo→zbp:=fun Xw=>sF Tryz.prog [(197,⟨Jl,Jm,Xw⟩)] zwV (zN []) 30 192 Jn Jo
theorem zzr (Xw) (a0) (a1) (a2):zni Xw (a0,a1,a2,())=zgk Xw a0 a1 a2:=by kernel_rfl
def YU:zbp:=zni YT
theorem zsK:Con.Ok Tryz.prog 192 ⟨Jn,Jo,YU⟩:=zv (zd zsI zk) zo (by kernel_rfl)
theorem zsL (a0) (a1) (a2):YU (a0,a1,a2,())=zgk YT a0 a1 a2:=zzr YT a0 a1 a2
abbrev Jp:List VT:=[⟨true,zL⟩,⟨false,I⟩,⟨false,I⟩]
abbrev Jq:List VT:=[⟨false,I⟩,⟨false,I⟩]
def zwW:zR:=zM [cdF zL,cdF qg] [] [] [] [191,192]
def zgl (Wu:Gi) (Xx:zbp) (a0:qq) (a1:Int) (a2:Int):Option (Int×Int×Unit):=
 opt (Wu (a0,(a1,(a2,(0,()))))) fun x0=>
 bif !(zg x0.1 0) then some (0,(x0.1,()))
 else opt (Xx (a0,(a1,(a2,())))) fun x1=>
  some (x1.1,(0,()))
abbrev zbq:Type:=(qq×Int×Int×Unit)→Option (Int×Int×Unit)
def znj:Gi→zbp→zbq:=fun Wu Xx=>sF Tryz.prog [(191,⟨Qp,Qq,Wu⟩),(192,⟨Jn,Jo,Xx⟩)] zwW (zN []) 30 178 Jp Jq
theorem zzs (Wu) (Xx) (a0) (a1) (a2):znj Wu Xx (a0,a1,a2,())=zgl Wu Xx a0 a1 a2:=by kernel_rfl
def YV:zbq:=znj Wc YU
theorem zsM:Con.Ok Tryz.prog 178 ⟨Jp,Jq,YV⟩:=zv (zd zqJ (zd zsK zk)) zo (by kernel_rfl)
theorem zsN (a0) (a1) (a2):YV (a0,a1,a2,())=zgl Wc YU a0 a1 a2:=zzs Wc YU a0 a1 a2
abbrev km:List VT:=[⟨true,zL⟩]
abbrev kn:List VT:=[⟨false,.bool⟩]
def zoQ:zR:=zM [cdF zL,cdF qg] [] [] [] [178]
def GS (Xy:zbq) (a0:qq):Option (Bool×Unit):=
 opt (Xy (a0,(6,(0,())))) fun x0=>
 bif zg x0.2.1 0 then some ((zg x0.1 1099511627776),())
 else some (false,())
abbrev XX:Type:=(qq×Unit)→Option (Bool×Unit)
def zgm:zbq→XX:=fun Xy=>sF Tryz.prog [(178,⟨Jp,Jq,Xy⟩)] zoQ (zN []) 30 164 km kn
theorem zqL (Xy) (a0):zgm Xy (a0,())=GS Xy a0:=by kernel_rfl
def Zj:XX:=zgm YV
theorem zlG:Con.Ok Tryz.prog 164 ⟨km,kn,Zj⟩:=zv (zd zsM zk) zo (by kernel_rfl)
theorem zlH (a0):Zj (a0,())=GS YV a0:=zqL YV a0
abbrev xD:List VT:=[⟨true,qg⟩]
abbrev xE:List VT:=[⟨false,.bool⟩]
def zoR:zR:=zM [cdF qg] [] [] [] []
def XY (a0:zj8):Option (Bool×Unit):=
 some ((zg (kU .and .i64 (wk .i64 a0.1 6) 1) 1),())
abbrev Zk:Type:=(zj8×Unit)→Option (Bool×Unit)
def zgn:Zk:=sF Tryz.prog [] zoR (zN []) 30 180 xD xE
theorem zqM (a0):zgn (a0,())=XY a0:=by kernel_rfl
def xF:Zk:=zgn
theorem zcc:Con.Ok Tryz.prog 180 ⟨xD,xE,xF⟩:=zv zk zo (by kernel_rfl)
theorem zcd (a0):xF (a0,())=XY  a0:=zqM  a0
abbrev vT:List VT:=[⟨true,zL⟩,⟨false,I⟩]
abbrev vU:List VT:=[⟨false,I⟩]
def znk:zR:=zM [cdF zL,cdF qg] [] [] [] [164,180]
def Yp (Zt:XX) (jj:Zk) (a0:qq) (a1:Int):Option (Int×Unit):=
 opt (Zt (a0,())) fun x0=>
 bif x0.1 then some (a0.2,())
 else opt (zy (fun s1:((Int×(Int×(Int×Unit)))×(Unit×(Unit×Unit)))=>
   bif (zh s1.1.2.2.1 ((a0.1.length:Nat):Int)) then opt (atI a0.1 s1.1.2.2.1) fun x2=>
    opt (jj (x2,())) fun x3=>
    bif x3.1 then opt (atI a0.1 s1.1.2.2.1) fun x4=>
     some (.inr ((s1.1.1,((wrF .i64 (s1.1.2.1+x4.2)),((wrF .i64 (s1.1.2.2.1+1)),()))),((),((),()))))
    else some (.inl (0,((s1.1.1,(s1.1.2.1,(s1.1.2.2.1,()))),((),((),())))))
   else some (.inl (0,((s1.1.1,(s1.1.2.1,(s1.1.2.2.1,()))),((),((),())))))) zH ((0,(0,(0,()))),((),((),())))) fun x5=>
  bif (zg x5.2.1.2.2.1 ((a0.1.length:Nat):Int)) then some (x5.2.1.1,())
  else opt (atI a0.1 x5.2.1.2.2.1) fun x6=>
   opt (zy (fun s7:(((Int×Int)×(Int×(Int×(Int×Unit))))×(Unit×(Unit×Unit)))=>
    bif (zh s7.1.2.2.2.1 ((a0.1.length:Nat):Int)) then bif (zg ((a0.1.length:Nat):Int) 0) then none
     else opt (atI a0.1 (Int.tmod (wrF .i64 ((wrF .i64 (x5.2.1.2.2.1+1))+s7.1.2.2.2.1)) ((a0.1.length:Nat):Int))) fun x8=>
      opt (jj (x8,())) fun x9=>
      bif x9.1 then opt (bif zg s7.1.1.2 0 then some (0,(((s7.1.2.2.1,s7.1.1.2),()),((),((),()))))
        else some (0,((s7.1.1,()),((),((),()))))) fun x10=>
       some (.inr (((x10.2.1.1.1,(wrF .i64 (x10.2.1.1.2+x8.2))),(s7.1.2.1,((wrF .i64 (s7.1.2.2.1+x8.2)),((wrF .i64 (s7.1.2.2.2.1+1)),())))),((),((),()))))
      else bif zh 0 s7.1.1.2 then some (.inr (((0,0),((wrF .i64 (s7.1.2.1+(uv 0 (wrF .i64 (s7.1.1.2 - a1))))),((wrF .i64 (s7.1.2.2.1+x8.2)),((wrF .i64 (s7.1.2.2.2.1+1)),())))),((),((),()))))
       else some (.inr (((0,0),(s7.1.2.1,((wrF .i64 (s7.1.2.2.1+x8.2)),((wrF .i64 (s7.1.2.2.2.1+1)),())))),((),((),()))))
    else some (.inl (0,((s7.1.1,(s7.1.2.1,(s7.1.2.2.1,(s7.1.2.2.2.1,())))),((),((),())))))) zH (((0,0),(x5.2.1.1,((wrF .i64 (x5.2.1.2.1+x6.2)),(0,())))),((),((),())))) fun x11=>
   bif Nat.beq x11.1 0 then some (x11.2.1.2.1,())
   else some (x11.2.1.2.1,())
abbrev Yq:Type:=(qq×Int×Unit)→Option (Int×Unit)
def zeP:XX→Zk→Yq:=fun Zt jj=>sF Tryz.prog [(164,⟨km,kn,Zt⟩),(180,⟨xD,xE,jj⟩)] znk (zN []) 30 140 vT vU
theorem zoS (Zt) (jj) (a0) (a1):zeP Zt jj (a0,a1,())=Yp Zt jj a0 a1:=by kernel_rfl
def vW:Yq:=zeP Zj xF
theorem zkl:Con.Ok Tryz.prog 140 ⟨vT,vU,vW⟩:=zv (zd zlG (zd zcc zk)) zo (by kernel_rfl)
theorem zbr (a0) (a1):vW (a0,a1,())=Yp Zj xF a0 a1:=zoS Zj xF a0 a1
abbrev Qr:List VT:=[⟨false,I⟩,⟨false,I⟩]
abbrev Qs:List VT:=[⟨false,I⟩]
def zuK:zR:=zM [] [] [] [] []
def zek (a0:Int) (a1:Int):Option (Int×Unit):=
 bif zg a1 0 then none
 else bif zg a1 0 then none
  else some ((Int.tmod (wrF .i64 ((Int.tmod a0 a1)+a1)) a1),())
abbrev Gj:Type:=(Int×Int×Unit)→Option (Int×Unit)
def zk6:Gj:=sF Tryz.prog [] zuK (zN []) 30 166 Qr Qs
theorem zwX (a0) (a1):zk6 (a0,a1,())=zek a0 a1:=by kernel_rfl
def Wd:Gj:=zk6
theorem zqN:Con.Ok Tryz.prog 166 ⟨Qr,Qs,Wd⟩:=zv zk zo (by kernel_rfl)
theorem zqO (a0) (a1):Wd (a0,a1,())=zek  a0 a1:=zwX  a0 a1
abbrev vC:List VT:=[⟨false,I⟩,⟨false,I⟩]
abbrev vD:List VT:=[⟨false,I⟩]
def zlI:zR:=zM [] [] [] [] [166]
def Kx (Wv:Gj) (a0:Int) (a1:Int):Option (Int×Unit):=
 opt (Wv (a0,(a1,()))) fun x0=>
 bif zg a1 0 then none
 else some ((wrF .i64 (Int.tdiv (wrF .i64 (a0 - x0.1)) a1)),())
abbrev WU:Type:=(Int×Int×Unit)→Option (Int×Unit)
def zdJ:Gj→WU:=fun Wv=>sF Tryz.prog [(166,⟨Qr,Qs,Wv⟩)] zlI (zN []) 30 142 vC vD
theorem znl (Wv) (a0) (a1):zdJ Wv (a0,a1,())=Kx Wv a0 a1:=by kernel_rfl
def vE:WU:=zdJ Wd
theorem zi9:Con.Ok Tryz.prog 142 ⟨vC,vD,vE⟩:=zv (zd zqN zk) zo (by kernel_rfl)
theorem zja (a0) (a1):vE (a0,a1,())=Kx Wd a0 a1:=znl Wd a0 a1
abbrev xM:List VT:=[⟨true,zL⟩,⟨false,I⟩,⟨false,I⟩]
abbrev xN:List VT:=[⟨true,xr⟩,⟨false,I⟩]
def zwY:zR:=zM [cdF zL,cdF qg] [] [⟨7,87,none,jz,true⟩,⟨12,87,none,jz,true⟩,⟨7,87,some 6,jz,false⟩,⟨12,87,some 6,jz,false⟩,⟨2,48,none,jz,true⟩,⟨6,48,none,jz,true⟩,⟨2,90,none,jz,true⟩,⟨5,90,none,jz,true⟩,⟨9,90,none,jz,true⟩,⟨12,90,none,jz,true⟩,⟨13,90,none,jz,true⟩,⟨18,90,none,jz,true⟩,⟨8,90,none,jz,true⟩] [] [139,140,142,180]
def Ky (Qd:VW) (gy:Yq) (yT:WU) (jj:Zk) (a0:qq) (a1:Int) (a2:Int):Option (wO×Int×Unit):=
 opt (Qd (a0,(a1,(a2,())))) fun x0=>
 bif !(zg x0.1 0) then some ((0,0),(x0.1,()))
 else opt (gy (a0,((wrF .i64 (a2*a1)),()))) fun x1=>
  bif (zg (wrF .i64 (a0.2*a1)) 0) then none
  else bif (zh (wrF .i64 (Int.tdiv (wrF .i64 (x1.1*1048576)) (wrF .i64 (a0.2*a1)))) 1) then some ((0,0),(4,()))
   else opt (yT ((wrF .i64 ((wrF .i64 ((-127)*a1))*1048576)),((wrF .i64 ((wrF .i64 (Int.tdiv (wrF .i64 (x1.1*1048576)) (wrF .i64 (a0.2*a1))))*a1)),()))) fun x2=>
    opt (zy (fun s3:((Int×(Int×Unit))×(((List (Int×Int))×Unit)×(Unit×(Unit×Unit))))=>
     bif (zh s3.1.2.1 ((a0.1.length:Nat):Int)) then opt (atI a0.1 s3.1.2.1) fun x4=>
      opt (jj (x4,())) fun x5=>
      bif x5.1 then opt (atI a0.1 s3.1.2.1) fun x6=>
       some (.inr (((wrF .i64 (s3.1.1+x6.2)),((wrF .i64 (s3.1.2.1+1)),())),((s3.2.1.1,()),((),((),())))))
      else some (.inl (0,((s3.1.1,(s3.1.2.1,())),((s3.2.1.1,()),((),((),()))))))
     else some (.inl (0,((s3.1.1,(s3.1.2.1,())),((s3.2.1.1,()),((),((),()))))))) zH ((0,(0,())),(([],()),((),((),()))))) fun x7=>
    bif (zg x7.2.1.2.1 ((a0.1.length:Nat):Int)) then opt (zy (fun s8:((Int×(Int×(Int×(Int×Unit))))×(Unit×Unit))=>
      bif (zh s8.1.2.2.2.1 ((x7.2.2.1.1.length:Nat):Int)) then opt (atI x7.2.2.1.1 s8.1.2.2.2.1) fun x9=>
       opt (gl x7.2.2.1.1 (Int.toNat s8.1.2.2.2.1)) fun x10=>
       opt (zy (fun s11:((Int×(Int×(Int×(Int×(Int×Unit)))))×(Unit×Unit))=>
        bif (zh s11.1.2.2.2.2.1 ((x7.2.2.1.1.length:Nat):Int)) then bif (zg ((x7.2.2.1.1.length:Nat):Int) 0) then none
         else opt (atI x7.2.2.1.1 (Int.tmod (wrF .i64 ((wrF .i64 (s8.1.2.2.2.1+1))+s11.1.2.2.2.2.1)) ((x7.2.2.1.1.length:Nat):Int))) fun x12=>
          opt (gl x7.2.2.1.1 (Int.toNat (Int.tmod (wrF .i64 ((wrF .i64 (s8.1.2.2.2.1+1))+s11.1.2.2.2.2.1)) ((x7.2.2.1.1.length:Nat):Int)))) fun x13=>
          bif (zg ((x7.2.2.1.1.length:Nat):Int) 0) then none
          else opt (yT ((wrF .i64 ((wrF .i64 (s11.1.2.2.2.1 - (wrF .i64 (127*s11.1.2.2.1))))*1048576)),((wrF .i64 (s11.1.2.1*s11.1.2.2.1)),()))) fun x14=>
           some (.inr (((uv s11.1.1 (wrF .i64 ((wrF .i64 ((wrF .i64 ((wrF .i64 (x13.1+(wrF .i64 ((wrF .i64 (Int.tdiv (wrF .i64 ((wrF .i64 (s8.1.2.2.2.1+1))+s11.1.2.2.2.2.1)) ((x7.2.2.1.1.length:Nat):Int)))*a0.2))))+(jt (wrF .i64 (a2*a1)) x13.2))) - (wrF .i64 ((wrF .i64 (x10.1+x10.2)) - (jt (wrF .i64 (a2*a1)) x10.2))))) - x14.1))),(s11.1.2.1,(s11.1.2.2.1,((wrF .i64 (s11.1.2.2.2.1+(uv 0 (wrF .i64 (x13.2 - (wrF .i64 (a2*a1))))))),((wrF .i64 (s11.1.2.2.2.2.1+1)),()))))),((),())))
        else some (.inl (0,((s11.1.1,(s11.1.2.1,(s11.1.2.2.1,(s11.1.2.2.2.1,(s11.1.2.2.2.2.1,()))))),((),()))))) zH ((s8.1.1,(s8.1.2.1,(s8.1.2.2.1,(0,(0,()))))),((),()))) fun x15=>
       some (.inr ((x15.2.1.1,(x15.2.1.2.1,(x15.2.1.2.2.1,((wrF .i64 (s8.1.2.2.2.1+1)),())))),((),())))
      else some (.inl (0,((s8.1.1,(s8.1.2.1,(s8.1.2.2.1,(s8.1.2.2.2.1,())))),((),()))))) zH (((uv 0 (wrF .i64 (0 - x2.1))),((wrF .i64 (Int.tdiv (wrF .i64 (x1.1*1048576)) (wrF .i64 (a0.2*a1)))),(a1,(0,())))),((),()))) fun x16=>
     some ((x16.2.1.2.1,x16.2.1.1),(0,()))
    else opt (atI a0.1 x7.2.1.2.1) fun x17=>
     opt (zy (fun s18:(((Int×Int)×(Int×(Int×Unit)))×(((List (Int×Int))×Unit)×(Unit×(Unit×Unit))))=>
      bif (zh s18.1.2.2.1 ((a0.1.length:Nat):Int)) then bif (zg ((a0.1.length:Nat):Int) 0) then none
       else opt (atI a0.1 (Int.tmod (wrF .i64 ((wrF .i64 (x7.2.1.2.1+1))+s18.1.2.2.1)) ((a0.1.length:Nat):Int))) fun x19=>
        opt (jj (x19,())) fun x20=>
        bif x20.1 then opt (bif zg s18.1.1.2 0 then some (0,(((s18.1.2.1,s18.1.1.2),()),((),((),()))))
          else some (0,((s18.1.1,()),((),((),()))))) fun x21=>
         some (.inr (((x21.2.1.1.1,(wrF .i64 (x21.2.1.1.2+x19.2))),((wrF .i64 (s18.1.2.1+x19.2)),((wrF .i64 (s18.1.2.2.1+1)),()))),((s18.2.1.1,()),((),((),())))))
        else bif zh 0 s18.1.1.2 then bif (qW s18.2.1.1.length ((s18.1.1::[]).length) 16) then some (.inr (((0,0),((wrF .i64 (s18.1.2.1+x19.2)),((wrF .i64 (s18.1.2.2.1+1)),()))),(((s18.2.1.1++(s18.1.1::[])),()),((),((),())))))
          else none
         else some (.inr (((0,0),((wrF .i64 (s18.1.2.1+x19.2)),((wrF .i64 (s18.1.2.2.1+1)),()))),((s18.2.1.1,()),((),((),())))))
      else some (.inl (0,((s18.1.1,(s18.1.2.1,(s18.1.2.2.1,()))),((s18.2.1.1,()),((),((),()))))))) zH (((0,0),((wrF .i64 (x7.2.1.1+x17.2)),(0,()))),((x7.2.2.1.1,()),((),((),()))))) fun x22=>
     bif Nat.beq x22.1 0 then opt (zy (fun s23:((Int×(Int×(Int×(Int×Unit))))×(Unit×Unit))=>
       bif (zh s23.1.2.2.2.1 ((x22.2.2.1.1.length:Nat):Int)) then opt (atI x22.2.2.1.1 s23.1.2.2.2.1) fun x24=>
        opt (gl x22.2.2.1.1 (Int.toNat s23.1.2.2.2.1)) fun x25=>
        opt (zy (fun s26:((Int×(Int×(Int×(Int×(Int×Unit)))))×(Unit×Unit))=>
         bif (zh s26.1.2.2.2.2.1 ((x22.2.2.1.1.length:Nat):Int)) then bif (zg ((x22.2.2.1.1.length:Nat):Int) 0) then none
          else opt (atI x22.2.2.1.1 (Int.tmod (wrF .i64 ((wrF .i64 (s23.1.2.2.2.1+1))+s26.1.2.2.2.2.1)) ((x22.2.2.1.1.length:Nat):Int))) fun x27=>
           opt (gl x22.2.2.1.1 (Int.toNat (Int.tmod (wrF .i64 ((wrF .i64 (s23.1.2.2.2.1+1))+s26.1.2.2.2.2.1)) ((x22.2.2.1.1.length:Nat):Int)))) fun x28=>
           bif (zg ((x22.2.2.1.1.length:Nat):Int) 0) then none
           else opt (yT ((wrF .i64 ((wrF .i64 (s26.1.2.2.2.1 - (wrF .i64 (127*s26.1.2.2.1))))*1048576)),((wrF .i64 (s26.1.2.1*s26.1.2.2.1)),()))) fun x29=>
            some (.inr (((uv s26.1.1 (wrF .i64 ((wrF .i64 ((wrF .i64 ((wrF .i64 (x28.1+(wrF .i64 ((wrF .i64 (Int.tdiv (wrF .i64 ((wrF .i64 (s23.1.2.2.2.1+1))+s26.1.2.2.2.2.1)) ((x22.2.2.1.1.length:Nat):Int)))*a0.2))))+(jt (wrF .i64 (a2*a1)) x28.2))) - (wrF .i64 ((wrF .i64 (x25.1+x25.2)) - (jt (wrF .i64 (a2*a1)) x25.2))))) - x29.1))),(s26.1.2.1,(s26.1.2.2.1,((wrF .i64 (s26.1.2.2.2.1+(uv 0 (wrF .i64 (x28.2 - (wrF .i64 (a2*a1))))))),((wrF .i64 (s26.1.2.2.2.2.1+1)),()))))),((),())))
         else some (.inl (0,((s26.1.1,(s26.1.2.1,(s26.1.2.2.1,(s26.1.2.2.2.1,(s26.1.2.2.2.2.1,()))))),((),()))))) zH ((s23.1.1,(s23.1.2.1,(s23.1.2.2.1,(0,(0,()))))),((),()))) fun x30=>
        some (.inr ((x30.2.1.1,(x30.2.1.2.1,(x30.2.1.2.2.1,((wrF .i64 (s23.1.2.2.2.1+1)),())))),((),())))
       else some (.inl (0,((s23.1.1,(s23.1.2.1,(s23.1.2.2.1,(s23.1.2.2.2.1,())))),((),()))))) zH (((uv 0 (wrF .i64 (0 - x2.1))),((wrF .i64 (Int.tdiv (wrF .i64 (x1.1*1048576)) (wrF .i64 (a0.2*a1)))),(a1,(0,())))),((),()))) fun x31=>
      some ((x31.2.1.2.1,x31.2.1.1),(0,()))
     else opt (zy (fun s32:((Int×(Int×(Int×(Int×Unit))))×(Unit×Unit))=>
       bif (zh s32.1.2.2.2.1 ((x22.2.2.1.1.length:Nat):Int)) then opt (atI x22.2.2.1.1 s32.1.2.2.2.1) fun x33=>
        opt (gl x22.2.2.1.1 (Int.toNat s32.1.2.2.2.1)) fun x34=>
        opt (zy (fun s35:((Int×(Int×(Int×(Int×(Int×Unit)))))×(Unit×Unit))=>
         bif (zh s35.1.2.2.2.2.1 ((x22.2.2.1.1.length:Nat):Int)) then bif (zg ((x22.2.2.1.1.length:Nat):Int) 0) then none
          else opt (atI x22.2.2.1.1 (Int.tmod (wrF .i64 ((wrF .i64 (s32.1.2.2.2.1+1))+s35.1.2.2.2.2.1)) ((x22.2.2.1.1.length:Nat):Int))) fun x36=>
           opt (gl x22.2.2.1.1 (Int.toNat (Int.tmod (wrF .i64 ((wrF .i64 (s32.1.2.2.2.1+1))+s35.1.2.2.2.2.1)) ((x22.2.2.1.1.length:Nat):Int)))) fun x37=>
           bif (zg ((x22.2.2.1.1.length:Nat):Int) 0) then none
           else opt (yT ((wrF .i64 ((wrF .i64 (s35.1.2.2.2.1 - (wrF .i64 (127*s35.1.2.2.1))))*1048576)),((wrF .i64 (s35.1.2.1*s35.1.2.2.1)),()))) fun x38=>
            some (.inr (((uv s35.1.1 (wrF .i64 ((wrF .i64 ((wrF .i64 ((wrF .i64 (x37.1+(wrF .i64 ((wrF .i64 (Int.tdiv (wrF .i64 ((wrF .i64 (s32.1.2.2.2.1+1))+s35.1.2.2.2.2.1)) ((x22.2.2.1.1.length:Nat):Int)))*a0.2))))+(jt (wrF .i64 (a2*a1)) x37.2))) - (wrF .i64 ((wrF .i64 (x34.1+x34.2)) - (jt (wrF .i64 (a2*a1)) x34.2))))) - x38.1))),(s35.1.2.1,(s35.1.2.2.1,((wrF .i64 (s35.1.2.2.2.1+(uv 0 (wrF .i64 (x37.2 - (wrF .i64 (a2*a1))))))),((wrF .i64 (s35.1.2.2.2.2.1+1)),()))))),((),())))
         else some (.inl (0,((s35.1.1,(s35.1.2.1,(s35.1.2.2.1,(s35.1.2.2.2.1,(s35.1.2.2.2.2.1,()))))),((),()))))) zH ((s32.1.1,(s32.1.2.1,(s32.1.2.2.1,(0,(0,()))))),((),()))) fun x39=>
        some (.inr ((x39.2.1.1,(x39.2.1.2.1,(x39.2.1.2.2.1,((wrF .i64 (s32.1.2.2.2.1+1)),())))),((),())))
       else some (.inl (0,((s32.1.1,(s32.1.2.1,(s32.1.2.2.1,(s32.1.2.2.2.1,())))),((),()))))) zH (((uv 0 (wrF .i64 (0 - x2.1))),((wrF .i64 (Int.tdiv (wrF .i64 (x1.1*1048576)) (wrF .i64 (a0.2*a1)))),(a1,(0,())))),((),()))) fun x40=>
      some ((x40.2.1.2.1,x40.2.1.1),(0,()))
abbrev YW:Type:=(qq×Int×Int×Unit)→Option (wO×Int×Unit)
def znm:VW→Yq→WU→Zk→YW:=fun Qd gy yT jj=>sF Tryz.prog [(139,⟨ga,gb,Qd⟩),(140,⟨vT,vU,gy⟩),(142,⟨vC,vD,yT⟩),(180,⟨xD,xE,jj⟩)] zwY (zN []) 30 101 xM xN
theorem zzt (Qd) (gy) (yT) (jj) (a0) (a1) (a2):znm Qd gy yT jj (a0,a1,a2,())=Ky Qd gy yT jj a0 a1 a2:=by kernel_rfl
def wJ:YW:=znm ZW vW vE xF
theorem zhC:Con.Ok Tryz.prog 101 ⟨xM,xN,wJ⟩:=zv (zd znf (zd zkl (zd zi9 (zd zcc zk)))) zo (by kernel_rfl)
theorem zbt (a0) (a1) (a2):wJ (a0,a1,a2,())=Ky ZW vW vE xF a0 a1 a2:=zzt ZW vW vE xF a0 a1 a2
abbrev uz:List VT:=[⟨false,(.list zq)⟩]
abbrev uA:List VT:=[⟨true,zq⟩,⟨false,I⟩]
def zwZ:zR:=zM [cdF zq] [] [] [] [84]
def zgo (qo:xU) (a0:(List qC)):Option (qC×Int×Unit):=
 bif (zg ((a0.length:Nat):Int) 0) then some ((0,0),(2,()))
 else bif (zh 12 ((a0.length:Nat):Int)) then some ((0,0),(3,()))
  else opt (zy (fun s0:(((Int×Int)×((Int×Int)×(Int×(Int×Unit))))×Unit)=>
    bif (zh s0.1.2.2.2.1 ((a0.length:Nat):Int)) then opt (atI a0 s0.1.2.2.2.1) fun x1=>
     opt (qo (x1,())) fun x2=>
     bif !(zg x2.1 0) then some (.inl (1,(((0,0),(s0.1.2.1,(x2.1,(s0.1.2.2.2.1,())))),())))
     else some (.inr ((s0.1.1,(((wrF .i64 (s0.1.2.1.1+x1.1)),(wrF .i64 (s0.1.2.1.2+x1.2))),(s0.1.2.2.1,((wrF .i64 (s0.1.2.2.2.1+1)),())))),()))
    else some (.inl (0,((s0.1.1,(s0.1.2.1,(s0.1.2.2.1,(s0.1.2.2.2.1,())))),())))) zH (((0,0),((0,0),(0,(0,())))),())) fun x3=>
   bif Nat.beq x3.1 0 then opt (qo (x3.2.1.2.1,())) fun x4=>
    bif !(zg x4.1 0) then some ((0,0),(6,()))
    else some (x3.2.1.2.1,(0,()))
   else some (x3.2.1.1,(x3.2.1.2.2.1,()))
abbrev YX:Type:=((List qC)×Unit)→Option (qC×Int×Unit)
def znn:xU→YX:=fun qo=>sF Tryz.prog [(84,⟨wS,wT,qo⟩)] zwZ (zN []) 30 102 uz uA
theorem zzu (qo) (a0):znn qo (a0,())=zgo qo a0:=by kernel_rfl
def yS:YX:=znn jS
theorem zhD:Con.Ok Tryz.prog 102 ⟨uz,uA,yS⟩:=zv (zd Yo zk) zo (by kernel_rfl)
theorem zsO (a0):yS (a0,())=zgo jS a0:=zzu jS a0
abbrev uP:List VT:=[⟨true,xr⟩]
abbrev uQ:List VT:=[⟨false,I⟩]
def zuL:zR:=zM [cdF xr] [] [] [] []
def zel (a0:wO):Option (Int×Unit):=
 opt (bif zh a0.1 1 then some (1,((140,()),()))
  else bif zh 2097152 a0.1 then some (1,((140,()),()))
   else bif zh a0.2 0 then some (1,((140,()),()))
    else bif zh 268435456 a0.2 then some (1,((140,()),()))
     else some (0,((0,()),()))) fun x0=>
 bif Nat.beq x0.1 0 then some (0,())
 else some (x0.2.1.1,())
abbrev We:Type:=(wO×Unit)→Option (Int×Unit)
def zk7:We:=sF Tryz.prog [] zuL (zN []) 30 59 uP uQ
theorem zw0 (a0):zk7 (a0,())=zel a0:=by kernel_rfl
def uR:We:=zk7
theorem zgp:Con.Ok Tryz.prog 59 ⟨uP,uQ,uR⟩:=zv zk zo (by kernel_rfl)
theorem zqP (a0):uR (a0,())=zel  a0:=zw0  a0
abbrev uS:List VT:=[⟨false,(.list I)⟩]
abbrev uT:List VT:=[⟨false,.bool⟩]
def zuM:zR:=zM [] [] [] [] []
def zem (a0:(List Int)):Option (Bool×Unit):=
 opt (zy (fun s0:((Bool×(Int×Unit))×Unit)=>
  bif (zh s0.1.2.1 ((a0.length:Nat):Int)) then opt (atI a0 s0.1.2.1) fun x1=>
   opt (bif zh x1 (-1125899906842624) then some (1,((false,()),()))
    else bif zh 1125899906842624 x1 then some (1,((false,()),()))
     else some (0,((s0.1.1,()),()))) fun x2=>
   bif Nat.beq x2.1 0 then some (.inr ((x2.2.1.1,((wrF .i64 (s0.1.2.1+1)),())),()))
   else some (.inl (1,((x2.2.1.1,(s0.1.2.1,())),())))
  else some (.inl (0,((s0.1.1,(s0.1.2.1,())),())))) zH ((false,(0,())),())) fun x3=>
 bif Nat.beq x3.1 0 then some (true,())
 else some (x3.2.1.1,())
abbrev Wf:Type:=((List Int)×Unit)→Option (Bool×Unit)
def zk8:Wf:=sF Tryz.prog [] zuM (zN []) 30 182 uS uT
theorem zw1 (a0):zk8 (a0,())=zem a0:=by kernel_rfl
def uU:Wf:=zk8
theorem zgq:Con.Ok Tryz.prog 182 ⟨uS,uT,uU⟩:=zv zk zo (by kernel_rfl)
theorem zqQ (a0):uU (a0,())=zem  a0:=zw1  a0
abbrev gf:List VT:=[⟨false,I⟩]
abbrev gg:List VT:=[⟨false,(.int .u64)⟩]
def zqR:zR:=zM [] [] [] [] []
def VX (a0:Int):Option (Int×Unit):=
 bif zh a0 0 then some ((wrF .u64 (wrF .i64 (0 - a0))),())
 else some ((wrF .u64 a0),())
abbrev VY:Type:=(Int×Unit)→Option (Int×Unit)
def zhE:VY:=sF Tryz.prog [] zqR (zN []) 30 184 gf gg
theorem zsP (a0):zhE (a0,())=VX a0:=by kernel_rfl
def gh:VY:=zhE
theorem zno:Con.Ok Tryz.prog 184 ⟨gf,gg,gh⟩:=zv zk zo (by kernel_rfl)
theorem zdK (a0):gh (a0,())=VX  a0:=zsP  a0
abbrev vX:List VT:=[⟨false,(.int .u64)⟩,⟨false,(.int .u64)⟩]
abbrev vY:List VT:=[⟨false,(.int .u64)⟩,⟨false,(.int .u64)⟩]
def znp:zR:=zM [] [] [] [] []
def Uo (a0:Int) (a1:Int):Option (Int×Int×Unit):=
 some ((wrF .u64 ((wrF .u64 ((wrF .u64 ((wk .u64 a0 32)*(wk .u64 a1 32)))+(wk .u64 (wrF .u64 ((wrF .u64 ((wk .u64 a0 32)*(kU .and .u64 a1 4294967295)))+(wk .u64 (wrF .u64 ((kU .and .u64 a0 4294967295)*(kU .and .u64 a1 4294967295))) 32))) 32)))+(wk .u64 (wrF .u64 ((kU .and .u64 (wrF .u64 ((wrF .u64 ((wk .u64 a0 32)*(kU .and .u64 a1 4294967295)))+(wk .u64 (wrF .u64 ((kU .and .u64 a0 4294967295)*(kU .and .u64 a1 4294967295))) 32))) 4294967295)+(wrF .u64 ((kU .and .u64 a0 4294967295)*(wk .u64 a1 32))))) 32))),((wrF .u64 (a0*a1)),()))
abbrev Yr:Type:=(Int×Int×Unit)→Option (Int×Int×Unit)
def zeQ:Yr:=sF Tryz.prog [] znp (zN []) 30 183 vX vY
theorem zoT (a0) (a1):zeQ (a0,a1,())=Uo a0 a1:=by kernel_rfl
def gv:Yr:=zeQ
theorem zkm:Con.Ok Tryz.prog 183 ⟨vX,vY,gv⟩:=zv zk zo (by kernel_rfl)
theorem zkn (a0) (a1):gv (a0,a1,())=Uo  a0 a1:=zoT  a0 a1
abbrev vZ:List VT:=[⟨false,(.int .u64)⟩]
abbrev ud:List VT:=[⟨false,I⟩]
def znq:zR:=zM [] [] [] [] []
def zeR:(Int×Unit)→Option (Int×Unit):=sF Tryz.prog [] znq (zN []) 30 196 vZ ud
theorem zko:Con.Ok Tryz.prog 196 ⟨vZ,ud,zeR⟩:=zv zk zo (by kernel_rfl)
abbrev wC:List VT:=[⟨false,(.int .u64)⟩]
abbrev wD:List VT:=[⟨false,I⟩]
def zdL:zR:=zM [] [] [] [] [196]
def uV:(Int×Unit)→Option (Int×Unit):=sF Tryz.prog [(196,⟨vZ,ud,zeR⟩)] zdL (zN []) 30 193 wC wD
theorem zb4:Con.Ok Tryz.prog 193 ⟨wC,wD,uV⟩:=zv (zd zko zk) zo (by kernel_rfl)
abbrev ue:List VT:=[⟨false,(.int .u64)⟩,⟨false,(.int .u64)⟩,⟨false,(.int .u64)⟩]
abbrev uf:List VT:=[⟨false,(.int .u64)⟩,⟨false,(.int .u64)⟩]
def znr:zR:=zM [] [] [] [] [193]
def Up (yG:(Int×Unit)→Option (Int×Unit)) (a0:Int) (a1:Int) (a2:Int):Option (Int×Int×Unit):=
 opt (bif zg a2 0 then none
  else some (0,((),()))) fun x0=>
 opt (bif !(zh a0 a2) then none
  else some (0,((),()))) fun x1=>
 bif zg a0 0 then bif zg a2 0 then none
  else bif zg a2 0 then none
   else some ((wrF .u64 (Int.tdiv a1 a2)),((Int.tmod a1 a2),()))
 else opt (yG (a2,())) fun x2=>
  bif zh (wrF .u64 x2.1) 0 then none
  else bif zh (wrF .u64 x2.1) 0 then none
   else bif (zh (wrF .u64 (64 - (wrF .u64 x2.1))) 0) then none
    else bif zh (wrF .u64 x2.1) 0 then none
     else bif (zg (wk .u64 (yW .u64 a2 (wrF .u64 x2.1)) 32) 0) then none
      else opt (zy (fun s3:((Int×(Int×Unit))×Unit)=>
        bif !(zh s3.1.1 4294967296) then bif (!(zh (wrF .u64 (s3.1.2.1+(wk .u64 (yW .u64 a2 (wrF .u64 x2.1)) 32))) 4294967296)) then some (.inl (0,(((wrF .u64 (s3.1.1 - 1)),((wrF .u64 (s3.1.2.1+(wk .u64 (yW .u64 a2 (wrF .u64 x2.1)) 32))),())),())))
         else some (.inr (((wrF .u64 (s3.1.1 - 1)),((wrF .u64 (s3.1.2.1+(wk .u64 (yW .u64 a2 (wrF .u64 x2.1)) 32))),())),()))
        else bif (zh (wrF .u64 ((wrF .u64 (4294967296*s3.1.2.1))+(wk .u64 (yW .u64 a1 (wrF .u64 x2.1)) 32))) (wrF .u64 (s3.1.1*(kU .and .u64 (yW .u64 a2 (wrF .u64 x2.1)) 4294967295)))) then bif (!(zh (wrF .u64 (s3.1.2.1+(wk .u64 (yW .u64 a2 (wrF .u64 x2.1)) 32))) 4294967296)) then some (.inl (0,(((wrF .u64 (s3.1.1 - 1)),((wrF .u64 (s3.1.2.1+(wk .u64 (yW .u64 a2 (wrF .u64 x2.1)) 32))),())),())))
          else some (.inr (((wrF .u64 (s3.1.1 - 1)),((wrF .u64 (s3.1.2.1+(wk .u64 (yW .u64 a2 (wrF .u64 x2.1)) 32))),())),()))
         else some (.inl (0,((s3.1.1,(s3.1.2.1,())),())))) zH (((wrF .u64 (Int.tdiv (kU .or .u64 (yW .u64 a0 (wrF .u64 x2.1)) (wk .u64 a1 (wrF .u64 (64 - (wrF .u64 x2.1))))) (wk .u64 (yW .u64 a2 (wrF .u64 x2.1)) 32))),((wrF .u64 ((kU .or .u64 (yW .u64 a0 (wrF .u64 x2.1)) (wk .u64 a1 (wrF .u64 (64 - (wrF .u64 x2.1))))) - (wrF .u64 ((wrF .u64 (Int.tdiv (kU .or .u64 (yW .u64 a0 (wrF .u64 x2.1)) (wk .u64 a1 (wrF .u64 (64 - (wrF .u64 x2.1))))) (wk .u64 (yW .u64 a2 (wrF .u64 x2.1)) 32)))*(wk .u64 (yW .u64 a2 (wrF .u64 x2.1)) 32))))),())),())) fun x4=>
       bif (zg (wk .u64 (yW .u64 a2 (wrF .u64 x2.1)) 32) 0) then none
       else opt (zy (fun s5:((Int×(Int×Unit))×Unit)=>
         bif !(zh s5.1.1 4294967296) then bif (!(zh (wrF .u64 (s5.1.2.1+(wk .u64 (yW .u64 a2 (wrF .u64 x2.1)) 32))) 4294967296)) then some (.inl (0,(((wrF .u64 (s5.1.1 - 1)),((wrF .u64 (s5.1.2.1+(wk .u64 (yW .u64 a2 (wrF .u64 x2.1)) 32))),())),())))
          else some (.inr (((wrF .u64 (s5.1.1 - 1)),((wrF .u64 (s5.1.2.1+(wk .u64 (yW .u64 a2 (wrF .u64 x2.1)) 32))),())),()))
         else bif (zh (wrF .u64 ((wrF .u64 (4294967296*s5.1.2.1))+(kU .and .u64 (yW .u64 a1 (wrF .u64 x2.1)) 4294967295))) (wrF .u64 (s5.1.1*(kU .and .u64 (yW .u64 a2 (wrF .u64 x2.1)) 4294967295)))) then bif (!(zh (wrF .u64 (s5.1.2.1+(wk .u64 (yW .u64 a2 (wrF .u64 x2.1)) 32))) 4294967296)) then some (.inl (0,(((wrF .u64 (s5.1.1 - 1)),((wrF .u64 (s5.1.2.1+(wk .u64 (yW .u64 a2 (wrF .u64 x2.1)) 32))),())),())))
           else some (.inr (((wrF .u64 (s5.1.1 - 1)),((wrF .u64 (s5.1.2.1+(wk .u64 (yW .u64 a2 (wrF .u64 x2.1)) 32))),())),()))
          else some (.inl (0,((s5.1.1,(s5.1.2.1,())),())))) zH (((wrF .u64 (Int.tdiv (wrF .u64 ((wrF .u64 ((wrF .u64 ((kU .or .u64 (yW .u64 a0 (wrF .u64 x2.1)) (wk .u64 a1 (wrF .u64 (64 - (wrF .u64 x2.1)))))*4294967296))+(wk .u64 (yW .u64 a1 (wrF .u64 x2.1)) 32))) - (wrF .u64 (x4.2.1.1*(yW .u64 a2 (wrF .u64 x2.1)))))) (wk .u64 (yW .u64 a2 (wrF .u64 x2.1)) 32))),((wrF .u64 ((wrF .u64 ((wrF .u64 ((wrF .u64 ((kU .or .u64 (yW .u64 a0 (wrF .u64 x2.1)) (wk .u64 a1 (wrF .u64 (64 - (wrF .u64 x2.1)))))*4294967296))+(wk .u64 (yW .u64 a1 (wrF .u64 x2.1)) 32))) - (wrF .u64 (x4.2.1.1*(yW .u64 a2 (wrF .u64 x2.1)))))) - (wrF .u64 ((wrF .u64 (Int.tdiv (wrF .u64 ((wrF .u64 ((wrF .u64 ((kU .or .u64 (yW .u64 a0 (wrF .u64 x2.1)) (wk .u64 a1 (wrF .u64 (64 - (wrF .u64 x2.1)))))*4294967296))+(wk .u64 (yW .u64 a1 (wrF .u64 x2.1)) 32))) - (wrF .u64 (x4.2.1.1*(yW .u64 a2 (wrF .u64 x2.1)))))) (wk .u64 (yW .u64 a2 (wrF .u64 x2.1)) 32)))*(wk .u64 (yW .u64 a2 (wrF .u64 x2.1)) 32))))),())),())) fun x6=>
        bif zh (wrF .u64 x2.1) 0 then none
        else some ((wrF .u64 ((wrF .u64 (x4.2.1.1*4294967296))+x6.2.1.1)),((wk .u64 (wrF .u64 ((wrF .u64 ((wrF .u64 ((wrF .u64 ((wrF .u64 ((wrF .u64 ((kU .or .u64 (yW .u64 a0 (wrF .u64 x2.1)) (wk .u64 a1 (wrF .u64 (64 - (wrF .u64 x2.1)))))*4294967296))+(wk .u64 (yW .u64 a1 (wrF .u64 x2.1)) 32))) - (wrF .u64 (x4.2.1.1*(yW .u64 a2 (wrF .u64 x2.1))))))*4294967296))+(kU .and .u64 (yW .u64 a1 (wrF .u64 x2.1)) 4294967295))) - (wrF .u64 (x6.2.1.1*(yW .u64 a2 (wrF .u64 x2.1)))))) (wrF .u64 x2.1)),()))
abbrev Ys:Type:=(Int×Int×Int×Unit)→Option (Int×Int×Unit)
def zeS:((Int×Unit)→Option (Int×Unit))→Ys:=fun yG=>sF Tryz.prog [(193,⟨wC,wD,yG⟩)] znr (zN []) 30 185 ue uf
theorem zoU (yG) (a0) (a1) (a2):zeS yG (a0,a1,a2,())=Up yG a0 a1 a2:=by kernel_rfl
def gw:Ys:=zeS uV
theorem zkp:Con.Ok Tryz.prog 185 ⟨ue,uf,gw⟩:=zv (zd zb4 zk) zo (by kernel_rfl)
theorem zkq (a0) (a1) (a2):gw (a0,a1,a2,())=Up uV a0 a1 a2:=zoU uV a0 a1 a2
abbrev Qt:List VT:=[⟨false,I⟩]
abbrev Qu:List VT:=[⟨false,I⟩,⟨false,.bool⟩]
def zuN:zR:=zM [] [] [] [] [182]
def zen (yH:Wf) (a0:Int):Option (Int×Bool×Unit):=
 opt (yH ((a0::[]),())) fun x0=>
 bif !x0.1 then some (0,(false,()))
 else some (a0,(true,()))
abbrev Gk:Type:=(Int×Unit)→Option (Int×Bool×Unit)
def zk9:Wf→Gk:=fun yH=>sF Tryz.prog [(182,⟨uS,uT,yH⟩)] zuN (zN []) 30 186 Qt Qu
theorem zw2 (yH) (a0):zk9 yH (a0,())=zen yH a0:=by kernel_rfl
def Wg:Gk:=zk9 uU
theorem zqS:Con.Ok Tryz.prog 186 ⟨Qt,Qu,Wg⟩:=zv (zd zgq zk) zo (by kernel_rfl)
theorem zqT (a0):Wg (a0,())=zen uU a0:=zw2 uU a0
abbrev Jr:List VT:=[⟨false,I⟩,⟨false,I⟩,⟨false,I⟩]
abbrev Js:List VT:=[⟨false,I⟩,⟨false,.bool⟩]
def zw3:zR:=zM [] [] [] [] [182,184,183,185,186]
def zgr (yH:Wf) (gr:VY) (gz:Yr) (gC:Ys) (Ww:Gk) (a0:Int) (a1:Int) (a2:Int):Option (Int×Bool×Unit):=
 opt (opt (yH ((a0::(a1::(a2::[]))),())) fun x0=>
  bif !x0.1 then some (1,((0,(false,())),()))
  else bif zh a2 1 then some (1,((0,(false,())),()))
   else some (0,((0,(false,())),()))) fun x1=>
 bif Nat.beq x1.1 0 then opt (gr (a0,())) fun x2=>
  opt (gr (a1,())) fun x3=>
  opt (gz (x2.1,(x3.1,()))) fun x4=>
  bif (!(zh x4.1 (wrF .u64 a2))) then some (0,(false,()))
  else opt (gC (x4.1,(x4.2.1,((wrF .u64 a2),())))) fun x5=>
   bif zh 1125899906842624 x5.1 then some (0,(false,()))
   else opt (bif (!((zh a0 0) == (zh a1 0))) then opt (bif !(zg x5.2.1 0) then some (0,(((wrF .i64 ((wrF .i64 (0 - (wrF .i64 x5.1))) - 1)),()),()))
       else some (0,(((wrF .i64 (0 - (wrF .i64 x5.1))),()),()))) fun x6=>
      some (0,((x6.2.1.1,()),()))
     else some (0,(((wrF .i64 x5.1),()),()))) fun x7=>
    opt (Ww (x7.2.1.1,())) fun x8=>
    some (x8.1,(x8.2.1,()))
 else some (x1.2.1.1,(x1.2.1.2.1,()))
abbrev zbu:Type:=(Int×Int×Int×Unit)→Option (Int×Bool×Unit)
def zns:Wf→VY→Yr→Ys→Gk→zbu:=fun yH gr gz gC Ww=>sF Tryz.prog [(182,⟨uS,uT,yH⟩),(184,⟨gf,gg,gr⟩),(183,⟨vX,vY,gz⟩),(185,⟨ue,uf,gC⟩),(186,⟨Qt,Qu,Ww⟩)] zw3 (zN []) 30 171 Jr Js
theorem zzv (yH) (gr) (gz) (gC) (Ww) (a0) (a1) (a2):zns yH gr gz gC Ww (a0,a1,a2,())=zgr yH gr gz gC Ww a0 a1 a2:=by kernel_rfl
def YY:zbu:=zns uU gh gv gw Wg
theorem zsQ:Con.Ok Tryz.prog 171 ⟨Jr,Js,YY⟩:=zv (zd zgq (zd zno (zd zkm (zd zkp (zd zqS zk))))) zo (by kernel_rfl)
theorem zsR (a0) (a1) (a2):YY (a0,a1,a2,())=zgr uU gh gv gw Wg a0 a1 a2:=zzv uU gh gv gw Wg a0 a1 a2
abbrev gi:List VT:=[⟨false,I⟩,⟨false,I⟩,⟨false,I⟩]
abbrev gk:List VT:=[⟨false,I⟩]
def zw4:zR:=zM [] [] [] [] [171]
def zgs (Xz:zbu) (a0:Int) (a1:Int) (a2:Int):Option (Int×Unit):=
 opt (Xz ((wrF .i64 (0 - a0)),(a1,(a2,())))) fun x0=>
 some ((wrF .i64 (0 - x0.1)),())
abbrev YZ:Type:=(Int×Int×Int×Unit)→Option (Int×Unit)
def znt:zbu→YZ:=fun Xz=>sF Tryz.prog [(171,⟨Jr,Js,Xz⟩)] zw4 (zN []) 30 150 gi gk
theorem zzw (Xz) (a0) (a1) (a2):znt Xz (a0,a1,a2,())=zgs Xz a0 a1 a2:=by kernel_rfl
def uB:YZ:=znt YY
theorem zhF:Con.Ok Tryz.prog 150 ⟨gi,gk,uB⟩:=zv (zd zsQ zk) zo (by kernel_rfl)
theorem zsS (a0) (a1) (a2):uB (a0,a1,a2,())=zgs YY a0 a1 a2:=zzw YY a0 a1 a2
abbrev ko:List VT:=[⟨false,(.list zq)⟩,⟨false,I⟩]
abbrev kp:List VT:=[⟨false,I⟩,⟨false,.bool⟩]
def zoV:zR:=zM [cdF zq] [] [] [] [150]
def GU (yU:YZ) (a0:(List qC)) (a1:Int):Option (Int×Bool×Unit):=
 opt (zy (fun s0:((Int×(Bool×(Int×Unit)))×(Unit×(Unit×Unit)))=>
  bif (zh s0.1.2.2.1 ((a0.length:Nat):Int)) then opt (atI a0 s0.1.2.2.1) fun x1=>
   bif zh a1 x1.2 then some (.inr ((s0.1.1,(s0.1.2.1,((wrF .i64 (s0.1.2.2.1+1)),()))),((),((),()))))
   else opt (yU (x1.1,(1048576,(a1,())))) fun x2=>
    opt (bif !s0.1.2.1 then some (0,((x2.1,(true,())),((),())))
     else bif zh x2.1 s0.1.1 then some (0,((x2.1,(true,())),((),())))
      else some (0,((s0.1.1,(s0.1.2.1,())),((),())))) fun x3=>
    opt (zy (fun s4:((Int×(Bool×(Int×Unit)))×(Unit×(Unit×Unit)))=>
     bif (zh s4.1.2.2.1 ((a0.length:Nat):Int)) then opt (atI a0 s4.1.2.2.1) fun x5=>
      bif !(zh a1 x5.2) then some (.inr ((s4.1.1,(s4.1.2.1,((wrF .i64 (s4.1.2.2.1+1)),()))),((),((),()))))
      else bif !(zh x5.1 x1.1) then some (.inr ((s4.1.1,(s4.1.2.1,((wrF .i64 (s4.1.2.2.1+1)),()))),((),((),()))))
       else opt (yU ((wrF .i64 ((wrF .i64 ((wrF .i64 (x5.2 - a1))*x1.1))+(wrF .i64 ((wrF .i64 (a1 - x1.2))*x5.1)))),(1048576,((wrF .i64 (a1*(wrF .i64 (x5.2 - x1.2)))),())))) fun x6=>
        opt (bif !s4.1.2.1 then some (0,((x6.1,(true,())),((),())))
         else bif zh x6.1 s4.1.1 then some (0,((x6.1,(true,())),((),())))
          else some (0,((s4.1.1,(s4.1.2.1,())),((),())))) fun x7=>
        some (.inr ((x7.2.1.1,(x7.2.1.2.1,((wrF .i64 (s4.1.2.2.1+1)),()))),((),((),()))))
     else some (.inl (0,((s4.1.1,(s4.1.2.1,(s4.1.2.2.1,()))),((),((),())))))) zH ((x3.2.1.1,(x3.2.1.2.1,(0,()))),((),((),())))) fun x8=>
    bif Nat.beq x8.1 0 then some (.inr ((x8.2.1.1,(x8.2.1.2.1,((wrF .i64 (s0.1.2.2.1+1)),()))),((),((),()))))
    else some (.inl (1,((x8.2.1.1,(x8.2.1.2.1,(s0.1.2.2.1,()))),((),((),())))))
  else some (.inl (0,((s0.1.1,(s0.1.2.1,(s0.1.2.2.1,()))),((),((),())))))) zH ((0,(false,(0,()))),((),((),())))) fun x9=>
 bif Nat.beq x9.1 0 then some (x9.2.1.1,(x9.2.1.2.1,()))
 else some (x9.2.1.1,(x9.2.1.2.1,()))
abbrev XZ:Type:=((List qC)×Int×Unit)→Option (Int×Bool×Unit)
def zgt:YZ→XZ:=fun yU=>sF Tryz.prog [(150,⟨gi,gk,yU⟩)] zoV (zN []) 30 148 ko kp
theorem zqU (yU) (a0) (a1):zgt yU (a0,a1,())=GU yU a0 a1:=by kernel_rfl
def Zl:XZ:=zgt uB
theorem zlJ:Con.Ok Tryz.prog 148 ⟨ko,kp,Zl⟩:=zv (zd zhF zk) zo (by kernel_rfl)
theorem zlK (a0) (a1):Zl (a0,a1,())=GU uB a0 a1:=zqU uB a0 a1
abbrev vH:List VT:=[⟨false,(.list zq)⟩,⟨true,xr⟩]
abbrev vI:List VT:=[⟨false,I⟩,⟨false,I⟩]
def zuO:zR:=zM [cdF xr] [] [⟨2,30,some 2,zq,false⟩,⟨5,30,some 2,zq,false⟩] [] [84,59,148]
def zeo (qo:xU) (wZ:We) (yY:XZ) (a0:(List qC)) (a1:wO):Option (Int×Int×Unit):=
 bif (zg ((a0.length:Nat):Int) 0) then some (0,(2,()))
 else bif (zh 12 ((a0.length:Nat):Int)) then some (0,(3,()))
  else opt (zy (fun s0:((Int×(Int×Unit))×Unit)=>
    bif (zh s0.1.2.1 ((a0.length:Nat):Int)) then opt (atI a0 s0.1.2.1) fun x1=>
     opt (qo (x1,())) fun x2=>
     bif !(zg x2.1 0) then some (.inl (1,((x2.1,(s0.1.2.1,())),())))
     else some (.inr ((s0.1.1,((wrF .i64 (s0.1.2.1+1)),())),()))
    else some (.inl (0,((s0.1.1,(s0.1.2.1,())),())))) zH ((0,(0,())),())) fun x3=>
   bif Nat.beq x3.1 0 then opt (wZ (a1,())) fun x4=>
    bif !(zg x4.1 0) then bif !(zg x4.1 0) then some (0,(x4.1,()))
     else opt (yY (a0,(a1.1,()))) fun x5=>
      bif !x5.2.1 then some (0,(141,()))
      else some ((wrF .i64 (a1.2+x5.1)),(0,()))
    else opt (yY (a0,(a1.1,()))) fun x6=>
     bif !x6.2.1 then some (0,(141,()))
     else some ((wrF .i64 (a1.2+x6.1)),(0,()))
   else bif !(zg x3.2.1.1 0) then bif !(zg x3.2.1.1 0) then some (0,(x3.2.1.1,()))
     else opt (yY (a0,(a1.1,()))) fun x7=>
      bif !x7.2.1 then some (0,(141,()))
      else some ((wrF .i64 (a1.2+x7.1)),(0,()))
    else opt (wZ (a1,())) fun x8=>
     bif !(zg x8.1 0) then bif !(zg x8.1 0) then some (0,(x8.1,()))
      else opt (yY (a0,(a1.1,()))) fun x9=>
       bif !x9.2.1 then some (0,(141,()))
       else some ((wrF .i64 (a1.2+x9.1)),(0,()))
     else opt (yY (a0,(a1.1,()))) fun x10=>
      bif !x10.2.1 then some (0,(141,()))
      else some ((wrF .i64 (a1.2+x10.1)),(0,()))
abbrev Wh:Type:=((List qC)×wO×Unit)→Option (Int×Int×Unit)
def zla:xU→We→XZ→Wh:=fun qo wZ yY=>sF Tryz.prog [(84,⟨wS,wT,qo⟩),(59,⟨uP,uQ,wZ⟩),(148,⟨ko,kp,yY⟩)] zuO (zN []) 30 103 vH vI
theorem zw5 (qo) (wZ) (yY) (a0) (a1):zla qo wZ yY (a0,a1,())=zeo qo wZ yY a0 a1:=by kernel_rfl
def wX:Wh:=zla jS uR Zl
theorem zgu:Con.Ok Tryz.prog 103 ⟨vH,vI,wX⟩:=zv (zd Yo (zd zgp (zd zlJ zk))) zo (by kernel_rfl)
theorem zqV (a0) (a1):wX (a0,a1,())=zeo jS uR Zl a0 a1:=zw5 jS uR Zl a0 a1
abbrev ug:List VT:=[⟨true,zq⟩,⟨true,xr⟩]
abbrev uh:List VT:=[⟨false,I⟩]
def znu:zR:=zM [cdF zq] [] [] [] [84,59]
def Uq (qo:xU) (wZ:We) (a0:qC) (a1:wO):Option (Int×Unit):=
 opt (qo (a0,())) fun x0=>
 bif !(zg x0.1 0) then some (x0.1,())
 else opt (wZ (a1,())) fun x1=>
  bif !(zg x1.1 0) then some (x1.1,())
  else bif zh a1.1 a0.2 then some (141,())
   else some (0,())
abbrev Yt:Type:=(qC×wO×Unit)→Option (Int×Unit)
def zeT:xU→We→Yt:=fun qo wZ=>sF Tryz.prog [(84,⟨wS,wT,qo⟩),(59,⟨uP,uQ,wZ⟩)] znu (zN []) 30 149 ug uh
theorem zoW (qo) (wZ) (a0) (a1):zeT qo wZ (a0,a1,())=Uq qo wZ a0 a1:=by kernel_rfl
def gx:Yt:=zeT jS uR
theorem zkr:Con.Ok Tryz.prog 149 ⟨ug,uh,gx⟩:=zv (zd Yo (zd zgp zk)) zo (by kernel_rfl)
theorem zks (a0) (a1):gx (a0,a1,())=Uq jS uR a0 a1:=zoW jS uR a0 a1
abbrev xt:List VT:=[⟨true,zq⟩,⟨true,xr⟩]
abbrev xu:List VT:=[⟨false,I⟩,⟨false,I⟩]
def zqW:zR:=zM [cdF zq] [] [] [] [149,150]
def zbv (gD:Yt) (yU:YZ) (a0:qC) (a1:wO):Option (Int×Int×Unit):=
 opt (gD (a0,(a1,()))) fun x0=>
 bif !(zg x0.1 0) then some (0,(x0.1,()))
 else opt (yU (a0.2,(a1.2,(1048576,())))) fun x1=>
  some ((wrF .i64 (a0.1+x1.1)),(0,()))
abbrev ZX:Type:=(qC×wO×Unit)→Option (Int×Int×Unit)
def zhG:Yt→YZ→ZX:=fun gD yU=>sF Tryz.prog [(149,⟨ug,uh,gD⟩),(150,⟨gi,gk,yU⟩)] zqW (zN []) 30 104 xt xu
theorem zsT (gD) (yU) (a0) (a1):zhG gD yU (a0,a1,())=zbv gD yU a0 a1:=by kernel_rfl
def jO:ZX:=zhG gx uB
theorem zdM:Con.Ok Tryz.prog 104 ⟨xt,xu,jO⟩:=zv (zd zkr (zd zhF zk)) zo (by kernel_rfl)
theorem znv (a0) (a1):jO (a0,a1,())=zbv gx uB a0 a1:=zsT gx uB a0 a1
end Go.Proofs.YtplhphmbkmpocaaGreat.ad
end
