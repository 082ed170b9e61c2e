/- Parts of a proof, joined. -/
import Derived.Test.YtplhphmbkmpocaaGreatE44
set_option linter.unusedSectionVars false
set_option linter.unusedVariables false
set_option linter.unusedSimpArgs false
set_option maxHeartbeats 0
set_option maxRecDepth 100000
noncomputable section
namespace Go.Proofs.YtplhphmbkmpocaaGreat.ad
open Go Go.Fz Go.Fz.Sy
abbrev cdF (t:Ty):zmo:=⟨t,Ws t,[]⟩
abbrev zfv:List VT:=[⟨false,(.list (.int .u8))⟩,⟨false,I⟩]
abbrev zfw:List VT:=[⟨false,I⟩]
def zvS:zT:=zM [] [] [] [] []
def zfx (a0:(List Int)) (a1:Int):Option (Int×Unit):=
 bif (zj a1 ((a0.length:Nat):Int)) then opt (atI a0 a1) fun x0=>
  some ((wrF .i64 x0),())
 else some (0,())
abbrev zaK:Type:=((List Int)×Int×Unit)→Option (Int×Unit)
def zmt:zaK:=sF Tryz.prog [] zvS (zN []) 30 62 zfv zfw
theorem zyD (a0) (a1):zmt (a0,a1,())=zfx a0 a1:=by kernel_rfl
def kC:zaK:=zmt
theorem zrO:Con.Ok Tryz.prog 62 ⟨zfv,zfw,kC⟩:=zv zi zo (by kernel_rfl)
theorem zrP (a0) (a1):kC (a0,a1,())=zfx  a0 a1:=zyD  a0 a1
abbrev zfy:List VT:=[⟨true,zw⟩,⟨false,I⟩]
abbrev zfz:List VT:=[⟨false,.bool⟩]
def zvT:zT:=zM [cdF zw,cdF zO] [] [] [] []
def zfA (a0:zJ) (a1:Int):Option (Bool×Unit):=
 bif !(zj a1 0) then some ((zj a1 a0.1),())
 else some (false,())
abbrev zaL:Type:=(zJ×Int×Unit)→Option (Bool×Unit)
def zmu:zaL:=sF Tryz.prog [] zvT (zN []) 30 97 zfy zfz
theorem zyE (a0) (a1):zmu (a0,a1,())=zfA a0 a1:=by kernel_rfl
def Yp:zaL:=zmu
theorem zrQ:Con.Ok Tryz.prog 97 ⟨zfy,zfz,Yp⟩:=zv zi zo (by kernel_rfl)
theorem zrR (a0) (a1):Yp (a0,a1,())=zfA  a0 a1:=zyE  a0 a1
abbrev zaM:List VT:=[⟨true,zw⟩,⟨true,zO⟩]
abbrev zaN:List VT:=[⟨false,.bool⟩]
def zvU:zT:=zM [cdF zw,cdF zO] [] [] [] [97]
def zfB (Ji:zaL) (a0:zJ) (a1:zai):Option (Bool×Unit):=
 opt (opt (Ji (a0,(a1.1,()))) fun x0=>
  bif !x0.1 then some (1,((false,()),()))
  else opt (Ji (a0,(a1.2.1,()))) fun x1=>
   bif !x1.1 then some (1,((false,()),()))
   else bif zm a1.1 a1.2.1 then some (1,((false,()),()))
    else opt (atI a0.2.1 a1.1) fun x2=>
     bif x2 then opt (atI a0.2.1 a1.2.1) fun x3=>
      bif x3 then some (1,((false,()),()))
      else some (0,((false,()),()))
     else some (0,((false,()),()))) fun x4=>
 bif Nat.beq x4.1 0 then bif !(zj a1.2.2.1 1) then bif !(zj 1000 a1.2.2.1) then bif !(zj a1.2.2.2 0) then some ((!(zj 10000 a1.2.2.2)),())
    else some (false,())
   else some (false,())
  else some (false,())
 else some (x4.2.1.1,())
abbrev Yq:Type:=(zJ×zai×Unit)→Option (Bool×Unit)
def zmv:zaL→Yq:=fun Ji=>sF Tryz.prog [(97,⟨zfy,zfz,Ji⟩)] zvU (zN []) 30 68 zaM zaN
theorem zyF (Ji) (a0) (a1):zmv Ji (a0,a1,())=zfB Ji a0 a1:=by kernel_rfl
def uf:Yq:=zmv Yp
theorem zha:Con.Ok Tryz.prog 68 ⟨zaM,zaN,uf⟩:=zv (zd zrQ zi) zo (by kernel_rfl)
theorem zrS (a0) (a1):uf (a0,a1,())=zfB Yp a0 a1:=zyF Yp a0 a1
abbrev Uy:List VT:=[⟨true,zO⟩,⟨false,I⟩,⟨false,I⟩]
abbrev Uz:List VT:=[⟨false,.bool⟩]
def ztV:zT:=zM [cdF zO] [] [] [] []
def zdC (a0:zai) (a1:Int) (a2:Int):Option (Bool×Unit):=
 bif zm a0.1 a1 then bif zm a0.2.1 a2 then some (true,())
  else bif zm a0.1 a2 then some ((zm a0.2.1 a1),())
   else some (false,())
 else bif zm a0.1 a2 then some ((zm a0.2.1 a1),())
  else some (false,())
abbrev Jz:Type:=(zai×Int×Int×Unit)→Option (Bool×Unit)
def zks:Jz:=sF Tryz.prog [] ztV (zN []) 30 69 Uy Uz
theorem zvV (a0) (a1) (a2):zks (a0,a1,a2,())=zdC a0 a1 a2:=by kernel_rfl
def xk:Jz:=zks
theorem zfC:Con.Ok Tryz.prog 69 ⟨Uy,Uz,xk⟩:=zv zi zo (by kernel_rfl)
theorem zpP (a0) (a1) (a2):xk (a0,a1,a2,())=zdC  a0 a1 a2:=zvV  a0 a1 a2
abbrev Wt:List VT:=[⟨true,xQ⟩]
abbrev Wu:List VT:=[⟨true,zw⟩]
def zk6:zT:=zM [cdF xQ,⟨zw,Ws zw,[1,2]⟩,cdF zO] [] [⟨5,141,none,.bool,true⟩,⟨9,141,none,.bool,true⟩,⟨13,141,none,.bool,true⟩,⟨16,141,none,.bool,true⟩,⟨19,141,none,.bool,true⟩,⟨21,141,none,.bool,true⟩,⟨24,141,none,.bool,true⟩,⟨3,59,none,zO,true⟩,⟨6,59,none,zO,true⟩,⟨8,59,none,zO,true⟩] [(5,141,5,[1,2]),(9,141,5,[2]),(13,141,5,[2]),(16,141,5,[2]),(19,141,5,[2]),(21,141,5,[2]),(24,141,5,[2]),(5,141,5,[1])] [62,68,69]
def Ka (jF:zaK) (jV:Yq) (qI:Jz) (a0:Xu):Option (zJ×Unit):=
 opt (zC (fun s0:((Unit×(Int×Unit))×((Int×((List Bool)×((List (Int×(Int×(Int×Int))))×Unit)))×Unit))=>
  bif zj s0.1.2.1 s0.2.1.1 then bif (qS s0.2.1.2.1.length (((!(zj s0.1.2.1 (wrF .i64 (1+(wrF .i64 (Int.tmod a0.1 6))))))::[]).length) 1) then some (.inr (((),((wrF .i64 (s0.1.2.1+1)),())),((s0.2.1.1,((s0.2.1.2.1++((!(zj s0.1.2.1 (wrF .i64 (1+(wrF .i64 (Int.tmod a0.1 6))))))::[])),(s0.2.1.2.2.1,()))),())))
   else none
  else some (.inl (0,(((),(s0.1.2.1,())),((s0.2.1.1,(s0.2.1.2.1,(s0.2.1.2.2.1,()))),()))))) zK (((),(0,())),(((wrF .i64 ((wrF .i64 (1+(wrF .i64 (Int.tmod a0.1 6))))+(wrF .i64 (2+(wrF .i64 (Int.tmod a0.2.1 5)))))),([],([],()))),()))) fun x1=>
 opt (zC (fun s2:(((Int×(Int×((List Int)×((List Int)×((List Int)×(List Int))))))×(Unit×(Int×Unit)))×((Int×((List Bool)×((List (Int×(Int×(Int×Int))))×Unit)))×Unit))=>
  bif (zj s2.1.2.2.1 (wrF .i64 (1+(wrF .i64 (Int.tmod a0.1 6))))) then opt (jF (s2.1.1.2.2.2.2.1,(((s2.2.1.2.2.1.length:Nat):Int),()))) fun x3=>
   opt (jF (s2.1.1.2.2.2.2.2,(((s2.2.1.2.2.1.length:Nat):Int),()))) fun x4=>
   bif (zm ((s2.2.1.2.2.1.length:Nat):Int) 24) then some (.inr ((s2.1.1,((),((wrF .i64 (s2.1.2.2.1+1)),()))),((s2.2.1.1,(s2.2.1.2.1,(s2.2.1.2.2.1,()))),())))
   else opt (jV ((s2.2.1.1,(s2.2.1.2.1,s2.2.1.2.2.1)),(((wrF .i64 (s2.1.2.2.1 - 1)),(s2.1.2.2.1,((wrF .i64 (1+(Int.tmod x3.1 20))),(Int.tmod x4.1 50)))),()))) fun x5=>
    bif !x5.1 then some (.inr ((s2.1.1,((),((wrF .i64 (s2.1.2.2.1+1)),()))),((s2.2.1.1,(s2.2.1.2.1,(s2.2.1.2.2.1,()))),())))
    else opt (zC (fun s6:(((Int×((List Bool)×(List (Int×(Int×(Int×Int))))))×(Int×Unit))×Unit)=>
      bif (zj s6.1.2.1 ((s2.2.1.2.2.1.length:Nat):Int)) then opt (atI s2.2.1.2.2.1 s6.1.2.1) fun x7=>
       opt (gl s2.2.1.2.2.1 (Int.toNat s6.1.2.1)) fun x8=>
       opt (qI (x8,((wrF .i64 (s2.1.2.2.1 - 1)),(s2.1.2.2.1,())))) fun x9=>
       bif x9.1 then some (.inl s6)
       else some (.inr ((s6.1.1,((wrF .i64 (s6.1.2.1+1)),())),()))
      else some (.inl s6)) zK (((0,([],[])),(0,())),())) fun x10=>
     bif (zj x10.1.2.1 ((s2.2.1.2.2.1.length:Nat):Int)) then opt (atI s2.2.1.2.2.1 x10.1.2.1) fun x11=>
      opt (gl s2.2.1.2.2.1 (Int.toNat x10.1.2.1)) fun x12=>
      opt (qI (x12,((wrF .i64 (s2.1.2.2.1 - 1)),(s2.1.2.2.1,())))) fun x13=>
      bif x13.1 then some (.inr ((s2.1.1,((),((wrF .i64 (s2.1.2.2.1+1)),()))),((s2.2.1.1,(s2.2.1.2.1,(s2.2.1.2.2.1,()))),())))
      else none
     else bif (qS s2.2.1.2.2.1.length ((((wrF .i64 (s2.1.2.2.1 - 1)),(s2.1.2.2.1,((wrF .i64 (1+(Int.tmod x3.1 20))),(Int.tmod x4.1 50))))::[]).length) 32) then some (.inr ((s2.1.1,((),((wrF .i64 (s2.1.2.2.1+1)),()))),((s2.2.1.1,(s2.2.1.2.1,((s2.2.1.2.2.1++(((wrF .i64 (s2.1.2.2.1 - 1)),(s2.1.2.2.1,((wrF .i64 (1+(Int.tmod x3.1 20))),(Int.tmod x4.1 50))))::[])),()))),())))
      else none
  else some (.inl (0,((s2.1.1,((),(s2.1.2.2.1,()))),((s2.2.1.1,(s2.2.1.2.1,(s2.2.1.2.2.1,()))),()))))) zK ((a0,((),(1,()))),((x1.2.2.1.1,(x1.2.2.1.2.1,(x1.2.2.1.2.2.1,()))),()))) fun x14=>
 opt (zC (fun s15:(((Int×(Int×((List Int)×((List Int)×((List Int)×(List Int))))))×(Unit×(Int×Unit)))×((Int×((List Bool)×((List (Int×(Int×(Int×Int))))×Unit)))×Unit))=>
  bif (zj s15.1.2.2.1 (wrF .i64 (2+(wrF .i64 (Int.tmod a0.2.1 5))))) then opt (jF (s15.1.1.2.2.2.1,((wrF .i64 (2*s15.1.2.2.1)),()))) fun x16=>
   bif (zm (wrF .i64 (1+(wrF .i64 (Int.tmod a0.1 6)))) 0) then none
   else opt (jF (s15.1.1.2.2.2.2.1,(((s15.2.1.2.2.1.length:Nat):Int),()))) fun x17=>
    opt (jF (s15.1.1.2.2.2.2.2,(((s15.2.1.2.2.1.length:Nat):Int),()))) fun x18=>
    bif (zm ((s15.2.1.2.2.1.length:Nat):Int) 24) then some (.inr ((s15.1.1,((),((wrF .i64 (s15.1.2.2.1+1)),()))),((s15.2.1.1,(s15.2.1.2.1,(s15.2.1.2.2.1,()))),())))
    else opt (jV ((s15.2.1.1,(s15.2.1.2.1,s15.2.1.2.2.1)),(((wrF .i64 ((wrF .i64 (1+(wrF .i64 (Int.tmod a0.1 6))))+s15.1.2.2.1)),((Int.tmod x16.1 (wrF .i64 (1+(wrF .i64 (Int.tmod a0.1 6))))),((wrF .i64 (1+(Int.tmod x17.1 20))),(Int.tmod x18.1 50)))),()))) fun x19=>
     bif !x19.1 then some (.inr ((s15.1.1,((),((wrF .i64 (s15.1.2.2.1+1)),()))),((s15.2.1.1,(s15.2.1.2.1,(s15.2.1.2.2.1,()))),())))
     else opt (zC (fun s20:(((Int×((List Bool)×(List (Int×(Int×(Int×Int))))))×(Int×Unit))×Unit)=>
       bif (zj s20.1.2.1 ((s15.2.1.2.2.1.length:Nat):Int)) then opt (atI s15.2.1.2.2.1 s20.1.2.1) fun x21=>
        opt (gl s15.2.1.2.2.1 (Int.toNat s20.1.2.1)) fun x22=>
        opt (qI (x22,((wrF .i64 ((wrF .i64 (1+(wrF .i64 (Int.tmod a0.1 6))))+s15.1.2.2.1)),((Int.tmod x16.1 (wrF .i64 (1+(wrF .i64 (Int.tmod a0.1 6))))),())))) fun x23=>
        bif x23.1 then some (.inl s20)
        else some (.inr ((s20.1.1,((wrF .i64 (s20.1.2.1+1)),())),()))
       else some (.inl s20)) zK (((0,([],[])),(0,())),())) fun x24=>
      bif (zj x24.1.2.1 ((s15.2.1.2.2.1.length:Nat):Int)) then opt (atI s15.2.1.2.2.1 x24.1.2.1) fun x25=>
       opt (gl s15.2.1.2.2.1 (Int.toNat x24.1.2.1)) fun x26=>
       opt (qI (x26,((wrF .i64 ((wrF .i64 (1+(wrF .i64 (Int.tmod a0.1 6))))+s15.1.2.2.1)),((Int.tmod x16.1 (wrF .i64 (1+(wrF .i64 (Int.tmod a0.1 6))))),())))) fun x27=>
       bif x27.1 then some (.inr ((s15.1.1,((),((wrF .i64 (s15.1.2.2.1+1)),()))),((s15.2.1.1,(s15.2.1.2.1,(s15.2.1.2.2.1,()))),())))
       else none
      else bif (qS s15.2.1.2.2.1.length ((((wrF .i64 ((wrF .i64 (1+(wrF .i64 (Int.tmod a0.1 6))))+s15.1.2.2.1)),((Int.tmod x16.1 (wrF .i64 (1+(wrF .i64 (Int.tmod a0.1 6))))),((wrF .i64 (1+(Int.tmod x17.1 20))),(Int.tmod x18.1 50))))::[]).length) 32) then some (.inr ((s15.1.1,((),((wrF .i64 (s15.1.2.2.1+1)),()))),((s15.2.1.1,(s15.2.1.2.1,((s15.2.1.2.2.1++(((wrF .i64 ((wrF .i64 (1+(wrF .i64 (Int.tmod a0.1 6))))+s15.1.2.2.1)),((Int.tmod x16.1 (wrF .i64 (1+(wrF .i64 (Int.tmod a0.1 6))))),((wrF .i64 (1+(Int.tmod x17.1 20))),(Int.tmod x18.1 50))))::[])),()))),())))
       else none
  else some (.inl (0,((s15.1.1,((),(s15.1.2.2.1,()))),((s15.2.1.1,(s15.2.1.2.1,(s15.2.1.2.2.1,()))),()))))) zK ((x14.2.1.1,((),(0,()))),((x14.2.2.1.1,(x14.2.2.1.2.1,(x14.2.2.1.2.2.1,()))),()))) fun x28=>
 opt (bif (zj 2 (wrF .i64 (1+(wrF .i64 (Int.tmod a0.1 6))))) then bif zm (Int.tmod x28.2.1.1.1 2) 0 then opt (jF (x28.2.1.1.2.2.2.2.1,(((x28.2.2.1.2.2.1.length:Nat):Int),()))) fun x29=>
    opt (jF (x28.2.1.1.2.2.2.2.2,(((x28.2.2.1.2.2.1.length:Nat):Int),()))) fun x30=>
    bif (zm ((x28.2.2.1.2.2.1.length:Nat):Int) 24) then some (0,((x28.2.1.1,((),())),((x28.2.2.1.1,(x28.2.2.1.2.1,(x28.2.2.1.2.2.1,()))),())))
    else opt (jV ((x28.2.2.1.1,(x28.2.2.1.2.1,x28.2.2.1.2.2.1)),(((wrF .i64 ((wrF .i64 (1+(wrF .i64 (Int.tmod a0.1 6)))) - 1)),(0,((wrF .i64 (1+(Int.tmod x29.1 20))),(Int.tmod x30.1 50)))),()))) fun x31=>
     bif !x31.1 then some (0,((x28.2.1.1,((),())),((x28.2.2.1.1,(x28.2.2.1.2.1,(x28.2.2.1.2.2.1,()))),())))
     else opt (zC (fun s32:(((Int×((List Bool)×(List (Int×(Int×(Int×Int))))))×(Int×Unit))×Unit)=>
       bif (zj s32.1.2.1 ((x28.2.2.1.2.2.1.length:Nat):Int)) then opt (atI x28.2.2.1.2.2.1 s32.1.2.1) fun x33=>
        opt (gl x28.2.2.1.2.2.1 (Int.toNat s32.1.2.1)) fun x34=>
        opt (qI (x34,((wrF .i64 ((wrF .i64 (1+(wrF .i64 (Int.tmod a0.1 6)))) - 1)),(0,())))) fun x35=>
        bif x35.1 then some (.inl s32)
        else some (.inr ((s32.1.1,((wrF .i64 (s32.1.2.1+1)),())),()))
       else some (.inl s32)) zK (((0,([],[])),(0,())),())) fun x36=>
      bif (zj x36.1.2.1 ((x28.2.2.1.2.2.1.length:Nat):Int)) then opt (atI x28.2.2.1.2.2.1 x36.1.2.1) fun x37=>
       opt (gl x28.2.2.1.2.2.1 (Int.toNat x36.1.2.1)) fun x38=>
       opt (qI (x38,((wrF .i64 ((wrF .i64 (1+(wrF .i64 (Int.tmod a0.1 6)))) - 1)),(0,())))) fun x39=>
       bif x39.1 then some (0,((x28.2.1.1,((),())),((x28.2.2.1.1,(x28.2.2.1.2.1,(x28.2.2.1.2.2.1,()))),())))
       else none
      else bif (qS x28.2.2.1.2.2.1.length ((((wrF .i64 ((wrF .i64 (1+(wrF .i64 (Int.tmod a0.1 6)))) - 1)),(0,((wrF .i64 (1+(Int.tmod x29.1 20))),(Int.tmod x30.1 50))))::[]).length) 32) then some (0,((x28.2.1.1,((),())),((x28.2.2.1.1,(x28.2.2.1.2.1,((x28.2.2.1.2.2.1++(((wrF .i64 ((wrF .i64 (1+(wrF .i64 (Int.tmod a0.1 6)))) - 1)),(0,((wrF .i64 (1+(Int.tmod x29.1 20))),(Int.tmod x30.1 50))))::[])),()))),())))
       else none
   else some (0,((x28.2.1.1,((),())),((x28.2.2.1.1,(x28.2.2.1.2.1,(x28.2.2.1.2.2.1,()))),())))
  else some (0,((x28.2.1.1,((),())),((x28.2.2.1.1,(x28.2.2.1.2.1,(x28.2.2.1.2.2.1,()))),())))) fun x40=>
 opt (zC (fun s41:(((Int×(Int×((List Int)×((List Int)×((List Int)×(List Int))))))×(Unit×(Int×Unit)))×((Int×((List Bool)×((List (Int×(Int×(Int×Int))))×Unit)))×Unit))=>
  bif (zj s41.1.2.2.1 (wrF .i64 (2+(wrF .i64 (Int.tmod a0.2.1 5))))) then opt (opt (jF (s41.1.1.2.2.2.1,((wrF .i64 ((wrF .i64 (2*s41.1.2.2.1))+1)),()))) fun x42=>
    bif zj 0 (Int.tmod x42.1 3) then opt (jF (s41.1.1.2.2.2.1,((wrF .i64 ((wrF .i64 (2*s41.1.2.2.1))+1)),()))) fun x43=>
     bif (zm (wrF .i64 (1+(wrF .i64 (Int.tmod a0.1 6)))) 0) then none
     else opt (jF (s41.1.1.2.2.2.2.1,(((s41.2.1.2.2.1.length:Nat):Int),()))) fun x44=>
      opt (jF (s41.1.1.2.2.2.2.2,(((s41.2.1.2.2.1.length:Nat):Int),()))) fun x45=>
      bif (zm ((s41.2.1.2.2.1.length:Nat):Int) 24) then some (0,((s41.1.1,((),())),((s41.2.1.1,(s41.2.1.2.1,(s41.2.1.2.2.1,()))),())))
      else opt (jV ((s41.2.1.1,(s41.2.1.2.1,s41.2.1.2.2.1)),(((wrF .i64 ((wrF .i64 (1+(wrF .i64 (Int.tmod a0.1 6))))+s41.1.2.2.1)),((Int.tmod x43.1 (wrF .i64 (1+(wrF .i64 (Int.tmod a0.1 6))))),((wrF .i64 (1+(Int.tmod x44.1 20))),(Int.tmod x45.1 50)))),()))) fun x46=>
       bif !x46.1 then some (0,((s41.1.1,((),())),((s41.2.1.1,(s41.2.1.2.1,(s41.2.1.2.2.1,()))),())))
       else opt (zC (fun s47:(((Int×((List Bool)×(List (Int×(Int×(Int×Int))))))×(Int×Unit))×Unit)=>
         bif (zj s47.1.2.1 ((s41.2.1.2.2.1.length:Nat):Int)) then opt (atI s41.2.1.2.2.1 s47.1.2.1) fun x48=>
          opt (gl s41.2.1.2.2.1 (Int.toNat s47.1.2.1)) fun x49=>
          opt (qI (x49,((wrF .i64 ((wrF .i64 (1+(wrF .i64 (Int.tmod a0.1 6))))+s41.1.2.2.1)),((Int.tmod x43.1 (wrF .i64 (1+(wrF .i64 (Int.tmod a0.1 6))))),())))) fun x50=>
          bif x50.1 then some (.inl s47)
          else some (.inr ((s47.1.1,((wrF .i64 (s47.1.2.1+1)),())),()))
         else some (.inl s47)) zK (((0,([],[])),(0,())),())) fun x51=>
        bif (zj x51.1.2.1 ((s41.2.1.2.2.1.length:Nat):Int)) then opt (atI s41.2.1.2.2.1 x51.1.2.1) fun x52=>
         opt (gl s41.2.1.2.2.1 (Int.toNat x51.1.2.1)) fun x53=>
         opt (qI (x53,((wrF .i64 ((wrF .i64 (1+(wrF .i64 (Int.tmod a0.1 6))))+s41.1.2.2.1)),((Int.tmod x43.1 (wrF .i64 (1+(wrF .i64 (Int.tmod a0.1 6))))),())))) fun x54=>
         bif x54.1 then some (0,((s41.1.1,((),())),((s41.2.1.1,(s41.2.1.2.1,(s41.2.1.2.2.1,()))),())))
         else none
        else bif (qS s41.2.1.2.2.1.length ((((wrF .i64 ((wrF .i64 (1+(wrF .i64 (Int.tmod a0.1 6))))+s41.1.2.2.1)),((Int.tmod x43.1 (wrF .i64 (1+(wrF .i64 (Int.tmod a0.1 6))))),((wrF .i64 (1+(Int.tmod x44.1 20))),(Int.tmod x45.1 50))))::[]).length) 32) then some (0,((s41.1.1,((),())),((s41.2.1.1,(s41.2.1.2.1,((s41.2.1.2.2.1++(((wrF .i64 ((wrF .i64 (1+(wrF .i64 (Int.tmod a0.1 6))))+s41.1.2.2.1)),((Int.tmod x43.1 (wrF .i64 (1+(wrF .i64 (Int.tmod a0.1 6))))),((wrF .i64 (1+(Int.tmod x44.1 20))),(Int.tmod x45.1 50))))::[])),()))),())))
         else none
    else some (0,((s41.1.1,((),())),((s41.2.1.1,(s41.2.1.2.1,(s41.2.1.2.2.1,()))),())))) fun x55=>
   some (.inr ((x55.2.1.1,((),((wrF .i64 (s41.1.2.2.1+1)),()))),((x55.2.2.1.1,(x55.2.2.1.2.1,(x55.2.2.1.2.2.1,()))),())))
  else some (.inl (0,((s41.1.1,((),(s41.1.2.2.1,()))),((s41.2.1.1,(s41.2.1.2.1,(s41.2.1.2.2.1,()))),()))))) zK ((x40.2.1.1,((),(0,()))),((x40.2.2.1.1,(x40.2.2.1.2.1,(x40.2.2.1.2.2.1,()))),()))) fun x56=>
 opt (zC (fun s57:(((Int×(Int×((List Int)×((List Int)×((List Int)×(List Int))))))×(Unit×(Int×Unit)))×((Int×((List Bool)×((List (Int×(Int×(Int×Int))))×Unit)))×Unit))=>
  bif (zj (wrF .i64 (s57.1.2.2.1+1)) ((s57.1.1.2.2.1.length:Nat):Int)) then bif zj s57.1.2.2.1 12 then opt (atI s57.1.1.2.2.1 s57.1.2.2.1) fun x58=>
    bif (zm (wrF .i64 (1+(wrF .i64 (Int.tmod a0.1 6)))) 0) then none
    else opt (atI s57.1.1.2.2.1 (wrF .i64 (s57.1.2.2.1+1))) fun x59=>
     bif (zm (wrF .i64 (1+(wrF .i64 (Int.tmod a0.1 6)))) 0) then none
     else opt (jF (s57.1.1.2.2.2.2.1,(((s57.2.1.2.2.1.length:Nat):Int),()))) fun x60=>
      opt (jF (s57.1.1.2.2.2.2.2,(((s57.2.1.2.2.1.length:Nat):Int),()))) fun x61=>
      bif (zm ((s57.2.1.2.2.1.length:Nat):Int) 24) then some (.inr ((s57.1.1,((),((wrF .i64 (s57.1.2.2.1+2)),()))),((s57.2.1.1,(s57.2.1.2.1,(s57.2.1.2.2.1,()))),())))
      else opt (jV ((s57.2.1.1,(s57.2.1.2.1,s57.2.1.2.2.1)),(((Int.tmod (wrF .i64 x58) (wrF .i64 (1+(wrF .i64 (Int.tmod a0.1 6))))),((Int.tmod (wrF .i64 x59) (wrF .i64 (1+(wrF .i64 (Int.tmod a0.1 6))))),((wrF .i64 (1+(Int.tmod x60.1 20))),(Int.tmod x61.1 50)))),()))) fun x62=>
       bif !x62.1 then some (.inr ((s57.1.1,((),((wrF .i64 (s57.1.2.2.1+2)),()))),((s57.2.1.1,(s57.2.1.2.1,(s57.2.1.2.2.1,()))),())))
       else opt (zC (fun s63:(((Int×((List Bool)×(List (Int×(Int×(Int×Int))))))×(Int×Unit))×Unit)=>
         bif (zj s63.1.2.1 ((s57.2.1.2.2.1.length:Nat):Int)) then opt (atI s57.2.1.2.2.1 s63.1.2.1) fun x64=>
          opt (gl s57.2.1.2.2.1 (Int.toNat s63.1.2.1)) fun x65=>
          opt (qI (x65,((Int.tmod (wrF .i64 x58) (wrF .i64 (1+(wrF .i64 (Int.tmod a0.1 6))))),((Int.tmod (wrF .i64 x59) (wrF .i64 (1+(wrF .i64 (Int.tmod a0.1 6))))),())))) fun x66=>
          bif x66.1 then some (.inl s63)
          else some (.inr ((s63.1.1,((wrF .i64 (s63.1.2.1+1)),())),()))
         else some (.inl s63)) zK (((0,([],[])),(0,())),())) fun x67=>
        bif (zj x67.1.2.1 ((s57.2.1.2.2.1.length:Nat):Int)) then opt (atI s57.2.1.2.2.1 x67.1.2.1) fun x68=>
         opt (gl s57.2.1.2.2.1 (Int.toNat x67.1.2.1)) fun x69=>
         opt (qI (x69,((Int.tmod (wrF .i64 x58) (wrF .i64 (1+(wrF .i64 (Int.tmod a0.1 6))))),((Int.tmod (wrF .i64 x59) (wrF .i64 (1+(wrF .i64 (Int.tmod a0.1 6))))),())))) fun x70=>
         bif x70.1 then some (.inr ((s57.1.1,((),((wrF .i64 (s57.1.2.2.1+2)),()))),((s57.2.1.1,(s57.2.1.2.1,(s57.2.1.2.2.1,()))),())))
         else none
        else bif (qS s57.2.1.2.2.1.length ((((Int.tmod (wrF .i64 x58) (wrF .i64 (1+(wrF .i64 (Int.tmod a0.1 6))))),((Int.tmod (wrF .i64 x59) (wrF .i64 (1+(wrF .i64 (Int.tmod a0.1 6))))),((wrF .i64 (1+(Int.tmod x60.1 20))),(Int.tmod x61.1 50))))::[]).length) 32) then some (.inr ((s57.1.1,((),((wrF .i64 (s57.1.2.2.1+2)),()))),((s57.2.1.1,(s57.2.1.2.1,((s57.2.1.2.2.1++(((Int.tmod (wrF .i64 x58) (wrF .i64 (1+(wrF .i64 (Int.tmod a0.1 6))))),((Int.tmod (wrF .i64 x59) (wrF .i64 (1+(wrF .i64 (Int.tmod a0.1 6))))),((wrF .i64 (1+(Int.tmod x60.1 20))),(Int.tmod x61.1 50))))::[])),()))),())))
         else none
   else some (.inl (0,((s57.1.1,((),(s57.1.2.2.1,()))),((s57.2.1.1,(s57.2.1.2.1,(s57.2.1.2.2.1,()))),()))))
  else some (.inl (0,((s57.1.1,((),(s57.1.2.2.1,()))),((s57.2.1.1,(s57.2.1.2.1,(s57.2.1.2.2.1,()))),()))))) zK ((x56.2.1.1,((),(0,()))),((x56.2.2.1.1,(x56.2.2.1.2.1,(x56.2.2.1.2.2.1,()))),()))) fun x71=>
 some ((x71.2.2.1.1,(x71.2.2.1.2.1,x71.2.2.1.2.2.1)),())
abbrev ke:Type:=(Xu×Unit)→Option (zJ×Unit)
def zdh:zaK→Yq→Jz→ke:=fun jF jV qI=>sF Tryz.prog [(62,⟨zfv,zfw,jF⟩),(68,⟨zaM,zaN,jV⟩),(69,⟨Uy,Uz,qI⟩)] zk6 (zN [(3,59),(8,59)] [(6,59)]) 30 32 Wt Wu
theorem zmw (jF) (jV) (qI) (a0):zdh jF jV qI (a0,())=Ka jF jV qI a0:=by kernel_rfl
def wD:ke:=zdh kC uf xk
theorem zaj:Con.Ok Tryz.prog 32 ⟨Wt,Wu,wD⟩:=zv (zd zrO (zd zha (zd zfC zi))) zo (by kernel_rfl)
theorem ziy (a0):wD (a0,())=Ka kC uf xk a0:=zmw kC uf xk a0
abbrev zaO:List VT:=[⟨false,(.int .u8)⟩,⟨false,(.int .u8)⟩,⟨false,(.int .u8)⟩]
abbrev zaP:List VT:=[⟨true,WI⟩]
def zpQ:zT:=zM [cdF WI] [] [] [] []
def zaQ (a0:Int) (a1:Int) (a2:Int):Option (Xv×Unit):=
 some (((wrF .i64 (100+(wrF .i64 (20*(wrF .i64 a0))))),((wrF .i64 (Int.tmod a1 40)),((wrF .i64 a2),8000))),())
abbrev Vx:Type:=(Int×Int×Int×Unit)→Option (Xv×Unit)
def zhb:Vx:=sF Tryz.prog [] zpQ (zN []) 30 33 zaO zaP
theorem zrT (a0) (a1) (a2):zhb (a0,a1,a2,())=zaQ a0 a1 a2:=by kernel_rfl
def ZA:Vx:=zhb
theorem zmx:Con.Ok Tryz.prog 33 ⟨zaO,zaP,ZA⟩:=zv zi zo (by kernel_rfl)
theorem zmy (a0) (a1) (a2):ZA (a0,a1,a2,())=zaQ  a0 a1 a2:=zrT  a0 a1 a2
abbrev WS:List VT:=[⟨true,yR⟩]
abbrev WT:List VT:=[⟨true,qt⟩]
def zmz:zT:=zM [cdF yR,⟨qt,Ws qt,[7]⟩,cdF wa,cdF xQ,cdF zw,cdF zO,⟨(.pair (.int .u8) (.pair (.int .u8) (.int .u8))),Ws (.pair (.int .u8) (.pair (.int .u8) (.int .u8))),[]⟩,⟨zL,Ws zL,[0]⟩,cdF Zz,cdF qh] [] [⟨4,93,none,zL,true⟩,⟨7,93,none,zL,true⟩,⟨10,93,none,zL,true⟩,⟨3,55,none,qh,true⟩,⟨6,55,none,qh,true⟩,⟨8,55,none,qh,true⟩,⟨3,58,none,qh,true⟩,⟨6,58,none,qh,true⟩,⟨8,58,none,qh,true⟩] [(4,93,5,[0]),(4,93,3,[7]),(7,93,5,[0]),(10,93,5,[0]),(3,55,3,[0]),(3,58,3,[0])] [33]
def KW (jg:ke) (ZI:Vx) (a0:jQ):Option (qN×Unit):=
 opt (jg (a0.1,())) fun x0=>
 opt (ZI (a0.2.2.1.1,(a0.2.2.1.2.1,(a0.2.2.1.2.2,())))) fun x1=>
 opt (zC (fun s2:((((Int×(Int×((List Int)×((List Int)×((List Int)×(List Int))))))×((List ((List Int)×(List Int)))×((Int×(Int×Int))×(Int×(Int×((List (Bool×(Bool×(Int×(Int×(Int×(Int×(Int×Int))))))))×(List Int)))))))×(Unit×(Int×Unit)))×(((Int×((List Bool)×(List (Int×(Int×(Int×Int))))))×((Int×(Int×(Int×Int)))×((List ((List (Int×Int))×Int))×(Int×Unit))))×Unit))=>
  bif (zj s2.1.2.2.1 (wrF .i64 (2*((s2.2.1.1.2.2.length:Nat):Int)))) then opt (zC (fun s3:((Unit×(Int×Unit))×(((List (Int×Int))×(Int×Unit))×Unit))=>
    bif (zj s3.1.2.1 (ud 1 (jl 0 16))) then opt (bif zj s3.1.2.1 0 then none
      else some (0,(((127,1),()),()))) fun x4=>
     opt (bif zj s3.1.2.1 0 then none
      else some (0,((x4.2.1.1,()),()))) fun x5=>
     bif (qS s3.2.1.1.length ((x5.2.1.1::[]).length) 16) then some (.inr (((),((wrF .i64 (s3.1.2.1+1)),())),(((s3.2.1.1++(x5.2.1.1::[])),((wrF .i64 (s3.2.1.2.1+x5.2.1.1.2)),())),())))
     else none
    else some (.inl (0,(((),(s3.1.2.1,())),((s3.2.1.1,(s3.2.1.2.1,())),()))))) zK (((),(0,())),(([],(0,())),()))) fun x6=>
   opt (bif (zj 0 ((s2.1.1.2.1.length:Nat):Int)) then bif zj 0 (Int.tmod s2.1.2.2.1 3) then bif (zm ((s2.1.1.2.1.length:Nat):Int) 0) then none
      else opt (atI s2.1.1.2.1 (Int.tmod s2.1.2.2.1 ((s2.1.1.2.1.length:Nat):Int))) fun x7=>
       opt (zC (fun s8:((Unit×(Int×Unit))×(((List (Int×Int))×(Int×Unit))×Unit))=>
        bif (zj s8.1.2.1 (ud 1 (jl ((x7.1.length:Nat):Int) 10))) then opt (bif (zj s8.1.2.1 ((x7.1.length:Nat):Int)) then opt (atI x7.1 s8.1.2.1) fun x9=>
           opt (atI (α:=Int) (128::(127::(127::(64::(255::(63::[])))))) (Int.tmod x9 6)) fun x10=>
           opt (gl (α:=Int) (128::(127::(127::(64::(255::(63::[])))))) (Int.toNat (Int.tmod x9 6))) fun x11=>
           some (0,(((x11,1),()),()))
          else some (0,(((127,1),()),()))) fun x12=>
         opt (bif (zj s8.1.2.1 ((x7.2.length:Nat):Int)) then opt (atI x7.2 s8.1.2.1) fun x13=>
           some (0,(((x12.2.1.1.1,(wrF .i64 (1+(wrF .i64 (4*(wrF .i64 x13)))))),()),()))
          else some (0,((x12.2.1.1,()),()))) fun x14=>
         bif (qS s8.2.1.1.length ((x14.2.1.1::[]).length) 16) then some (.inr (((),((wrF .i64 (s8.1.2.1+1)),())),(((s8.2.1.1++(x14.2.1.1::[])),((wrF .i64 (s8.2.1.2.1+x14.2.1.1.2)),())),())))
         else none
        else some (.inl (0,(((),(s8.1.2.1,())),((s8.2.1.1,(s8.2.1.2.1,())),()))))) zK (((),(0,())),(([],(0,())),()))) fun x15=>
       opt (zC (fun s16:((Unit×(Int×Unit))×(((List (Int×Int))×(Int×Unit))×Unit))=>
        bif (zj s16.1.2.1 ((s16.2.1.1.length:Nat):Int)) then opt (atI s16.2.1.1 s16.1.2.1) fun x17=>
         opt (gl s16.2.1.1 (Int.toNat s16.1.2.1)) fun x18=>
         opt (atI s16.2.1.1 s16.1.2.1) fun x19=>
         opt (gl s16.2.1.1 (Int.toNat s16.1.2.1)) fun x20=>
         some (.inr (((),((wrF .i64 (s16.1.2.1+1)),())),(((s16.2.1.1.set (Int.toNat s16.1.2.1) (x20.1,(wrF .i64 (40*x18.2)))),(s16.2.1.2.1,())),())))
        else some (.inl (0,(((),(s16.1.2.1,())),((s16.2.1.1,(s16.2.1.2.1,())),()))))) zK (((),(0,())),((x15.2.2.1.1,(x15.2.2.1.2.1,())),()))) fun x21=>
       some (0,((s2.1.1,((),())),((x21.2.2.1.1,((wrF .i64 (40*x21.2.2.1.2.1)),())),())))
     else some (0,((s2.1.1,((),())),((x6.2.2.1.1,(x6.2.2.1.2.1,())),())))
    else some (0,((s2.1.1,((),())),((x6.2.2.1.1,(x6.2.2.1.2.1,())),())))) fun x22=>
   bif (qS s2.2.1.2.2.1.length (((x22.2.2.1.1,x22.2.2.1.2.1)::[]).length) 32) then some (.inr ((x22.2.1.1,((),((wrF .i64 (s2.1.2.2.1+1)),()))),((s2.2.1.1,(s2.2.1.2.1,((s2.2.1.2.2.1++((x22.2.2.1.1,x22.2.2.1.2.1)::[])),(s2.2.1.2.2.2.1,())))),())))
   else none
  else some (.inl (0,((s2.1.1,((),(s2.1.2.2.1,()))),((s2.2.1.1,(s2.2.1.2.1,(s2.2.1.2.2.1,(s2.2.1.2.2.2.1,())))),()))))) zK ((a0,((),(0,()))),((x0.1,((x1.1.1,(x1.1.2.1,(x1.1.2.2.1,(wrF .i64 (2000+(wrF .i64 (200*(wrF .i64 a0.2.2.2.1)))))))),([],((wrF .i64 (339+(wrF .i64 (Int.tmod a0.2.2.2.2.1 500)))),())))),()))) fun x23=>
 some ((x23.2.2.1.1,(x23.2.2.1.2.1,(x23.2.2.1.2.2.1,x23.2.2.1.2.2.2.1))),())
abbrev KY:Type:=(jQ×Unit)→Option (qN×Unit)
def zeu:ke→Vx→KY:=fun jg ZI=>sF Tryz.prog [(32,⟨Wt,Wu,jg⟩),(33,⟨zaO,zaP,ZI⟩)] zmz (zN []) 30 10 WS WT
theorem zod (jg) (ZI) (a0):zeu jg ZI (a0,())=KW jg ZI a0:=by kernel_rfl
def vB:KY:=zeu wD ZA
theorem zjM:Con.Ok Tryz.prog 10 ⟨WS,WT,vB⟩:=zv (zd zaj (zd zmx zi)) zo (by kernel_rfl)
theorem zjN (a0):vB (a0,())=KW wD ZA a0:=zod wD ZA a0
abbrev QH:List VT:=[⟨true,zw⟩,⟨false,I⟩]
abbrev QI:List VT:=[⟨false,I⟩]
def zvW:zT:=zM [cdF zw,cdF zO] [] [] [] []
def zfD (a0:zJ) (a1:Int):Option (Int×Unit):=
 opt (atI a0.2.2 (wrF .i64 (Int.tdiv a1 2))) fun x0=>
 bif zm (Int.tmod a1 2) 1 then some (x0.2.1,())
 else some (x0.1,())
abbrev xl:Type:=(zJ×Int×Unit)→Option (Int×Unit)
def zmA:xl:=sF Tryz.prog [] zvW (zN []) 30 88 QH QI
theorem zyG (a0) (a1):zmA (a0,a1,())=zfD a0 a1:=by kernel_rfl
def jm:xl:=zmA
theorem Wv:Con.Ok Tryz.prog 88 ⟨QH,QI,jm⟩:=zv zi zo (by kernel_rfl)
theorem zrU (a0) (a1):jm (a0,a1,())=zfD  a0 a1:=zyG  a0 a1
abbrev zdD:List VT:=[⟨true,zw⟩,⟨false,I⟩]
abbrev zdE:List VT:=[⟨false,(.list I)⟩]
def ztW:zT:=zM [cdF zw,cdF zO] [] [⟨3,25,some 4,I,false⟩,⟨3,25,some 5,I,true⟩,⟨5,25,some 4,I,false⟩,⟨5,25,some 5,I,true⟩] [] [88]
def zdF (qc:xl) (a0:zJ) (a1:Int):Option ((List Int)×Unit):=
 opt (zC (fun s0:((Int×Unit)×((List Int)×Unit))=>
  bif (zj s0.1.1 (wrF .i64 (2*((a0.2.2.length:Nat):Int)))) then opt (opt (qc (a0,(s0.1.1,()))) fun x1=>
    bif zm x1.1 a1 then bif (qS s0.2.1.length ((s0.1.1::[]).length) 8) then some (0,((),((s0.2.1++(s0.1.1::[])),())))
     else none
    else some (0,((),(s0.2.1,())))) fun x2=>
   some (.inr (((wrF .i64 (s0.1.1+1)),()),(x2.2.2.1,())))
  else some (.inl (0,((s0.1.1,()),(s0.2.1,()))))) zK ((0,()),([],()))) fun x3=>
 some (x3.2.2.1,())
abbrev UA:Type:=(zJ×Int×Unit)→Option ((List Int)×Unit)
def zkt:xl→UA:=fun qc=>sF Tryz.prog [(88,⟨QH,QI,qc⟩)] ztW (zN []) 30 161 zdD zdE
theorem zvX (qc) (a0) (a1):zkt qc (a0,a1,())=zdF qc a0 a1:=by kernel_rfl
def JA:UA:=zkt jm
theorem zpR:Con.Ok Tryz.prog 161 ⟨zdD,zdE,JA⟩:=zv (zd Wv zi) zo (by kernel_rfl)
theorem zpS (a0) (a1):JA (a0,a1,())=zdF jm a0 a1:=zvX jm a0 a1
abbrev KE:List VT:=[⟨true,zw⟩,⟨false,I⟩]
abbrev KF:List VT:=[⟨false,I⟩]
def zzL:zT:=zM [cdF zw,cdF zO] [] [] [] []
def zjO (a0:zJ) (a1:Int):Option (Int×Unit):=
 opt (atI a0.2.2 (wrF .i64 (Int.tdiv a1 2))) fun x0=>
 bif zm (Int.tmod a1 2) 1 then some (x0.1,())
 else some (x0.2.1,())
abbrev Zm:Type:=(zJ×Int×Unit)→Option (Int×Unit)
def zrV:Zm:=sF Tryz.prog [] zzL (zN []) 30 89 KE KF
theorem zBJ (a0) (a1):zrV (a0,a1,())=zjO a0 a1:=by kernel_rfl
def wW:Zm:=zrV
theorem UB:Con.Ok Tryz.prog 89 ⟨KE,KF,wW⟩:=zv zi zo (by kernel_rfl)
theorem zvY (a0) (a1):wW (a0,a1,())=zjO  a0 a1:=zBJ  a0 a1
abbrev KG:List VT:=[⟨false,(.list I)⟩,⟨false,I⟩]
abbrev KH:List VT:=[⟨false,.bool⟩]
def zzM:zT:=zM [] [] [] [] []
def zjP (a0:(List Int)) (a1:Int):Option (Bool×Unit):=
 opt (zC (fun s0:((Bool×(Int×Unit))×Unit)=>
  bif (zj s0.1.2.1 ((a0.length:Nat):Int)) then opt (atI a0 s0.1.2.1) fun x1=>
   bif zm x1 a1 then some (.inl (1,((true,(s0.1.2.1,())),())))
   else some (.inr ((s0.1.1,((wrF .i64 (s0.1.2.1+1)),())),()))
  else some (.inl (0,((s0.1.1,(s0.1.2.1,())),())))) zK ((false,(0,())),())) fun x2=>
 bif Nat.beq x2.1 0 then some (false,())
 else some (x2.2.1.1,())
abbrev Zn:Type:=((List Int)×Int×Unit)→Option (Bool×Unit)
def zrW:Zn:=sF Tryz.prog [] zzM (zN []) 30 98 KG KH
theorem zBK (a0) (a1):zrW (a0,a1,())=zjP a0 a1:=by kernel_rfl
def yJ:Zn:=zrW
theorem UC:Con.Ok Tryz.prog 98 ⟨KG,KH,yJ⟩:=zv zi zo (by kernel_rfl)
theorem zvZ (a0) (a1):yJ (a0,a1,())=zjP  a0 a1:=zBK  a0 a1
abbrev zfE:List VT:=[⟨true,zw⟩,⟨false,(.int .u8)⟩,⟨false,(.int .u8)⟩]
abbrev zfF:List VT:=[⟨false,(.list I)⟩]
def zv0:zT:=zM [cdF zw,cdF zO] [] [⟨4,90,some 6,I,false⟩,⟨4,90,some 9,I,true⟩,⟨4,90,some 10,I,true⟩,⟨8,90,some 6,I,false⟩,⟨8,90,some 9,I,true⟩,⟨8,90,some 10,I,true⟩,⟨10,90,some 6,I,false⟩,⟨10,90,some 9,I,true⟩,⟨10,90,some 10,I,true⟩,⟨12,90,some 6,I,false⟩,⟨12,90,some 9,I,true⟩,⟨12,90,some 10,I,true⟩] [] [89,98]
def zfG (uK:UA) (qo:Zm) (qH:Zn) (a0:zJ) (a1:Int) (a2:Int):Option ((List Int)×Unit):=
 bif zm a0.1 0 then none
 else opt (zC (fun s0:(((Int×((List Bool)×(List (Int×(Int×(Int×Int))))))×((List Int)×(Int×Unit)))×((List Int)×((List Int)×Unit)))=>
   bif (zj ((s0.2.1.length:Nat):Int) 8) then bif (zm ((s0.2.1.length:Nat):Int) 0) then opt (uK (s0.1.1,(s0.1.2.2.1,()))) fun x1=>
     opt (zC (fun s2:((Int×Unit)×((List Int)×((List Int)×Unit)))=>
      bif (zj s2.1.1 ((x1.1.length:Nat):Int)) then opt (opt (atI x1.1 s2.1.1) fun x3=>
        opt (qo (s0.1.1,(x3,()))) fun x4=>
        opt (qH (s2.2.1,(x4.1,()))) fun x5=>
        bif !x5.1 then opt (atI x1.1 s2.1.1) fun x6=>
         bif (qS s2.2.2.1.length ((x6::[]).length) 8) then some (0,((),(s2.2.1,((s2.2.2.1++(x6::[])),()))))
         else none
        else some (0,((),(s2.2.1,(s2.2.2.1,()))))) fun x7=>
       some (.inr (((wrF .i64 (s2.1.1+1)),()),(x7.2.2.1,(x7.2.2.2.1,()))))
      else some (.inl (0,((s2.1.1,()),(s2.2.1,(s2.2.2.1,())))))) zK ((0,()),(s0.2.2.1,([],())))) fun x8=>
     bif (zm ((x8.2.2.2.1.length:Nat):Int) 0) then some (.inl s0)
     else bif (zm ((x8.2.2.2.1.length:Nat):Int) 0) then none
      else opt (atI x8.2.2.2.1 (Int.tmod (wrF .i64 ((wrF .i64 a2)+(wrF .i64 (3*((s0.2.1.length:Nat):Int))))) ((x8.2.2.2.1.length:Nat):Int))) fun x9=>
       opt (gl x8.2.2.2.1 (Int.toNat (Int.tmod (wrF .i64 ((wrF .i64 a2)+(wrF .i64 (3*((s0.2.1.length:Nat):Int))))) ((x8.2.2.2.1.length:Nat):Int)))) fun x10=>
       bif (qS s0.2.1.length ((x10::[]).length) 8) then opt (qo (s0.1.1,(x10,()))) fun x11=>
        bif (qS x8.2.2.1.length ((x11.1::[]).length) 8) then some (.inr ((s0.1.1,(s0.1.2.1,(x11.1,()))),((s0.2.1++(x10::[])),((x8.2.2.1++(x11.1::[])),()))))
        else none
       else none
    else opt (atI s0.1.1.2.1 s0.1.2.2.1) fun x12=>
     bif !x12 then opt (uK (s0.1.1,(s0.1.2.2.1,()))) fun x13=>
      opt (zC (fun s14:((Int×Unit)×((List Int)×((List Int)×Unit)))=>
       bif (zj s14.1.1 ((x13.1.length:Nat):Int)) then opt (opt (atI x13.1 s14.1.1) fun x15=>
         opt (qo (s0.1.1,(x15,()))) fun x16=>
         opt (qH (s14.2.1,(x16.1,()))) fun x17=>
         bif !x17.1 then opt (atI x13.1 s14.1.1) fun x18=>
          bif (qS s14.2.2.1.length ((x18::[]).length) 8) then some (0,((),(s14.2.1,((s14.2.2.1++(x18::[])),()))))
          else none
         else some (0,((),(s14.2.1,(s14.2.2.1,()))))) fun x19=>
        some (.inr (((wrF .i64 (s14.1.1+1)),()),(x19.2.2.1,(x19.2.2.2.1,()))))
       else some (.inl (0,((s14.1.1,()),(s14.2.1,(s14.2.2.1,())))))) zK ((0,()),(s0.2.2.1,([],())))) fun x20=>
      bif (zm ((x20.2.2.2.1.length:Nat):Int) 0) then some (.inl s0)
      else bif (zm ((x20.2.2.2.1.length:Nat):Int) 0) then none
       else opt (atI x20.2.2.2.1 (Int.tmod (wrF .i64 ((wrF .i64 a2)+(wrF .i64 (3*((s0.2.1.length:Nat):Int))))) ((x20.2.2.2.1.length:Nat):Int))) fun x21=>
        opt (gl x20.2.2.2.1 (Int.toNat (Int.tmod (wrF .i64 ((wrF .i64 a2)+(wrF .i64 (3*((s0.2.1.length:Nat):Int))))) ((x20.2.2.2.1.length:Nat):Int)))) fun x22=>
        bif (qS s0.2.1.length ((x22::[]).length) 8) then opt (qo (s0.1.1,(x22,()))) fun x23=>
         bif (qS x20.2.2.1.length ((x23.1::[]).length) 8) then some (.inr ((s0.1.1,(s0.1.2.1,(x23.1,()))),((s0.2.1++(x22::[])),((x20.2.2.1++(x23.1::[])),()))))
         else none
        else none
     else some (.inl s0)
   else some (.inl s0)) zK ((a0,([],((Int.tmod (wrF .i64 a1) a0.1),()))),([],(((Int.tmod (wrF .i64 a1) a0.1)::[]),())))) fun x24=>
  bif (zj ((x24.2.1.length:Nat):Int) 8) then bif (zm ((x24.2.1.length:Nat):Int) 0) then opt (uK (x24.1.1,(x24.1.2.2.1,()))) fun x25=>
    opt (zC (fun s26:((Int×Unit)×((List Int)×((List Int)×Unit)))=>
     bif (zj s26.1.1 ((x25.1.length:Nat):Int)) then opt (opt (atI x25.1 s26.1.1) fun x27=>
       opt (qo (x24.1.1,(x27,()))) fun x28=>
       opt (qH (s26.2.1,(x28.1,()))) fun x29=>
       bif !x29.1 then opt (atI x25.1 s26.1.1) fun x30=>
        bif (qS s26.2.2.1.length ((x30::[]).length) 8) then some (0,((),(s26.2.1,((s26.2.2.1++(x30::[])),()))))
        else none
       else some (0,((),(s26.2.1,(s26.2.2.1,()))))) fun x31=>
      some (.inr (((wrF .i64 (s26.1.1+1)),()),(x31.2.2.1,(x31.2.2.2.1,()))))
     else some (.inl (0,((s26.1.1,()),(s26.2.1,(s26.2.2.1,())))))) zK ((0,()),(x24.2.2.1,([],())))) fun x32=>
    bif (zm ((x32.2.2.2.1.length:Nat):Int) 0) then some (x24.2.1,())
    else bif (zm ((x32.2.2.2.1.length:Nat):Int) 0) then none
     else opt (atI x32.2.2.2.1 (Int.tmod (wrF .i64 ((wrF .i64 a2)+(wrF .i64 (3*((x24.2.1.length:Nat):Int))))) ((x32.2.2.2.1.length:Nat):Int))) fun x33=>
      opt (gl x32.2.2.2.1 (Int.toNat (Int.tmod (wrF .i64 ((wrF .i64 a2)+(wrF .i64 (3*((x24.2.1.length:Nat):Int))))) ((x32.2.2.2.1.length:Nat):Int)))) fun x34=>
      bif (qS x24.2.1.length ((x34::[]).length) 8) then opt (qo (x24.1.1,(x34,()))) fun x35=>
       bif (qS x32.2.2.1.length ((x35.1::[]).length) 8) then none
       else none
      else none
   else opt (atI x24.1.1.2.1 x24.1.2.2.1) fun x36=>
    bif !x36 then opt (uK (x24.1.1,(x24.1.2.2.1,()))) fun x37=>
     opt (zC (fun s38:((Int×Unit)×((List Int)×((List Int)×Unit)))=>
      bif (zj s38.1.1 ((x37.1.length:Nat):Int)) then opt (opt (atI x37.1 s38.1.1) fun x39=>
        opt (qo (x24.1.1,(x39,()))) fun x40=>
        opt (qH (s38.2.1,(x40.1,()))) fun x41=>
        bif !x41.1 then opt (atI x37.1 s38.1.1) fun x42=>
         bif (qS s38.2.2.1.length ((x42::[]).length) 8) then some (0,((),(s38.2.1,((s38.2.2.1++(x42::[])),()))))
         else none
        else some (0,((),(s38.2.1,(s38.2.2.1,()))))) fun x43=>
       some (.inr (((wrF .i64 (s38.1.1+1)),()),(x43.2.2.1,(x43.2.2.2.1,()))))
      else some (.inl (0,((s38.1.1,()),(s38.2.1,(s38.2.2.1,())))))) zK ((0,()),(x24.2.2.1,([],())))) fun x44=>
     bif (zm ((x44.2.2.2.1.length:Nat):Int) 0) then some (x24.2.1,())
     else bif (zm ((x44.2.2.2.1.length:Nat):Int) 0) then none
      else opt (atI x44.2.2.2.1 (Int.tmod (wrF .i64 ((wrF .i64 a2)+(wrF .i64 (3*((x24.2.1.length:Nat):Int))))) ((x44.2.2.2.1.length:Nat):Int))) fun x45=>
       opt (gl x44.2.2.2.1 (Int.toNat (Int.tmod (wrF .i64 ((wrF .i64 a2)+(wrF .i64 (3*((x24.2.1.length:Nat):Int))))) ((x44.2.2.2.1.length:Nat):Int)))) fun x46=>
       bif (qS x24.2.1.length ((x46::[]).length) 8) then opt (qo (x24.1.1,(x46,()))) fun x47=>
        bif (qS x44.2.2.1.length ((x47.1::[]).length) 8) then none
        else none
       else none
    else some (x24.2.1,())
  else some (x24.2.1,())
abbrev zaR:Type:=(zJ×Int×Int×Unit)→Option ((List Int)×Unit)
def zmB:UA→Zm→Zn→zaR:=fun uK qo qH=>sF Tryz.prog [(161,⟨zdD,zdE,uK⟩),(89,⟨KE,KF,qo⟩),(98,⟨KG,KH,qH⟩)] zv0 (zN [] [(4,90)]) 30 131 zfE zfF
theorem zyH (uK) (qo) (qH) (a0) (a1) (a2):zmB uK qo qH (a0,a1,a2,())=zfG uK qo qH a0 a1 a2:=by kernel_rfl
def Zs:zaR:=zmB JA wW yJ
theorem zrX:Con.Ok Tryz.prog 131 ⟨zfE,zfF,Zs⟩:=zv (zd zpR (zd UB (zd UC zi))) zo (by kernel_rfl)
theorem zrY (a0) (a1) (a2):Zs (a0,a1,a2,())=zfG JA wW yJ a0 a1 a2:=zyH JA wW yJ a0 a1 a2
abbrev zfH:List VT:=[⟨true,zw⟩,⟨false,I⟩]
abbrev zfI:List VT:=[⟨false,.bool⟩]
def zv1:zT:=zM [cdF zw,cdF zO] [] [] [] []
def zfJ (a0:zJ) (a1:Int):Option (Bool×Unit):=
 bif !(zj a1 0) then some ((zj a1 (wrF .i64 (2*((a0.2.2.length:Nat):Int)))),())
 else some (false,())
abbrev zaS:Type:=(zJ×Int×Unit)→Option (Bool×Unit)
def zmC:zaS:=sF Tryz.prog [] zv1 (zN []) 30 160 zfH zfI
theorem zyI (a0) (a1):zmC (a0,a1,())=zfJ a0 a1:=by kernel_rfl
def Yr:zaS:=zmC
theorem zrZ:Con.Ok Tryz.prog 160 ⟨zfH,zfI,Yr⟩:=zv zi zo (by kernel_rfl)
theorem zr0 (a0) (a1):Yr (a0,a1,())=zfJ  a0 a1:=zyI  a0 a1
abbrev UD:List VT:=[⟨true,zw⟩,⟨false,(.list I)⟩]
abbrev UE:List VT:=[⟨false,(.list I)⟩]
def ztX:zT:=zM [cdF zw,cdF zO] [] [⟨3,29,some 4,I,false⟩] [] [88,89]
def zdG (qc:xl) (qo:Zm) (a0:zJ) (a1:(List Int)):Option ((List Int)×Unit):=
 opt (atI a1 0) fun x0=>
 opt (qc (a0,(x0,()))) fun x1=>
 opt (zC (fun s2:((Int×Unit)×((List Int)×Unit))=>
  bif (zj s2.1.1 ((a1.length:Nat):Int)) then opt (atI a1 s2.1.1) fun x3=>
   opt (qo (a0,(x3,()))) fun x4=>
   bif (qS s2.2.1.length ((x4.1::[]).length) 8) then some (.inr (((wrF .i64 (s2.1.1+1)),()),((s2.2.1++(x4.1::[])),())))
   else none
  else some (.inl (0,((s2.1.1,()),(s2.2.1,()))))) zK ((0,()),((x1.1::[]),()))) fun x5=>
 some (x5.2.2.1,())
abbrev JB:Type:=(zJ×(List Int)×Unit)→Option ((List Int)×Unit)
def zku:xl→Zm→JB:=fun qc qo=>sF Tryz.prog [(88,⟨QH,QI,qc⟩),(89,⟨KE,KF,qo⟩)] ztX (zN []) 30 133 UD UE
theorem zv2 (qc) (qo) (a0) (a1):zku qc qo (a0,a1,())=zdG qc qo a0 a1:=by kernel_rfl
def ui:JB:=zku jm wW
theorem zfK:Con.Ok Tryz.prog 133 ⟨UD,UE,ui⟩:=zv (zd Wv (zd UB zi)) zo (by kernel_rfl)
theorem zpT (a0) (a1):ui (a0,a1,())=zdG jm wW a0 a1:=zv2 jm wW a0 a1
abbrev UF:List VT:=[⟨true,zw⟩,⟨false,(.list I)⟩]
abbrev UG:List VT:=[⟨false,.bool⟩]
def ztY:zT:=zM [cdF zw,cdF zO] [] [] [] [160,98,88]
def zdH (YU:zaS) (jP:JB) (qH:Zn) (qc:xl) (a0:zJ) (a1:(List Int)):Option (Bool×Unit):=
 opt (bif (zj ((a1.length:Nat):Int) 1) then some (1,((false,()),()))
  else bif (zj 8 ((a1.length:Nat):Int)) then some (1,((false,()),()))
   else some (0,((false,()),()))) fun x0=>
 bif Nat.beq x0.1 0 then opt (zC (fun s1:((Bool×(Int×Unit))×Unit)=>
   bif (zj s1.1.2.1 ((a1.length:Nat):Int)) then opt (atI a1 s1.1.2.1) fun x2=>
    opt (YU (a0,(x2,()))) fun x3=>
    bif !x3.1 then some (.inl (1,((false,(s1.1.2.1,())),())))
    else some (.inr ((s1.1.1,((wrF .i64 (s1.1.2.1+1)),())),()))
   else some (.inl (0,((s1.1.1,(s1.1.2.1,())),())))) zK ((x0.2.1.1,(0,())),())) fun x4=>
  bif Nat.beq x4.1 0 then opt (jP (a0,(a1,()))) fun x5=>
   opt (zC (fun s6:((Bool×(Int×Unit))×Unit)=>
    bif (zj s6.1.2.1 ((x5.1.length:Nat):Int)) then opt (kz x5.1 none (some s6.1.2.1) none) fun x7=>
     opt (atI x5.1 s6.1.2.1) fun x8=>
     opt (qH (x7,(x8,()))) fun x9=>
     bif x9.1 then some (.inl (1,((false,(s6.1.2.1,())),())))
     else opt (bif zj 0 s6.1.2.1 then bif (zj s6.1.2.1 ((a1.length:Nat):Int)) then opt (atI x5.1 s6.1.2.1) fun x10=>
         opt (atI a0.2.1 x10) fun x11=>
         bif x11 then some (1,((false,()),()))
         else opt (atI a1 s6.1.2.1) fun x12=>
          opt (qc (a0,(x12,()))) fun x13=>
          opt (atI x5.1 s6.1.2.1) fun x14=>
          bif !(zm x13.1 x14) then some (1,((false,()),()))
          else some (0,((s6.1.1,()),()))
        else some (0,((s6.1.1,()),()))
       else some (0,((s6.1.1,()),()))) fun x15=>
      bif Nat.beq x15.1 0 then some (.inr ((x15.2.1.1,((wrF .i64 (s6.1.2.1+1)),())),()))
      else some (.inl (1,((x15.2.1.1,(s6.1.2.1,())),())))
    else some (.inl (0,((s6.1.1,(s6.1.2.1,())),())))) zK ((x4.2.1.1,(0,())),())) fun x16=>
   bif Nat.beq x16.1 0 then some (true,())
   else some (x16.2.1.1,())
  else some (x4.2.1.1,())
 else some (x0.2.1.1,())
abbrev JC:Type:=(zJ×(List Int)×Unit)→Option (Bool×Unit)
def zkv:zaS→JB→Zn→xl→JC:=fun YU jP qH qc=>sF Tryz.prog [(160,⟨zfH,zfI,YU⟩),(133,⟨UD,UE,jP⟩),(98,⟨KG,KH,qH⟩),(88,⟨QH,QI,qc⟩)] ztY (zN []) 30 129 UF UG
theorem zv3 (YU) (jP) (qH) (qc) (a0) (a1):zkv YU jP qH qc (a0,a1,())=zdH YU jP qH qc a0 a1:=by kernel_rfl
def vl:JC:=zkv Yr ui yJ jm
theorem zfL:Con.Ok Tryz.prog 129 ⟨UF,UG,vl⟩:=zv (zd zrZ (zd zfK (zd UC (zd Wv zi)))) zo (by kernel_rfl)
theorem zpU (a0) (a1):vl (a0,a1,())=zdH Yr ui yJ jm a0 a1:=zv3 Yr ui yJ jm a0 a1
abbrev zaT:List VT:=[⟨false,(.list I)⟩,⟨false,(.list I)⟩]
abbrev zaU:List VT:=[⟨false,.bool⟩]
def zpV:zT:=zM [] [] [] [] [98]
def zaV (qH:Zn) (a0:(List Int)) (a1:(List Int)):Option (Bool×Unit):=
 opt (zC (fun s0:((Bool×(Int×Unit))×Unit)=>
  bif (zj s0.1.2.1 (wrF .i64 (((a0.length:Nat):Int) - 1))) then opt (atI a0 s0.1.2.1) fun x1=>
   opt (qH (a1,(x1,()))) fun x2=>
   bif x2.1 then some (.inl (1,((true,(s0.1.2.1,())),())))
   else some (.inr ((s0.1.1,((wrF .i64 (s0.1.2.1+1)),())),()))
  else some (.inl (0,((s0.1.1,(s0.1.2.1,())),())))) zK ((false,(1,())),())) fun x3=>
 bif Nat.beq x3.1 0 then some (false,())
 else some (x3.2.1.1,())
abbrev Vy:Type:=((List Int)×(List Int)×Unit)→Option (Bool×Unit)
def zhc:Zn→Vy:=fun qH=>sF Tryz.prog [(98,⟨KG,KH,qH⟩)] zpV (zN []) 30 132 zaT zaU
theorem zr1 (qH) (a0) (a1):zhc qH (a0,a1,())=zaV qH a0 a1:=by kernel_rfl
def ZB:Vy:=zhc yJ
theorem zmD:Con.Ok Tryz.prog 132 ⟨zaT,zaU,ZB⟩:=zv (zd UC zi) zo (by kernel_rfl)
theorem zmE (a0) (a1):ZB (a0,a1,())=zaV yJ a0 a1:=zr1 yJ a0 a1
abbrev UH:List VT:=[⟨true,zw⟩,⟨false,(.list I)⟩,⟨false,(.list I)⟩]
abbrev UI:List VT:=[⟨false,.bool⟩]
def ztZ:zT:=zM [cdF zw,cdF zO] [] [] [] [132]
def zdI (jP:JB) (kT:Vy) (a0:zJ) (a1:(List Int)) (a2:(List Int)):Option (Bool×Unit):=
 opt (zC (fun s0:((Bool×(Int×Unit))×Unit)=>
  bif (zj s0.1.2.1 ((a1.length:Nat):Int)) then opt (zC (fun s1:((Bool×(Int×Unit))×Unit)=>
    bif (zj s1.1.2.1 ((a2.length:Nat):Int)) then opt (atI a1 s0.1.2.1) fun x2=>
     opt (atI a2 s1.1.2.1) fun x3=>
     bif (zm (wrF .i64 (Int.tdiv x2 2)) (wrF .i64 (Int.tdiv x3 2))) then some (.inl (1,((false,(s1.1.2.1,())),())))
     else some (.inr ((s1.1.1,((wrF .i64 (s1.1.2.1+1)),())),()))
    else some (.inl (0,((s1.1.1,(s1.1.2.1,())),())))) zK ((s0.1.1,(0,())),())) fun x4=>
   bif Nat.beq x4.1 0 then some (.inr ((x4.2.1.1,((wrF .i64 (s0.1.2.1+1)),())),()))
   else some (.inl (1,((x4.2.1.1,(s0.1.2.1,())),())))
  else some (.inl (0,((s0.1.1,(s0.1.2.1,())),())))) zK ((false,(0,())),())) fun x5=>
 bif Nat.beq x5.1 0 then opt (jP (a0,(a1,()))) fun x6=>
  opt (jP (a0,(a2,()))) fun x7=>
  opt (kT (x6.1,(x7.1,()))) fun x8=>
  bif !x8.1 then opt (jP (a0,(a2,()))) fun x9=>
   opt (jP (a0,(a1,()))) fun x10=>
   opt (kT (x9.1,(x10.1,()))) fun x11=>
   some ((!x11.1),())
  else some (false,())
 else some (x5.2.1.1,())
abbrev JD:Type:=(zJ×(List Int)×(List Int)×Unit)→Option (Bool×Unit)
def zkw:JB→Vy→JD:=fun jP kT=>sF Tryz.prog [(133,⟨UD,UE,jP⟩),(132,⟨zaT,zaU,kT⟩)] ztZ (zN []) 30 90 UH UI
theorem zv4 (jP) (kT) (a0) (a1) (a2):zkw jP kT (a0,a1,a2,())=zdI jP kT a0 a1 a2:=by kernel_rfl
def uj:JD:=zkw ui ZB
theorem zfM:Con.Ok Tryz.prog 90 ⟨UH,UI,uj⟩:=zv (zd zfK (zd zmD zi)) zo (by kernel_rfl)
theorem zpW (a0) (a1) (a2):uj (a0,a1,a2,())=zdI ui ZB a0 a1 a2:=zv4 ui ZB a0 a1 a2
abbrev zaW:List VT:=[⟨false,I⟩,⟨false,I⟩,⟨false,I⟩]
abbrev zaX:List VT:=[⟨false,.bool⟩]
def zzN:zT:=zM [] [] [] [] []
def zjQ (a0:Int) (a1:Int) (a2:Int):Option (Bool×Unit):=
 bif !(zj a0 a1) then some ((!(zj a2 a0)),())
 else some (false,())
abbrev Ww:Type:=(Int×Int×Int×Unit)→Option (Bool×Unit)
def zr2:Ww:=sF Tryz.prog [] zzN (zN []) 30 71 zaW zaX
theorem zBL (a0) (a1) (a2):zr2 (a0,a1,a2,())=zjQ a0 a1 a2:=by kernel_rfl
def uk:Ww:=zr2
theorem zdJ:Con.Ok Tryz.prog 71 ⟨zaW,zaX,uk⟩:=zv zi zo (by kernel_rfl)
theorem zv5 (a0) (a1) (a2):uk (a0,a1,a2,())=zjQ  a0 a1 a2:=zBL  a0 a1 a2
abbrev zaY:List VT:=[⟨true,zw⟩,⟨false,I⟩]
abbrev zaZ:List VT:=[⟨false,.bool⟩]
def zpX:zT:=zM [cdF zw,cdF zO] [] [] [] [71]
def za0 (qL:Ww) (a0:zJ) (a1:Int):Option (Bool×Unit):=
 opt (qL (a1,(0,((wrF .i64 (a0.1 - 1)),())))) fun x0=>
 bif x0.1 then opt (atI a0.2.1 a1) fun x1=>
  some (x1,())
 else some (false,())
abbrev Vz:Type:=(zJ×Int×Unit)→Option (Bool×Unit)
def zhd:Ww→Vz:=fun qL=>sF Tryz.prog [(71,⟨zaW,zaX,qL⟩)] zpX (zN []) 30 128 zaY zaZ
theorem zr3 (qL) (a0) (a1):zhd qL (a0,a1,())=za0 qL a0 a1:=by kernel_rfl
def ZC:Vz:=zhd uk
theorem zmF:Con.Ok Tryz.prog 128 ⟨zaY,zaZ,ZC⟩:=zv (zd zdJ zi) zo (by kernel_rfl)
theorem zmG (a0) (a1):ZC (a0,a1,())=za0 uk a0 a1:=zr3 uk a0 a1
abbrev UJ:List VT:=[⟨true,zw⟩,⟨true,zI⟩]
abbrev UK:List VT:=[⟨false,.bool⟩]
def zt0:zT:=zM [cdF zI,cdF zw,cdF zO,cdF zu] [] [] [] [71,128,129,88,89,90]
def zdK (qL:Ww) (kU:Vz) (wL:JC) (qc:xl) (qo:Zm) (yg:JD) (a0:zJ) (a1:qn):Option (Bool×Unit):=
 opt (opt (qL (a1.1,(1,(4095,())))) fun x0=>
  bif !x0.1 then some (1,((false,()),()))
  else opt (kU (a0,(a1.2.1,()))) fun x1=>
   bif !x1.1 then some (1,((false,()),()))
   else opt (kU (a0,(a1.2.2.1,()))) fun x2=>
    bif !x2.1 then some (1,((false,()),()))
    else bif zm a1.2.1 a1.2.2.1 then some (1,((false,()),()))
     else opt (qL (a1.2.2.2.2.1,(84,(1542,())))) fun x3=>
      bif !x3.1 then some (1,((false,()),()))
      else opt (qL (a1.2.2.2.2.2.2.2.1,(1,(1099511627776,())))) fun x4=>
       bif !x4.1 then some (1,((false,()),()))
       else some (0,((false,()),()))) fun x5=>
 bif Nat.beq x5.1 0 then opt (bif zm a1.2.2.2.1 7 then opt (opt (qL (a1.2.2.2.2.2.1,(1,(240,())))) fun x6=>
     bif !x6.1 then some (1,((false,()),()))
     else bif (!((zm a1.2.2.2.2.2.2.1.1 0)&&((zm a1.2.2.2.2.2.2.1.2 0)&&true))) then some (1,((false,()),()))
      else some (0,((x5.2.1.1,()),()))) fun x7=>
    bif Nat.beq x7.1 0 then some (0,((x7.2.1.1,()),()))
    else some (1,((x7.2.1.1,()),()))
   else bif zm a1.2.2.2.1 6 then opt (bif !(zm a1.2.2.2.2.2.1 0) then some (1,((false,()),()))
      else opt (qL (a1.2.2.2.2.2.2.1.1,(a1.2.2.2.2.1,(1048576,())))) fun x8=>
       bif !x8.1 then some (1,((false,()),()))
       else opt (qL (a1.2.2.2.2.2.2.1.2,(1,(2097152,())))) fun x9=>
        bif !x9.1 then some (1,((false,()),()))
        else some (0,((x5.2.1.1,()),()))) fun x10=>
     bif Nat.beq x10.1 0 then some (0,((x10.2.1.1,()),()))
     else some (1,((x10.2.1.1,()),()))
    else some (1,((false,()),()))) fun x11=>
  bif Nat.beq x11.1 0 then opt (bif (zj ((a1.2.2.2.2.2.2.2.2.length:Nat):Int) 1) then some (1,((false,()),()))
    else bif (zj 2 ((a1.2.2.2.2.2.2.2.2.length:Nat):Int)) then some (1,((false,()),()))
     else some (0,((x11.2.1.1,()),()))) fun x12=>
   bif Nat.beq x12.1 0 then opt (zC (fun s13:((Bool×(Int×Unit))×Unit)=>
     bif (zj s13.1.2.1 ((a1.2.2.2.2.2.2.2.2.length:Nat):Int)) then opt (atI a1.2.2.2.2.2.2.2.2 s13.1.2.1) fun x14=>
      opt (opt (wL (a0,(x14,()))) fun x15=>
       bif !x15.1 then some (1,((false,()),()))
       else opt (atI x14 0) fun x16=>
        opt (qc (a0,(x16,()))) fun x17=>
        bif !(zm x17.1 a1.2.1) then some (1,((false,()),()))
        else opt (atI x14 (wrF .i64 (((x14.length:Nat):Int) - 1))) fun x18=>
         opt (qo (a0,(x18,()))) fun x19=>
         bif !(zm x19.1 a1.2.2.1) then some (1,((false,()),()))
         else some (0,((s13.1.1,()),()))) fun x20=>
      bif Nat.beq x20.1 0 then some (.inr ((x20.2.1.1,((wrF .i64 (s13.1.2.1+1)),())),()))
      else some (.inl (1,((x20.2.1.1,(s13.1.2.1,())),())))
     else some (.inl (0,((s13.1.1,(s13.1.2.1,())),())))) zK ((x12.2.1.1,(0,())),())) fun x21=>
    bif Nat.beq x21.1 0 then bif (zm ((a1.2.2.2.2.2.2.2.2.length:Nat):Int) 1) then some (true,())
     else opt (atI a1.2.2.2.2.2.2.2.2 0) fun x22=>
      opt (atI a1.2.2.2.2.2.2.2.2 1) fun x23=>
      opt (yg (a0,(x22,(x23,())))) fun x24=>
      some (x24.1,())
    else some (x21.2.1.1,())
   else some (x12.2.1.1,())
  else some (x11.2.1.1,())
 else some (x5.2.1.1,())
abbrev JE:Type:=(zJ×qn×Unit)→Option (Bool×Unit)
def zkx:Ww→Vz→JC→xl→Zm→JD→JE:=fun qL kU wL qc qo yg=>sF Tryz.prog [(71,⟨zaW,zaX,qL⟩),(128,⟨zaY,zaZ,kU⟩),(129,⟨UF,UG,wL⟩),(88,⟨QH,QI,qc⟩),(89,⟨KE,KF,qo⟩),(90,⟨UH,UI,yg⟩)] zt0 (zN []) 30 83 UJ UK
theorem zv6 (qL) (kU) (wL) (qc) (qo) (yg) (a0) (a1):zkx qL kU wL qc qo yg (a0,a1,())=zdK qL kU wL qc qo yg a0 a1:=by kernel_rfl
def um:JE:=zkx uk ZC vl jm wW uj
theorem zfN:Con.Ok Tryz.prog 83 ⟨UJ,UK,um⟩:=zv (zd zdJ (zd zmF (zd zfL (zd Wv (zd UB (zd zfM zi)))))) zo (by kernel_rfl)
theorem zpY (a0) (a1):um (a0,a1,())=zdK uk ZC vl jm wW uj a0 a1:=zv6 uk ZC vl jm wW uj a0 a1
abbrev Xx:List VT:=[⟨true,wa⟩,⟨true,zw⟩,⟨false,I⟩]
abbrev Xy:List VT:=[⟨true,zI⟩,⟨false,.bool⟩]
def ziz:zT:=zM [⟨zI,Ws zI,[9]⟩,cdF wa,cdF zw,cdF zO,cdF zu] [] [⟨3,147,none,(.list I),true⟩,⟨7,147,none,(.list I),true⟩,⟨10,147,none,(.list I),true⟩,⟨16,147,none,(.list I),true⟩,⟨19,147,none,(.list I),true⟩,⟨2,54,some 6,I,false⟩,⟨5,54,some 6,I,false⟩,⟨2,54,none,(.list I),true⟩,⟨5,54,none,(.list I),true⟩] [(3,147,11,[9]),(7,147,11,[9]),(10,147,11,[9]),(16,147,11,[9]),(19,147,11,[9]),(16,147,11,[9]),(19,147,11,[9])] [129,88,89,90,83]
def Xz (Jj:zaR) (wL:JC) (qc:xl) (qo:Zm) (yg:JD) (yh:JE) (a0:Xw) (a1:zJ) (a2:Int):Option (qn×Bool×Unit):=
 bif zm a1.1 0 then none
 else opt (zC (fun s0:((Int×(Int×Unit))×Unit)=>
   bif zj s0.1.2.1 a1.1 then opt (atI a1.2.1 s0.1.1) fun x1=>
    bif !x1 then bif zm a1.1 0 then none
     else some (.inr (((Int.tmod (wrF .i64 (s0.1.1+1)) a1.1),((wrF .i64 (s0.1.2.1+1)),())),()))
    else some (.inl (0,((s0.1.1,(s0.1.2.1,())),())))
   else some (.inl (0,((s0.1.1,(s0.1.2.1,())),())))) zK (((Int.tmod (wrF .i64 a0.2.2.1) a1.1),(0,())),())) fun x2=>
  opt (zC (fun s3:(((Int×((List Bool)×(List (Int×(Int×(Int×Int))))))×((List Int)×(Int×Unit)))×Unit)=>
   bif zj s3.1.2.2.1 16 then opt (Jj (s3.1.1,((wrF .u8 x2.2.1.1),((wrF .u8 (a0.2.2.2.1+(wrF .u8 s3.1.2.2.1))),())))) fun x4=>
    opt (bif (zj 0 ((x4.1.length:Nat):Int)) then opt (wL (s3.1.1,(x4.1,()))) fun x5=>
      bif x5.1 then opt (atI x4.1 0) fun x6=>
       opt (qc (s3.1.1,(x6,()))) fun x7=>
       opt (atI s3.1.1.2.1 x7.1) fun x8=>
       bif x8 then opt (atI x4.1 (wrF .i64 (((x4.1.length:Nat):Int) - 1))) fun x9=>
        opt (qo (s3.1.1,(x9,()))) fun x10=>
        opt (atI s3.1.1.2.1 x10.1) fun x11=>
        bif x11 then some (1,((x4.1,()),()))
        else some (0,((s3.1.2.1,()),()))
       else some (0,((s3.1.2.1,()),()))
      else some (0,((s3.1.2.1,()),()))
     else some (0,((s3.1.2.1,()),()))) fun x12=>
    bif Nat.beq x12.1 0 then some (.inr ((s3.1.1,(x12.2.1.1,((wrF .i64 (s3.1.2.2.1+1)),()))),()))
    else some (.inl (1,((s3.1.1,(x12.2.1.1,(s3.1.2.2.1,()))),())))
   else some (.inl (0,((s3.1.1,(s3.1.2.1,(s3.1.2.2.1,()))),())))) zK ((a1,([],(0,()))),())) fun x13=>
  bif Nat.beq x13.1 0 then some ((0,(0,(0,(0,(0,(0,((0,0),(0,[])))))))),(false,()))
  else bif zro x13.2.1.2.1 then opt (atI x13.2.1.2.1 0) fun x14=>
    opt (qc (a1,(x14,()))) fun x15=>
    opt (atI x13.2.1.2.1 (wrF .i64 (((x13.2.1.2.1.length:Nat):Int) - 1))) fun x16=>
    opt (qo (a1,(x16,()))) fun x17=>
    opt (bif a0.1 then some (0,(((),()),((a2,(x15.1,(x17.1,(6,((wrF .i64 (84+(wrF .i64 a0.2.2.2.2.1))),(0,(((wrF .i64 ((wrF .i64 (84+(wrF .i64 a0.2.2.2.2.1)))+(wrF .i64 (4*(wrF .i64 a0.2.2.2.2.2.2.1))))),(wrF .i64 (1+(wrF .i64 a0.2.2.2.2.2.2.2)))),(1099511627776,((x13.2.1.2.1::[]),()))))))))),())))
     else opt (atI (α:=Int) (4::(6::(8::(12::(16::(24::(48::(10::(5::(240::[])))))))))) (Int.tmod a0.2.2.2.2.2.1 10)) fun x18=>
      opt (gl (α:=Int) (4::(6::(8::(12::(16::(24::(48::(10::(5::(240::[])))))))))) (Int.toNat (Int.tmod a0.2.2.2.2.2.1 10))) fun x19=>
      some (0,(((),()),((a2,(x15.1,(x17.1,(7,((wrF .i64 (84+(wrF .i64 a0.2.2.2.2.1))),(x19,((0,0),(1099511627776,((x13.2.1.2.1::[]),()))))))))),())))) fun x20=>
    opt (zC (fun s21:(((Int×((List Bool)×(List (Int×(Int×(Int×Int))))))×(Unit×(Int×Unit)))×((Int×(Int×(Int×(Int×(Int×(Int×((Int×Int)×(Int×((List (List Int))×Unit)))))))))×Unit))=>
     bif zj s21.1.2.2.1 24 then bif a0.2.1 then bif (zm ((s21.2.1.2.2.2.2.2.2.2.2.1.length:Nat):Int) 1) then opt (zC (fun s22:(((Int×((List Bool)×(List (Int×(Int×(Int×Int))))))×((List Int)×(Int×Unit)))×Unit)=>
         bif zj s22.1.2.2.1 16 then opt (Jj (s22.1.1,((wrF .u8 x2.2.1.1),((wrF .u8 ((wrF .u8 (a0.2.2.2.1+(wrF .u8 s21.1.2.2.1)))+(wrF .u8 s22.1.2.2.1))),())))) fun x23=>
          opt (bif (zj 0 ((x23.1.length:Nat):Int)) then opt (wL (s22.1.1,(x23.1,()))) fun x24=>
            bif x24.1 then opt (atI x23.1 0) fun x25=>
             opt (qc (s22.1.1,(x25,()))) fun x26=>
             opt (atI s22.1.1.2.1 x26.1) fun x27=>
             bif x27 then opt (atI x23.1 (wrF .i64 (((x23.1.length:Nat):Int) - 1))) fun x28=>
              opt (qo (s22.1.1,(x28,()))) fun x29=>
              opt (atI s22.1.1.2.1 x29.1) fun x30=>
              bif x30 then some (1,((x23.1,()),()))
              else some (0,((s22.1.2.1,()),()))
             else some (0,((s22.1.2.1,()),()))
            else some (0,((s22.1.2.1,()),()))
           else some (0,((s22.1.2.1,()),()))) fun x31=>
          bif Nat.beq x31.1 0 then some (.inr ((s22.1.1,(x31.2.1.1,((wrF .i64 (s22.1.2.2.1+1)),()))),()))
          else some (.inl (1,((s22.1.1,(x31.2.1.1,(s22.1.2.2.1,()))),())))
         else some (.inl (0,((s22.1.1,(s22.1.2.1,(s22.1.2.2.1,()))),())))) zK ((s21.1.1,([],(0,()))),())) fun x32=>
        bif Nat.beq x32.1 0 then some (.inr ((s21.1.1,((),((wrF .i64 (s21.1.2.2.1+1)),()))),((s21.2.1.1,(s21.2.1.2.1,(s21.2.1.2.2.1,(s21.2.1.2.2.2.1,(s21.2.1.2.2.2.2.1,(s21.2.1.2.2.2.2.2.1,(s21.2.1.2.2.2.2.2.2.1,(s21.2.1.2.2.2.2.2.2.2.1,(s21.2.1.2.2.2.2.2.2.2.2.1,()))))))))),())))
        else opt (bif zro x32.2.1.2.1 then opt (atI x32.2.1.2.1 (wrF .i64 (((x32.2.1.2.1.length:Nat):Int) - 1))) fun x33=>
           opt (qo (s21.1.1,(x33,()))) fun x34=>
           bif zm x34.1 s21.2.1.2.2.1 then opt (yg (s21.1.1,(x13.2.1.2.1,(x32.2.1.2.1,())))) fun x35=>
            bif x35.1 then bif (qS s21.2.1.2.2.2.2.2.2.2.2.1.length ((x32.2.1.2.1::[]).length) 24) then some (0,(((),()),((s21.2.1.1,(s21.2.1.2.1,(s21.2.1.2.2.1,(s21.2.1.2.2.2.1,(s21.2.1.2.2.2.2.1,(s21.2.1.2.2.2.2.2.1,(s21.2.1.2.2.2.2.2.2.1,(s21.2.1.2.2.2.2.2.2.2.1,((s21.2.1.2.2.2.2.2.2.2.2.1++(x32.2.1.2.1::[])),()))))))))),())))
             else none
            else some (0,(((),()),((s21.2.1.1,(s21.2.1.2.1,(s21.2.1.2.2.1,(s21.2.1.2.2.2.1,(s21.2.1.2.2.2.2.1,(s21.2.1.2.2.2.2.2.1,(s21.2.1.2.2.2.2.2.2.1,(s21.2.1.2.2.2.2.2.2.2.1,(s21.2.1.2.2.2.2.2.2.2.2.1,()))))))))),())))
           else some (0,(((),()),((s21.2.1.1,(s21.2.1.2.1,(s21.2.1.2.2.1,(s21.2.1.2.2.2.1,(s21.2.1.2.2.2.2.1,(s21.2.1.2.2.2.2.2.1,(s21.2.1.2.2.2.2.2.2.1,(s21.2.1.2.2.2.2.2.2.2.1,(s21.2.1.2.2.2.2.2.2.2.2.1,()))))))))),())))
          else none) fun x36=>
         some (.inr ((s21.1.1,((),((wrF .i64 (s21.1.2.2.1+1)),()))),((x36.2.2.1.1,(x36.2.2.1.2.1,(x36.2.2.1.2.2.1,(x36.2.2.1.2.2.2.1,(x36.2.2.1.2.2.2.2.1,(x36.2.2.1.2.2.2.2.2.1,(x36.2.2.1.2.2.2.2.2.2.1,(x36.2.2.1.2.2.2.2.2.2.2.1,(x36.2.2.1.2.2.2.2.2.2.2.2.1,()))))))))),())))
       else some (.inl (0,((s21.1.1,((),(s21.1.2.2.1,()))),((s21.2.1.1,(s21.2.1.2.1,(s21.2.1.2.2.1,(s21.2.1.2.2.2.1,(s21.2.1.2.2.2.2.1,(s21.2.1.2.2.2.2.2.1,(s21.2.1.2.2.2.2.2.2.1,(s21.2.1.2.2.2.2.2.2.2.1,(s21.2.1.2.2.2.2.2.2.2.2.1,()))))))))),()))))
      else some (.inl (0,((s21.1.1,((),(s21.1.2.2.1,()))),((s21.2.1.1,(s21.2.1.2.1,(s21.2.1.2.2.1,(s21.2.1.2.2.2.1,(s21.2.1.2.2.2.2.1,(s21.2.1.2.2.2.2.2.1,(s21.2.1.2.2.2.2.2.2.1,(s21.2.1.2.2.2.2.2.2.2.1,(s21.2.1.2.2.2.2.2.2.2.2.1,()))))))))),()))))
     else some (.inl (0,((s21.1.1,((),(s21.1.2.2.1,()))),((s21.2.1.1,(s21.2.1.2.1,(s21.2.1.2.2.1,(s21.2.1.2.2.2.1,(s21.2.1.2.2.2.2.1,(s21.2.1.2.2.2.2.2.1,(s21.2.1.2.2.2.2.2.2.1,(s21.2.1.2.2.2.2.2.2.2.1,(s21.2.1.2.2.2.2.2.2.2.2.1,()))))))))),()))))) zK ((a1,((),(0,()))),((x20.2.2.1.1,(x20.2.2.1.2.1,(x20.2.2.1.2.2.1,(x20.2.2.1.2.2.2.1,(x20.2.2.1.2.2.2.2.1,(x20.2.2.1.2.2.2.2.2.1,(x20.2.2.1.2.2.2.2.2.2.1,(x20.2.2.1.2.2.2.2.2.2.2.1,(x20.2.2.1.2.2.2.2.2.2.2.2.1,()))))))))),()))) fun x37=>
    opt (yh (x37.2.1.1,((x37.2.2.1.1,(x37.2.2.1.2.1,(x37.2.2.1.2.2.1,(x37.2.2.1.2.2.2.1,(x37.2.2.1.2.2.2.2.1,(x37.2.2.1.2.2.2.2.2.1,(x37.2.2.1.2.2.2.2.2.2.1,(x37.2.2.1.2.2.2.2.2.2.2.1,x37.2.2.1.2.2.2.2.2.2.2.2.1)))))))),()))) fun x38=>
    some ((x37.2.2.1.1,(x37.2.2.1.2.1,(x37.2.2.1.2.2.1,(x37.2.2.1.2.2.2.1,(x37.2.2.1.2.2.2.2.1,(x37.2.2.1.2.2.2.2.2.1,(x37.2.2.1.2.2.2.2.2.2.1,(x37.2.2.1.2.2.2.2.2.2.2.1,x37.2.2.1.2.2.2.2.2.2.2.2.1)))))))),(x38.1,()))
   else none
abbrev Qh:Type:=(Xw×zJ×Int×Unit)→Option (qn×Bool×Unit)
def za1:zaR→JC→xl→Zm→JD→JE→Qh:=fun Jj wL qc qo yg yh=>sF Tryz.prog [(131,⟨zfE,zfF,Jj⟩),(129,⟨UF,UG,wL⟩),(88,⟨QH,QI,qc⟩),(89,⟨KE,KF,qo⟩),(90,⟨UH,UI,yg⟩),(83,⟨UJ,UK,yh⟩)] ziz (zN []) 30 63 Xx Xy
theorem zjR (Jj) (wL) (qc) (qo) (yg) (yh) (a0) (a1) (a2):za1 Jj wL qc qo yg yh (a0,a1,a2,())=Xz Jj wL qc qo yg yh a0 a1 a2:=by kernel_rfl
def xe:Qh:=za1 Zs vl jm wW uj um
theorem zgO:Con.Ok Tryz.prog 63 ⟨Xx,Xy,xe⟩:=zv (zd zrX (zd zfL (zd Wv (zd UB (zd zfM (zd zfN zi)))))) zo (by kernel_rfl)
theorem zgP (a0) (a1) (a2):xe (a0,a1,a2,())=Xz Zs vl jm wW uj um a0 a1 a2:=zjR Zs vl jm wW uj um a0 a1 a2
abbrev ZD:List VT:=[⟨true,yR⟩]
abbrev ZE:List VT:=[⟨false,(.list zI)⟩]
def zhM:zT:=zM [cdF yR,cdF zI,cdF wa,cdF xQ,cdF zw,cdF zO,⟨(.pair (.int .u8) (.pair (.int .u8) (.int .u8))),Ws (.pair (.int .u8) (.pair (.int .u8) (.int .u8))),[]⟩,cdF Zz,cdF zu] [] [⟨3,61,some 2,zI,false⟩,⟨3,61,some 3,wa,true⟩,⟨10,61,some 2,zI,false⟩,⟨10,61,some 3,wa,true⟩,⟨12,61,some 2,zI,false⟩,⟨12,61,some 3,wa,true⟩,⟨3,38,some 4,zI,false⟩,⟨3,38,some 5,zI,true⟩,⟨6,38,some 4,zI,false⟩,⟨6,38,some 5,zI,true⟩] [] []
def Ys (jg:ke) (vy:Qh) (a0:jQ):Option ((List qn)×Unit):=
 opt (zC (fun s0:((Int×Unit)×((List (Bool×(Bool×(Int×(Int×(Int×(Int×(Int×Int))))))))×Unit))=>
  bif (zj s0.1.1 ((a0.2.2.2.2.2.1.length:Nat):Int)) then opt (atI a0.2.2.2.2.2.1 s0.1.1) fun x1=>
   bif (qS s0.2.1.length (((true,x1.2)::[]).length) 10) then some (.inr (((wrF .i64 (s0.1.1+1)),()),((s0.2.1++((true,x1.2)::[])),())))
   else none
  else some (.inl (0,((s0.1.1,()),(s0.2.1,()))))) zK ((0,()),([],()))) fun x2=>
 opt (jg (a0.1,())) fun x3=>
 opt (zC (fun s4:(((Int×((List Bool)×(List (Int×(Int×(Int×Int))))))×(Int×Unit))×((List (Bool×(Bool×(Int×(Int×(Int×(Int×(Int×Int))))))))×((List (Int×(Int×(Int×(Int×(Int×(Int×((Int×Int)×(Int×(List (List Int)))))))))))×Unit)))=>
  bif (zj s4.1.2.1 ((s4.2.1.length:Nat):Int)) then bif (zj ((s4.2.2.1.length:Nat):Int) 6) then opt (atI s4.2.1 s4.1.2.1) fun x5=>
    opt (gl s4.2.1 (Int.toNat s4.1.2.1)) fun x6=>
    opt (vy (x6,(s4.1.1,((wrF .i64 (((s4.2.2.1.length:Nat):Int)+1)),())))) fun x7=>
    opt (bif x7.2.1 then bif (qS s4.2.2.1.length ((x7.1::[]).length) 96) then some (0,((),((s4.2.2.1++(x7.1::[])),())))
      else none
     else some (0,((),(s4.2.2.1,())))) fun x8=>
    some (.inr ((s4.1.1,((wrF .i64 (s4.1.2.1+1)),())),(s4.2.1,(x8.2.2.1,()))))
   else some (.inl (0,((s4.1.1,(s4.1.2.1,())),(s4.2.1,(s4.2.2.1,())))))
  else some (.inl (0,((s4.1.1,(s4.1.2.1,())),(s4.2.1,(s4.2.2.1,())))))) zK ((x3.1,(0,())),(x2.2.2.1,([],())))) fun x9=>
 opt (zC (fun s10:((Int×Unit)×((List (Int×(Int×(Int×(Int×(Int×(Int×((Int×Int)×(Int×(List (List Int)))))))))))×Unit))=>
  bif (zj s10.1.1 ((s10.2.1.length:Nat):Int)) then opt (bif (zj s10.1.1 ((a0.2.2.2.2.2.2.length:Nat):Int)) then opt (atI a0.2.2.2.2.2.2 s10.1.1) fun x11=>
     bif zj 0 x11 then opt (atI a0.2.2.2.2.2.2 s10.1.1) fun x12=>
      opt (atI s10.2.1 s10.1.1) fun x13=>
      opt (gl s10.2.1 (Int.toNat s10.1.1)) fun x14=>
      some (0,((),((s10.2.1.set (Int.toNat s10.1.1) (x14.1,(x14.2.1,(x14.2.2.1,(x14.2.2.2.1,(x14.2.2.2.2.1,(x14.2.2.2.2.2.1,(x14.2.2.2.2.2.2.1,((wrF .i64 (20*(wrF .i64 x12))),x14.2.2.2.2.2.2.2.2))))))))),())))
     else some (0,((),(s10.2.1,())))
    else some (0,((),(s10.2.1,())))) fun x15=>
   some (.inr (((wrF .i64 (s10.1.1+1)),()),(x15.2.2.1,())))
  else some (.inl (0,((s10.1.1,()),(s10.2.1,()))))) zK ((0,()),(x9.2.2.2.1,()))) fun x16=>
 some (x16.2.2.1,())
abbrev Yt:Type:=(jQ×Unit)→Option ((List qn)×Unit)
def zak:ke→Qh→Yt:=fun jg vy=>sF Tryz.prog [(32,⟨Wt,Wu,jg⟩),(63,⟨Xx,Xy,vy⟩)] zhM (zN []) 30 11 ZD ZE
theorem ziA (jg) (vy) (a0):zak jg vy (a0,())=Ys jg vy a0:=by kernel_rfl
def yS:Yt:=zak wD xe
theorem zfO:Con.Ok Tryz.prog 11 ⟨ZD,ZE,yS⟩:=zv (zd zaj (zd zgO zi)) zo (by kernel_rfl)
theorem zfP (a0):yS (a0,())=Ys wD xe a0:=ziA wD xe a0
abbrev VA:List VT:=[⟨true,kB⟩,⟨true,qt⟩,⟨false,(.list zI)⟩]
abbrev VB:List VT:=[⟨true,qt⟩,⟨false,(.list zI)⟩]
def zpZ:zT:=zM [cdF kB,cdF qt,cdF zI,cdF zw,cdF zO,cdF zL,cdF qh] [] [⟨8,86,some 7,zI,false⟩,⟨10,86,some 7,zI,false⟩,⟨12,86,some 7,zI,false⟩,⟨14,86,some 7,zI,false⟩,⟨16,86,some 7,zI,false⟩,⟨18,86,some 7,zI,false⟩,⟨6,86,some 7,zI,false⟩] [] []
def za2 (a0:xF) (a1:qN) (a2:(List qn)):Option (qN×(List qn)×Unit):=
 opt (kz a0.2.2.2.1.1 none (some (jl ((a0.2.2.2.1.1.length:Nat):Int) 130)) none) fun x0=>
 bif qS 0 a2.length 96 then bif qS 0 a1.2.2.1.length 32 then bif zm (Int.tmod a0.1 8) 0 then bif (zm ((a1.2.2.1.length:Nat):Int) 0) then none
    else opt (atI a1.2.2.1 (Int.tmod (wrF .i64 a0.2.1) ((a1.2.2.1.length:Nat):Int))) fun x1=>
     opt (gl a1.2.2.1 (Int.toNat (Int.tmod (wrF .i64 a0.2.1) ((a1.2.2.1.length:Nat):Int)))) fun x2=>
     some ((a1.1,(a1.2.1,((a1.2.2.1.set (Int.toNat (Int.tmod (wrF .i64 a0.2.1) ((a1.2.2.1.length:Nat):Int))) (x0,a0.2.2.2.1.2)),a1.2.2.2))),(a2,()))
   else bif zm (Int.tmod a0.1 8) 1 then bif (qS a1.2.2.1.length (((x0,a0.2.2.2.1.2)::[]).length) 32) then some ((a1.1,(a1.2.1,((a1.2.2.1++((x0,a0.2.2.2.1.2)::[])),a1.2.2.2))),(a2,()))
     else none
    else bif zm (Int.tmod a0.1 8) 2 then opt (kz a1.2.2.1 (some 1) none none) fun x3=>
      some ((a1.1,(a1.2.1,(x3,a1.2.2.2))),(a2,()))
     else bif zm (Int.tmod a0.1 8) 3 then some ((a1.1,(a1.2.1,(a1.2.2.1,a0.2.2.1))),(a2,()))
      else bif zm (Int.tmod a0.1 8) 4 then some ((a1.1,((a1.2.1.1,(a1.2.1.2.1,(a1.2.1.2.2.1,a0.2.2.1))),a1.2.2)),(a2,()))
       else bif zm (Int.tmod a0.1 8) 5 then some (((a0.2.2.1,a1.1.2),a1.2),(a2,()))
        else bif (zj 0 ((a2.length:Nat):Int)) then bif (zm ((a2.length:Nat):Int) 0) then none
          else opt (atI a2 (Int.tmod (wrF .i64 a0.2.1) ((a2.length:Nat):Int))) fun x4=>
           opt (gl a2 (Int.toNat (Int.tmod (wrF .i64 a0.2.1) ((a2.length:Nat):Int)))) fun x5=>
           some (a1,((a2.set (Int.toNat (Int.tmod (wrF .i64 a0.2.1) ((a2.length:Nat):Int))) a0.2.2.2.2),()))
         else some (a1,(a2,()))
  else none
 else none
abbrev za3:Type:=(xF×qN×(List qn)×Unit)→Option (qN×(List qn)×Unit)
def zhe:za3:=sF Tryz.prog [] zpZ (fun _ _=>false) 30 12 VA VB
theorem zr4 (a0) (a1) (a2):zhe (a0,a1,a2,())=za2 a0 a1 a2:=by kernel_rfl
def kD:za3:=zhe
theorem zmH:Con.Ok Tryz.prog 12 ⟨VA,VB,kD⟩:=zv zi zo (by kernel_rfl)
theorem zmI (a0) (a1) (a2):kD (a0,a1,a2,())=za2  a0 a1 a2:=zr4  a0 a1 a2
abbrev WK:List VT:=[⟨true,zw⟩,⟨false,I⟩]
abbrev WL:List VT:=[⟨false,.bool⟩]
def zyJ:zT:=zM [cdF zw,cdF zO] [] [] [] []
def zhN (a0:zJ) (a1:Int):Option (Bool×Unit):=
 bif !(zj a1 0) then some ((zj a1 a0.1),())
 else some (false,())
abbrev zcW:Type:=(zJ×Int×Unit)→Option (Bool×Unit)
def zo6:zcW:=sF Tryz.prog [] zyJ (zN []) 30 92 WK WL
theorem zzO (a0) (a1):zo6 (a0,a1,())=zhN a0 a1:=by kernel_rfl
def Vb:zcW:=zo6
theorem zt1:Con.Ok Tryz.prog 92 ⟨WK,WL,Vb⟩:=zv zi zo (by kernel_rfl)
theorem zt2 (a0) (a1):Vb (a0,a1,())=zhN  a0 a1:=zzO  a0 a1
abbrev QJ:List VT:=[⟨true,zw⟩]
abbrev QK:List VT:=[⟨false,.bool⟩]
def zv7:zT:=zM [cdF zw,cdF zO] [] [] [] [92]
def zfQ (WO:zcW) (a0:zJ):Option (Bool×Unit):=
 opt (zC (fun s0:((Bool×(Int×Unit))×Unit)=>
  bif (zj s0.1.2.1 ((a0.2.2.length:Nat):Int)) then opt (zC (fun s1:((Bool×(Int×Unit))×Unit)=>
    bif zj s1.1.2.1 4 then bif zm s1.1.2.1 0 then opt (atI a0.2.2 s0.1.2.1) fun x2=>
      opt (WO (a0,(x2.1,()))) fun x3=>
      bif x3.1 then opt (WO (a0,(x2.2.1,()))) fun x4=>
       bif x4.1 then bif (!(!(zm x2.1 x2.2.1))) then some (.inl (1,((false,(s1.1.2.1,())),())))
        else some (.inr ((s1.1.1,((wrF .i64 (s1.1.2.1+1)),())),()))
       else some (.inl (1,((false,(s1.1.2.1,())),())))
      else some (.inl (1,((false,(s1.1.2.1,())),())))
     else bif zm s1.1.2.1 1 then opt (atI a0.2.2 s0.1.2.1) fun x5=>
       opt (atI a0.2.1 x5.1) fun x6=>
       bif !x6 then some (.inr ((s1.1.1,((wrF .i64 (s1.1.2.1+1)),())),()))
       else opt (atI a0.2.1 x5.2.1) fun x7=>
        bif !(!x7) then some (.inl (1,((false,(s1.1.2.1,())),())))
        else some (.inr ((s1.1.1,((wrF .i64 (s1.1.2.1+1)),())),()))
      else bif zm s1.1.2.1 2 then opt (atI a0.2.2 s0.1.2.1) fun x8=>
        opt (kz a0.2.2 none (some s0.1.2.1) none) fun x9=>
        opt (zC (fun s10:((Bool×(Int×Unit))×Unit)=>
         bif (zj s10.1.2.1 ((x9.length:Nat):Int)) then opt (atI x9 s10.1.2.1) fun x11=>
          opt (bif zm x8.1 x11.1 then bif zm x8.2.1 x11.2.1 then some (1,((false,()),()))
            else bif zm x8.1 x11.2.1 then bif zm x8.2.1 x11.1 then some (1,((false,()),()))
              else some (0,((s10.1.1,()),()))
             else some (0,((s10.1.1,()),()))
           else bif zm x8.1 x11.2.1 then bif zm x8.2.1 x11.1 then some (1,((false,()),()))
             else some (0,((s10.1.1,()),()))
            else some (0,((s10.1.1,()),()))) fun x12=>
          bif Nat.beq x12.1 0 then some (.inr ((x12.2.1.1,((wrF .i64 (s10.1.2.1+1)),())),()))
          else some (.inl (1,((x12.2.1.1,(s10.1.2.1,())),())))
         else some (.inl (0,((s10.1.1,(s10.1.2.1,())),())))) zK ((false,(0,())),())) fun x13=>
        bif Nat.beq x13.1 0 then some (.inr ((s1.1.1,((wrF .i64 (s1.1.2.1+1)),())),()))
        else bif !x13.2.1.1 then some (.inl (1,((false,(s1.1.2.1,())),())))
         else some (.inr ((s1.1.1,((wrF .i64 (s1.1.2.1+1)),())),()))
       else bif zm s1.1.2.1 3 then opt (atI a0.2.2 s0.1.2.1) fun x14=>
         bif !(zj x14.2.2.1 1) then bif !(zj 1000 x14.2.2.1) then bif !(zj x14.2.2.2 0) then bif (!(!(zj 10000 x14.2.2.2))) then some (.inl (1,((false,(s1.1.2.1,())),())))
            else some (.inr ((s1.1.1,((wrF .i64 (s1.1.2.1+1)),())),()))
           else some (.inl (1,((false,(s1.1.2.1,())),())))
          else some (.inl (1,((false,(s1.1.2.1,())),())))
         else some (.inl (1,((false,(s1.1.2.1,())),())))
        else none
    else some (.inl (0,((s1.1.1,(s1.1.2.1,())),())))) zK ((s0.1.1,(0,())),())) fun x15=>
   bif Nat.beq x15.1 0 then some (.inr ((x15.2.1.1,((wrF .i64 (s0.1.2.1+1)),())),()))
   else some (.inl (1,((x15.2.1.1,(s0.1.2.1,())),())))
  else some (.inl (0,((s0.1.1,(s0.1.2.1,())),())))) zK ((false,(0,())),())) fun x16=>
 bif Nat.beq x16.1 0 then some (true,())
 else some (x16.2.1.1,())
abbrev za4:Type:=(zJ×Unit)→Option (Bool×Unit)
def zmJ:zcW→za4:=fun WO=>sF Tryz.prog [(92,⟨WK,WL,WO⟩)] zv7 (zN []) 30 64 QJ QK
theorem zyK (WO) (a0):zmJ WO (a0,())=zfQ WO a0:=by kernel_rfl
def Yu:za4:=zmJ Vb
theorem zr5:Con.Ok Tryz.prog 64 ⟨QJ,QK,Yu⟩:=zv (zd zt1 zi) zo (by kernel_rfl)
theorem zr6 (a0):Yu (a0,())=zfQ Vb a0:=zyK Vb a0
abbrev QL:List VT:=[⟨true,zw⟩,⟨false,I⟩,⟨true,(.pair .bool (.pair .bool (.pair .bool (.pair .bool (.pair .bool (.pair .bool (.pair .bool (.pair .bool (.pair .bool (.pair .bool (.pair .bool (.pair .bool (.pair .bool (.pair .bool (.pair .bool (.pair .bool (.pair .bool (.pair .bool (.pair .bool (.pair .bool (.pair .bool (.pair .bool (.pair .bool .bool)))))))))))))))))))))))⟩]
abbrev QM:List VT:=[⟨false,(.list .bool)⟩]
def zv8:zT:=zM [⟨(.pair .bool (.pair .bool (.pair .bool (.pair .bool (.pair .bool (.pair .bool (.pair .bool (.pair .bool (.pair .bool (.pair .bool (.pair .bool (.pair .bool (.pair .bool (.pair .bool (.pair .bool (.pair .bool (.pair .bool (.pair .bool (.pair .bool (.pair .bool (.pair .bool (.pair .bool (.pair .bool .bool))))))))))))))))))))))),Ws (.pair .bool (.pair .bool (.pair .bool (.pair .bool (.pair .bool (.pair .bool (.pair .bool (.pair .bool (.pair .bool (.pair .bool (.pair .bool (.pair .bool (.pair .bool (.pair .bool (.pair .bool (.pair .bool (.pair .bool (.pair .bool (.pair .bool (.pair .bool (.pair .bool (.pair .bool (.pair .bool .bool))))))))))))))))))))))),[]⟩,cdF zw,cdF zO] [] [⟨4,56,some 6,.bool,false⟩,⟨6,56,some 6,.bool,false⟩,⟨8,56,some 6,.bool,false⟩] [] []
def zfR (a0:zJ) (a1:Int) (a2:(Bool×(Bool×(Bool×(Bool×(Bool×(Bool×(Bool×(Bool×(Bool×(Bool×(Bool×(Bool×(Bool×(Bool×(Bool×(Bool×(Bool×(Bool×(Bool×(Bool×(Bool×(Bool×(Bool×Bool)))))))))))))))))))))))):Option ((List Bool)×Unit):=
 bif zhF a0.1 a0.1 1 then opt (atI (List.replicate (Int.toNat a0.1) false) a1) fun x0=>
  opt (gl (List.replicate (Int.toNat a0.1) false) (Int.toNat a1)) fun x1=>
  opt (zC (fun s2:((Int×Unit)×((List Bool)×Unit))=>
   bif zj s2.1.1 a0.1 then opt (zC (fun s3:((Int×Unit)×((List Bool)×Unit))=>
     bif (zj s3.1.1 ((a0.2.2.length:Nat):Int)) then opt (atI a0.2.2 s3.1.1) fun x4=>
      opt (bif zm s3.1.1 0 then bif !a2.1 then opt (atI s3.2.1 x4.1) fun x5=>
         opt (gl s3.2.1 (Int.toNat x4.1)) fun x6=>
         opt (atI s3.2.1 x4.2.1) fun x7=>
         opt (gl s3.2.1 (Int.toNat x4.2.1)) fun x8=>
         bif !(x6 == x8) then opt (atI s3.2.1 x4.1) fun x9=>
          opt (gl s3.2.1 (Int.toNat x4.1)) fun x10=>
          opt (atI (s3.2.1.set (Int.toNat x4.1) true) x4.2.1) fun x11=>
          opt (gl (s3.2.1.set (Int.toNat x4.1) true) (Int.toNat x4.2.1)) fun x12=>
          some (0,((),(((s3.2.1.set (Int.toNat x4.1) true).set (Int.toNat x4.2.1) true),())))
         else some (0,((),(s3.2.1,())))
        else some (0,((),(s3.2.1,())))
       else bif zm s3.1.1 1 then bif !a2.2.1 then opt (atI s3.2.1 x4.1) fun x13=>
          opt (gl s3.2.1 (Int.toNat x4.1)) fun x14=>
          opt (atI s3.2.1 x4.2.1) fun x15=>
          opt (gl s3.2.1 (Int.toNat x4.2.1)) fun x16=>
          bif !(x14 == x16) then opt (atI s3.2.1 x4.1) fun x17=>
           opt (gl s3.2.1 (Int.toNat x4.1)) fun x18=>
           opt (atI (s3.2.1.set (Int.toNat x4.1) true) x4.2.1) fun x19=>
           opt (gl (s3.2.1.set (Int.toNat x4.1) true) (Int.toNat x4.2.1)) fun x20=>
           some (0,((),(((s3.2.1.set (Int.toNat x4.1) true).set (Int.toNat x4.2.1) true),())))
          else some (0,((),(s3.2.1,())))
         else some (0,((),(s3.2.1,())))
        else bif zm s3.1.1 2 then bif !a2.2.2.1 then opt (atI s3.2.1 x4.1) fun x21=>
           opt (gl s3.2.1 (Int.toNat x4.1)) fun x22=>
           opt (atI s3.2.1 x4.2.1) fun x23=>
           opt (gl s3.2.1 (Int.toNat x4.2.1)) fun x24=>
           bif !(x22 == x24) then opt (atI s3.2.1 x4.1) fun x25=>
            opt (gl s3.2.1 (Int.toNat x4.1)) fun x26=>
            opt (atI (s3.2.1.set (Int.toNat x4.1) true) x4.2.1) fun x27=>
            opt (gl (s3.2.1.set (Int.toNat x4.1) true) (Int.toNat x4.2.1)) fun x28=>
            some (0,((),(((s3.2.1.set (Int.toNat x4.1) true).set (Int.toNat x4.2.1) true),())))
           else some (0,((),(s3.2.1,())))
          else some (0,((),(s3.2.1,())))
         else bif zm s3.1.1 3 then bif !a2.2.2.2.1 then opt (atI s3.2.1 x4.1) fun x29=>
            opt (gl s3.2.1 (Int.toNat x4.1)) fun x30=>
            opt (atI s3.2.1 x4.2.1) fun x31=>
            opt (gl s3.2.1 (Int.toNat x4.2.1)) fun x32=>
            bif !(x30 == x32) then opt (atI s3.2.1 x4.1) fun x33=>
             opt (gl s3.2.1 (Int.toNat x4.1)) fun x34=>
             opt (atI (s3.2.1.set (Int.toNat x4.1) true) x4.2.1) fun x35=>
             opt (gl (s3.2.1.set (Int.toNat x4.1) true) (Int.toNat x4.2.1)) fun x36=>
             some (0,((),(((s3.2.1.set (Int.toNat x4.1) true).set (Int.toNat x4.2.1) true),())))
            else some (0,((),(s3.2.1,())))
           else some (0,((),(s3.2.1,())))
          else bif zm s3.1.1 4 then bif !a2.2.2.2.2.1 then opt (atI s3.2.1 x4.1) fun x37=>
             opt (gl s3.2.1 (Int.toNat x4.1)) fun x38=>
             opt (atI s3.2.1 x4.2.1) fun x39=>
             opt (gl s3.2.1 (Int.toNat x4.2.1)) fun x40=>
             bif !(x38 == x40) then opt (atI s3.2.1 x4.1) fun x41=>
              opt (gl s3.2.1 (Int.toNat x4.1)) fun x42=>
              opt (atI (s3.2.1.set (Int.toNat x4.1) true) x4.2.1) fun x43=>
              opt (gl (s3.2.1.set (Int.toNat x4.1) true) (Int.toNat x4.2.1)) fun x44=>
              some (0,((),(((s3.2.1.set (Int.toNat x4.1) true).set (Int.toNat x4.2.1) true),())))
             else some (0,((),(s3.2.1,())))
            else some (0,((),(s3.2.1,())))
           else bif zm s3.1.1 5 then bif !a2.2.2.2.2.2.1 then opt (atI s3.2.1 x4.1) fun x45=>
              opt (gl s3.2.1 (Int.toNat x4.1)) fun x46=>
              opt (atI s3.2.1 x4.2.1) fun x47=>
              opt (gl s3.2.1 (Int.toNat x4.2.1)) fun x48=>
              bif !(x46 == x48) then opt (atI s3.2.1 x4.1) fun x49=>
               opt (gl s3.2.1 (Int.toNat x4.1)) fun x50=>
               opt (atI (s3.2.1.set (Int.toNat x4.1) true) x4.2.1) fun x51=>
               opt (gl (s3.2.1.set (Int.toNat x4.1) true) (Int.toNat x4.2.1)) fun x52=>
               some (0,((),(((s3.2.1.set (Int.toNat x4.1) true).set (Int.toNat x4.2.1) true),())))
              else some (0,((),(s3.2.1,())))
             else some (0,((),(s3.2.1,())))
            else bif zm s3.1.1 6 then bif !a2.2.2.2.2.2.2.1 then opt (atI s3.2.1 x4.1) fun x53=>
               opt (gl s3.2.1 (Int.toNat x4.1)) fun x54=>
               opt (atI s3.2.1 x4.2.1) fun x55=>
               opt (gl s3.2.1 (Int.toNat x4.2.1)) fun x56=>
               bif !(x54 == x56) then opt (atI s3.2.1 x4.1) fun x57=>
                opt (gl s3.2.1 (Int.toNat x4.1)) fun x58=>
                opt (atI (s3.2.1.set (Int.toNat x4.1) true) x4.2.1) fun x59=>
                opt (gl (s3.2.1.set (Int.toNat x4.1) true) (Int.toNat x4.2.1)) fun x60=>
                some (0,((),(((s3.2.1.set (Int.toNat x4.1) true).set (Int.toNat x4.2.1) true),())))
               else some (0,((),(s3.2.1,())))
              else some (0,((),(s3.2.1,())))
             else bif zm s3.1.1 7 then bif !a2.2.2.2.2.2.2.2.1 then opt (atI s3.2.1 x4.1) fun x61=>
                opt (gl s3.2.1 (Int.toNat x4.1)) fun x62=>
                opt (atI s3.2.1 x4.2.1) fun x63=>
                opt (gl s3.2.1 (Int.toNat x4.2.1)) fun x64=>
                bif !(x62 == x64) then opt (atI s3.2.1 x4.1) fun x65=>
                 opt (gl s3.2.1 (Int.toNat x4.1)) fun x66=>
                 opt (atI (s3.2.1.set (Int.toNat x4.1) true) x4.2.1) fun x67=>
                 opt (gl (s3.2.1.set (Int.toNat x4.1) true) (Int.toNat x4.2.1)) fun x68=>
                 some (0,((),(((s3.2.1.set (Int.toNat x4.1) true).set (Int.toNat x4.2.1) true),())))
                else some (0,((),(s3.2.1,())))
               else some (0,((),(s3.2.1,())))
              else bif zm s3.1.1 8 then bif !a2.2.2.2.2.2.2.2.2.1 then opt (atI s3.2.1 x4.1) fun x69=>
                 opt (gl s3.2.1 (Int.toNat x4.1)) fun x70=>
                 opt (atI s3.2.1 x4.2.1) fun x71=>
                 opt (gl s3.2.1 (Int.toNat x4.2.1)) fun x72=>
                 bif !(x70 == x72) then opt (atI s3.2.1 x4.1) fun x73=>
                  opt (gl s3.2.1 (Int.toNat x4.1)) fun x74=>
                  opt (atI (s3.2.1.set (Int.toNat x4.1) true) x4.2.1) fun x75=>
                  opt (gl (s3.2.1.set (Int.toNat x4.1) true) (Int.toNat x4.2.1)) fun x76=>
                  some (0,((),(((s3.2.1.set (Int.toNat x4.1) true).set (Int.toNat x4.2.1) true),())))
                 else some (0,((),(s3.2.1,())))
                else some (0,((),(s3.2.1,())))
               else bif zm s3.1.1 9 then bif !a2.2.2.2.2.2.2.2.2.2.1 then opt (atI s3.2.1 x4.1) fun x77=>
                  opt (gl s3.2.1 (Int.toNat x4.1)) fun x78=>
                  opt (atI s3.2.1 x4.2.1) fun x79=>
                  opt (gl s3.2.1 (Int.toNat x4.2.1)) fun x80=>
                  bif !(x78 == x80) then opt (atI s3.2.1 x4.1) fun x81=>
                   opt (gl s3.2.1 (Int.toNat x4.1)) fun x82=>
                   opt (atI (s3.2.1.set (Int.toNat x4.1) true) x4.2.1) fun x83=>
                   opt (gl (s3.2.1.set (Int.toNat x4.1) true) (Int.toNat x4.2.1)) fun x84=>
                   some (0,((),(((s3.2.1.set (Int.toNat x4.1) true).set (Int.toNat x4.2.1) true),())))
                  else some (0,((),(s3.2.1,())))
                 else some (0,((),(s3.2.1,())))
                else bif zm s3.1.1 10 then bif !a2.2.2.2.2.2.2.2.2.2.2.1 then opt (atI s3.2.1 x4.1) fun x85=>
                   opt (gl s3.2.1 (Int.toNat x4.1)) fun x86=>
                   opt (atI s3.2.1 x4.2.1) fun x87=>
                   opt (gl s3.2.1 (Int.toNat x4.2.1)) fun x88=>
                   bif !(x86 == x88) then opt (atI s3.2.1 x4.1) fun x89=>
                    opt (gl s3.2.1 (Int.toNat x4.1)) fun x90=>
                    opt (atI (s3.2.1.set (Int.toNat x4.1) true) x4.2.1) fun x91=>
                    opt (gl (s3.2.1.set (Int.toNat x4.1) true) (Int.toNat x4.2.1)) fun x92=>
                    some (0,((),(((s3.2.1.set (Int.toNat x4.1) true).set (Int.toNat x4.2.1) true),())))
                   else some (0,((),(s3.2.1,())))
                  else some (0,((),(s3.2.1,())))
                 else bif zm s3.1.1 11 then bif !a2.2.2.2.2.2.2.2.2.2.2.2.1 then opt (atI s3.2.1 x4.1) fun x93=>
                    opt (gl s3.2.1 (Int.toNat x4.1)) fun x94=>
                    opt (atI s3.2.1 x4.2.1) fun x95=>
                    opt (gl s3.2.1 (Int.toNat x4.2.1)) fun x96=>
                    bif !(x94 == x96) then opt (atI s3.2.1 x4.1) fun x97=>
                     opt (gl s3.2.1 (Int.toNat x4.1)) fun x98=>
                     opt (atI (s3.2.1.set (Int.toNat x4.1) true) x4.2.1) fun x99=>
                     opt (gl (s3.2.1.set (Int.toNat x4.1) true) (Int.toNat x4.2.1)) fun x100=>
                     some (0,((),(((s3.2.1.set (Int.toNat x4.1) true).set (Int.toNat x4.2.1) true),())))
                    else some (0,((),(s3.2.1,())))
                   else some (0,((),(s3.2.1,())))
                  else bif zm s3.1.1 12 then bif !a2.2.2.2.2.2.2.2.2.2.2.2.2.1 then opt (atI s3.2.1 x4.1) fun x101=>
                     opt (gl s3.2.1 (Int.toNat x4.1)) fun x102=>
                     opt (atI s3.2.1 x4.2.1) fun x103=>
                     opt (gl s3.2.1 (Int.toNat x4.2.1)) fun x104=>
                     bif !(x102 == x104) then opt (atI s3.2.1 x4.1) fun x105=>
                      opt (gl s3.2.1 (Int.toNat x4.1)) fun x106=>
                      opt (atI (s3.2.1.set (Int.toNat x4.1) true) x4.2.1) fun x107=>
                      opt (gl (s3.2.1.set (Int.toNat x4.1) true) (Int.toNat x4.2.1)) fun x108=>
                      some (0,((),(((s3.2.1.set (Int.toNat x4.1) true).set (Int.toNat x4.2.1) true),())))
                     else some (0,((),(s3.2.1,())))
                    else some (0,((),(s3.2.1,())))
                   else bif zm s3.1.1 13 then bif !a2.2.2.2.2.2.2.2.2.2.2.2.2.2.1 then opt (atI s3.2.1 x4.1) fun x109=>
                      opt (gl s3.2.1 (Int.toNat x4.1)) fun x110=>
                      opt (atI s3.2.1 x4.2.1) fun x111=>
                      opt (gl s3.2.1 (Int.toNat x4.2.1)) fun x112=>
                      bif !(x110 == x112) then opt (atI s3.2.1 x4.1) fun x113=>
                       opt (gl s3.2.1 (Int.toNat x4.1)) fun x114=>
                       opt (atI (s3.2.1.set (Int.toNat x4.1) true) x4.2.1) fun x115=>
                       opt (gl (s3.2.1.set (Int.toNat x4.1) true) (Int.toNat x4.2.1)) fun x116=>
                       some (0,((),(((s3.2.1.set (Int.toNat x4.1) true).set (Int.toNat x4.2.1) true),())))
                      else some (0,((),(s3.2.1,())))
                     else some (0,((),(s3.2.1,())))
                    else bif zm s3.1.1 14 then bif !a2.2.2.2.2.2.2.2.2.2.2.2.2.2.2.1 then opt (atI s3.2.1 x4.1) fun x117=>
                       opt (gl s3.2.1 (Int.toNat x4.1)) fun x118=>
                       opt (atI s3.2.1 x4.2.1) fun x119=>
                       opt (gl s3.2.1 (Int.toNat x4.2.1)) fun x120=>
                       bif !(x118 == x120) then opt (atI s3.2.1 x4.1) fun x121=>
                        opt (gl s3.2.1 (Int.toNat x4.1)) fun x122=>
                        opt (atI (s3.2.1.set (Int.toNat x4.1) true) x4.2.1) fun x123=>
                        opt (gl (s3.2.1.set (Int.toNat x4.1) true) (Int.toNat x4.2.1)) fun x124=>
                        some (0,((),(((s3.2.1.set (Int.toNat x4.1) true).set (Int.toNat x4.2.1) true),())))
                       else some (0,((),(s3.2.1,())))
                      else some (0,((),(s3.2.1,())))
                     else bif zm s3.1.1 15 then bif !a2.2.2.2.2.2.2.2.2.2.2.2.2.2.2.2.1 then opt (atI s3.2.1 x4.1) fun x125=>
                        opt (gl s3.2.1 (Int.toNat x4.1)) fun x126=>
                        opt (atI s3.2.1 x4.2.1) fun x127=>
                        opt (gl s3.2.1 (Int.toNat x4.2.1)) fun x128=>
                        bif !(x126 == x128) then opt (atI s3.2.1 x4.1) fun x129=>
                         opt (gl s3.2.1 (Int.toNat x4.1)) fun x130=>
                         opt (atI (s3.2.1.set (Int.toNat x4.1) true) x4.2.1) fun x131=>
                         opt (gl (s3.2.1.set (Int.toNat x4.1) true) (Int.toNat x4.2.1)) fun x132=>
                         some (0,((),(((s3.2.1.set (Int.toNat x4.1) true).set (Int.toNat x4.2.1) true),())))
                        else some (0,((),(s3.2.1,())))
                       else some (0,((),(s3.2.1,())))
                      else bif zm s3.1.1 16 then bif !a2.2.2.2.2.2.2.2.2.2.2.2.2.2.2.2.2.1 then opt (atI s3.2.1 x4.1) fun x133=>
                         opt (gl s3.2.1 (Int.toNat x4.1)) fun x134=>
                         opt (atI s3.2.1 x4.2.1) fun x135=>
                         opt (gl s3.2.1 (Int.toNat x4.2.1)) fun x136=>
                         bif !(x134 == x136) then opt (atI s3.2.1 x4.1) fun x137=>
                          opt (gl s3.2.1 (Int.toNat x4.1)) fun x138=>
                          opt (atI (s3.2.1.set (Int.toNat x4.1) true) x4.2.1) fun x139=>
                          opt (gl (s3.2.1.set (Int.toNat x4.1) true) (Int.toNat x4.2.1)) fun x140=>
                          some (0,((),(((s3.2.1.set (Int.toNat x4.1) true).set (Int.toNat x4.2.1) true),())))
                         else some (0,((),(s3.2.1,())))
                        else some (0,((),(s3.2.1,())))
                       else bif zm s3.1.1 17 then bif !a2.2.2.2.2.2.2.2.2.2.2.2.2.2.2.2.2.2.1 then opt (atI s3.2.1 x4.1) fun x141=>
                          opt (gl s3.2.1 (Int.toNat x4.1)) fun x142=>
                          opt (atI s3.2.1 x4.2.1) fun x143=>
                          opt (gl s3.2.1 (Int.toNat x4.2.1)) fun x144=>
                          bif !(x142 == x144) then opt (atI s3.2.1 x4.1) fun x145=>
                           opt (gl s3.2.1 (Int.toNat x4.1)) fun x146=>
                           opt (atI (s3.2.1.set (Int.toNat x4.1) true) x4.2.1) fun x147=>
                           opt (gl (s3.2.1.set (Int.toNat x4.1) true) (Int.toNat x4.2.1)) fun x148=>
                           some (0,((),(((s3.2.1.set (Int.toNat x4.1) true).set (Int.toNat x4.2.1) true),())))
                          else some (0,((),(s3.2.1,())))
                         else some (0,((),(s3.2.1,())))
                        else bif zm s3.1.1 18 then bif !a2.2.2.2.2.2.2.2.2.2.2.2.2.2.2.2.2.2.2.1 then opt (atI s3.2.1 x4.1) fun x149=>
                           opt (gl s3.2.1 (Int.toNat x4.1)) fun x150=>
                           opt (atI s3.2.1 x4.2.1) fun x151=>
                           opt (gl s3.2.1 (Int.toNat x4.2.1)) fun x152=>
                           bif !(x150 == x152) then opt (atI s3.2.1 x4.1) fun x153=>
                            opt (gl s3.2.1 (Int.toNat x4.1)) fun x154=>
                            opt (atI (s3.2.1.set (Int.toNat x4.1) true) x4.2.1) fun x155=>
                            opt (gl (s3.2.1.set (Int.toNat x4.1) true) (Int.toNat x4.2.1)) fun x156=>
                            some (0,((),(((s3.2.1.set (Int.toNat x4.1) true).set (Int.toNat x4.2.1) true),())))
                           else some (0,((),(s3.2.1,())))
                          else some (0,((),(s3.2.1,())))
                         else bif zm s3.1.1 19 then bif !a2.2.2.2.2.2.2.2.2.2.2.2.2.2.2.2.2.2.2.2.1 then opt (atI s3.2.1 x4.1) fun x157=>
                            opt (gl s3.2.1 (Int.toNat x4.1)) fun x158=>
                            opt (atI s3.2.1 x4.2.1) fun x159=>
                            opt (gl s3.2.1 (Int.toNat x4.2.1)) fun x160=>
                            bif !(x158 == x160) then opt (atI s3.2.1 x4.1) fun x161=>
                             opt (gl s3.2.1 (Int.toNat x4.1)) fun x162=>
                             opt (atI (s3.2.1.set (Int.toNat x4.1) true) x4.2.1) fun x163=>
                             opt (gl (s3.2.1.set (Int.toNat x4.1) true) (Int.toNat x4.2.1)) fun x164=>
                             some (0,((),(((s3.2.1.set (Int.toNat x4.1) true).set (Int.toNat x4.2.1) true),())))
                            else some (0,((),(s3.2.1,())))
                           else some (0,((),(s3.2.1,())))
                          else bif zm s3.1.1 20 then bif !a2.2.2.2.2.2.2.2.2.2.2.2.2.2.2.2.2.2.2.2.2.1 then opt (atI s3.2.1 x4.1) fun x165=>
                             opt (gl s3.2.1 (Int.toNat x4.1)) fun x166=>
                             opt (atI s3.2.1 x4.2.1) fun x167=>
                             opt (gl s3.2.1 (Int.toNat x4.2.1)) fun x168=>
                             bif !(x166 == x168) then opt (atI s3.2.1 x4.1) fun x169=>
                              opt (gl s3.2.1 (Int.toNat x4.1)) fun x170=>
                              opt (atI (s3.2.1.set (Int.toNat x4.1) true) x4.2.1) fun x171=>
                              opt (gl (s3.2.1.set (Int.toNat x4.1) true) (Int.toNat x4.2.1)) fun x172=>
                              some (0,((),(((s3.2.1.set (Int.toNat x4.1) true).set (Int.toNat x4.2.1) true),())))
                             else some (0,((),(s3.2.1,())))
                            else some (0,((),(s3.2.1,())))
                           else bif zm s3.1.1 21 then bif !a2.2.2.2.2.2.2.2.2.2.2.2.2.2.2.2.2.2.2.2.2.2.1 then opt (atI s3.2.1 x4.1) fun x173=>
                              opt (gl s3.2.1 (Int.toNat x4.1)) fun x174=>
                              opt (atI s3.2.1 x4.2.1) fun x175=>
                              opt (gl s3.2.1 (Int.toNat x4.2.1)) fun x176=>
                              bif !(x174 == x176) then opt (atI s3.2.1 x4.1) fun x177=>
                               opt (gl s3.2.1 (Int.toNat x4.1)) fun x178=>
                               opt (atI (s3.2.1.set (Int.toNat x4.1) true) x4.2.1) fun x179=>
                               opt (gl (s3.2.1.set (Int.toNat x4.1) true) (Int.toNat x4.2.1)) fun x180=>
                               some (0,((),(((s3.2.1.set (Int.toNat x4.1) true).set (Int.toNat x4.2.1) true),())))
                              else some (0,((),(s3.2.1,())))
                             else some (0,((),(s3.2.1,())))
                            else bif zm s3.1.1 22 then bif !a2.2.2.2.2.2.2.2.2.2.2.2.2.2.2.2.2.2.2.2.2.2.2.1 then opt (atI s3.2.1 x4.1) fun x181=>
                               opt (gl s3.2.1 (Int.toNat x4.1)) fun x182=>
                               opt (atI s3.2.1 x4.2.1) fun x183=>
                               opt (gl s3.2.1 (Int.toNat x4.2.1)) fun x184=>
                               bif !(x182 == x184) then opt (atI s3.2.1 x4.1) fun x185=>
                                opt (gl s3.2.1 (Int.toNat x4.1)) fun x186=>
                                opt (atI (s3.2.1.set (Int.toNat x4.1) true) x4.2.1) fun x187=>
                                opt (gl (s3.2.1.set (Int.toNat x4.1) true) (Int.toNat x4.2.1)) fun x188=>
                                some (0,((),(((s3.2.1.set (Int.toNat x4.1) true).set (Int.toNat x4.2.1) true),())))
                               else some (0,((),(s3.2.1,())))
                              else some (0,((),(s3.2.1,())))
                             else bif zm s3.1.1 23 then bif !a2.2.2.2.2.2.2.2.2.2.2.2.2.2.2.2.2.2.2.2.2.2.2.2 then opt (atI s3.2.1 x4.1) fun x189=>
                                opt (gl s3.2.1 (Int.toNat x4.1)) fun x190=>
                                opt (atI s3.2.1 x4.2.1) fun x191=>
                                opt (gl s3.2.1 (Int.toNat x4.2.1)) fun x192=>
                                bif !(x190 == x192) then opt (atI s3.2.1 x4.1) fun x193=>
                                 opt (gl s3.2.1 (Int.toNat x4.1)) fun x194=>
                                 opt (atI (s3.2.1.set (Int.toNat x4.1) true) x4.2.1) fun x195=>
                                 opt (gl (s3.2.1.set (Int.toNat x4.1) true) (Int.toNat x4.2.1)) fun x196=>
                                 some (0,((),(((s3.2.1.set (Int.toNat x4.1) true).set (Int.toNat x4.2.1) true),())))
                                else some (0,((),(s3.2.1,())))
                               else some (0,((),(s3.2.1,())))
                              else none) fun x197=>
      some (.inr (((wrF .i64 (s3.1.1+1)),()),(x197.2.2.1,())))
     else some (.inl (0,((s3.1.1,()),(s3.2.1,()))))) zK ((0,()),(s2.2.1,()))) fun x198=>
    some (.inr (((wrF .i64 (s2.1.1+1)),()),(x198.2.2.1,())))
   else some (.inl (0,((s2.1.1,()),(s2.2.1,()))))) zK ((0,()),(((List.replicate (Int.toNat a0.1) false).set (Int.toNat a1) true),()))) fun x199=>
  some (x199.2.2.1,())
 else none
abbrev za5:Type:=(zJ×Int×(Bool×(Bool×(Bool×(Bool×(Bool×(Bool×(Bool×(Bool×(Bool×(Bool×(Bool×(Bool×(Bool×(Bool×(Bool×(Bool×(Bool×(Bool×(Bool×(Bool×(Bool×(Bool×(Bool×Bool)))))))))))))))))))))))×Unit)→Option ((List Bool)×Unit)
def zmK:za5:=sF Tryz.prog [] zv8 (zN []) 30 66 QL QM
theorem zyL (a0) (a1) (a2):zmK (a0,a1,a2,())=zfR a0 a1 a2:=by kernel_rfl
def QN:za5:=zmK
theorem zr7:Con.Ok Tryz.prog 66 ⟨QL,QM,QN⟩:=zv zi zo (by kernel_rfl)
theorem zr8 (a0) (a1) (a2):QN (a0,a1,a2,())=zfR  a0 a1 a2:=zyL  a0 a1 a2
abbrev wc:List VT:=[⟨false,(.list .bool)⟩,⟨false,.bool⟩]
abbrev we:List VT:=[⟨false,I⟩]
def zdi:zT:=zM [] [] [] [] []
def ZQ (a0:(List Bool)) (a1:Bool):Option (Int×Unit):=
 opt (zC (fun s0:((Int×(Int×Unit))×Unit)=>
  bif (zj s0.1.2.1 ((a0.length:Nat):Int)) then opt (atI a0 s0.1.2.1) fun x1=>
   bif a1 == x1 then some (.inl (1,((s0.1.2.1,(s0.1.2.1,())),())))
   else some (.inr ((s0.1.1,((wrF .i64 (s0.1.2.1+1)),())),()))
  else some (.inl (0,((s0.1.1,(s0.1.2.1,())),())))) zK ((0,(0,())),())) fun x2=>
 bif Nat.beq x2.1 0 then some ((-1),())
 else some (x2.2.1.1,())
abbrev uo:Type:=((List Bool)×Bool×Unit)→Option (Int×Unit)
def XV:uo:=sF Tryz.prog [] zdi (zN []) 30 96 wc we
theorem zdL (a0) (a1):XV (a0,a1,())=ZQ a0 a1:=by kernel_rfl
def ye:uo:=XV
theorem zbM:Con.Ok Tryz.prog 96 ⟨wc,we,ye⟩:=zv zi zo (by kernel_rfl)
theorem zbN (a0) (a1):ye (a0,a1,())=ZQ  a0 a1:=zdL  a0 a1
abbrev ju:List VT:=[⟨false,(.list .bool)⟩,⟨false,.bool⟩]
abbrev jv:List VT:=[⟨false,.bool⟩]
def za6:zT:=zM [] [] [] [] [96]
def gy (yi:uo) (a0:(List Bool)) (a1:Bool):Option (Bool×Unit):=
 opt (yi (a0,(a1,()))) fun x0=>
 some ((!(zj x0.1 0)),())
abbrev xS:Type:=((List Bool)×Bool×Unit)→Option (Bool×Unit)
def WQ:uo→xS:=fun yi=>sF Tryz.prog [(96,⟨wc,we,yi⟩)] za6 (zN []) 30 65 ju jv
theorem zbO (yi) (a0) (a1):WQ yi (a0,a1,())=gy yi a0 a1:=by kernel_rfl
def wu:xS:=WQ ye
theorem Gz:Con.Ok Tryz.prog 65 ⟨ju,jv,wu⟩:=zv (zd zbM zi) zo (by kernel_rfl)
theorem GA (a0) (a1):wu (a0,a1,())=gy ye a0 a1:=zbO ye a0 a1
abbrev jA:List VT:=[⟨true,zw⟩]
abbrev jB:List VT:=[⟨false,I⟩]
def zv9:zT:=zM [⟨(.pair .bool (.pair .bool (.pair .bool (.pair .bool (.pair .bool (.pair .bool (.pair .bool (.pair .bool (.pair .bool (.pair .bool (.pair .bool (.pair .bool (.pair .bool (.pair .bool (.pair .bool (.pair .bool (.pair .bool (.pair .bool (.pair .bool (.pair .bool (.pair .bool (.pair .bool (.pair .bool .bool))))))))))))))))))))))),Ws (.pair .bool (.pair .bool (.pair .bool (.pair .bool (.pair .bool (.pair .bool (.pair .bool (.pair .bool (.pair .bool (.pair .bool (.pair .bool (.pair .bool (.pair .bool (.pair .bool (.pair .bool (.pair .bool (.pair .bool (.pair .bool (.pair .bool (.pair .bool (.pair .bool (.pair .bool (.pair .bool .bool))))))))))))))))))))))),[]⟩,cdF zw,cdF zO] [] [] [] [64,65]
def zfS (YV:za4) (YW:za5) (wv:xS) (a0:zJ):Option (Int×Unit):=
 opt (bif zj a0.1 2 then some (1,((260,()),()))
  else bif zj 12 a0.1 then some (1,((260,()),()))
   else bif (!(zm ((a0.2.1.length:Nat):Int) a0.1)) then some (1,((260,()),()))
    else some (0,((0,()),()))) fun x0=>
 bif Nat.beq x0.1 0 then opt (bif (zj 24 ((a0.2.2.length:Nat):Int)) then some (1,((260,()),()))
   else opt (YV (a0,())) fun x1=>
    bif !x1.1 then some (1,((260,()),()))
    else some (0,((x0.2.1.1,()),()))) fun x2=>
  bif Nat.beq x2.1 0 then bif zhF a0.1 a0.1 8 then opt (zC (fun s3:((Int×Unit)×((List Int)×Unit))=>
     bif (zj s3.1.1 ((a0.2.2.length:Nat):Int)) then opt (atI a0.2.2 s3.1.1) fun x4=>
      opt (atI s3.2.1 x4.1) fun x5=>
      opt (gl s3.2.1 (Int.toNat x4.1)) fun x6=>
      opt (atI s3.2.1 x4.1) fun x7=>
      opt (gl s3.2.1 (Int.toNat x4.1)) fun x8=>
      opt (atI (s3.2.1.set (Int.toNat x4.1) (wrF .i64 (x6+1))) x4.2.1) fun x9=>
      opt (gl (s3.2.1.set (Int.toNat x4.1) (wrF .i64 (x6+1))) (Int.toNat x4.2.1)) fun x10=>
      opt (atI (s3.2.1.set (Int.toNat x4.1) (wrF .i64 (x6+1))) x4.2.1) fun x11=>
      opt (gl (s3.2.1.set (Int.toNat x4.1) (wrF .i64 (x6+1))) (Int.toNat x4.2.1)) fun x12=>
      some (.inr (((wrF .i64 (s3.1.1+1)),()),(((s3.2.1.set (Int.toNat x4.1) (wrF .i64 (x6+1))).set (Int.toNat x4.2.1) (wrF .i64 (x10+1))),())))
     else some (.inl (0,((s3.1.1,()),(s3.2.1,()))))) zK ((0,()),((List.replicate (Int.toNat a0.1) 0),()))) fun x13=>
    opt (zC (fun s14:((Int×(Int×Unit))×Unit)=>
     bif (zj s14.1.2.1 ((a0.2.1.length:Nat):Int)) then opt (atI a0.2.1 s14.1.2.1) fun x15=>
      opt (bif x15 then opt (atI x13.2.2.1 s14.1.2.1) fun x16=>
        opt (gl x13.2.2.1 (Int.toNat s14.1.2.1)) fun x17=>
        bif zj x17 1 then some (1,((260,()),()))
        else opt (atI x13.2.2.1 s14.1.2.1) fun x18=>
         opt (gl x13.2.2.1 (Int.toNat s14.1.2.1)) fun x19=>
         bif zj 2 x19 then some (1,((260,()),()))
         else some (0,((s14.1.1,()),()))
       else some (0,((s14.1.1,()),()))) fun x20=>
      bif Nat.beq x20.1 0 then some (.inr ((x20.2.1.1,((wrF .i64 (s14.1.2.1+1)),())),()))
      else some (.inl (1,((x20.2.1.1,(s14.1.2.1,())),())))
     else some (.inl (0,((s14.1.1,(s14.1.2.1,())),())))) zK ((x2.2.1.1,(0,())),())) fun x21=>
    bif Nat.beq x21.1 0 then opt (YW (a0,(0,((false,(false,(false,(false,(false,(false,(false,(false,(false,(false,(false,(false,(false,(false,(false,(false,(false,(false,(false,(false,(false,(false,(false,false))))))))))))))))))))))),())))) fun x22=>
     opt (wv (x22.1,(false,()))) fun x23=>
     bif x23.1 then some (260,())
     else some (0,())
    else some (x21.2.1.1,())
   else none
  else some (x2.2.1.1,())
 else some (x0.2.1.1,())
abbrev xm:Type:=(zJ×Unit)→Option (Int×Unit)
def zmL:za4→za5→xS→xm:=fun YV YW wv=>sF Tryz.prog [(64,⟨QJ,QK,YV⟩),(66,⟨QL,QM,YW⟩),(65,⟨ju,jv,wv⟩)] zv9 (zN []) 30 37 jA jB
theorem zyM (YV) (YW) (wv) (a0):zmL YV YW wv (a0,())=zfS YV YW wv a0:=by kernel_rfl
def jC:xm:=zmL Yu QN wu
theorem Wx:Con.Ok Tryz.prog 37 ⟨jA,jB,jC⟩:=zv (zd zr5 (zd zr7 (zd Gz zi))) zo (by kernel_rfl)
theorem zr9 (a0):jC (a0,())=zfS Yu QN wu a0:=zyM Yu QN wu a0
abbrev wP:List VT:=[⟨false,I⟩,⟨false,I⟩,⟨false,I⟩]
abbrev wQ:List VT:=[⟨false,.bool⟩]
def zoe:zT:=zM [] [] [] [] []
def GB (a0:Int) (a1:Int) (a2:Int):Option (Bool×Unit):=
 bif !(zj a0 a1) then some ((!(zj a2 a0)),())
 else some (false,())
abbrev xW:Type:=(Int×Int×Int×Unit)→Option (Bool×Unit)
def zfT:xW:=sF Tryz.prog [] zoe (zN []) 30 67 wP wQ
theorem zp0 (a0) (a1) (a2):zfT (a0,a1,a2,())=GB a0 a1 a2:=by kernel_rfl
def wh:xW:=zfT
theorem Vo:Con.Ok Tryz.prog 67 ⟨wP,wQ,wh⟩:=zv zi zo (by kernel_rfl)
theorem zk7 (a0) (a1) (a2):wh (a0,a1,a2,())=GB  a0 a1 a2:=zp0  a0 a1 a2
abbrev xG:List VT:=[⟨true,WI⟩]
abbrev xH:List VT:=[⟨false,I⟩]
def zjS:zT:=zM [cdF WI] [] [] [] [67]
def Vp (zZ:xW) (a0:Xv):Option (Int×Unit):=
 opt (opt (zZ (a0.1,(1,(10000,())))) fun x0=>
  bif !x0.1 then some (1,((320,()),()))
  else opt (zZ (a0.2.1,(0,(1000,())))) fun x1=>
   bif !x1.1 then some (1,((320,()),()))
   else some (0,((0,()),()))) fun x2=>
 bif Nat.beq x2.1 0 then opt (opt (zZ (a0.2.2.1,(0,(10000,())))) fun x3=>
   bif !x3.1 then some (1,((320,()),()))
   else opt (zZ (a0.2.2.2,(1542,(65536,())))) fun x4=>
    bif !x4.1 then some (1,((320,()),()))
    else some (0,((x2.2.1.1,()),()))) fun x5=>
  bif Nat.beq x5.1 0 then some (0,())
  else some (x5.2.1.1,())
 else some (x2.2.1.1,())
abbrev Jl:Type:=(Xv×Unit)→Option (Int×Unit)
def zbU:xW→Jl:=fun zZ=>sF Tryz.prog [(67,⟨wP,wQ,zZ⟩)] zjS (zN []) 30 38 xG xH
theorem zk8 (zZ) (a0):zbU zZ (a0,())=Vp zZ a0:=by kernel_rfl
def vS:Jl:=zbU wh
theorem zhO:Con.Ok Tryz.prog 38 ⟨xG,xH,vS⟩:=zv (zd Vo zi) zo (by kernel_rfl)
theorem zhP (a0):vS (a0,())=Vp wh a0:=zk8 wh a0
abbrev xn:List VT:=[⟨true,zL⟩]
abbrev xp:List VT:=[⟨false,I⟩]
def zt3:zT:=zM [cdF zL,cdF qh] [] [] [] []
def zdM (a0:ql):Option (Int×Unit):=
 opt (bif (zj ((a0.1.length:Nat):Int) 1) then some (1,((370,()),()))
  else bif (zj 128 ((a0.1.length:Nat):Int)) then some (1,((370,()),()))
   else some (0,((0,()),()))) fun x0=>
 bif Nat.beq x0.1 0 then opt (zC (fun s1:((Int×(Int×(Int×Unit)))×Unit)=>
   bif (zj s1.1.2.2.1 ((a0.1.length:Nat):Int)) then opt (atI a0.1 s1.1.2.2.1) fun x2=>
    opt (bif zj x2.1 0 then some (1,((370,()),()))
     else bif zj 255 x2.1 then some (1,((370,()),()))
      else bif zj x2.2 1 then some (1,((370,()),()))
       else bif zj 9600000 x2.2 then some (1,((370,()),()))
        else some (0,((s1.1.1,()),()))) fun x3=>
    bif Nat.beq x3.1 0 then some (.inr ((x3.2.1.1,((wrF .i64 (s1.1.2.1+x2.2)),((wrF .i64 (s1.1.2.2.1+1)),()))),()))
    else some (.inl (1,((x3.2.1.1,(s1.1.2.1,(s1.1.2.2.1,()))),())))
   else some (.inl (0,((s1.1.1,(s1.1.2.1,(s1.1.2.2.1,()))),())))) zK ((x0.2.1.1,(0,(0,()))),())) fun x4=>
  bif Nat.beq x4.1 0 then opt (bif !(zm x4.2.1.2.1 a0.2) then some (1,((370,()),()))
    else bif zj 9600000 x4.2.1.2.1 then some (1,((370,()),()))
     else some (0,((x4.2.1.1,()),()))) fun x5=>
   bif Nat.beq x5.1 0 then some (0,())
   else some (x5.2.1.1,())
  else some (x4.2.1.1,())
 else some (x0.2.1.1,())
abbrev gr:Type:=(ql×Unit)→Option (Int×Unit)
def zky:gr:=sF Tryz.prog [] zt3 (zN []) 30 39 xn xp
theorem zwa (a0):zky (a0,())=zdM a0:=by kernel_rfl
def yM:gr:=zky
theorem GC:Con.Ok Tryz.prog 39 ⟨xn,xp,yM⟩:=zv zi zo (by kernel_rfl)
theorem zp1 (a0):yM (a0,())=zdM  a0:=zwa  a0
abbrev jD:List VT:=[⟨true,qt⟩]
abbrev jE:List VT:=[⟨false,I⟩]
def zjT:zT:=zM [cdF qt,cdF zw,cdF zO,cdF zL,cdF qh] [] [] [] [37,38,39]
def Vq (qg:xm) (vX:Jl) (qT:gr) (a0:qN):Option (Int×Unit):=
 opt (qg (a0.1,())) fun x0=>
 bif !(zm x0.1 0) then some (x0.1,())
 else opt (vX (a0.2.1,())) fun x1=>
  bif !(zm x1.1 0) then some (x1.1,())
  else opt (zC (fun s2:((Int×(Int×Unit))×Unit)=>
    bif (zj s2.1.2.1 ((a0.2.2.1.length:Nat):Int)) then opt (atI a0.2.2.1 s2.1.2.1) fun x3=>
     opt (qT (x3,())) fun x4=>
     bif !(zm x4.1 0) then some (.inl (1,((x4.1,(s2.1.2.1,())),())))
     else some (.inr ((s2.1.1,((wrF .i64 (s2.1.2.1+1)),())),()))
    else some (.inl (0,((s2.1.1,(s2.1.2.1,())),())))) zK ((0,(0,())),())) fun x5=>
   bif Nat.beq x5.1 0 then opt (bif (!(zm ((a0.2.2.1.length:Nat):Int) (wrF .i64 (2*((a0.1.2.2.length:Nat):Int))))) then some (1,((410,()),()))
     else bif zj a0.2.2.2 84 then some (1,((410,()),()))
      else bif zj 1542 a0.2.2.2 then some (1,((410,()),()))
       else some (0,((x5.2.1.1,()),()))) fun x6=>
    bif Nat.beq x6.1 0 then some (0,())
    else some (x6.2.1.1,())
   else some (x5.2.1.1,())
abbrev Jm:Type:=(qN×Unit)→Option (Int×Unit)
def zbV:xm→Jl→gr→Jm:=fun qg vX qT=>sF Tryz.prog [(37,⟨jA,jB,qg⟩),(38,⟨xG,xH,vX⟩),(39,⟨xn,xp,qT⟩)] zjT (zN []) 30 13 jD jE
theorem zk9 (qg) (vX) (qT) (a0):zbV qg vX qT (a0,())=Vq qg vX qT a0:=by kernel_rfl
def vT:Jm:=zbV jC vS yM
theorem zhQ:Con.Ok Tryz.prog 13 ⟨jD,jE,vT⟩:=zv (zd Wx (zd zhO (zd GC zi))) zo (by kernel_rfl)
theorem zhR (a0):vT (a0,())=Vq jC vS yM a0:=zk9 jC vS yM a0
abbrev zdN:List VT:=[⟨true,zw⟩,⟨false,I⟩,⟨false,(.list I)⟩]
abbrev zdO:List VT:=[⟨false,(.list .bool)⟩]
def zt4:zT:=zM [cdF zw,cdF zO] [] [⟨4,62,some 6,.bool,false⟩,⟨7,62,some 6,.bool,false⟩,⟨10,62,some 6,.bool,false⟩] [] [98]
def zdP (qH:Zn) (a0:zJ) (a1:Int) (a2:(List Int)):Option ((List Bool)×Unit):=
 bif zhF a0.1 a0.1 1 then opt (atI (List.replicate (Int.toNat a0.1) false) a1) fun x0=>
  opt (gl (List.replicate (Int.toNat a0.1) false) (Int.toNat a1)) fun x1=>
  opt (zC (fun s2:((Int×Unit)×((List Bool)×Unit))=>
   bif zj s2.1.1 a0.1 then opt (zC (fun s3:((Int×Unit)×((List Bool)×Unit))=>
     bif (zj s3.1.1 ((a0.2.2.length:Nat):Int)) then opt (atI a0.2.2 s3.1.1) fun x4=>
      opt (opt (qH (a2,(s3.1.1,()))) fun x5=>
       bif !x5.1 then opt (atI s3.2.1 x4.1) fun x6=>
        opt (gl s3.2.1 (Int.toNat x4.1)) fun x7=>
        bif x7 then opt (atI s3.2.1 x4.1) fun x8=>
         opt (gl s3.2.1 (Int.toNat x4.1)) fun x9=>
         opt (atI (s3.2.1.set (Int.toNat x4.1) true) x4.2.1) fun x10=>
         opt (gl (s3.2.1.set (Int.toNat x4.1) true) (Int.toNat x4.2.1)) fun x11=>
         some (0,((),(((s3.2.1.set (Int.toNat x4.1) true).set (Int.toNat x4.2.1) true),())))
        else opt (atI s3.2.1 x4.2.1) fun x12=>
         opt (gl s3.2.1 (Int.toNat x4.2.1)) fun x13=>
         bif x13 then opt (atI s3.2.1 x4.1) fun x14=>
          opt (gl s3.2.1 (Int.toNat x4.1)) fun x15=>
          opt (atI (s3.2.1.set (Int.toNat x4.1) true) x4.2.1) fun x16=>
          opt (gl (s3.2.1.set (Int.toNat x4.1) true) (Int.toNat x4.2.1)) fun x17=>
          some (0,((),(((s3.2.1.set (Int.toNat x4.1) true).set (Int.toNat x4.2.1) true),())))
         else some (0,((),(s3.2.1,())))
       else some (0,((),(s3.2.1,())))) fun x18=>
      some (.inr (((wrF .i64 (s3.1.1+1)),()),(x18.2.2.1,())))
     else some (.inl (0,((s3.1.1,()),(s3.2.1,()))))) zK ((0,()),(s2.2.1,()))) fun x19=>
    some (.inr (((wrF .i64 (s2.1.1+1)),()),(x19.2.2.1,())))
   else some (.inl (0,((s2.1.1,()),(s2.2.1,()))))) zK ((0,()),(((List.replicate (Int.toNat a0.1) false).set (Int.toNat a1) true),()))) fun x20=>
  some (x20.2.2.1,())
 else none
abbrev UL:Type:=(zJ×Int×(List Int)×Unit)→Option ((List Bool)×Unit)
def zkz:Zn→UL:=fun qH=>sF Tryz.prog [(98,⟨KG,KH,qH⟩)] zt4 (zN []) 30 70 zdN zdO
theorem zwb (qH) (a0) (a1) (a2):zkz qH (a0,a1,a2,())=zdP qH a0 a1 a2:=by kernel_rfl
def JF:UL:=zkz yJ
theorem zp2:Con.Ok Tryz.prog 70 ⟨zdN,zdO,JF⟩:=zv (zd UC zi) zo (by kernel_rfl)
theorem zp3 (a0) (a1) (a2):JF (a0,a1,a2,())=zdP yJ a0 a1 a2:=zwb yJ a0 a1 a2
abbrev UM:List VT:=[⟨true,zw⟩]
abbrev UN:List VT:=[⟨false,.bool⟩]
def zt5:zT:=zM [cdF zw,cdF zO] [] [] [] [68,69]
def zdQ (jV:Yq) (qI:Jz) (JZ:UL) (a0:zJ):Option (Bool×Unit):=
 opt (bif zj a0.1 2 then some (1,((false,()),()))
  else bif zj 12 a0.1 then some (1,((false,()),()))
   else bif (!(zm ((a0.2.1.length:Nat):Int) a0.1)) then some (1,((false,()),()))
    else bif (zj 24 ((a0.2.2.length:Nat):Int)) then some (1,((false,()),()))
     else some (0,((false,()),()))) fun x0=>
 bif Nat.beq x0.1 0 then bif zhF a0.1 a0.1 8 then opt (zC (fun s1:((Bool×(Int×Unit))×((List Int)×Unit))=>
    bif (zj s1.1.2.1 ((a0.2.2.length:Nat):Int)) then opt (atI a0.2.2 s1.1.2.1) fun x2=>
     opt (jV (a0,(x2,()))) fun x3=>
     bif !x3.1 then some (.inl (1,((false,(s1.1.2.1,())),(s1.2.1,()))))
     else opt (zC (fun s4:((Bool×(Int×Unit))×Unit)=>
       bif zj s4.1.2.1 s1.1.2.1 then opt (atI a0.2.2 s4.1.2.1) fun x5=>
        opt (qI (x5,(x2.1,(x2.2.1,())))) fun x6=>
        bif x6.1 then some (.inl (1,((false,(s4.1.2.1,())),())))
        else some (.inr ((s4.1.1,((wrF .i64 (s4.1.2.1+1)),())),()))
       else some (.inl (0,((s4.1.1,(s4.1.2.1,())),())))) zK ((s1.1.1,(0,())),())) fun x7=>
      bif Nat.beq x7.1 0 then opt (atI s1.2.1 x2.1) fun x8=>
       opt (gl s1.2.1 (Int.toNat x2.1)) fun x9=>
       opt (atI s1.2.1 x2.1) fun x10=>
       opt (gl s1.2.1 (Int.toNat x2.1)) fun x11=>
       opt (atI (s1.2.1.set (Int.toNat x2.1) (wrF .i64 (x9+1))) x2.2.1) fun x12=>
       opt (gl (s1.2.1.set (Int.toNat x2.1) (wrF .i64 (x9+1))) (Int.toNat x2.2.1)) fun x13=>
       opt (atI (s1.2.1.set (Int.toNat x2.1) (wrF .i64 (x9+1))) x2.2.1) fun x14=>
       opt (gl (s1.2.1.set (Int.toNat x2.1) (wrF .i64 (x9+1))) (Int.toNat x2.2.1)) fun x15=>
       some (.inr ((x7.2.1.1,((wrF .i64 (s1.1.2.1+1)),())),(((s1.2.1.set (Int.toNat x2.1) (wrF .i64 (x9+1))).set (Int.toNat x2.2.1) (wrF .i64 (x13+1))),())))
      else some (.inl (1,((x7.2.1.1,(s1.1.2.1,())),(s1.2.1,()))))
    else some (.inl (0,((s1.1.1,(s1.1.2.1,())),(s1.2.1,()))))) zK ((x0.2.1.1,(0,())),((List.replicate (Int.toNat a0.1) 0),()))) fun x16=>
   bif Nat.beq x16.1 0 then opt (JZ (a0,(0,([],())))) fun x17=>
    opt (zC (fun s18:((Bool×(Int×Unit))×Unit)=>
     bif zj s18.1.2.1 a0.1 then opt (opt (atI x17.1 s18.1.2.1) fun x19=>
       bif !x19 then some (1,((false,()),()))
       else opt (atI a0.2.1 s18.1.2.1) fun x20=>
        bif x20 then opt (atI x16.2.2.1 s18.1.2.1) fun x21=>
         opt (gl x16.2.2.1 (Int.toNat s18.1.2.1)) fun x22=>
         bif zj x22 1 then some (1,((false,()),()))
         else opt (atI x16.2.2.1 s18.1.2.1) fun x23=>
          opt (gl x16.2.2.1 (Int.toNat s18.1.2.1)) fun x24=>
          bif zj 2 x24 then some (1,((false,()),()))
          else some (0,((s18.1.1,()),()))
        else some (0,((s18.1.1,()),()))) fun x25=>
      bif Nat.beq x25.1 0 then some (.inr ((x25.2.1.1,((wrF .i64 (s18.1.2.1+1)),())),()))
      else some (.inl (1,((x25.2.1.1,(s18.1.2.1,())),())))
     else some (.inl (0,((s18.1.1,(s18.1.2.1,())),())))) zK ((x16.2.1.1,(0,())),())) fun x26=>
    bif Nat.beq x26.1 0 then some (true,())
    else some (x26.2.1.1,())
   else some (x16.2.1.1,())
  else none
 else some (x0.2.1.1,())
abbrev JG:Type:=(zJ×Unit)→Option (Bool×Unit)
def zkA:Yq→Jz→UL→JG:=fun jV qI JZ=>sF Tryz.prog [(68,⟨zaM,zaN,jV⟩),(69,⟨Uy,Uz,qI⟩),(70,⟨zdN,zdO,JZ⟩)] zt5 (zN []) 30 40 UM UN
theorem zwc (jV) (qI) (JZ) (a0):zkA jV qI JZ (a0,())=zdQ jV qI JZ a0:=by kernel_rfl
def uq:JG:=zkA uf xk JF
theorem zfU:Con.Ok Tryz.prog 40 ⟨UM,UN,uq⟩:=zv (zd zha (zd zfC (zd zp2 zi))) zo (by kernel_rfl)
theorem zp4 (a0):uq (a0,())=zdQ uf xk JF a0:=zwc uf xk JF a0
abbrev zdR:List VT:=[⟨true,WI⟩]
abbrev zdS:List VT:=[⟨false,.bool⟩]
def zt6:zT:=zM [cdF WI] [] [] [] [71]
def zdT (qL:Ww) (a0:Xv):Option (Bool×Unit):=
 opt (qL (a0.1,(1,(10000,())))) fun x0=>
 bif x0.1 then opt (qL (a0.2.1,(0,(1000,())))) fun x1=>
  bif x1.1 then opt (qL (a0.2.2.1,(0,(10000,())))) fun x2=>
   bif x2.1 then opt (qL (a0.2.2.2,(1542,(65536,())))) fun x3=>
    some (x3.1,())
   else some (false,())
  else some (false,())
 else some (false,())
abbrev UO:Type:=(Xv×Unit)→Option (Bool×Unit)
def zkB:Ww→UO:=fun qL=>sF Tryz.prog [(71,⟨zaW,zaX,qL⟩)] zt6 (zN []) 30 41 zdR zdS
theorem zwd (qL) (a0):zkB qL (a0,())=zdT qL a0:=by kernel_rfl
def JH:UO:=zkB uk
theorem zp5:Con.Ok Tryz.prog 41 ⟨zdR,zdS,JH⟩:=zv (zd zdJ zi) zo (by kernel_rfl)
theorem zp6 (a0):JH (a0,())=zdT uk a0:=zwd uk a0
abbrev UP:List VT:=[⟨true,zL⟩]
abbrev UQ:List VT:=[⟨false,.bool⟩]
def zt7:zT:=zM [cdF zL,cdF qh] [] [] [] []
def zdU (a0:ql):Option (Bool×Unit):=
 opt (bif (zj ((a0.1.length:Nat):Int) 1) then some (1,((false,()),()))
  else bif (zj 128 ((a0.1.length:Nat):Int)) then some (1,((false,()),()))
   else some (0,((false,()),()))) fun x0=>
 bif Nat.beq x0.1 0 then opt (zC (fun s1:((Bool×(Int×(Int×Unit)))×Unit)=>
   bif (zj s1.1.2.2.1 ((a0.1.length:Nat):Int)) then opt (atI a0.1 s1.1.2.2.1) fun x2=>
    opt (bif zj x2.1 0 then some (1,((false,()),()))
     else bif zj 255 x2.1 then some (1,((false,()),()))
      else bif zj x2.2 1 then some (1,((false,()),()))
       else bif zj 9600000 x2.2 then some (1,((false,()),()))
        else some (0,((s1.1.1,()),()))) fun x3=>
    bif Nat.beq x3.1 0 then some (.inr ((x3.2.1.1,((wrF .i64 (s1.1.2.1+x2.2)),((wrF .i64 (s1.1.2.2.1+1)),()))),()))
    else some (.inl (1,((x3.2.1.1,(s1.1.2.1,(s1.1.2.2.1,()))),())))
   else some (.inl (0,((s1.1.1,(s1.1.2.1,(s1.1.2.2.1,()))),())))) zK ((x0.2.1.1,(0,(0,()))),())) fun x4=>
  bif Nat.beq x4.1 0 then bif zm x4.2.1.2.1 a0.2 then some ((!(zj 9600000 x4.2.1.2.1)),())
   else some (false,())
  else some (x4.2.1.1,())
 else some (x0.2.1.1,())
abbrev JI:Type:=(ql×Unit)→Option (Bool×Unit)
def zkC:JI:=sF Tryz.prog [] zt7 (zN []) 30 42 UP UQ
theorem zwe (a0):zkC (a0,())=zdU a0:=by kernel_rfl
def ur:JI:=zkC
theorem zfV:Con.Ok Tryz.prog 42 ⟨UP,UQ,ur⟩:=zv zi zo (by kernel_rfl)
theorem zp7 (a0):ur (a0,())=zdU  a0:=zwe  a0
abbrev Vr:List VT:=[⟨true,qt⟩]
abbrev Vs:List VT:=[⟨false,I⟩]
def zjU:zT:=zM [cdF qt,cdF zw,cdF zO,cdF zL,cdF qh] [] [] [] [40,41,42]
def Vt (yj:JG) (Wa:UO) (yk:JI) (a0:qN):Option (Int×Unit):=
 opt (yj (a0.1,())) fun x0=>
 bif !x0.1 then some (260,())
 else opt (Wa (a0.2.1,())) fun x1=>
  bif !x1.1 then some (320,())
  else opt (zC (fun s2:((Int×(Int×Unit))×Unit)=>
    bif (zj s2.1.2.1 ((a0.2.2.1.length:Nat):Int)) then opt (atI a0.2.2.1 s2.1.2.1) fun x3=>
     opt (yk (x3,())) fun x4=>
     bif !x4.1 then some (.inl (1,((370,(s2.1.2.1,())),())))
     else some (.inr ((s2.1.1,((wrF .i64 (s2.1.2.1+1)),())),()))
    else some (.inl (0,((s2.1.1,(s2.1.2.1,())),())))) zK ((0,(0,())),())) fun x5=>
   bif Nat.beq x5.1 0 then opt (bif (!(zm ((a0.2.2.1.length:Nat):Int) (wrF .i64 (2*((a0.1.2.2.length:Nat):Int))))) then some (1,((410,()),()))
     else bif zj a0.2.2.2 84 then some (1,((410,()),()))
      else bif zj 1542 a0.2.2.2 then some (1,((410,()),()))
       else some (0,((x5.2.1.1,()),()))) fun x6=>
    bif Nat.beq x6.1 0 then some (0,())
    else some (x6.2.1.1,())
   else some (x5.2.1.1,())
abbrev Jn:Type:=(qN×Unit)→Option (Int×Unit)
def zbW:JG→UO→JI→Jn:=fun yj Wa yk=>sF Tryz.prog [(40,⟨UM,UN,yj⟩),(41,⟨zdR,zdS,Wa⟩),(42,⟨UP,UQ,yk⟩)] zjU (zN []) 30 14 Vr Vs
theorem zla (yj) (Wa) (yk) (a0):zbW yj Wa yk (a0,())=Vt yj Wa yk a0:=by kernel_rfl
def vU:Jn:=zbW uq JH ur
theorem zhS:Con.Ok Tryz.prog 14 ⟨Vr,Vs,vU⟩:=zv (zd zfU (zd zp5 (zd zfV zi))) zo (by kernel_rfl)
theorem zhT (a0):vU (a0,())=Vt uq JH ur a0:=zla uq JH ur a0
abbrev uQ:List VT:=[⟨true,zw⟩,⟨false,I⟩]
abbrev uR:List VT:=[⟨false,.bool⟩]
def zof:zT:=zM [cdF zw,cdF zO] [] [] [] [67]
def GD (zZ:xW) (a0:zJ) (a1:Int):Option (Bool×Unit):=
 opt (zZ (a1,(0,((wrF .i64 (a0.1 - 1)),())))) fun x0=>
 bif x0.1 then opt (atI a0.2.1 a1) fun x1=>
  some (x1,())
 else some (false,())
abbrev XA:Type:=(zJ×Int×Unit)→Option (Bool×Unit)
def zfW:xW→XA:=fun zZ=>sF Tryz.prog [(67,⟨wP,wQ,zZ⟩)] zof (zN []) 30 119 uQ uR
theorem zp8 (zZ) (a0) (a1):zfW zZ (a0,a1,())=GD zZ a0 a1:=by kernel_rfl
def gP:XA:=zfW wh
theorem zlb:Con.Ok Tryz.prog 119 ⟨uQ,uR,gP⟩:=zv (zd Vo zi) zo (by kernel_rfl)
theorem zlc (a0) (a1):gP (a0,a1,())=GD wh a0 a1:=zp8 wh a0 a1
abbrev xI:List VT:=[⟨false,I⟩,⟨false,I⟩,⟨false,I⟩]
abbrev xJ:List VT:=[⟨false,.bool⟩]
def zjV:zT:=zM [] [] [] [] []
def Vu (a0:Int) (a1:Int) (a2:Int):Option (Bool×Unit):=
 bif !(zj a0 a1) then some ((!(zj a2 a0)),())
 else some (false,())
abbrev Jo:Type:=(Int×Int×Int×Unit)→Option (Bool×Unit)
def zbX:Jo:=sF Tryz.prog [] zjV (zN []) 30 86 xI xJ
theorem zld (a0) (a1) (a2):zbX (a0,a1,a2,())=Vu a0 a1 a2:=by kernel_rfl
def vW:Jo:=zbX
theorem zhU:Con.Ok Tryz.prog 86 ⟨xI,xJ,vW⟩:=zv zi zo (by kernel_rfl)
theorem zhV (a0) (a1) (a2):vW (a0,a1,a2,())=Vu  a0 a1 a2:=zld  a0 a1 a2
abbrev wH:List VT:=[⟨true,zu⟩]
abbrev wI:List VT:=[⟨false,I⟩]
def zsa:zT:=zM [cdF zu] [] [] [] [86]
def zcw (xK:Jo) (a0:qx):Option (Int×Unit):=
 opt (opt (xK (a0.1,(1,(1048576,())))) fun x0=>
  bif !x0.1 then some (1,((130,()),()))
  else opt (xK (a0.2,(1,(2097152,())))) fun x1=>
   bif !x1.1 then some (1,((130,()),()))
   else some (0,((0,()),()))) fun x2=>
 bif Nat.beq x2.1 0 then some (0,())
 else some (x2.2.1.1,())
abbrev xC:Type:=(qx×Unit)→Option (Int×Unit)
def ziB:Jo→xC:=fun xK=>sF Tryz.prog [(86,⟨xI,xJ,xK⟩)] zsa (zN []) 30 84 wH wI
theorem zt8 (xK) (a0):ziB xK (a0,())=zcw xK a0:=by kernel_rfl
def jJ:xC:=ziB vW
theorem WU:Con.Ok Tryz.prog 84 ⟨wH,wI,jJ⟩:=zv (zd zhU zi) zo (by kernel_rfl)
theorem zog (a0):jJ (a0,())=zcw vW a0:=zt8 vW a0
abbrev yv:List VT:=[⟨true,Yo⟩,⟨false,(.list I)⟩]
abbrev yw:List VT:=[⟨false,(.list I)⟩]
def zle:zT:=zM [cdF Yo,cdF zO,cdF zo5] [] [⟨5,30,some 4,I,false⟩,⟨5,30,none,I,true⟩,⟨5,30,some 5,I,true⟩,⟨1,54,none,I,true⟩,⟨3,54,none,I,true⟩,⟨6,54,none,I,true⟩,⟨8,54,none,I,true⟩,⟨0,54,none,I,true⟩] [(5,30,5,[0])] []
def Kb (a0:Va) (a1:(List Int)):Option ((List Int)×Unit):=
 bif (zhF 0 (wrF .i64 (((a1.length:Nat):Int)+1)) 8) then opt (zC (fun s0:((Int×Unit)×(((List Int)×Unit)×(Unit×(Unit×Unit))))=>
   bif (zj s0.1.1 ((a1.length:Nat):Int)) then opt (atI a1 s0.1.1) fun x1=>
    bif zj x1 0 then some (.inl (0,((s0.1.1,()),((s0.2.1.1,()),((),((),()))))))
    else bif (!(zj x1 (wrF .i64 (2*((a0.2.2.length:Nat):Int))))) then some (.inl (0,((s0.1.1,()),((s0.2.1.1,()),((),((),()))))))
     else opt (atI a0.2.2 (wrF .i64 (Int.tdiv x1 2))) fun x2=>
      opt (bif zm (Int.tmod x1 2) 1 then some (0,(((x1,(x2.2.1,x2.1)),()),((),((),()))))
       else some (0,(((x1,(x2.1,x2.2.1)),()),((),((),()))))) fun x3=>
      opt (bif zm s0.1.1 0 then bif (qS s0.2.1.1.length ((x3.2.1.1.2.1::[]).length) 8) then some (0,((),(((s0.2.1.1++(x3.2.1.1.2.1::[])),()),((),()))))
        else none
       else some (0,((),((s0.2.1.1,()),((),()))))) fun x4=>
      bif (qS x4.2.2.1.1.length ((x3.2.1.1.2.2::[]).length) 8) then some (.inr (((wrF .i64 (s0.1.1+1)),()),(((x4.2.2.1.1++(x3.2.1.1.2.2::[])),()),((),((),())))))
      else none
   else some (.inl (0,((s0.1.1,()),((s0.2.1.1,()),((),((),()))))))) zK ((0,()),(((List.replicate (Int.toNat 0) 0),()),((),((),()))))) fun x5=>
  some (x5.2.2.1.1,())
 else none
abbrev kf:Type:=(Va×(List Int)×Unit)→Option ((List Int)×Unit)
def zdj:kf:=sF Tryz.prog [] zle (zN []) 30 176 yv yw
theorem zmM (a0) (a1):zdj (a0,a1,())=Kb a0 a1:=by kernel_rfl
def yx:kf:=zdj
theorem zal:Con.Ok Tryz.prog 176 ⟨yv,yw,yx⟩:=zv zi zo (by kernel_rfl)
theorem ziC (a0) (a1):yx (a0,a1,())=Kb  a0 a1:=zmM  a0 a1
abbrev yy:List VT:=[⟨true,Yo⟩,⟨false,(.list I)⟩]
abbrev yz:List VT:=[⟨false,.bool⟩]
def zlf:zT:=zM [⟨(.pair .bool (.pair .bool (.pair .bool (.pair .bool (.pair .bool (.pair .bool (.pair .bool (.pair .bool (.pair .bool (.pair .bool (.pair .bool .bool))))))))))),Ws (.pair .bool (.pair .bool (.pair .bool (.pair .bool (.pair .bool (.pair .bool (.pair .bool (.pair .bool (.pair .bool (.pair .bool (.pair .bool .bool))))))))))),[]⟩,cdF Yo,cdF zO,cdF zo5] [] [] [] []
def Kc (a0:Va) (a1:(List Int)):Option (Bool×Unit):=
 opt (bif (zj ((a1.length:Nat):Int) 1) then some (1,((false,()),()))
  else bif (zj 8 ((a1.length:Nat):Int)) then some (1,((false,()),()))
   else some (0,((false,()),()))) fun x0=>
 bif Nat.beq x0.1 0 then opt (zC (fun s1:((Int×(Int×(Int×Unit)))×((List Bool)×(Unit×(Unit×Unit))))=>
   bif (zj s1.1.2.2.1 ((a1.length:Nat):Int)) then opt (atI a1 s1.1.2.2.1) fun x2=>
    bif zj x2 0 then some (.inl (0,((s1.1.1,(s1.1.2.1,(s1.1.2.2.1,()))),(s1.2.1,((),((),()))))))
    else bif (!(zj x2 (wrF .i64 (2*((a0.2.2.length:Nat):Int))))) then some (.inl (0,((s1.1.1,(s1.1.2.1,(s1.1.2.2.1,()))),(s1.2.1,((),((),()))))))
     else opt (atI a0.2.2 (wrF .i64 (Int.tdiv x2 2))) fun x3=>
      opt (bif zm (Int.tmod x2 2) 1 then some (0,(((x2,(x3.2.1,x3.1)),()),((),((),()))))
       else some (0,(((x2,(x3.1,x3.2.1)),()),((),((),()))))) fun x4=>
      bif Nat.beq x4.1 0 then opt (bif zm s1.1.2.2.1 0 then bif zj x4.2.1.1.2.1 12 then opt (atI s1.2.1 x4.2.1.1.2.1) fun x5=>
          opt (gl s1.2.1 (Int.toNat x4.2.1.1.2.1)) fun x6=>
          some (0,((),((s1.2.1.set (Int.toNat x4.2.1.1.2.1) true),((),()))))
         else none
        else bif !(zm x4.2.1.1.2.1 s1.1.1) then some (1,((),(s1.2.1,((),()))))
         else opt (atI a0.2.1 s1.1.1) fun x7=>
          bif x7 then some (1,((),(s1.2.1,((),()))))
          else some (0,((),(s1.2.1,((),()))))) fun x8=>
       bif Nat.beq x8.1 0 then bif zj x4.2.1.1.2.2 12 then opt (atI x8.2.2.1 x4.2.1.1.2.2) fun x9=>
         opt (gl x8.2.2.1 (Int.toNat x4.2.1.1.2.2)) fun x10=>
         bif x10 then some (.inl (1,((s1.1.1,(s1.1.2.1,(s1.1.2.2.1,()))),(x8.2.2.1,((),((),()))))))
         else bif zj x4.2.1.1.2.2 12 then opt (atI x8.2.2.1 x4.2.1.1.2.2) fun x11=>
           opt (gl x8.2.2.1 (Int.toNat x4.2.1.1.2.2)) fun x12=>
           some (.inr ((x4.2.1.1.2.2,((wrF .i64 (s1.1.2.1+1)),((wrF .i64 (s1.1.2.2.1+1)),()))),((x8.2.2.1.set (Int.toNat x4.2.1.1.2.2) true),((),((),())))))
          else none
        else none
       else some (.inl (1,((s1.1.1,(s1.1.2.1,(s1.1.2.2.1,()))),(x8.2.2.1,((),((),()))))))
      else none
   else some (.inl (0,((s1.1.1,(s1.1.2.1,(s1.1.2.2.1,()))),(s1.2.1,((),((),()))))))) zK ((0,(0,(0,()))),((List.replicate 12 false),((),((),()))))) fun x13=>
  bif Nat.beq x13.1 0 then some ((zm x13.2.1.2.1 ((a1.length:Nat):Int)),())
  else some ((zm x13.2.1.2.1 ((a1.length:Nat):Int)),())
 else some (x0.2.1.1,())
abbrev kg:Type:=(Va×(List Int)×Unit)→Option (Bool×Unit)
def zdk:kg:=sF Tryz.prog [] zlf (zN []) 30 157 yy yz
theorem zmN (a0) (a1):zdk (a0,a1,())=Kc a0 a1:=by kernel_rfl
def yA:kg:=zdk
theorem zam:Con.Ok Tryz.prog 157 ⟨yy,yz,yA⟩:=zv zi zo (by kernel_rfl)
theorem ziD (a0) (a1):yA (a0,a1,())=Kc  a0 a1:=zmN  a0 a1
abbrev uu:List VT:=[⟨true,zw⟩,⟨false,(.list I)⟩]
abbrev uv:List VT:=[⟨false,I⟩]
def zt9:zT:=zM [cdF zw,cdF zO] [] [] [] [37,157]
def zdV (qg:xm) (jh:kg) (a0:zJ) (a1:(List Int)):Option (Int×Unit):=
 opt (qg (a0,())) fun x0=>
 bif !(zm x0.1 0) then some (x0.1,())
 else opt (jh (a0,(a1,()))) fun x1=>
  bif !x1.1 then some (310,())
  else some (0,())
abbrev JJ:Type:=(zJ×(List Int)×Unit)→Option (Int×Unit)
def zkD:xm→kg→JJ:=fun qg jh=>sF Tryz.prog [(37,⟨jA,jB,qg⟩),(157,⟨yy,yz,jh⟩)] zt9 (zN []) 30 174 uu uv
theorem zwf (qg) (jh) (a0) (a1):zkD qg jh (a0,a1,())=zdV qg jh a0 a1:=by kernel_rfl
def uw:JJ:=zkD jC yA
theorem zfX:Con.Ok Tryz.prog 174 ⟨uu,uv,uw⟩:=zv (zd Wx (zd zam zi)) zo (by kernel_rfl)
theorem zp9 (a0) (a1):uw (a0,a1,())=zdV jC yA a0 a1:=zwf jC yA a0 a1
abbrev ZR:List VT:=[⟨true,zw⟩,⟨false,(.list I)⟩]
abbrev ZS:List VT:=[⟨false,(.list I)⟩,⟨false,I⟩]
def zua:zT:=zM [cdF zw,cdF zO] [] [⟨3,23,some 6,I,false⟩,⟨3,23,some 8,I,false⟩] [] [174]
def zdW (qW:kf) (yl:JJ) (a0:zJ) (a1:(List Int)):Option ((List Int)×Int×Unit):=
 opt (yl (a0,(a1,()))) fun x0=>
 bif !(zm x0.1 0) then some ([],(x0.1,()))
 else opt (qW (a0,(a1,()))) fun x1=>
  some (x1.1,(0,()))
abbrev UR:Type:=(zJ×(List Int)×Unit)→Option ((List Int)×Int×Unit)
def zkE:kf→JJ→UR:=fun qW yl=>sF Tryz.prog [(176,⟨yv,yw,qW⟩),(174,⟨uu,uv,yl⟩)] zua (zN []) 30 173 ZR ZS
theorem zwg (qW) (yl) (a0) (a1):zkE qW yl (a0,a1,())=zdW qW yl a0 a1:=by kernel_rfl
def JK:UR:=zkE yx uw
theorem zqa:Con.Ok Tryz.prog 173 ⟨ZR,ZS,JK⟩:=zv (zd zal (zd zfX zi)) zo (by kernel_rfl)
theorem zqb (a0) (a1):JK (a0,a1,())=zdW yx uw a0 a1:=zwg yx uw a0 a1
abbrev QO:List VT:=[⟨true,zw⟩,⟨false,(.list I)⟩]
abbrev QP:List VT:=[⟨false,I⟩,⟨false,I⟩,⟨false,I⟩]
def zwh:zT:=zM [cdF zw,cdF zO] [] [] [] []
def zfY (Wb:UR) (a0:zJ) (a1:(List Int)):Option (Int×Int×Int×Unit):=
 opt (Wb (a0,(a1,()))) fun x0=>
 bif !(zm x0.2.1 0) then some (0,(0,(x0.2.1,())))
 else opt (atI x0.1 0) fun x1=>
  opt (atI x0.1 (wrF .i64 (((x0.1.length:Nat):Int) - 1))) fun x2=>
  some (x1,(x2,(0,())))
abbrev za7:Type:=(zJ×(List Int)×Unit)→Option (Int×Int×Int×Unit)
def zmO:UR→za7:=fun Wb=>sF Tryz.prog [(173,⟨ZR,ZS,Wb⟩)] zwh (zN []) 30 154 QO QP
theorem zyN (Wb) (a0) (a1):zmO Wb (a0,a1,())=zfY Wb a0 a1:=by kernel_rfl
def Yv:za7:=zmO JK
theorem zsb:Con.Ok Tryz.prog 154 ⟨QO,QP,Yv⟩:=zv (zd zqa zi) zo (by kernel_rfl)
theorem zsc (a0) (a1):Yv (a0,a1,())=zfY JK a0 a1:=zyN JK a0 a1
abbrev gQ:List VT:=[⟨true,zw⟩,⟨false,(.list I)⟩,⟨false,I⟩,⟨false,I⟩]
abbrev gR:List VT:=[⟨false,.bool⟩]
def zsd:zT:=zM [cdF zw,cdF zO] [] [] [] [154]
def zcx (YX:za7) (a0:zJ) (a1:(List Int)) (a2:Int) (a3:Int):Option (Bool×Unit):=
 opt (YX (a0,(a1,()))) fun x0=>
 bif zm x0.2.2.1 0 then bif zm x0.1 a2 then some ((zm x0.2.1 a3),())
  else some (false,())
 else some (false,())
abbrev KI:Type:=(zJ×(List Int)×Int×Int×Unit)→Option (Bool×Unit)
def ziE:za7→KI:=fun YX=>sF Tryz.prog [(154,⟨QO,QP,YX⟩)] zsd (zN []) 30 125 gQ gR
theorem zub (YX) (a0) (a1) (a2) (a3):ziE YX (a0,a1,a2,a3,())=zcx YX a0 a1 a2 a3:=by kernel_rfl
def gS:KI:=ziE Yv
theorem zoh:Con.Ok Tryz.prog 125 ⟨gQ,gR,gS⟩:=zv (zd zsb zi) zo (by kernel_rfl)
theorem zoi (a0) (a1) (a2) (a3):gS (a0,a1,a2,a3,())=zcx Yv a0 a1 a2 a3:=zub Yv a0 a1 a2 a3
abbrev gT:List VT:=[⟨false,(.list I)⟩,⟨false,(.list I)⟩]
abbrev gU:List VT:=[⟨false,.bool⟩]
def zse:zT:=zM [] [] [] [] []
def zcy (a0:(List Int)) (a1:(List Int)):Option (Bool×Unit):=
 opt (zC (fun s0:((Bool×(Int×Unit))×Unit)=>
  bif (zj s0.1.2.1 ((a0.length:Nat):Int)) then opt (atI a0 s0.1.2.1) fun x1=>
   opt (zC (fun s2:((Bool×(Int×Unit))×Unit)=>
    bif (zj s2.1.2.1 ((a1.length:Nat):Int)) then opt (atI a1 s2.1.2.1) fun x3=>
     bif (zm (wrF .i64 (Int.tdiv x1 2)) (wrF .i64 (Int.tdiv x3 2))) then some (.inl (1,((true,(s2.1.2.1,())),())))
     else some (.inr ((s2.1.1,((wrF .i64 (s2.1.2.1+1)),())),()))
    else some (.inl (0,((s2.1.1,(s2.1.2.1,())),())))) zK ((s0.1.1,(0,())),())) fun x4=>
   bif Nat.beq x4.1 0 then some (.inr ((x4.2.1.1,((wrF .i64 (s0.1.2.1+1)),())),()))
   else some (.inl (1,((x4.2.1.1,(s0.1.2.1,())),())))
  else some (.inl (0,((s0.1.1,(s0.1.2.1,())),())))) zK ((false,(0,())),())) fun x5=>
 bif Nat.beq x5.1 0 then some (false,())
 else some (x5.2.1.1,())
abbrev KJ:Type:=((List Int)×(List Int)×Unit)→Option (Bool×Unit)
def ziF:KJ:=sF Tryz.prog [] zse (zN []) 30 158 gT gU
theorem zuc (a0) (a1):ziF (a0,a1,())=zcy a0 a1:=by kernel_rfl
def Qq:KJ:=ziF
theorem zoj:Con.Ok Tryz.prog 158 ⟨gT,gU,Qq⟩:=zv zi zo (by kernel_rfl)
theorem zok (a0) (a1):Qq (a0,a1,())=zcy  a0 a1:=zuc  a0 a1
abbrev wR:List VT:=[⟨false,(.list I)⟩,⟨false,I⟩]
abbrev wS:List VT:=[⟨false,I⟩]
def ze0:zT:=zM [] [] [] [] []
def QQ (a0:(List Int)) (a1:Int):Option (Int×Unit):=
 opt (zC (fun s0:((Int×(Int×Unit))×Unit)=>
  bif (zj s0.1.2.1 ((a0.length:Nat):Int)) then opt (atI a0 s0.1.2.1) fun x1=>
   bif zm a1 x1 then some (.inl (1,((s0.1.2.1,(s0.1.2.1,())),())))
   else some (.inr ((s0.1.1,((wrF .i64 (s0.1.2.1+1)),())),()))
  else some (.inl (0,((s0.1.1,(s0.1.2.1,())),())))) zK ((0,(0,())),())) fun x2=>
 bif Nat.beq x2.1 0 then some ((-1),())
 else some (x2.2.1.1,())
abbrev kF:Type:=((List Int)×Int×Unit)→Option (Int×Unit)
def Kd:kF:=sF Tryz.prog [] ze0 (zN []) 30 190 wR wS
theorem zfZ (a0) (a1):Kd (a0,a1,())=QQ a0 a1:=by kernel_rfl
def yT:kF:=Kd
theorem zdl:Con.Ok Tryz.prog 190 ⟨wR,wS,yT⟩:=zv zi zo (by kernel_rfl)
theorem zdm (a0) (a1):yT (a0,a1,())=QQ  a0 a1:=zfZ  a0 a1
abbrev jS:List VT:=[⟨false,(.list I)⟩,⟨false,I⟩]
abbrev jT:List VT:=[⟨false,.bool⟩]
def zcz:zT:=zM [] [] [] [] [190]
def Zt (yV:kF) (a0:(List Int)) (a1:Int):Option (Bool×Unit):=
 opt (yV (a0,(a1,()))) fun x0=>
 some ((!(zj x0.1 0)),())
abbrev vR:Type:=((List Int)×Int×Unit)→Option (Bool×Unit)
def Xj:kF→vR:=fun yV=>sF Tryz.prog [(190,⟨wR,wS,yV⟩)] zcz (zN []) 30 177 jS jT
theorem zdn (yV) (a0) (a1):Xj yV (a0,a1,())=Zt yV a0 a1:=by kernel_rfl
def wZ:vR:=Xj yT
theorem za8:Con.Ok Tryz.prog 177 ⟨jS,jT,wZ⟩:=zv (zd zdl zi) zo (by kernel_rfl)
theorem za9 (a0) (a1):wZ (a0,a1,())=Zt yT a0 a1:=zdn yT a0 a1
abbrev xX:List VT:=[⟨true,Yo⟩,⟨false,(.list I)⟩,⟨false,(.list I)⟩]
abbrev xY:List VT:=[⟨false,.bool⟩]
def zlg:zT:=zM [cdF Yo] [] [] [] [177]
def Ke (qW:kf) (yb:vR) (a0:Va) (a1:(List Int)) (a2:(List Int)):Option (Bool×Unit):=
 opt (qW (a0,(a1,()))) fun x0=>
 opt (qW (a0,(a2,()))) fun x1=>
 opt (kz x0.1 (some 1) (some (wrF .i64 (((x0.1.length:Nat):Int) - 1))) (some (wrF .i64 (((x0.1.length:Nat):Int) - 1)))) fun x2=>
 opt (zC (fun s3:((Bool×(Int×Unit))×Unit)=>
  bif (zj s3.1.2.1 ((x2.length:Nat):Int)) then opt (atI x2 s3.1.2.1) fun x4=>
   opt (yb (x1.1,(x4,()))) fun x5=>
   bif x5.1 then some (.inl (1,((true,(s3.1.2.1,())),())))
   else some (.inr ((s3.1.1,((wrF .i64 (s3.1.2.1+1)),())),()))
  else some (.inl (0,((s3.1.1,(s3.1.2.1,())),())))) zK ((false,(0,())),())) fun x6=>
 bif Nat.beq x6.1 0 then some (false,())
 else some (x6.2.1.1,())
abbrev Wy:Type:=(Va×(List Int)×(List Int)×Unit)→Option (Bool×Unit)
def zdo:kf→vR→Wy:=fun qW yb=>sF Tryz.prog [(176,⟨yv,yw,qW⟩),(177,⟨jS,jT,yb⟩)] zlg (zN []) 30 159 xX xY
theorem zmP (qW) (yb) (a0) (a1) (a2):zdo qW yb (a0,a1,a2,())=Ke qW yb a0 a1 a2:=by kernel_rfl
def kh:Wy:=zdo yx wZ
theorem ziG:Con.Ok Tryz.prog 159 ⟨xX,xY,kh⟩:=zv (zd zal (zd za8 zi)) zo (by kernel_rfl)
theorem ziH (a0) (a1) (a2):kh (a0,a1,a2,())=Ke yx wZ a0 a1 a2:=zmP yx wZ a0 a1 a2
abbrev ZT:List VT:=[⟨true,zw⟩,⟨false,(.list I)⟩,⟨false,(.list I)⟩]
abbrev ZU:List VT:=[⟨false,.bool⟩,⟨false,I⟩]
def zud:zT:=zM [cdF zw,cdF zO] [] [] [] [157,158,159,174]
def zdX (jh:kg) (Qx:KJ) (vj:Wy) (yl:JJ) (a0:zJ) (a1:(List Int)) (a2:(List Int)):Option (Bool×Int×Unit):=
 opt (yl (a0,(a1,()))) fun x0=>
 bif !(zm x0.1 0) then some (false,(x0.1,()))
 else opt (jh (a0,(a2,()))) fun x1=>
  bif !x1.1 then some (false,(310,()))
  else opt (Qx (a1,(a2,()))) fun x2=>
   bif !x2.1 then opt (vj (a0,(a1,(a2,())))) fun x3=>
    bif !x3.1 then opt (vj (a0,(a2,(a1,())))) fun x4=>
     some ((!x4.1),(0,()))
    else some (false,(0,()))
   else some (false,(0,()))
abbrev US:Type:=(zJ×(List Int)×(List Int)×Unit)→Option (Bool×Int×Unit)
def zkF:kg→KJ→Wy→JJ→US:=fun jh Qx vj yl=>sF Tryz.prog [(157,⟨yy,yz,jh⟩),(158,⟨gT,gU,Qx⟩),(159,⟨xX,xY,vj⟩),(174,⟨uu,uv,yl⟩)] zud (zN []) 30 127 ZT ZU
theorem zwi (jh) (Qx) (vj) (yl) (a0) (a1) (a2):zkF jh Qx vj yl (a0,a1,a2,())=zdX jh Qx vj yl a0 a1 a2:=by kernel_rfl
def gu:US:=zkF yA Qq kh uw
theorem zqc:Con.Ok Tryz.prog 127 ⟨ZT,ZU,gu⟩:=zv (zd zam (zd zoj (zd ziG (zd zfX zi)))) zo (by kernel_rfl)
theorem zqd (a0) (a1) (a2):gu (a0,a1,a2,())=zdX yA Qq kh uw a0 a1 a2:=zwi yA Qq kh uw a0 a1 a2
abbrev kj:List VT:=[⟨true,zw⟩,⟨true,zI⟩]
abbrev km:List VT:=[⟨false,.bool⟩]
def zsf:zT:=zM [cdF zI,cdF zw,cdF zO,cdF zu] [] [] [] [67,119,84,125,127]
def zcA (zZ:xW) (uZ:XA) (qk:xC) (Zf:KI) (uL:US) (a0:zJ) (a1:qn):Option (Bool×Unit):=
 opt (zZ (a1.1,(1,(4095,())))) fun x0=>
 bif !x0.1 then some (false,())
 else opt (uZ (a0,(a1.2.1,()))) fun x1=>
  bif x1.1 then opt (uZ (a0,(a1.2.2.1,()))) fun x2=>
   bif x2.1 then bif (!(!(zm a1.2.1 a1.2.2.1))) then some (false,())
    else opt (zZ (a1.2.2.2.2.1,(84,(1542,())))) fun x3=>
     bif !x3.1 then some (false,())
     else opt (zZ (a1.2.2.2.2.2.2.2.1,(1,(1099511627776,())))) fun x4=>
      bif !x4.1 then some (false,())
      else bif zm a1.2.2.2.1 7 then opt (zZ (a1.2.2.2.2.2.1,(1,(240,())))) fun x5=>
        bif x5.1 then bif (!((zm a1.2.2.2.2.2.2.1.1 0)&&((zm a1.2.2.2.2.2.2.1.2 0)&&true))) then some (false,())
         else opt (zZ (((a1.2.2.2.2.2.2.2.2.length:Nat):Int),(1,(2,())))) fun x6=>
          bif !x6.1 then some (false,())
          else opt (zC (fun s7:((Bool×(Int×Unit))×Unit)=>
            bif (zj s7.1.2.1 ((a1.2.2.2.2.2.2.2.2.length:Nat):Int)) then opt (atI a1.2.2.2.2.2.2.2.2 s7.1.2.1) fun x8=>
             opt (Zf (a0,(x8,(a1.2.1,(a1.2.2.1,()))))) fun x9=>
             bif !x9.1 then some (.inl (1,((false,(s7.1.2.1,())),())))
             else some (.inr ((s7.1.1,((wrF .i64 (s7.1.2.1+1)),())),()))
            else some (.inl (0,((s7.1.1,(s7.1.2.1,())),())))) zK ((false,(0,())),())) fun x10=>
           bif Nat.beq x10.1 0 then bif (zj ((a1.2.2.2.2.2.2.2.2.length:Nat):Int) 2) then some (true,())
            else opt (atI a1.2.2.2.2.2.2.2.2 0) fun x11=>
             opt (atI a1.2.2.2.2.2.2.2.2 1) fun x12=>
             opt (uL (a0,(x11,(x12,())))) fun x13=>
             bif zm x13.2.1 0 then bif !x13.1 then some (false,())
              else some (true,())
             else some (false,())
           else bif !x10.2.1.1 then some (false,())
            else bif (zj ((a1.2.2.2.2.2.2.2.2.length:Nat):Int) 2) then some (true,())
             else opt (atI a1.2.2.2.2.2.2.2.2 0) fun x14=>
              opt (atI a1.2.2.2.2.2.2.2.2 1) fun x15=>
              opt (uL (a0,(x14,(x15,())))) fun x16=>
              bif zm x16.2.1 0 then bif !x16.1 then some (false,())
               else some (true,())
              else some (false,())
        else some (false,())
       else bif zm a1.2.2.2.1 6 then bif zm a1.2.2.2.2.2.1 0 then opt (qk (a1.2.2.2.2.2.2.1,())) fun x17=>
          bif zm x17.1 0 then bif (!(!(zj a1.2.2.2.2.2.2.1.1 a1.2.2.2.2.1))) then some (false,())
           else opt (zZ (((a1.2.2.2.2.2.2.2.2.length:Nat):Int),(1,(2,())))) fun x18=>
            bif !x18.1 then some (false,())
            else opt (zC (fun s19:((Bool×(Int×Unit))×Unit)=>
              bif (zj s19.1.2.1 ((a1.2.2.2.2.2.2.2.2.length:Nat):Int)) then opt (atI a1.2.2.2.2.2.2.2.2 s19.1.2.1) fun x20=>
               opt (Zf (a0,(x20,(a1.2.1,(a1.2.2.1,()))))) fun x21=>
               bif !x21.1 then some (.inl (1,((false,(s19.1.2.1,())),())))
               else some (.inr ((s19.1.1,((wrF .i64 (s19.1.2.1+1)),())),()))
              else some (.inl (0,((s19.1.1,(s19.1.2.1,())),())))) zK ((false,(0,())),())) fun x22=>
             bif Nat.beq x22.1 0 then bif (zj ((a1.2.2.2.2.2.2.2.2.length:Nat):Int) 2) then some (true,())
              else opt (atI a1.2.2.2.2.2.2.2.2 0) fun x23=>
               opt (atI a1.2.2.2.2.2.2.2.2 1) fun x24=>
               opt (uL (a0,(x23,(x24,())))) fun x25=>
               bif zm x25.2.1 0 then bif !x25.1 then some (false,())
                else some (true,())
               else some (false,())
             else bif !x22.2.1.1 then some (false,())
              else bif (zj ((a1.2.2.2.2.2.2.2.2.length:Nat):Int) 2) then some (true,())
               else opt (atI a1.2.2.2.2.2.2.2.2 0) fun x26=>
                opt (atI a1.2.2.2.2.2.2.2.2 1) fun x27=>
                opt (uL (a0,(x26,(x27,())))) fun x28=>
                bif zm x28.2.1 0 then bif !x28.1 then some (false,())
                 else some (true,())
                else some (false,())
          else some (false,())
         else some (false,())
        else some (false,())
   else some (false,())
  else some (false,())
abbrev KK:Type:=(zJ×qn×Unit)→Option (Bool×Unit)
def ziI:xW→XA→xC→KI→US→KK:=fun zZ uZ qk Zf uL=>sF Tryz.prog [(67,⟨wP,wQ,zZ⟩),(119,⟨uQ,uR,uZ⟩),(84,⟨wH,wI,qk⟩),(125,⟨gQ,gR,Zf⟩),(127,⟨ZT,ZU,uL⟩)] zsf (zN []) 30 82 kj km
theorem zue (zZ) (uZ) (qk) (Zf) (uL) (a0) (a1):ziI zZ uZ qk Zf uL (a0,a1,())=zcA zZ uZ qk Zf uL a0 a1:=by kernel_rfl
def Qr:KK:=ziI wh gP jJ gS gu
theorem zol:Con.Ok Tryz.prog 82 ⟨kj,km,Qr⟩:=zv (zd Vo (zd zlb (zd WU (zd zoh (zd zqc zi))))) zo (by kernel_rfl)
theorem zom (a0) (a1):Qr (a0,a1,())=zcA wh gP jJ gS gu a0 a1:=zue wh gP jJ gS gu a0 a1
abbrev yK:List VT:=[⟨true,zw⟩,⟨false,(.list zI)⟩]
abbrev yL:List VT:=[⟨false,I⟩]
def zmQ:zT:=zM [cdF zI,cdF zw,cdF zO,cdF zu] [] [] [] [37,82]
def KZ (qg:xm) (Qy:KK) (a0:zJ) (a1:(List qn)):Option (Int×Unit):=
 opt (qg (a0,())) fun x0=>
 bif !(zm x0.1 0) then some (x0.1,())
 else bif (zj 12 ((a1.length:Nat):Int)) then some (3,())
  else opt (zC (fun s1:((Int×(Int×Unit))×Unit)=>
    bif (zj s1.1.2.1 ((a1.length:Nat):Int)) then opt (atI a1 s1.1.2.1) fun x2=>
     opt (Qy (a0,(x2,()))) fun x3=>
     bif !x3.1 then some (.inl (1,((321,(s1.1.2.1,())),())))
     else some (.inr ((s1.1.1,((wrF .i64 (s1.1.2.1+1)),())),()))
    else some (.inl (0,((s1.1.1,(s1.1.2.1,())),())))) zK ((0,(0,())),())) fun x4=>
   bif Nat.beq x4.1 0 then opt (zC (fun s5:((Int×(Int×Unit))×((List (Int×Bool))×Unit))=>
     bif (zj s5.1.2.1 ((a1.length:Nat):Int)) then opt (atI a1 s5.1.2.1) fun x6=>
      bif mpD (α:=Bool) s5.2.1 x6.1 false then some (.inl (1,((322,(s5.1.2.1,())),(s5.2.1,()))))
      else some (.inr ((s5.1.1,((wrF .i64 (s5.1.2.1+1)),())),((mpP (α:=Bool) s5.2.1 x6.1 true),())))
     else some (.inl (0,((s5.1.1,(s5.1.2.1,())),(s5.2.1,()))))) zK ((x4.2.1.1,(0,())),([],()))) fun x7=>
    bif Nat.beq x7.1 0 then some (0,())
    else some (x7.2.1.1,())
   else some (x4.2.1.1,())
abbrev WV:Type:=(zJ×(List qn)×Unit)→Option (Int×Unit)
def zev:xm→KK→WV:=fun qg Qy=>sF Tryz.prog [(37,⟨jA,jB,qg⟩),(82,⟨kj,km,Qy⟩)] zmQ (zN []) 30 72 yK yL
theorem zon (qg) (Qy) (a0) (a1):zev qg Qy (a0,a1,())=KZ qg Qy a0 a1:=by kernel_rfl
def kY:WV:=zev jC Qr
theorem zjW:Con.Ok Tryz.prog 72 ⟨yK,yL,kY⟩:=zv (zd Wx (zd zol zi)) zo (by kernel_rfl)
theorem zjX (a0) (a1):kY (a0,a1,())=KZ jC Qr a0 a1:=zon jC Qr a0 a1
abbrev jK:List VT:=[⟨false,(.list I)⟩,⟨false,I⟩]
abbrev jL:List VT:=[⟨false,I⟩]
def zbP:zT:=zM [] [] [] [] []
def gV (a0:(List Int)) (a1:Int):Option (Int×Unit):=
 opt (zC (fun s0:((Int×(Int×Unit))×Unit)=>
  bif (zj s0.1.2.1 ((a0.length:Nat):Int)) then opt (atI a0 s0.1.2.1) fun x1=>
   bif zm a1 x1 then some (.inl (1,((s0.1.2.1,(s0.1.2.1,())),())))
   else some (.inr ((s0.1.1,((wrF .i64 (s0.1.2.1+1)),())),()))
  else some (.inl (0,((s0.1.1,(s0.1.2.1,())),())))) zK ((0,(0,())),())) fun x2=>
 bif Nat.beq x2.1 0 then some ((-1),())
 else some (x2.2.1.1,())
abbrev vv:Type:=((List Int)×Int×Unit)→Option (Int×Unit)
def Yw:vv:=sF Tryz.prog [] zbP (zN []) 30 162 jK jL
theorem zcB (a0) (a1):Yw (a0,a1,())=gV a0 a1:=by kernel_rfl
def wJ:vv:=Yw
theorem zaq:Con.Ok Tryz.prog 162 ⟨jK,jL,wJ⟩:=zv zi zo (by kernel_rfl)
theorem zar (a0) (a1):wJ (a0,a1,())=gV  a0 a1:=zcB  a0 a1
abbrev qF:List VT:=[⟨false,(.list I)⟩,⟨false,I⟩]
abbrev qG:List VT:=[⟨false,.bool⟩]
def GF:zT:=zM [] [] [] [] [162]
def kp (wK:vv) (a0:(List Int)) (a1:Int):Option (Bool×Unit):=
 opt (wK (a0,(a1,()))) fun x0=>
 some ((!(zj x0.1 0)),())
abbrev xx:Type:=((List Int)×Int×Unit)→Option (Bool×Unit)
def Js:vv→xx:=fun wK=>sF Tryz.prog [(162,⟨jK,jL,wK⟩)] GF (zN []) 30 136 qF qG
theorem zas (wK) (a0) (a1):Js wK (a0,a1,())=kp wK a0 a1:=by kernel_rfl
def qP:xx:=Js wJ
theorem Ua:Con.Ok Tryz.prog 136 ⟨qF,qG,qP⟩:=zv (zd zaq zi) zo (by kernel_rfl)
theorem Ub (a0) (a1):qP (a0,a1,())=kp wJ a0 a1:=zas wJ a0 a1
abbrev gW:List VT:=[⟨true,KD⟩]
abbrev gX:List VT:=[⟨false,I⟩]
def zsg:zT:=zM [cdF KD,cdF zO] [] [] [] []
def zcC (a0:zg9):Option (Int×Unit):=
 some (a0.1.2.2.1,())
abbrev KL:Type:=(zg9×Unit)→Option (Int×Unit)
def ziJ:KL:=sF Tryz.prog [] zsg (zN []) 30 138 gW gX
theorem zuf (a0):ziJ (a0,())=zcC a0:=by kernel_rfl
def Yx:KL:=ziJ
theorem zoo:Con.Ok Tryz.prog 138 ⟨gW,gX,Yx⟩:=zv zi zo (by kernel_rfl)
theorem zop (a0):Yx (a0,())=zcC  a0:=zuf  a0
abbrev Qi:List VT:=[⟨true,zw⟩,⟨false,I⟩]
abbrev Qj:List VT:=[⟨false,I⟩,⟨false,I⟩]
def zzP:zT:=zM [cdF zw,cdF KD,cdF zO] [] [] [] [37,138]
def zjY (qg:xm) (Qz:KL) (a0:zJ) (a1:Int):Option (Int×Int×Unit):=
 opt (qg (a0,())) fun x0=>
 bif !(zm x0.1 0) then some (0,(x0.1,()))
 else opt (bif zj a1 0 then some (1,((0,(2,())),()))
   else bif (!(zj a1 (wrF .i64 (2*((a0.2.2.length:Nat):Int))))) then some (1,((0,(2,())),()))
    else some (0,((0,(0,())),()))) fun x1=>
  bif Nat.beq x1.1 0 then opt (atI a0.2.2 (wrF .i64 (Int.tdiv a1 2))) fun x2=>
   opt (Qz ((x2,a1),())) fun x3=>
   some (x3.1,(0,()))
  else some (x1.2.1.1,(x1.2.1.2.1,()))
abbrev ze1:Type:=(zJ×Int×Unit)→Option (Int×Int×Unit)
def zsh:xm→KL→ze1:=fun qg Qz=>sF Tryz.prog [(37,⟨jA,jB,qg⟩),(138,⟨gW,gX,Qz⟩)] zzP (zN []) 30 100 Qi Qj
theorem zBM (qg) (Qz) (a0) (a1):zsh qg Qz (a0,a1,())=zjY qg Qz a0 a1:=by kernel_rfl
def kG:ze1:=zsh jC Yx
theorem zwj:Con.Ok Tryz.prog 100 ⟨Qi,Qj,kG⟩:=zv (zd Wx (zd zoo zi)) zo (by kernel_rfl)
theorem zwk (a0) (a1):kG (a0,a1,())=zjY jC Yx a0 a1:=zBM jC Yx a0 a1
abbrev kI:List VT:=[⟨true,zL⟩,⟨false,I⟩,⟨false,I⟩]
abbrev kJ:List VT:=[⟨false,I⟩]
def zqe:zT:=zM [cdF zL,cdF qh] [] [] [] [39]
def zba (qT:gr) (a0:ql) (a1:Int) (a2:Int):Option (Int×Unit):=
 opt (qT (a0,())) fun x0=>
 bif !(zm x0.1 0) then some (x0.1,())
 else opt (bif zj a1 1 then some (1,((2,()),()))
   else bif zj 1000 a1 then some (1,((2,()),()))
    else bif zj a2 84 then some (1,((2,()),()))
     else bif zj 1542 a2 then some (1,((2,()),()))
      else some (0,((0,()),()))) fun x1=>
  bif Nat.beq x1.1 0 then some (0,())
  else some (x1.2.1.1,())
abbrev VC:Type:=(ql×Int×Int×Unit)→Option (Int×Unit)
def zhf:gr→VC:=fun qT=>sF Tryz.prog [(39,⟨xn,xp,qT⟩)] zqe (zN []) 30 139 kI kJ
theorem zsi (qT) (a0) (a1) (a2):zhf qT (a0,a1,a2,())=zba qT a0 a1 a2:=by kernel_rfl
def ZF:VC:=zhf yM
theorem zmR:Con.Ok Tryz.prog 139 ⟨kI,kJ,ZF⟩:=zv (zd GC zi) zo (by kernel_rfl)
theorem zmS (a0) (a1) (a2):ZF (a0,a1,a2,())=zba yM a0 a1 a2:=zsi yM a0 a1 a2
abbrev ZV:List VT:=[⟨true,zL⟩,⟨false,I⟩,⟨false,I⟩,⟨false,I⟩]
abbrev ZW:List VT:=[⟨false,I⟩]
def zug:zT:=zM [cdF zL,cdF qh] [] [] [] [39]
def zdY (qT:gr) (a0:ql) (a1:Int) (a2:Int) (a3:Int):Option (Int×Unit):=
 opt (qT (a0,())) fun x0=>
 bif !(zm x0.1 0) then some (x0.1,())
 else opt (bif zj a1 0 then some (1,((2,()),()))
   else bif !(zj a1 8) then some (1,((2,()),()))
    else bif zj a2 (-1099511627776) then some (1,((2,()),()))
     else bif zj 1099511627776 a2 then some (1,((2,()),()))
      else bif zj a3 0 then some (1,((2,()),()))
       else bif zj 1099511627776 a3 then some (1,((2,()),()))
        else some (0,((0,()),()))) fun x1=>
  bif Nat.beq x1.1 0 then some (0,())
  else some (x1.2.1.1,())
abbrev UT:Type:=(ql×Int×Int×Int×Unit)→Option (Int×Unit)
def zkG:gr→UT:=fun qT=>sF Tryz.prog [(39,⟨xn,xp,qT⟩)] zug (zN []) 30 191 ZV ZW
theorem zwl (qT) (a0) (a1) (a2) (a3):zkG qT (a0,a1,a2,a3,())=zdY qT a0 a1 a2 a3:=by kernel_rfl
def JL:UT:=zkG yM
theorem zqf:Con.Ok Tryz.prog 191 ⟨ZV,ZW,JL⟩:=zv (zd GC zi) zo (by kernel_rfl)
theorem zqg (a0) (a1) (a2) (a3):JL (a0,a1,a2,a3,())=zdY yM a0 a1 a2 a3:=zwl yM a0 a1 a2 a3
abbrev QR:List VT:=[⟨true,zL⟩,⟨false,I⟩]
abbrev QS:List VT:=[⟨false,I⟩,⟨false,I⟩]
def zwm:zT:=zM [cdF zL,cdF qh] [] [] [] []
def zf0 (a0:ql) (a1:Int):Option (Int×Int×Unit):=
 bif zm a0.2 0 then none
 else bif zm a0.2 0 then none
  else opt (atI a0.1 0) fun x0=>
   bif (!(zj (Int.tmod (wrF .i64 ((Int.tmod a1 a0.2)+a0.2)) a0.2) x0.2)) then opt (atI a0.1 0) fun x1=>
    opt (zC (fun s2:((Int×(Int×(Int×Unit)))×Unit)=>
     opt (atI a0.1 s2.1.2.1) fun x3=>
     bif !(zj s2.1.1 x3.2) then opt (atI a0.1 s2.1.2.1) fun x4=>
      some (.inr (((wrF .i64 (s2.1.1 - x4.2)),((wrF .i64 (s2.1.2.1+1)),(s2.1.2.2.1,()))),()))
     else opt (atI a0.1 s2.1.2.1) fun x5=>
      some (.inl (0,((s2.1.1,(s2.1.2.1,((wrF .i64 (x5.2 - s2.1.1)),()))),())))) zK (((wrF .i64 ((Int.tmod (wrF .i64 ((Int.tmod a1 a0.2)+a0.2)) a0.2) - x1.2)),(1,(0,()))),())) fun x6=>
    some (x6.2.1.2.1,(x6.2.1.2.2.1,()))
   else opt (atI a0.1 0) fun x7=>
    some (0,((wrF .i64 (x7.2 - (Int.tmod (wrF .i64 ((Int.tmod a1 a0.2)+a0.2)) a0.2))),()))
abbrev zbb:Type:=(ql×Int×Unit)→Option (Int×Int×Unit)
def zmT:zbb:=sF Tryz.prog [] zwm (zN []) 30 197 QR QS
theorem zyO (a0) (a1):zmT (a0,a1,())=zf0 a0 a1:=by kernel_rfl
def Yy:zbb:=zmT
theorem zsj:Con.Ok Tryz.prog 197 ⟨QR,QS,Yy⟩:=zv zi zo (by kernel_rfl)
theorem zsk (a0) (a1):Yy (a0,a1,())=zf0  a0 a1:=zyO  a0 a1
abbrev QT:List VT:=[⟨true,zL⟩,⟨false,I⟩,⟨false,I⟩]
abbrev QU:List VT:=[⟨false,I⟩]
def zwn:zT:=zM [cdF zL,cdF qh] [] [] [] [197]
def zf1 (YY:zbb) (a0:ql) (a1:Int) (a2:Int):Option (Int×Unit):=
 opt (YY (a0,(a2,()))) fun x0=>
 opt (zC (fun s1:((Int×(((List (Int×Int))×Int)×(Int×(Int×(Int×(Int×(Int×Unit)))))))×Unit)=>
  bif (zj s1.1.2.2.2.2.2.2.1 (wrF .i64 (((a0.1.length:Nat):Int)+1))) then opt (atI s1.1.2.1.1 s1.1.2.2.2.2.1) fun x2=>
   bif zj s1.1.1 0 then none
   else bif (!(zm (ky .and .i64 (jX .i64 x2.1 s1.1.1) 1) 1)) then some (.inl (1,((s1.1.1,(s1.1.2.1,(s1.1.2.2.2.1,(s1.1.2.2.2.1,(s1.1.2.2.2.2.1,(s1.1.2.2.2.2.2.1,(s1.1.2.2.2.2.2.2.1,()))))))),())))
    else bif (zm ((s1.1.2.1.1.length:Nat):Int) 0) then none
     else opt (atI s1.1.2.1.1 (Int.tmod (wrF .i64 (s1.1.2.2.2.2.1+1)) ((s1.1.2.1.1.length:Nat):Int))) fun x3=>
      some (.inr ((s1.1.1,(s1.1.2.1,(s1.1.2.2.1,((wrF .i64 (s1.1.2.2.2.1+s1.1.2.2.2.2.2.1)),((Int.tmod (wrF .i64 (s1.1.2.2.2.2.1+1)) ((s1.1.2.1.1.length:Nat):Int)),(x3.2,((wrF .i64 (s1.1.2.2.2.2.2.2.1+1)),()))))))),()))
  else some (.inl (0,((s1.1.1,(s1.1.2.1,(s1.1.2.2.1,(s1.1.2.2.2.1,(s1.1.2.2.2.2.1,(s1.1.2.2.2.2.2.1,(s1.1.2.2.2.2.2.2.1,()))))))),())))) zK ((a1,(a0,(0,(0,(x0.1,(x0.2.1,(0,()))))))),())) fun x4=>
 bif Nat.beq x4.1 0 then bif zm x4.2.1.2.1.2 a0.2 then some (1099511627776,())
  else some (x4.2.1.2.1.2,())
 else bif zm x4.2.1.2.2.1 a0.2 then some (1099511627776,())
  else some (x4.2.1.2.2.1,())
abbrev zbc:Type:=(ql×Int×Int×Unit)→Option (Int×Unit)
def zmU:zbb→zbc:=fun YY=>sF Tryz.prog [(197,⟨QR,QS,YY⟩)] zwn (zN []) 30 192 QT QU
theorem zyP (YY) (a0) (a1) (a2):zmU YY (a0,a1,a2,())=zf1 YY a0 a1 a2:=by kernel_rfl
def Yz:zbc:=zmU Yy
theorem zsl:Con.Ok Tryz.prog 192 ⟨QT,QU,Yz⟩:=zv (zd zsj zi) zo (by kernel_rfl)
theorem zsm (a0) (a1) (a2):Yz (a0,a1,a2,())=zf1 Yy a0 a1 a2:=zyP Yy a0 a1 a2
abbrev QV:List VT:=[⟨true,zL⟩,⟨false,I⟩,⟨false,I⟩]
abbrev QW:List VT:=[⟨false,I⟩,⟨false,I⟩]
def zwo:zT:=zM [cdF zL,cdF qh] [] [] [] [191,192]
def zf2 (Wc:UT) (YZ:zbc) (a0:ql) (a1:Int) (a2:Int):Option (Int×Int×Unit):=
 opt (Wc (a0,(a1,(a2,(0,()))))) fun x0=>
 bif !(zm x0.1 0) then some (0,(x0.1,()))
 else opt (YZ (a0,(a1,(a2,())))) fun x1=>
  some (x1.1,(0,()))
abbrev zbd:Type:=(ql×Int×Int×Unit)→Option (Int×Int×Unit)
def zmV:UT→zbc→zbd:=fun Wc YZ=>sF Tryz.prog [(191,⟨ZV,ZW,Wc⟩),(192,⟨QT,QU,YZ⟩)] zwo (zN []) 30 178 QV QW
theorem zyQ (Wc) (YZ) (a0) (a1) (a2):zmV Wc YZ (a0,a1,a2,())=zf2 Wc YZ a0 a1 a2:=by kernel_rfl
def YA:zbd:=zmV JL Yz
theorem zsn:Con.Ok Tryz.prog 178 ⟨QV,QW,YA⟩:=zv (zd zqf (zd zsl zi)) zo (by kernel_rfl)
theorem zso (a0) (a1) (a2):YA (a0,a1,a2,())=zf2 JL Yz a0 a1 a2:=zyQ JL Yz a0 a1 a2
abbrev uS:List VT:=[⟨true,zL⟩]
abbrev uT:List VT:=[⟨false,.bool⟩]
def zoq:zT:=zM [cdF zL,cdF qh] [] [] [] [178]
def GG (Xa:zbd) (a0:ql):Option (Bool×Unit):=
 opt (Xa (a0,(6,(0,())))) fun x0=>
 bif zm x0.2.1 0 then some ((zm x0.1 1099511627776),())
 else some (false,())
abbrev XB:Type:=(ql×Unit)→Option (Bool×Unit)
def zf3:zbd→XB:=fun Xa=>sF Tryz.prog [(178,⟨QV,QW,Xa⟩)] zoq (zN []) 30 164 uS uT
theorem zqh (Xa) (a0):zf3 Xa (a0,())=GG Xa a0:=by kernel_rfl
def gY:XB:=zf3 YA
theorem zlh:Con.Ok Tryz.prog 164 ⟨uS,uT,gY⟩:=zv (zd zsn zi) zo (by kernel_rfl)
theorem zli (a0):gY (a0,())=GG YA a0:=zqh YA a0
abbrev xf:List VT:=[⟨true,qh⟩]
abbrev xg:List VT:=[⟨false,.bool⟩]
def zor:zT:=zM [cdF qh] [] [] [] []
def XC (a0:zjL):Option (Bool×Unit):=
 some ((zm (ky .and .i64 (jX .i64 a0.1 6) 1) 1),())
abbrev gZ:Type:=(zjL×Unit)→Option (Bool×Unit)
def zf4:gZ:=sF Tryz.prog [] zor (zN []) 30 180 xf xg
theorem zqi (a0):zf4 (a0,())=XC a0:=by kernel_rfl
def xh:gZ:=zf4
theorem zbY:Con.Ok Tryz.prog 180 ⟨xf,xg,xh⟩:=zv zi zo (by kernel_rfl)
theorem zbZ (a0):xh (a0,())=XC  a0:=zqi  a0
abbrev vC:List VT:=[⟨true,zL⟩,⟨false,I⟩]
abbrev vD:List VT:=[⟨false,I⟩]
def zmW:zT:=zM [cdF zL,cdF qh] [] [] [] [164,180]
def WW (Zg:XB) (je:gZ) (a0:ql) (a1:Int):Option (Int×Unit):=
 opt (Zg (a0,())) fun x0=>
 bif x0.1 then some (a0.2,())
 else opt (zC (fun s1:((Int×(Int×(Int×Unit)))×(Unit×(Unit×Unit)))=>
   bif (zj s1.1.2.2.1 ((a0.1.length:Nat):Int)) then opt (atI a0.1 s1.1.2.2.1) fun x2=>
    opt (je (x2,())) fun x3=>
    bif x3.1 then opt (atI a0.1 s1.1.2.2.1) fun x4=>
     some (.inr ((s1.1.1,((wrF .i64 (s1.1.2.1+x4.2)),((wrF .i64 (s1.1.2.2.1+1)),()))),((),((),()))))
    else some (.inl (0,((s1.1.1,(s1.1.2.1,(s1.1.2.2.1,()))),((),((),())))))
   else some (.inl (0,((s1.1.1,(s1.1.2.1,(s1.1.2.2.1,()))),((),((),())))))) zK ((0,(0,(0,()))),((),((),())))) fun x5=>
  bif (zm x5.2.1.2.2.1 ((a0.1.length:Nat):Int)) then some (x5.2.1.1,())
  else opt (atI a0.1 x5.2.1.2.2.1) fun x6=>
   opt (zC (fun s7:(((Int×Int)×(Int×(Int×(Int×Unit))))×(Unit×(Unit×Unit)))=>
    bif (zj s7.1.2.2.2.1 ((a0.1.length:Nat):Int)) then bif (zm ((a0.1.length:Nat):Int) 0) then none
     else opt (atI a0.1 (Int.tmod (wrF .i64 ((wrF .i64 (x5.2.1.2.2.1+1))+s7.1.2.2.2.1)) ((a0.1.length:Nat):Int))) fun x8=>
      opt (je (x8,())) fun x9=>
      bif x9.1 then opt (bif zm s7.1.1.2 0 then some (0,(((s7.1.2.2.1,s7.1.1.2),()),((),((),()))))
        else some (0,((s7.1.1,()),((),((),()))))) fun x10=>
       some (.inr (((x10.2.1.1.1,(wrF .i64 (x10.2.1.1.2+x8.2))),(s7.1.2.1,((wrF .i64 (s7.1.2.2.1+x8.2)),((wrF .i64 (s7.1.2.2.2.1+1)),())))),((),((),()))))
      else bif zj 0 s7.1.1.2 then some (.inr (((0,0),((wrF .i64 (s7.1.2.1+(ud 0 (wrF .i64 (s7.1.1.2 - a1))))),((wrF .i64 (s7.1.2.2.1+x8.2)),((wrF .i64 (s7.1.2.2.2.1+1)),())))),((),((),()))))
       else some (.inr (((0,0),(s7.1.2.1,((wrF .i64 (s7.1.2.2.1+x8.2)),((wrF .i64 (s7.1.2.2.2.1+1)),())))),((),((),()))))
    else some (.inl (0,((s7.1.1,(s7.1.2.1,(s7.1.2.2.1,(s7.1.2.2.2.1,())))),((),((),())))))) zK (((0,0),(x5.2.1.1,((wrF .i64 (x5.2.1.2.1+x6.2)),(0,())))),((),((),())))) fun x11=>
   bif Nat.beq x11.1 0 then some (x11.2.1.2.1,())
   else some (x11.2.1.2.1,())
abbrev WX:Type:=(ql×Int×Unit)→Option (Int×Unit)
def zew:XB→gZ→WX:=fun Zg je=>sF Tryz.prog [(164,⟨uS,uT,Zg⟩),(180,⟨xf,xg,je⟩)] zmW (zN []) 30 140 vC vD
theorem zos (Zg) (je) (a0) (a1):zew Zg je (a0,a1,())=WW Zg je a0 a1:=by kernel_rfl
def vE:WX:=zew gY xh
theorem zjZ:Con.Ok Tryz.prog 140 ⟨vC,vD,vE⟩:=zv (zd zlh (zd zbY zi)) zo (by kernel_rfl)
theorem zbe (a0) (a1):vE (a0,a1,())=WW gY xh a0 a1:=zos gY xh a0 a1
abbrev ZX:List VT:=[⟨false,I⟩,⟨false,I⟩]
abbrev ZY:List VT:=[⟨false,I⟩]
def zuh:zT:=zM [] [] [] [] []
def zdZ (a0:Int) (a1:Int):Option (Int×Unit):=
 bif zm a1 0 then none
 else bif zm a1 0 then none
  else some ((Int.tmod (wrF .i64 ((Int.tmod a0 a1)+a1)) a1),())
abbrev UU:Type:=(Int×Int×Unit)→Option (Int×Unit)
def zkH:UU:=sF Tryz.prog [] zuh (zN []) 30 166 ZX ZY
theorem zwp (a0) (a1):zkH (a0,a1,())=zdZ a0 a1:=by kernel_rfl
def JM:UU:=zkH
theorem zqj:Con.Ok Tryz.prog 166 ⟨ZX,ZY,JM⟩:=zv zi zo (by kernel_rfl)
theorem zqk (a0) (a1):JM (a0,a1,())=zdZ  a0 a1:=zwp  a0 a1
abbrev xZ:List VT:=[⟨false,I⟩,⟨false,I⟩]
abbrev ve:List VT:=[⟨false,I⟩]
def zlj:zT:=zM [] [] [] [] [166]
def Kf (Wd:UU) (a0:Int) (a1:Int):Option (Int×Unit):=
 opt (Wd (a0,(a1,()))) fun x0=>
 bif zm a1 0 then none
 else some ((wrF .i64 (Int.tdiv (wrF .i64 (a0 - x0.1)) a1)),())
abbrev Wz:Type:=(Int×Int×Unit)→Option (Int×Unit)
def zdp:UU→Wz:=fun Wd=>sF Tryz.prog [(166,⟨ZX,ZY,Wd⟩)] zlj (zN []) 30 142 xZ ve
theorem zmX (Wd) (a0) (a1):zdp Wd (a0,a1,())=Kf Wd a0 a1:=by kernel_rfl
def vf:Wz:=zdp JM
theorem ziK:Con.Ok Tryz.prog 142 ⟨xZ,ve,vf⟩:=zv (zd zqj zi) zo (by kernel_rfl)
theorem ziL (a0) (a1):vf (a0,a1,())=Kf JM a0 a1:=zmX JM a0 a1
abbrev vg:List VT:=[⟨true,zL⟩,⟨false,I⟩,⟨false,I⟩]
abbrev vh:List VT:=[⟨true,yX⟩,⟨false,I⟩]
def zwq:zT:=zM [cdF zL,cdF qh] [] [⟨7,87,none,jr,true⟩,⟨12,87,none,jr,true⟩,⟨7,87,some 6,jr,false⟩,⟨12,87,some 6,jr,false⟩,⟨2,48,none,jr,true⟩,⟨6,48,none,jr,true⟩,⟨2,90,none,jr,true⟩,⟨5,90,none,jr,true⟩,⟨9,90,none,jr,true⟩,⟨12,90,none,jr,true⟩,⟨13,90,none,jr,true⟩,⟨18,90,none,jr,true⟩,⟨8,90,none,jr,true⟩] [] [139,140,142,180]
def Kg (ZJ:VC) (gg:WX) (yD:Wz) (je:gZ) (a0:ql) (a1:Int) (a2:Int):Option (wB×Int×Unit):=
 opt (ZJ (a0,(a1,(a2,())))) fun x0=>
 bif !(zm x0.1 0) then some ((0,0),(x0.1,()))
 else opt (gg (a0,((wrF .i64 (a2*a1)),()))) fun x1=>
  bif (zm (wrF .i64 (a0.2*a1)) 0) then none
  else bif (zj (wrF .i64 (Int.tdiv (wrF .i64 (x1.1*1048576)) (wrF .i64 (a0.2*a1)))) 1) then some ((0,0),(4,()))
   else opt (yD ((wrF .i64 ((wrF .i64 ((-127)*a1))*1048576)),((wrF .i64 ((wrF .i64 (Int.tdiv (wrF .i64 (x1.1*1048576)) (wrF .i64 (a0.2*a1))))*a1)),()))) fun x2=>
    opt (zC (fun s3:((Int×(Int×Unit))×(((List (Int×Int))×Unit)×(Unit×(Unit×Unit))))=>
     bif (zj s3.1.2.1 ((a0.1.length:Nat):Int)) then opt (atI a0.1 s3.1.2.1) fun x4=>
      opt (je (x4,())) fun x5=>
      bif x5.1 then opt (atI a0.1 s3.1.2.1) fun x6=>
       some (.inr (((wrF .i64 (s3.1.1+x6.2)),((wrF .i64 (s3.1.2.1+1)),())),((s3.2.1.1,()),((),((),())))))
      else some (.inl (0,((s3.1.1,(s3.1.2.1,())),((s3.2.1.1,()),((),((),()))))))
     else some (.inl (0,((s3.1.1,(s3.1.2.1,())),((s3.2.1.1,()),((),((),()))))))) zK ((0,(0,())),(([],()),((),((),()))))) fun x7=>
    bif (zm x7.2.1.2.1 ((a0.1.length:Nat):Int)) then opt (zC (fun s8:((Int×(Int×(Int×(Int×Unit))))×(Unit×Unit))=>
      bif (zj s8.1.2.2.2.1 ((x7.2.2.1.1.length:Nat):Int)) then opt (atI x7.2.2.1.1 s8.1.2.2.2.1) fun x9=>
       opt (gl x7.2.2.1.1 (Int.toNat s8.1.2.2.2.1)) fun x10=>
       opt (zC (fun s11:((Int×(Int×(Int×(Int×(Int×Unit)))))×(Unit×Unit))=>
        bif (zj s11.1.2.2.2.2.1 ((x7.2.2.1.1.length:Nat):Int)) then bif (zm ((x7.2.2.1.1.length:Nat):Int) 0) then none
         else opt (atI x7.2.2.1.1 (Int.tmod (wrF .i64 ((wrF .i64 (s8.1.2.2.2.1+1))+s11.1.2.2.2.2.1)) ((x7.2.2.1.1.length:Nat):Int))) fun x12=>
          opt (gl x7.2.2.1.1 (Int.toNat (Int.tmod (wrF .i64 ((wrF .i64 (s8.1.2.2.2.1+1))+s11.1.2.2.2.2.1)) ((x7.2.2.1.1.length:Nat):Int)))) fun x13=>
          bif (zm ((x7.2.2.1.1.length:Nat):Int) 0) then none
          else opt (yD ((wrF .i64 ((wrF .i64 (s11.1.2.2.2.1 - (wrF .i64 (127*s11.1.2.2.1))))*1048576)),((wrF .i64 (s11.1.2.1*s11.1.2.2.1)),()))) fun x14=>
           some (.inr (((ud s11.1.1 (wrF .i64 ((wrF .i64 ((wrF .i64 ((wrF .i64 (x13.1+(wrF .i64 ((wrF .i64 (Int.tdiv (wrF .i64 ((wrF .i64 (s8.1.2.2.2.1+1))+s11.1.2.2.2.2.1)) ((x7.2.2.1.1.length:Nat):Int)))*a0.2))))+(jl (wrF .i64 (a2*a1)) x13.2))) - (wrF .i64 ((wrF .i64 (x10.1+x10.2)) - (jl (wrF .i64 (a2*a1)) x10.2))))) - x14.1))),(s11.1.2.1,(s11.1.2.2.1,((wrF .i64 (s11.1.2.2.2.1+(ud 0 (wrF .i64 (x13.2 - (wrF .i64 (a2*a1))))))),((wrF .i64 (s11.1.2.2.2.2.1+1)),()))))),((),())))
        else some (.inl (0,((s11.1.1,(s11.1.2.1,(s11.1.2.2.1,(s11.1.2.2.2.1,(s11.1.2.2.2.2.1,()))))),((),()))))) zK ((s8.1.1,(s8.1.2.1,(s8.1.2.2.1,(0,(0,()))))),((),()))) fun x15=>
       some (.inr ((x15.2.1.1,(x15.2.1.2.1,(x15.2.1.2.2.1,((wrF .i64 (s8.1.2.2.2.1+1)),())))),((),())))
      else some (.inl (0,((s8.1.1,(s8.1.2.1,(s8.1.2.2.1,(s8.1.2.2.2.1,())))),((),()))))) zK (((ud 0 (wrF .i64 (0 - x2.1))),((wrF .i64 (Int.tdiv (wrF .i64 (x1.1*1048576)) (wrF .i64 (a0.2*a1)))),(a1,(0,())))),((),()))) fun x16=>
     some ((x16.2.1.2.1,x16.2.1.1),(0,()))
    else opt (atI a0.1 x7.2.1.2.1) fun x17=>
     opt (zC (fun s18:(((Int×Int)×(Int×(Int×Unit)))×(((List (Int×Int))×Unit)×(Unit×(Unit×Unit))))=>
      bif (zj s18.1.2.2.1 ((a0.1.length:Nat):Int)) then bif (zm ((a0.1.length:Nat):Int) 0) then none
       else opt (atI a0.1 (Int.tmod (wrF .i64 ((wrF .i64 (x7.2.1.2.1+1))+s18.1.2.2.1)) ((a0.1.length:Nat):Int))) fun x19=>
        opt (je (x19,())) fun x20=>
        bif x20.1 then opt (bif zm s18.1.1.2 0 then some (0,(((s18.1.2.1,s18.1.1.2),()),((),((),()))))
          else some (0,((s18.1.1,()),((),((),()))))) fun x21=>
         some (.inr (((x21.2.1.1.1,(wrF .i64 (x21.2.1.1.2+x19.2))),((wrF .i64 (s18.1.2.1+x19.2)),((wrF .i64 (s18.1.2.2.1+1)),()))),((s18.2.1.1,()),((),((),())))))
        else bif zj 0 s18.1.1.2 then bif (qS s18.2.1.1.length ((s18.1.1::[]).length) 16) then some (.inr (((0,0),((wrF .i64 (s18.1.2.1+x19.2)),((wrF .i64 (s18.1.2.2.1+1)),()))),(((s18.2.1.1++(s18.1.1::[])),()),((),((),())))))
          else none
         else some (.inr (((0,0),((wrF .i64 (s18.1.2.1+x19.2)),((wrF .i64 (s18.1.2.2.1+1)),()))),((s18.2.1.1,()),((),((),())))))
      else some (.inl (0,((s18.1.1,(s18.1.2.1,(s18.1.2.2.1,()))),((s18.2.1.1,()),((),((),()))))))) zK (((0,0),((wrF .i64 (x7.2.1.1+x17.2)),(0,()))),((x7.2.2.1.1,()),((),((),()))))) fun x22=>
     bif Nat.beq x22.1 0 then opt (zC (fun s23:((Int×(Int×(Int×(Int×Unit))))×(Unit×Unit))=>
       bif (zj s23.1.2.2.2.1 ((x22.2.2.1.1.length:Nat):Int)) then opt (atI x22.2.2.1.1 s23.1.2.2.2.1) fun x24=>
        opt (gl x22.2.2.1.1 (Int.toNat s23.1.2.2.2.1)) fun x25=>
        opt (zC (fun s26:((Int×(Int×(Int×(Int×(Int×Unit)))))×(Unit×Unit))=>
         bif (zj s26.1.2.2.2.2.1 ((x22.2.2.1.1.length:Nat):Int)) then bif (zm ((x22.2.2.1.1.length:Nat):Int) 0) then none
          else opt (atI x22.2.2.1.1 (Int.tmod (wrF .i64 ((wrF .i64 (s23.1.2.2.2.1+1))+s26.1.2.2.2.2.1)) ((x22.2.2.1.1.length:Nat):Int))) fun x27=>
           opt (gl x22.2.2.1.1 (Int.toNat (Int.tmod (wrF .i64 ((wrF .i64 (s23.1.2.2.2.1+1))+s26.1.2.2.2.2.1)) ((x22.2.2.1.1.length:Nat):Int)))) fun x28=>
           bif (zm ((x22.2.2.1.1.length:Nat):Int) 0) then none
           else opt (yD ((wrF .i64 ((wrF .i64 (s26.1.2.2.2.1 - (wrF .i64 (127*s26.1.2.2.1))))*1048576)),((wrF .i64 (s26.1.2.1*s26.1.2.2.1)),()))) fun x29=>
            some (.inr (((ud s26.1.1 (wrF .i64 ((wrF .i64 ((wrF .i64 ((wrF .i64 (x28.1+(wrF .i64 ((wrF .i64 (Int.tdiv (wrF .i64 ((wrF .i64 (s23.1.2.2.2.1+1))+s26.1.2.2.2.2.1)) ((x22.2.2.1.1.length:Nat):Int)))*a0.2))))+(jl (wrF .i64 (a2*a1)) x28.2))) - (wrF .i64 ((wrF .i64 (x25.1+x25.2)) - (jl (wrF .i64 (a2*a1)) x25.2))))) - x29.1))),(s26.1.2.1,(s26.1.2.2.1,((wrF .i64 (s26.1.2.2.2.1+(ud 0 (wrF .i64 (x28.2 - (wrF .i64 (a2*a1))))))),((wrF .i64 (s26.1.2.2.2.2.1+1)),()))))),((),())))
         else some (.inl (0,((s26.1.1,(s26.1.2.1,(s26.1.2.2.1,(s26.1.2.2.2.1,(s26.1.2.2.2.2.1,()))))),((),()))))) zK ((s23.1.1,(s23.1.2.1,(s23.1.2.2.1,(0,(0,()))))),((),()))) fun x30=>
        some (.inr ((x30.2.1.1,(x30.2.1.2.1,(x30.2.1.2.2.1,((wrF .i64 (s23.1.2.2.2.1+1)),())))),((),())))
       else some (.inl (0,((s23.1.1,(s23.1.2.1,(s23.1.2.2.1,(s23.1.2.2.2.1,())))),((),()))))) zK (((ud 0 (wrF .i64 (0 - x2.1))),((wrF .i64 (Int.tdiv (wrF .i64 (x1.1*1048576)) (wrF .i64 (a0.2*a1)))),(a1,(0,())))),((),()))) fun x31=>
      some ((x31.2.1.2.1,x31.2.1.1),(0,()))
     else opt (zC (fun s32:((Int×(Int×(Int×(Int×Unit))))×(Unit×Unit))=>
       bif (zj s32.1.2.2.2.1 ((x22.2.2.1.1.length:Nat):Int)) then opt (atI x22.2.2.1.1 s32.1.2.2.2.1) fun x33=>
        opt (gl x22.2.2.1.1 (Int.toNat s32.1.2.2.2.1)) fun x34=>
        opt (zC (fun s35:((Int×(Int×(Int×(Int×(Int×Unit)))))×(Unit×Unit))=>
         bif (zj s35.1.2.2.2.2.1 ((x22.2.2.1.1.length:Nat):Int)) then bif (zm ((x22.2.2.1.1.length:Nat):Int) 0) then none
          else opt (atI x22.2.2.1.1 (Int.tmod (wrF .i64 ((wrF .i64 (s32.1.2.2.2.1+1))+s35.1.2.2.2.2.1)) ((x22.2.2.1.1.length:Nat):Int))) fun x36=>
           opt (gl x22.2.2.1.1 (Int.toNat (Int.tmod (wrF .i64 ((wrF .i64 (s32.1.2.2.2.1+1))+s35.1.2.2.2.2.1)) ((x22.2.2.1.1.length:Nat):Int)))) fun x37=>
           bif (zm ((x22.2.2.1.1.length:Nat):Int) 0) then none
           else opt (yD ((wrF .i64 ((wrF .i64 (s35.1.2.2.2.1 - (wrF .i64 (127*s35.1.2.2.1))))*1048576)),((wrF .i64 (s35.1.2.1*s35.1.2.2.1)),()))) fun x38=>
            some (.inr (((ud s35.1.1 (wrF .i64 ((wrF .i64 ((wrF .i64 ((wrF .i64 (x37.1+(wrF .i64 ((wrF .i64 (Int.tdiv (wrF .i64 ((wrF .i64 (s32.1.2.2.2.1+1))+s35.1.2.2.2.2.1)) ((x22.2.2.1.1.length:Nat):Int)))*a0.2))))+(jl (wrF .i64 (a2*a1)) x37.2))) - (wrF .i64 ((wrF .i64 (x34.1+x34.2)) - (jl (wrF .i64 (a2*a1)) x34.2))))) - x38.1))),(s35.1.2.1,(s35.1.2.2.1,((wrF .i64 (s35.1.2.2.2.1+(ud 0 (wrF .i64 (x37.2 - (wrF .i64 (a2*a1))))))),((wrF .i64 (s35.1.2.2.2.2.1+1)),()))))),((),())))
         else some (.inl (0,((s35.1.1,(s35.1.2.1,(s35.1.2.2.1,(s35.1.2.2.2.1,(s35.1.2.2.2.2.1,()))))),((),()))))) zK ((s32.1.1,(s32.1.2.1,(s32.1.2.2.1,(0,(0,()))))),((),()))) fun x39=>
        some (.inr ((x39.2.1.1,(x39.2.1.2.1,(x39.2.1.2.2.1,((wrF .i64 (s32.1.2.2.2.1+1)),())))),((),())))
       else some (.inl (0,((s32.1.1,(s32.1.2.1,(s32.1.2.2.1,(s32.1.2.2.2.1,())))),((),()))))) zK (((ud 0 (wrF .i64 (0 - x2.1))),((wrF .i64 (Int.tdiv (wrF .i64 (x1.1*1048576)) (wrF .i64 (a0.2*a1)))),(a1,(0,())))),((),()))) fun x40=>
      some ((x40.2.1.2.1,x40.2.1.1),(0,()))
abbrev zbf:Type:=(ql×Int×Int×Unit)→Option (wB×Int×Unit)
def zmY:VC→WX→Wz→gZ→zbf:=fun ZJ gg yD je=>sF Tryz.prog [(139,⟨kI,kJ,ZJ⟩),(140,⟨vC,vD,gg⟩),(142,⟨xZ,ve,yD⟩),(180,⟨xf,xg,je⟩)] zwq (zN []) 30 101 vg vh
theorem zyR (ZJ) (gg) (yD) (je) (a0) (a1) (a2):zmY ZJ gg yD je (a0,a1,a2,())=Kg ZJ gg yD je a0 a1 a2:=by kernel_rfl
def yU:zbf:=zmY ZF vE vf xh
theorem zsp:Con.Ok Tryz.prog 101 ⟨vg,vh,yU⟩:=zv (zd zmR (zd zjZ (zd ziK (zd zbY zi)))) zo (by kernel_rfl)
theorem zbg (a0) (a1) (a2):yU (a0,a1,a2,())=Kg ZF vE vf xh a0 a1 a2:=zyR ZF vE vf xh a0 a1 a2
abbrev kK:List VT:=[⟨false,(.list zu)⟩]
abbrev kL:List VT:=[⟨true,zu⟩,⟨false,I⟩]
def zwr:zT:=zM [cdF zu] [] [] [] [84]
def zf5 (qk:xC) (a0:(List qx)):Option (qx×Int×Unit):=
 bif (zm ((a0.length:Nat):Int) 0) then some ((0,0),(2,()))
 else bif (zj 12 ((a0.length:Nat):Int)) then some ((0,0),(3,()))
  else opt (zC (fun s0:(((Int×Int)×((Int×Int)×(Int×(Int×Unit))))×Unit)=>
    bif (zj s0.1.2.2.2.1 ((a0.length:Nat):Int)) then opt (atI a0 s0.1.2.2.2.1) fun x1=>
     opt (qk (x1,())) fun x2=>
     bif !(zm x2.1 0) then some (.inl (1,(((0,0),(s0.1.2.1,(x2.1,(s0.1.2.2.2.1,())))),())))
     else some (.inr ((s0.1.1,(((wrF .i64 (s0.1.2.1.1+x1.1)),(wrF .i64 (s0.1.2.1.2+x1.2))),(s0.1.2.2.1,((wrF .i64 (s0.1.2.2.2.1+1)),())))),()))
    else some (.inl (0,((s0.1.1,(s0.1.2.1,(s0.1.2.2.1,(s0.1.2.2.2.1,())))),())))) zK (((0,0),((0,0),(0,(0,())))),())) fun x3=>
   bif Nat.beq x3.1 0 then opt (qk (x3.2.1.2.1,())) fun x4=>
    bif !(zm x4.1 0) then some ((0,0),(6,()))
    else some (x3.2.1.2.1,(0,()))
   else some (x3.2.1.1,(x3.2.1.2.2.1,()))
abbrev zbh:Type:=((List qx)×Unit)→Option (qx×Int×Unit)
def zmZ:xC→zbh:=fun qk=>sF Tryz.prog [(84,⟨wH,wI,qk⟩)] zwr (zN []) 30 102 kK kL
theorem zyS (qk) (a0):zmZ qk (a0,())=zf5 qk a0:=by kernel_rfl
def vi:zbh:=zmZ jJ
theorem zsq:Con.Ok Tryz.prog 102 ⟨kK,kL,vi⟩:=zv (zd WU zi) zo (by kernel_rfl)
theorem zsr (a0):vi (a0,())=zf5 jJ a0:=zyS jJ a0
abbrev ux:List VT:=[⟨true,yX⟩]
abbrev uz:List VT:=[⟨false,I⟩]
def zui:zT:=zM [cdF yX] [] [] [] []
def zd0 (a0:wB):Option (Int×Unit):=
 opt (bif zj a0.1 1 then some (1,((140,()),()))
  else bif zj 2097152 a0.1 then some (1,((140,()),()))
   else bif zj a0.2 0 then some (1,((140,()),()))
    else bif zj 268435456 a0.2 then some (1,((140,()),()))
     else some (0,((0,()),()))) fun x0=>
 bif Nat.beq x0.1 0 then some (0,())
 else some (x0.2.1.1,())
abbrev JN:Type:=(wB×Unit)→Option (Int×Unit)
def zkI:JN:=sF Tryz.prog [] zui (zN []) 30 59 ux uz
theorem zws (a0):zkI (a0,())=zd0 a0:=by kernel_rfl
def uA:JN:=zkI
theorem zf6:Con.Ok Tryz.prog 59 ⟨ux,uz,uA⟩:=zv zi zo (by kernel_rfl)
theorem zql (a0):uA (a0,())=zd0  a0:=zws  a0
abbrev uB:List VT:=[⟨false,(.list I)⟩]
abbrev uC:List VT:=[⟨false,.bool⟩]
def zuj:zT:=zM [] [] [] [] []
def zd1 (a0:(List Int)):Option (Bool×Unit):=
 opt (zC (fun s0:((Bool×(Int×Unit))×Unit)=>
  bif (zj s0.1.2.1 ((a0.length:Nat):Int)) then opt (atI a0 s0.1.2.1) fun x1=>
   opt (bif zj x1 (-1125899906842624) then some (1,((false,()),()))
    else bif zj 1125899906842624 x1 then some (1,((false,()),()))
     else some (0,((s0.1.1,()),()))) fun x2=>
   bif Nat.beq x2.1 0 then some (.inr ((x2.2.1.1,((wrF .i64 (s0.1.2.1+1)),())),()))
   else some (.inl (1,((x2.2.1.1,(s0.1.2.1,())),())))
  else some (.inl (0,((s0.1.1,(s0.1.2.1,())),())))) zK ((false,(0,())),())) fun x3=>
 bif Nat.beq x3.1 0 then some (true,())
 else some (x3.2.1.1,())
abbrev JO:Type:=((List Int)×Unit)→Option (Bool×Unit)
def zkJ:JO:=sF Tryz.prog [] zuj (zN []) 30 182 uB uC
theorem zwt (a0):zkJ (a0,())=zd1 a0:=by kernel_rfl
def uD:JO:=zkJ
theorem zf7:Con.Ok Tryz.prog 182 ⟨uB,uC,uD⟩:=zv zi zo (by kernel_rfl)
theorem zqm (a0):uD (a0,())=zd1  a0:=zwt  a0
abbrev kM:List VT:=[⟨false,I⟩]
abbrev kN:List VT:=[⟨false,(.int .u64)⟩]
def zqn:zT:=zM [] [] [] [] []
def VD (a0:Int):Option (Int×Unit):=
 bif zj a0 0 then some ((wrF .u64 (wrF .i64 (0 - a0))),())
 else some ((wrF .u64 a0),())
abbrev VE:Type:=(Int×Unit)→Option (Int×Unit)
def zhg:VE:=sF Tryz.prog [] zqn (zN []) 30 184 kM kN
theorem zss (a0):zhg (a0,())=VD a0:=by kernel_rfl
def kO:VE:=zhg
theorem zm0:Con.Ok Tryz.prog 184 ⟨kM,kN,kO⟩:=zv zi zo (by kernel_rfl)
theorem zdq (a0):kO (a0,())=VD  a0:=zss  a0
abbrev vF:List VT:=[⟨false,(.int .u64)⟩,⟨false,(.int .u64)⟩]
abbrev vG:List VT:=[⟨false,(.int .u64)⟩,⟨false,(.int .u64)⟩]
def zm1:zT:=zM [] [] [] [] []
def Uc (a0:Int) (a1:Int):Option (Int×Int×Unit):=
 some ((wrF .u64 ((wrF .u64 ((wrF .u64 ((jX .u64 a0 32)*(jX .u64 a1 32)))+(jX .u64 (wrF .u64 ((wrF .u64 ((jX .u64 a0 32)*(ky .and .u64 a1 4294967295)))+(jX .u64 (wrF .u64 ((ky .and .u64 a0 4294967295)*(ky .and .u64 a1 4294967295))) 32))) 32)))+(jX .u64 (wrF .u64 ((ky .and .u64 (wrF .u64 ((wrF .u64 ((jX .u64 a0 32)*(ky .and .u64 a1 4294967295)))+(jX .u64 (wrF .u64 ((ky .and .u64 a0 4294967295)*(ky .and .u64 a1 4294967295))) 32))) 4294967295)+(wrF .u64 ((ky .and .u64 a0 4294967295)*(jX .u64 a1 32))))) 32))),((wrF .u64 (a0*a1)),()))
abbrev WY:Type:=(Int×Int×Unit)→Option (Int×Int×Unit)
def zex:WY:=sF Tryz.prog [] zm1 (zN []) 30 183 vF vG
theorem zot (a0) (a1):zex (a0,a1,())=Uc a0 a1:=by kernel_rfl
def kZ:WY:=zex
theorem zj0:Con.Ok Tryz.prog 183 ⟨vF,vG,kZ⟩:=zv zi zo (by kernel_rfl)
theorem zj1 (a0) (a1):kZ (a0,a1,())=Uc  a0 a1:=zot  a0 a1
abbrev vH:List VT:=[⟨false,(.int .u64)⟩]
abbrev vI:List VT:=[⟨false,I⟩]
def zm2:zT:=zM [] [] [] [] []
def zey:(Int×Unit)→Option (Int×Unit):=sF Tryz.prog [] zm2 (zN []) 30 196 vH vI
theorem zj2:Con.Ok Tryz.prog 196 ⟨vH,vI,zey⟩:=zv zi zo (by kernel_rfl)
abbrev wi:List VT:=[⟨false,(.int .u64)⟩]
abbrev wj:List VT:=[⟨false,I⟩]
def zdr:zT:=zM [] [] [] [] [196]
def uE:(Int×Unit)→Option (Int×Unit):=sF Tryz.prog [(196,⟨vH,vI,zey⟩)] zdr (zN []) 30 193 wi wj
theorem zbQ:Con.Ok Tryz.prog 193 ⟨wi,wj,uE⟩:=zv (zd zj2 zi) zo (by kernel_rfl)
abbrev vJ:List VT:=[⟨false,(.int .u64)⟩,⟨false,(.int .u64)⟩,⟨false,(.int .u64)⟩]
abbrev vK:List VT:=[⟨false,(.int .u64)⟩,⟨false,(.int .u64)⟩]
def zm3:zT:=zM [] [] [] [] [193]
def Ud (ym:(Int×Unit)→Option (Int×Unit)) (a0:Int) (a1:Int) (a2:Int):Option (Int×Int×Unit):=
 opt (bif zm a2 0 then none
  else some (0,((),()))) fun x0=>
 opt (bif !(zj a0 a2) then none
  else some (0,((),()))) fun x1=>
 bif zm a0 0 then bif zm a2 0 then none
  else bif zm a2 0 then none
   else some ((wrF .u64 (Int.tdiv a1 a2)),((Int.tmod a1 a2),()))
 else opt (ym (a2,())) fun x2=>
  bif zj (wrF .u64 x2.1) 0 then none
  else bif zj (wrF .u64 x2.1) 0 then none
   else bif (zj (wrF .u64 (64 - (wrF .u64 x2.1))) 0) then none
    else bif zj (wrF .u64 x2.1) 0 then none
     else bif (zm (jX .u64 (yG .u64 a2 (wrF .u64 x2.1)) 32) 0) then none
      else opt (zC (fun s3:((Int×(Int×Unit))×Unit)=>
        bif !(zj s3.1.1 4294967296) then bif (!(zj (wrF .u64 (s3.1.2.1+(jX .u64 (yG .u64 a2 (wrF .u64 x2.1)) 32))) 4294967296)) then some (.inl (0,(((wrF .u64 (s3.1.1 - 1)),((wrF .u64 (s3.1.2.1+(jX .u64 (yG .u64 a2 (wrF .u64 x2.1)) 32))),())),())))
         else some (.inr (((wrF .u64 (s3.1.1 - 1)),((wrF .u64 (s3.1.2.1+(jX .u64 (yG .u64 a2 (wrF .u64 x2.1)) 32))),())),()))
        else bif (zj (wrF .u64 ((wrF .u64 (4294967296*s3.1.2.1))+(jX .u64 (yG .u64 a1 (wrF .u64 x2.1)) 32))) (wrF .u64 (s3.1.1*(ky .and .u64 (yG .u64 a2 (wrF .u64 x2.1)) 4294967295)))) then bif (!(zj (wrF .u64 (s3.1.2.1+(jX .u64 (yG .u64 a2 (wrF .u64 x2.1)) 32))) 4294967296)) then some (.inl (0,(((wrF .u64 (s3.1.1 - 1)),((wrF .u64 (s3.1.2.1+(jX .u64 (yG .u64 a2 (wrF .u64 x2.1)) 32))),())),())))
          else some (.inr (((wrF .u64 (s3.1.1 - 1)),((wrF .u64 (s3.1.2.1+(jX .u64 (yG .u64 a2 (wrF .u64 x2.1)) 32))),())),()))
         else some (.inl (0,((s3.1.1,(s3.1.2.1,())),())))) zK (((wrF .u64 (Int.tdiv (ky .or .u64 (yG .u64 a0 (wrF .u64 x2.1)) (jX .u64 a1 (wrF .u64 (64 - (wrF .u64 x2.1))))) (jX .u64 (yG .u64 a2 (wrF .u64 x2.1)) 32))),((wrF .u64 ((ky .or .u64 (yG .u64 a0 (wrF .u64 x2.1)) (jX .u64 a1 (wrF .u64 (64 - (wrF .u64 x2.1))))) - (wrF .u64 ((wrF .u64 (Int.tdiv (ky .or .u64 (yG .u64 a0 (wrF .u64 x2.1)) (jX .u64 a1 (wrF .u64 (64 - (wrF .u64 x2.1))))) (jX .u64 (yG .u64 a2 (wrF .u64 x2.1)) 32)))*(jX .u64 (yG .u64 a2 (wrF .u64 x2.1)) 32))))),())),())) fun x4=>
       bif (zm (jX .u64 (yG .u64 a2 (wrF .u64 x2.1)) 32) 0) then none
       else opt (zC (fun s5:((Int×(Int×Unit))×Unit)=>
         bif !(zj s5.1.1 4294967296) then bif (!(zj (wrF .u64 (s5.1.2.1+(jX .u64 (yG .u64 a2 (wrF .u64 x2.1)) 32))) 4294967296)) then some (.inl (0,(((wrF .u64 (s5.1.1 - 1)),((wrF .u64 (s5.1.2.1+(jX .u64 (yG .u64 a2 (wrF .u64 x2.1)) 32))),())),())))
          else some (.inr (((wrF .u64 (s5.1.1 - 1)),((wrF .u64 (s5.1.2.1+(jX .u64 (yG .u64 a2 (wrF .u64 x2.1)) 32))),())),()))
         else bif (zj (wrF .u64 ((wrF .u64 (4294967296*s5.1.2.1))+(ky .and .u64 (yG .u64 a1 (wrF .u64 x2.1)) 4294967295))) (wrF .u64 (s5.1.1*(ky .and .u64 (yG .u64 a2 (wrF .u64 x2.1)) 4294967295)))) then bif (!(zj (wrF .u64 (s5.1.2.1+(jX .u64 (yG .u64 a2 (wrF .u64 x2.1)) 32))) 4294967296)) then some (.inl (0,(((wrF .u64 (s5.1.1 - 1)),((wrF .u64 (s5.1.2.1+(jX .u64 (yG .u64 a2 (wrF .u64 x2.1)) 32))),())),())))
           else some (.inr (((wrF .u64 (s5.1.1 - 1)),((wrF .u64 (s5.1.2.1+(jX .u64 (yG .u64 a2 (wrF .u64 x2.1)) 32))),())),()))
          else some (.inl (0,((s5.1.1,(s5.1.2.1,())),())))) zK (((wrF .u64 (Int.tdiv (wrF .u64 ((wrF .u64 ((wrF .u64 ((ky .or .u64 (yG .u64 a0 (wrF .u64 x2.1)) (jX .u64 a1 (wrF .u64 (64 - (wrF .u64 x2.1)))))*4294967296))+(jX .u64 (yG .u64 a1 (wrF .u64 x2.1)) 32))) - (wrF .u64 (x4.2.1.1*(yG .u64 a2 (wrF .u64 x2.1)))))) (jX .u64 (yG .u64 a2 (wrF .u64 x2.1)) 32))),((wrF .u64 ((wrF .u64 ((wrF .u64 ((wrF .u64 ((ky .or .u64 (yG .u64 a0 (wrF .u64 x2.1)) (jX .u64 a1 (wrF .u64 (64 - (wrF .u64 x2.1)))))*4294967296))+(jX .u64 (yG .u64 a1 (wrF .u64 x2.1)) 32))) - (wrF .u64 (x4.2.1.1*(yG .u64 a2 (wrF .u64 x2.1)))))) - (wrF .u64 ((wrF .u64 (Int.tdiv (wrF .u64 ((wrF .u64 ((wrF .u64 ((ky .or .u64 (yG .u64 a0 (wrF .u64 x2.1)) (jX .u64 a1 (wrF .u64 (64 - (wrF .u64 x2.1)))))*4294967296))+(jX .u64 (yG .u64 a1 (wrF .u64 x2.1)) 32))) - (wrF .u64 (x4.2.1.1*(yG .u64 a2 (wrF .u64 x2.1)))))) (jX .u64 (yG .u64 a2 (wrF .u64 x2.1)) 32)))*(jX .u64 (yG .u64 a2 (wrF .u64 x2.1)) 32))))),())),())) fun x6=>
        bif zj (wrF .u64 x2.1) 0 then none
        else some ((wrF .u64 ((wrF .u64 (x4.2.1.1*4294967296))+x6.2.1.1)),((jX .u64 (wrF .u64 ((wrF .u64 ((wrF .u64 ((wrF .u64 ((wrF .u64 ((wrF .u64 ((ky .or .u64 (yG .u64 a0 (wrF .u64 x2.1)) (jX .u64 a1 (wrF .u64 (64 - (wrF .u64 x2.1)))))*4294967296))+(jX .u64 (yG .u64 a1 (wrF .u64 x2.1)) 32))) - (wrF .u64 (x4.2.1.1*(yG .u64 a2 (wrF .u64 x2.1))))))*4294967296))+(ky .and .u64 (yG .u64 a1 (wrF .u64 x2.1)) 4294967295))) - (wrF .u64 (x6.2.1.1*(yG .u64 a2 (wrF .u64 x2.1)))))) (wrF .u64 x2.1)),()))
abbrev WZ:Type:=(Int×Int×Int×Unit)→Option (Int×Int×Unit)
def zez:((Int×Unit)→Option (Int×Unit))→WZ:=fun ym=>sF Tryz.prog [(193,⟨wi,wj,ym⟩)] zm3 (zN []) 30 185 vJ vK
theorem zou (ym) (a0) (a1) (a2):zez ym (a0,a1,a2,())=Ud ym a0 a1 a2:=by kernel_rfl
def ga:WZ:=zez uE
theorem zj3:Con.Ok Tryz.prog 185 ⟨vJ,vK,ga⟩:=zv (zd zbQ zi) zo (by kernel_rfl)
theorem zj4 (a0) (a1) (a2):ga (a0,a1,a2,())=Ud uE a0 a1 a2:=zou uE a0 a1 a2
abbrev ZZ:List VT:=[⟨false,I⟩]
abbrev Qa:List VT:=[⟨false,I⟩,⟨false,.bool⟩]
def zuk:zT:=zM [] [] [] [] [182]
def zd2 (yn:JO) (a0:Int):Option (Int×Bool×Unit):=
 opt (yn ((a0::[]),())) fun x0=>
 bif !x0.1 then some (0,(false,()))
 else some (a0,(true,()))
abbrev UW:Type:=(Int×Unit)→Option (Int×Bool×Unit)
def zkK:JO→UW:=fun yn=>sF Tryz.prog [(182,⟨uB,uC,yn⟩)] zuk (zN []) 30 186 ZZ Qa
theorem zwu (yn) (a0):zkK yn (a0,())=zd2 yn a0:=by kernel_rfl
def JP:UW:=zkK uD
theorem zqo:Con.Ok Tryz.prog 186 ⟨ZZ,Qa,JP⟩:=zv (zd zf7 zi) zo (by kernel_rfl)
theorem zqp (a0):JP (a0,())=zd2 uD a0:=zwu uD a0
abbrev QX:List VT:=[⟨false,I⟩,⟨false,I⟩,⟨false,I⟩]
abbrev QY:List VT:=[⟨false,I⟩,⟨false,.bool⟩]
def zwv:zT:=zM [] [] [] [] [182,184,183,185,186]
def zf8 (yn:JO) (kV:VE) (gh:WY) (gi:WZ) (We:UW) (a0:Int) (a1:Int) (a2:Int):Option (Int×Bool×Unit):=
 opt (opt (yn ((a0::(a1::(a2::[]))),())) fun x0=>
  bif !x0.1 then some (1,((0,(false,())),()))
  else bif zj a2 1 then some (1,((0,(false,())),()))
   else some (0,((0,(false,())),()))) fun x1=>
 bif Nat.beq x1.1 0 then opt (kV (a0,())) fun x2=>
  opt (kV (a1,())) fun x3=>
  opt (gh (x2.1,(x3.1,()))) fun x4=>
  bif (!(zj x4.1 (wrF .u64 a2))) then some (0,(false,()))
  else opt (gi (x4.1,(x4.2.1,((wrF .u64 a2),())))) fun x5=>
   bif zj 1125899906842624 x5.1 then some (0,(false,()))
   else opt (bif (!((zj a0 0) == (zj a1 0))) then opt (bif !(zm x5.2.1 0) then some (0,(((wrF .i64 ((wrF .i64 (0 - (wrF .i64 x5.1))) - 1)),()),()))
       else some (0,(((wrF .i64 (0 - (wrF .i64 x5.1))),()),()))) fun x6=>
      some (0,((x6.2.1.1,()),()))
     else some (0,(((wrF .i64 x5.1),()),()))) fun x7=>
    opt (We (x7.2.1.1,())) fun x8=>
    some (x8.1,(x8.2.1,()))
 else some (x1.2.1.1,(x1.2.1.2.1,()))
abbrev zbi:Type:=(Int×Int×Int×Unit)→Option (Int×Bool×Unit)
def zm4:JO→VE→WY→WZ→UW→zbi:=fun yn kV gh gi We=>sF Tryz.prog [(182,⟨uB,uC,yn⟩),(184,⟨kM,kN,kV⟩),(183,⟨vF,vG,gh⟩),(185,⟨vJ,vK,gi⟩),(186,⟨ZZ,Qa,We⟩)] zwv (zN []) 30 171 QX QY
theorem zyT (yn) (kV) (gh) (gi) (We) (a0) (a1) (a2):zm4 yn kV gh gi We (a0,a1,a2,())=zf8 yn kV gh gi We a0 a1 a2:=by kernel_rfl
def YB:zbi:=zm4 uD kO kZ ga JP
theorem zst:Con.Ok Tryz.prog 171 ⟨QX,QY,YB⟩:=zv (zd zf7 (zd zm0 (zd zj0 (zd zj3 (zd zqo zi))))) zo (by kernel_rfl)
theorem zsu (a0) (a1) (a2):YB (a0,a1,a2,())=zf8 uD kO kZ ga JP a0 a1 a2:=zyT uD kO kZ ga JP a0 a1 a2
abbrev kP:List VT:=[⟨false,I⟩,⟨false,I⟩,⟨false,I⟩]
abbrev kQ:List VT:=[⟨false,I⟩]
def zww:zT:=zM [] [] [] [] [171]
def zf9 (Xb:zbi) (a0:Int) (a1:Int) (a2:Int):Option (Int×Unit):=
 opt (Xb ((wrF .i64 (0 - a0)),(a1,(a2,())))) fun x0=>
 some ((wrF .i64 (0 - x0.1)),())
abbrev YC:Type:=(Int×Int×Int×Unit)→Option (Int×Unit)
def zm5:zbi→YC:=fun Xb=>sF Tryz.prog [(171,⟨QX,QY,Xb⟩)] zww (zN []) 30 150 kP kQ
theorem zyU (Xb) (a0) (a1) (a2):zm5 Xb (a0,a1,a2,())=zf9 Xb a0 a1 a2:=by kernel_rfl
def ug:YC:=zm5 YB
theorem zhh:Con.Ok Tryz.prog 150 ⟨kP,kQ,ug⟩:=zv (zd zst zi) zo (by kernel_rfl)
theorem zsv (a0) (a1) (a2):ug (a0,a1,a2,())=zf9 YB a0 a1 a2:=zyU YB a0 a1 a2
abbrev uU:List VT:=[⟨false,(.list zu)⟩,⟨false,I⟩]
abbrev uV:List VT:=[⟨false,I⟩,⟨false,.bool⟩]
def zov:zT:=zM [cdF zu] [] [] [] [150]
def GH (yE:YC) (a0:(List qx)) (a1:Int):Option (Int×Bool×Unit):=
 opt (zC (fun s0:((Int×(Bool×(Int×Unit)))×(Unit×(Unit×Unit)))=>
  bif (zj s0.1.2.2.1 ((a0.length:Nat):Int)) then opt (atI a0 s0.1.2.2.1) fun x1=>
   bif zj a1 x1.2 then some (.inr ((s0.1.1,(s0.1.2.1,((wrF .i64 (s0.1.2.2.1+1)),()))),((),((),()))))
   else opt (yE (x1.1,(1048576,(a1,())))) fun x2=>
    opt (bif !s0.1.2.1 then some (0,((x2.1,(true,())),((),())))
     else bif zj x2.1 s0.1.1 then some (0,((x2.1,(true,())),((),())))
      else some (0,((s0.1.1,(s0.1.2.1,())),((),())))) fun x3=>
    opt (zC (fun s4:((Int×(Bool×(Int×Unit)))×(Unit×(Unit×Unit)))=>
     bif (zj s4.1.2.2.1 ((a0.length:Nat):Int)) then opt (atI a0 s4.1.2.2.1) fun x5=>
      bif !(zj a1 x5.2) then some (.inr ((s4.1.1,(s4.1.2.1,((wrF .i64 (s4.1.2.2.1+1)),()))),((),((),()))))
      else bif !(zj x5.1 x1.1) then some (.inr ((s4.1.1,(s4.1.2.1,((wrF .i64 (s4.1.2.2.1+1)),()))),((),((),()))))
       else opt (yE ((wrF .i64 ((wrF .i64 ((wrF .i64 (x5.2 - a1))*x1.1))+(wrF .i64 ((wrF .i64 (a1 - x1.2))*x5.1)))),(1048576,((wrF .i64 (a1*(wrF .i64 (x5.2 - x1.2)))),())))) fun x6=>
        opt (bif !s4.1.2.1 then some (0,((x6.1,(true,())),((),())))
         else bif zj x6.1 s4.1.1 then some (0,((x6.1,(true,())),((),())))
          else some (0,((s4.1.1,(s4.1.2.1,())),((),())))) fun x7=>
        some (.inr ((x7.2.1.1,(x7.2.1.2.1,((wrF .i64 (s4.1.2.2.1+1)),()))),((),((),()))))
     else some (.inl (0,((s4.1.1,(s4.1.2.1,(s4.1.2.2.1,()))),((),((),())))))) zK ((x3.2.1.1,(x3.2.1.2.1,(0,()))),((),((),())))) fun x8=>
    bif Nat.beq x8.1 0 then some (.inr ((x8.2.1.1,(x8.2.1.2.1,((wrF .i64 (s0.1.2.2.1+1)),()))),((),((),()))))
    else some (.inl (1,((x8.2.1.1,(x8.2.1.2.1,(s0.1.2.2.1,()))),((),((),())))))
  else some (.inl (0,((s0.1.1,(s0.1.2.1,(s0.1.2.2.1,()))),((),((),())))))) zK ((0,(false,(0,()))),((),((),())))) fun x9=>
 bif Nat.beq x9.1 0 then some (x9.2.1.1,(x9.2.1.2.1,()))
 else some (x9.2.1.1,(x9.2.1.2.1,()))
abbrev XD:Type:=((List qx)×Int×Unit)→Option (Int×Bool×Unit)
def zga:YC→XD:=fun yE=>sF Tryz.prog [(150,⟨kP,kQ,yE⟩)] zov (zN []) 30 148 uU uV
theorem zqq (yE) (a0) (a1):zga yE (a0,a1,())=GH yE a0 a1:=by kernel_rfl
def Za:XD:=zga ug
theorem zlk:Con.Ok Tryz.prog 148 ⟨uU,uV,Za⟩:=zv (zd zhh zi) zo (by kernel_rfl)
theorem zll (a0) (a1):Za (a0,a1,())=GH ug a0 a1:=zqq ug a0 a1
abbrev uF:List VT:=[⟨false,(.list zu)⟩,⟨true,yX⟩]
abbrev uG:List VT:=[⟨false,I⟩,⟨false,I⟩]
def zul:zT:=zM [cdF yX] [] [⟨2,30,some 2,zu,false⟩,⟨5,30,some 2,zu,false⟩] [] [84,59,148]
def zd3 (qk:xC) (wM:JN) (yI:XD) (a0:(List qx)) (a1:wB):Option (Int×Int×Unit):=
 bif (zm ((a0.length:Nat):Int) 0) then some (0,(2,()))
 else bif (zj 12 ((a0.length:Nat):Int)) then some (0,(3,()))
  else opt (zC (fun s0:((Int×(Int×Unit))×Unit)=>
    bif (zj s0.1.2.1 ((a0.length:Nat):Int)) then opt (atI a0 s0.1.2.1) fun x1=>
     opt (qk (x1,())) fun x2=>
     bif !(zm x2.1 0) then some (.inl (1,((x2.1,(s0.1.2.1,())),())))
     else some (.inr ((s0.1.1,((wrF .i64 (s0.1.2.1+1)),())),()))
    else some (.inl (0,((s0.1.1,(s0.1.2.1,())),())))) zK ((0,(0,())),())) fun x3=>
   bif Nat.beq x3.1 0 then opt (wM (a1,())) fun x4=>
    bif !(zm x4.1 0) then bif !(zm x4.1 0) then some (0,(x4.1,()))
     else opt (yI (a0,(a1.1,()))) fun x5=>
      bif !x5.2.1 then some (0,(141,()))
      else some ((wrF .i64 (a1.2+x5.1)),(0,()))
    else opt (yI (a0,(a1.1,()))) fun x6=>
     bif !x6.2.1 then some (0,(141,()))
     else some ((wrF .i64 (a1.2+x6.1)),(0,()))
   else bif !(zm x3.2.1.1 0) then bif !(zm x3.2.1.1 0) then some (0,(x3.2.1.1,()))
     else opt (yI (a0,(a1.1,()))) fun x7=>
      bif !x7.2.1 then some (0,(141,()))
      else some ((wrF .i64 (a1.2+x7.1)),(0,()))
    else opt (wM (a1,())) fun x8=>
     bif !(zm x8.1 0) then bif !(zm x8.1 0) then some (0,(x8.1,()))
      else opt (yI (a0,(a1.1,()))) fun x9=>
       bif !x9.2.1 then some (0,(141,()))
       else some ((wrF .i64 (a1.2+x9.1)),(0,()))
     else opt (yI (a0,(a1.1,()))) fun x10=>
      bif !x10.2.1 then some (0,(141,()))
      else some ((wrF .i64 (a1.2+x10.1)),(0,()))
abbrev UX:Type:=((List qx)×wB×Unit)→Option (Int×Int×Unit)
def zkL:xC→JN→XD→UX:=fun qk wM yI=>sF Tryz.prog [(84,⟨wH,wI,qk⟩),(59,⟨ux,uz,wM⟩),(148,⟨uU,uV,yI⟩)] zul (zN []) 30 103 uF uG
theorem zwx (qk) (wM) (yI) (a0) (a1):zkL qk wM yI (a0,a1,())=zd3 qk wM yI a0 a1:=by kernel_rfl
def xr:UX:=zkL jJ uA Za
theorem zqr:Con.Ok Tryz.prog 103 ⟨uF,uG,xr⟩:=zv (zd WU (zd zf6 (zd zlk zi))) zo (by kernel_rfl)
theorem zqs (a0) (a1):xr (a0,a1,())=zd3 jJ uA Za a0 a1:=zwx jJ uA Za a0 a1
abbrev vL:List VT:=[⟨true,zu⟩,⟨true,yX⟩]
abbrev vM:List VT:=[⟨false,I⟩]
def zm6:zT:=zM [cdF zu] [] [] [] [84,59]
def Ue (qk:xC) (wM:JN) (a0:qx) (a1:wB):Option (Int×Unit):=
 opt (qk (a0,())) fun x0=>
 bif !(zm x0.1 0) then some (x0.1,())
 else opt (wM (a1,())) fun x1=>
  bif !(zm x1.1 0) then some (x1.1,())
  else bif zj a1.1 a0.2 then some (141,())
   else some (0,())
abbrev Ya:Type:=(qx×wB×Unit)→Option (Int×Unit)
def zeA:xC→JN→Ya:=fun qk wM=>sF Tryz.prog [(84,⟨wH,wI,qk⟩),(59,⟨ux,uz,wM⟩)] zm6 (zN []) 30 149 vL vM
theorem zow (qk) (wM) (a0) (a1):zeA qk wM (a0,a1,())=Ue qk wM a0 a1:=by kernel_rfl
def gb:Ya:=zeA jJ uA
theorem zj5:Con.Ok Tryz.prog 149 ⟨vL,vM,gb⟩:=zv (zd WU (zd zf6 zi)) zo (by kernel_rfl)
theorem zj6 (a0) (a1):gb (a0,a1,())=Ue jJ uA a0 a1:=zow jJ uA a0 a1
abbrev xL:List VT:=[⟨true,zu⟩,⟨true,yX⟩]
abbrev xM:List VT:=[⟨false,I⟩,⟨false,I⟩]
def zqt:zT:=zM [cdF zu] [] [] [] [149,150]
def zbj (gk:Ya) (yE:YC) (a0:qx) (a1:wB):Option (Int×Int×Unit):=
 opt (gk (a0,(a1,()))) fun x0=>
 bif !(zm x0.1 0) then some (0,(x0.1,()))
 else opt (yE (a0.2,(a1.2,(1048576,())))) fun x1=>
  some ((wrF .i64 (a0.1+x1.1)),(0,()))
abbrev VF:Type:=(qx×wB×Unit)→Option (Int×Int×Unit)
def zhi:Ya→YC→VF:=fun gk yE=>sF Tryz.prog [(149,⟨vL,vM,gk⟩),(150,⟨kP,kQ,yE⟩)] zqt (zN []) 30 104 xL xM
theorem zsw (gk) (yE) (a0) (a1):zhi gk yE (a0,a1,())=zbj gk yE a0 a1:=by kernel_rfl
def yB:VF:=zhi gb ug
theorem zm7:Con.Ok Tryz.prog 104 ⟨xL,xM,yB⟩:=zv (zd zj5 (zd zhh zi)) zo (by kernel_rfl)
theorem zm8 (a0) (a1):yB (a0,a1,())=zbj gb ug a0 a1:=zsw gb ug a0 a1
end Go.Proofs.YtplhphmbkmpocaaGreat.ad
end
