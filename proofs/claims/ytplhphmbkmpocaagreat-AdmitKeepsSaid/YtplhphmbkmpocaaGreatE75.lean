/- Parts of a proof, joined. -/
import Derived.Test.YtplhphmbkmpocaaGreatE74
set_option linter.unusedSectionVars false
set_option linter.unusedVariables false
set_option linter.unusedSimpArgs false
set_option maxHeartbeats 0
set_option maxRecDepth 100000
noncomputable section
namespace Go.Proofs.YtplhphmbkmpocaaGreat.ad
open Go Go.Fz Go.Fz.Sy
abbrev cdF (t:Ty):zmO:=⟨t,YQ t,[]⟩
abbrev zfB:List VT:=[⟨false,(.list (.int .u8))⟩,⟨false,I⟩]
abbrev zfC:List VT:=[⟨false,I⟩]
def zwD:zV:=zS [] [] [] [] []
def zfD (a0:(List Int)) (a1:Int):Option (Int×Unit):=
 bif (zh a1 ((a0.length:Nat):Int)) then opt (atI a0 a1) fun x0=>
  some ((wrF .i64 x0),())
 else some (0,())
abbrev zaV:Type:=((List Int)×Int×Unit)→Option (Int×Unit)
def zmT:zaV:=sF Tryz.prog [] zwD (zR []) 30 62 zfB zfC
theorem zzs (a0) (a1):zmT (a0,a1,())=zfD a0 a1:=by kernel_rfl
def gr:zaV:=zmT
theorem zsu:Con.Ok Tryz.prog 62 ⟨zfB,zfC,gr⟩:=zC zo zr (by kernel_rfl)
theorem zsv (a0) (a1):gr (a0,a1,())=zfD  a0 a1:=zzs  a0 a1
abbrev zfE:List VT:=[⟨true,zw⟩,⟨false,I⟩]
abbrev zfF:List VT:=[⟨false,.bool⟩]
def zwE:zV:=zS [cdF zw,cdF zP] [] [] [] []
def zfG (a0:zN) (a1:Int):Option (Bool×Unit):=
 bif !(zh a1 0) then some ((zh a1 a0.1),())
 else some (false,())
abbrev zaW:Type:=(zN×Int×Unit)→Option (Bool×Unit)
def zmU:zaW:=sF Tryz.prog [] zwE (zR []) 30 97 zfE zfF
theorem zzt (a0) (a1):zmU (a0,a1,())=zfG a0 a1:=by kernel_rfl
def YS:zaW:=zmU
theorem zsw:Con.Ok Tryz.prog 97 ⟨zfE,zfF,YS⟩:=zC zo zr (by kernel_rfl)
theorem zsx (a0) (a1):YS (a0,a1,())=zfG  a0 a1:=zzt  a0 a1
abbrev zaX:List VT:=[⟨true,zw⟩,⟨true,zP⟩]
abbrev zaY:List VT:=[⟨false,.bool⟩]
def zwF:zV:=zS [cdF zw,cdF zP] [] [] [] [97]
def zfH (JO:zaW) (a0:zN) (a1:zas):Option (Bool×Unit):=
 opt (opt (JO (a0,(a1.1,()))) fun x0=>
  bif !x0.1 then some (1,((false,()),()))
  else opt (JO (a0,(a1.2.1,()))) fun x1=>
   bif !x1.1 then some (1,((false,()),()))
   else bif zi a1.1 a1.2.1 then some (1,((false,()),()))
    else opt (atI a0.2.1 a1.1) fun x2=>
     bif x2 then opt (atI a0.2.1 a1.2.1) fun x3=>
      bif x3 then some (1,((false,()),()))
      else some (0,((false,()),()))
     else some (0,((false,()),()))) fun x4=>
 bif Nat.beq x4.1 0 then bif !(zh a1.2.2.1 1) then bif !(zh 1000 a1.2.2.1) then bif !(zh a1.2.2.2 0) then some ((!(zh 10000 a1.2.2.2)),())
    else some (false,())
   else some (false,())
  else some (false,())
 else some (x4.2.1.1,())
abbrev YT:Type:=(zN×zas×Unit)→Option (Bool×Unit)
def zmV:zaW→YT:=fun JO=>sF Tryz.prog [(97,⟨zfE,zfF,JO⟩)] zwF (zR []) 30 68 zaX zaY
theorem zzu (JO) (a0) (a1):zmV JO (a0,a1,())=zfH JO a0 a1:=by kernel_rfl
def uU:YT:=zmV YS
theorem zsy:Con.Ok Tryz.prog 68 ⟨zaX,zaY,uU⟩:=zC (ze zsw zo) zr (by kernel_rfl)
theorem zsz (a0) (a1):uU (a0,a1,())=zfH YS a0 a1:=zzu YS a0 a1
abbrev UW:List VT:=[⟨true,zP⟩,⟨false,I⟩,⟨false,I⟩]
abbrev UX:List VT:=[⟨false,.bool⟩]
def zuD:zV:=zS [cdF zP] [] [] [] []
def zdG (a0:zas) (a1:Int) (a2:Int):Option (Bool×Unit):=
 bif zi a0.1 a1 then bif zi a0.2.1 a2 then some (true,())
  else bif zi a0.1 a2 then some ((zi a0.2.1 a1),())
   else some (false,())
 else bif zi a0.1 a2 then some ((zi a0.2.1 a1),())
  else some (false,())
abbrev Wf:Type:=(zas×Int×Int×Unit)→Option (Bool×Unit)
def zkA:Wf:=sF Tryz.prog [] zuD (zR []) 30 69 UW UX
theorem zwG (a0) (a1) (a2):zkA (a0,a1,a2,())=zdG a0 a1 a2:=by kernel_rfl
def xX:Wf:=zkA
theorem zqy:Con.Ok Tryz.prog 69 ⟨UW,UX,xX⟩:=zC zo zr (by kernel_rfl)
theorem zqz (a0) (a1) (a2):xX (a0,a1,a2,())=zdG  a0 a1 a2:=zwG  a0 a1 a2
abbrev WU:List VT:=[⟨true,vE⟩]
abbrev WV:List VT:=[⟨true,zw⟩]
def zlz:zV:=zS [cdF vE,⟨zw,YQ zw,[1,2]⟩,cdF zP] [] [⟨5,141,none,.bool,true⟩,⟨9,141,none,.bool,true⟩,⟨13,141,none,.bool,true⟩,⟨16,141,none,.bool,true⟩,⟨19,141,none,.bool,true⟩,⟨21,141,none,.bool,true⟩,⟨24,141,none,.bool,true⟩,⟨3,59,none,zP,true⟩,⟨6,59,none,zP,true⟩,⟨8,59,none,zP,true⟩] [(5,141,5,[1,2]),(9,141,5,[2]),(13,141,5,[2]),(16,141,5,[2]),(19,141,5,[2]),(21,141,5,[2]),(24,141,5,[2]),(5,141,5,[1])] [62,68,69]
def Ky (jZ:zaV) (wF:YT) (qV:Wf) (a0:XT):Option (zN×Unit):=
 opt (zz (fun s0:((Unit×(Int×Unit))×((Int×((List Bool)×((List (Int×(Int×(Int×Int))))×Unit)))×Unit))=>
  bif zh s0.1.2.1 s0.2.1.1 then bif (jb s0.2.1.2.1.length (((!(zh s0.1.2.1 (wrF .i64 (1+(wrF .i64 (Int.tmod a0.1 6))))))::[]).length) 1) then some (.inr (((),((wrF .i64 (s0.1.2.1+1)),())),((s0.2.1.1,((s0.2.1.2.1++((!(zh s0.1.2.1 (wrF .i64 (1+(wrF .i64 (Int.tmod a0.1 6))))))::[])),(s0.2.1.2.2.1,()))),())))
   else none
  else some (.inl (0,(((),(s0.1.2.1,())),((s0.2.1.1,(s0.2.1.2.1,(s0.2.1.2.2.1,()))),()))))) zL (((),(0,())),(((wrF .i64 ((wrF .i64 (1+(wrF .i64 (Int.tmod a0.1 6))))+(wrF .i64 (2+(wrF .i64 (Int.tmod a0.2.1 5)))))),([],([],()))),()))) fun x1=>
 opt (zz (fun s2:(((Int×(Int×((List Int)×((List Int)×((List Int)×(List Int))))))×(Unit×(Int×Unit)))×((Int×((List Bool)×((List (Int×(Int×(Int×Int))))×Unit)))×Unit))=>
  bif (zh s2.1.2.2.1 (wrF .i64 (1+(wrF .i64 (Int.tmod a0.1 6))))) then opt (jZ (s2.1.1.2.2.2.2.1,(((s2.2.1.2.2.1.length:Nat):Int),()))) fun x3=>
   opt (jZ (s2.1.1.2.2.2.2.2,(((s2.2.1.2.2.1.length:Nat):Int),()))) fun x4=>
   bif (zi ((s2.2.1.2.2.1.length:Nat):Int) 24) then some (.inr ((s2.1.1,((),((wrF .i64 (s2.1.2.2.1+1)),()))),((s2.2.1.1,(s2.2.1.2.1,(s2.2.1.2.2.1,()))),())))
   else opt (wF ((s2.2.1.1,(s2.2.1.2.1,s2.2.1.2.2.1)),(((wrF .i64 (s2.1.2.2.1 - 1)),(s2.1.2.2.1,((wrF .i64 (1+(Int.tmod x3.1 20))),(Int.tmod x4.1 50)))),()))) fun x5=>
    bif !x5.1 then some (.inr ((s2.1.1,((),((wrF .i64 (s2.1.2.2.1+1)),()))),((s2.2.1.1,(s2.2.1.2.1,(s2.2.1.2.2.1,()))),())))
    else opt (zz (fun s6:(((Int×((List Bool)×(List (Int×(Int×(Int×Int))))))×(Int×Unit))×Unit)=>
      bif (zh s6.1.2.1 ((s2.2.1.2.2.1.length:Nat):Int)) then opt (atI s2.2.1.2.2.1 s6.1.2.1) fun x7=>
       opt (gl s2.2.1.2.2.1 (Int.toNat s6.1.2.1)) fun x8=>
       opt (qV (x8,((wrF .i64 (s2.1.2.2.1 - 1)),(s2.1.2.2.1,())))) fun x9=>
       bif x9.1 then some (.inl s6)
       else some (.inr ((s6.1.1,((wrF .i64 (s6.1.2.1+1)),())),()))
      else some (.inl s6)) zL (((0,([],[])),(0,())),())) fun x10=>
     bif (zh x10.1.2.1 ((s2.2.1.2.2.1.length:Nat):Int)) then opt (atI s2.2.1.2.2.1 x10.1.2.1) fun x11=>
      opt (gl s2.2.1.2.2.1 (Int.toNat x10.1.2.1)) fun x12=>
      opt (qV (x12,((wrF .i64 (s2.1.2.2.1 - 1)),(s2.1.2.2.1,())))) fun x13=>
      bif x13.1 then some (.inr ((s2.1.1,((),((wrF .i64 (s2.1.2.2.1+1)),()))),((s2.2.1.1,(s2.2.1.2.1,(s2.2.1.2.2.1,()))),())))
      else none
     else bif (jb s2.2.1.2.2.1.length ((((wrF .i64 (s2.1.2.2.1 - 1)),(s2.1.2.2.1,((wrF .i64 (1+(Int.tmod x3.1 20))),(Int.tmod x4.1 50))))::[]).length) 32) then some (.inr ((s2.1.1,((),((wrF .i64 (s2.1.2.2.1+1)),()))),((s2.2.1.1,(s2.2.1.2.1,((s2.2.1.2.2.1++(((wrF .i64 (s2.1.2.2.1 - 1)),(s2.1.2.2.1,((wrF .i64 (1+(Int.tmod x3.1 20))),(Int.tmod x4.1 50))))::[])),()))),())))
      else none
  else some (.inl (0,((s2.1.1,((),(s2.1.2.2.1,()))),((s2.2.1.1,(s2.2.1.2.1,(s2.2.1.2.2.1,()))),()))))) zL ((a0,((),(1,()))),((x1.2.2.1.1,(x1.2.2.1.2.1,(x1.2.2.1.2.2.1,()))),()))) fun x14=>
 opt (zz (fun s15:(((Int×(Int×((List Int)×((List Int)×((List Int)×(List Int))))))×(Unit×(Int×Unit)))×((Int×((List Bool)×((List (Int×(Int×(Int×Int))))×Unit)))×Unit))=>
  bif (zh s15.1.2.2.1 (wrF .i64 (2+(wrF .i64 (Int.tmod a0.2.1 5))))) then opt (jZ (s15.1.1.2.2.2.1,((wrF .i64 (2*s15.1.2.2.1)),()))) fun x16=>
   bif (zi (wrF .i64 (1+(wrF .i64 (Int.tmod a0.1 6)))) 0) then none
   else opt (jZ (s15.1.1.2.2.2.2.1,(((s15.2.1.2.2.1.length:Nat):Int),()))) fun x17=>
    opt (jZ (s15.1.1.2.2.2.2.2,(((s15.2.1.2.2.1.length:Nat):Int),()))) fun x18=>
    bif (zi ((s15.2.1.2.2.1.length:Nat):Int) 24) then some (.inr ((s15.1.1,((),((wrF .i64 (s15.1.2.2.1+1)),()))),((s15.2.1.1,(s15.2.1.2.1,(s15.2.1.2.2.1,()))),())))
    else opt (wF ((s15.2.1.1,(s15.2.1.2.1,s15.2.1.2.2.1)),(((wrF .i64 ((wrF .i64 (1+(wrF .i64 (Int.tmod a0.1 6))))+s15.1.2.2.1)),((Int.tmod x16.1 (wrF .i64 (1+(wrF .i64 (Int.tmod a0.1 6))))),((wrF .i64 (1+(Int.tmod x17.1 20))),(Int.tmod x18.1 50)))),()))) fun x19=>
     bif !x19.1 then some (.inr ((s15.1.1,((),((wrF .i64 (s15.1.2.2.1+1)),()))),((s15.2.1.1,(s15.2.1.2.1,(s15.2.1.2.2.1,()))),())))
     else opt (zz (fun s20:(((Int×((List Bool)×(List (Int×(Int×(Int×Int))))))×(Int×Unit))×Unit)=>
       bif (zh s20.1.2.1 ((s15.2.1.2.2.1.length:Nat):Int)) then opt (atI s15.2.1.2.2.1 s20.1.2.1) fun x21=>
        opt (gl s15.2.1.2.2.1 (Int.toNat s20.1.2.1)) fun x22=>
        opt (qV (x22,((wrF .i64 ((wrF .i64 (1+(wrF .i64 (Int.tmod a0.1 6))))+s15.1.2.2.1)),((Int.tmod x16.1 (wrF .i64 (1+(wrF .i64 (Int.tmod a0.1 6))))),())))) fun x23=>
        bif x23.1 then some (.inl s20)
        else some (.inr ((s20.1.1,((wrF .i64 (s20.1.2.1+1)),())),()))
       else some (.inl s20)) zL (((0,([],[])),(0,())),())) fun x24=>
      bif (zh x24.1.2.1 ((s15.2.1.2.2.1.length:Nat):Int)) then opt (atI s15.2.1.2.2.1 x24.1.2.1) fun x25=>
       opt (gl s15.2.1.2.2.1 (Int.toNat x24.1.2.1)) fun x26=>
       opt (qV (x26,((wrF .i64 ((wrF .i64 (1+(wrF .i64 (Int.tmod a0.1 6))))+s15.1.2.2.1)),((Int.tmod x16.1 (wrF .i64 (1+(wrF .i64 (Int.tmod a0.1 6))))),())))) fun x27=>
       bif x27.1 then some (.inr ((s15.1.1,((),((wrF .i64 (s15.1.2.2.1+1)),()))),((s15.2.1.1,(s15.2.1.2.1,(s15.2.1.2.2.1,()))),())))
       else none
      else bif (jb s15.2.1.2.2.1.length ((((wrF .i64 ((wrF .i64 (1+(wrF .i64 (Int.tmod a0.1 6))))+s15.1.2.2.1)),((Int.tmod x16.1 (wrF .i64 (1+(wrF .i64 (Int.tmod a0.1 6))))),((wrF .i64 (1+(Int.tmod x17.1 20))),(Int.tmod x18.1 50))))::[]).length) 32) then some (.inr ((s15.1.1,((),((wrF .i64 (s15.1.2.2.1+1)),()))),((s15.2.1.1,(s15.2.1.2.1,((s15.2.1.2.2.1++(((wrF .i64 ((wrF .i64 (1+(wrF .i64 (Int.tmod a0.1 6))))+s15.1.2.2.1)),((Int.tmod x16.1 (wrF .i64 (1+(wrF .i64 (Int.tmod a0.1 6))))),((wrF .i64 (1+(Int.tmod x17.1 20))),(Int.tmod x18.1 50))))::[])),()))),())))
       else none
  else some (.inl (0,((s15.1.1,((),(s15.1.2.2.1,()))),((s15.2.1.1,(s15.2.1.2.1,(s15.2.1.2.2.1,()))),()))))) zL ((x14.2.1.1,((),(0,()))),((x14.2.2.1.1,(x14.2.2.1.2.1,(x14.2.2.1.2.2.1,()))),()))) fun x28=>
 opt (bif (zh 2 (wrF .i64 (1+(wrF .i64 (Int.tmod a0.1 6))))) then bif zi (Int.tmod x28.2.1.1.1 2) 0 then opt (jZ (x28.2.1.1.2.2.2.2.1,(((x28.2.2.1.2.2.1.length:Nat):Int),()))) fun x29=>
    opt (jZ (x28.2.1.1.2.2.2.2.2,(((x28.2.2.1.2.2.1.length:Nat):Int),()))) fun x30=>
    bif (zi ((x28.2.2.1.2.2.1.length:Nat):Int) 24) then some (0,((x28.2.1.1,((),())),((x28.2.2.1.1,(x28.2.2.1.2.1,(x28.2.2.1.2.2.1,()))),())))
    else opt (wF ((x28.2.2.1.1,(x28.2.2.1.2.1,x28.2.2.1.2.2.1)),(((wrF .i64 ((wrF .i64 (1+(wrF .i64 (Int.tmod a0.1 6)))) - 1)),(0,((wrF .i64 (1+(Int.tmod x29.1 20))),(Int.tmod x30.1 50)))),()))) fun x31=>
     bif !x31.1 then some (0,((x28.2.1.1,((),())),((x28.2.2.1.1,(x28.2.2.1.2.1,(x28.2.2.1.2.2.1,()))),())))
     else opt (zz (fun s32:(((Int×((List Bool)×(List (Int×(Int×(Int×Int))))))×(Int×Unit))×Unit)=>
       bif (zh s32.1.2.1 ((x28.2.2.1.2.2.1.length:Nat):Int)) then opt (atI x28.2.2.1.2.2.1 s32.1.2.1) fun x33=>
        opt (gl x28.2.2.1.2.2.1 (Int.toNat s32.1.2.1)) fun x34=>
        opt (qV (x34,((wrF .i64 ((wrF .i64 (1+(wrF .i64 (Int.tmod a0.1 6)))) - 1)),(0,())))) fun x35=>
        bif x35.1 then some (.inl s32)
        else some (.inr ((s32.1.1,((wrF .i64 (s32.1.2.1+1)),())),()))
       else some (.inl s32)) zL (((0,([],[])),(0,())),())) fun x36=>
      bif (zh x36.1.2.1 ((x28.2.2.1.2.2.1.length:Nat):Int)) then opt (atI x28.2.2.1.2.2.1 x36.1.2.1) fun x37=>
       opt (gl x28.2.2.1.2.2.1 (Int.toNat x36.1.2.1)) fun x38=>
       opt (qV (x38,((wrF .i64 ((wrF .i64 (1+(wrF .i64 (Int.tmod a0.1 6)))) - 1)),(0,())))) fun x39=>
       bif x39.1 then some (0,((x28.2.1.1,((),())),((x28.2.2.1.1,(x28.2.2.1.2.1,(x28.2.2.1.2.2.1,()))),())))
       else none
      else bif (jb x28.2.2.1.2.2.1.length ((((wrF .i64 ((wrF .i64 (1+(wrF .i64 (Int.tmod a0.1 6)))) - 1)),(0,((wrF .i64 (1+(Int.tmod x29.1 20))),(Int.tmod x30.1 50))))::[]).length) 32) then some (0,((x28.2.1.1,((),())),((x28.2.2.1.1,(x28.2.2.1.2.1,((x28.2.2.1.2.2.1++(((wrF .i64 ((wrF .i64 (1+(wrF .i64 (Int.tmod a0.1 6)))) - 1)),(0,((wrF .i64 (1+(Int.tmod x29.1 20))),(Int.tmod x30.1 50))))::[])),()))),())))
       else none
   else some (0,((x28.2.1.1,((),())),((x28.2.2.1.1,(x28.2.2.1.2.1,(x28.2.2.1.2.2.1,()))),())))
  else some (0,((x28.2.1.1,((),())),((x28.2.2.1.1,(x28.2.2.1.2.1,(x28.2.2.1.2.2.1,()))),())))) fun x40=>
 opt (zz (fun s41:(((Int×(Int×((List Int)×((List Int)×((List Int)×(List Int))))))×(Unit×(Int×Unit)))×((Int×((List Bool)×((List (Int×(Int×(Int×Int))))×Unit)))×Unit))=>
  bif (zh s41.1.2.2.1 (wrF .i64 (2+(wrF .i64 (Int.tmod a0.2.1 5))))) then opt (opt (jZ (s41.1.1.2.2.2.1,((wrF .i64 ((wrF .i64 (2*s41.1.2.2.1))+1)),()))) fun x42=>
    bif zh 0 (Int.tmod x42.1 3) then opt (jZ (s41.1.1.2.2.2.1,((wrF .i64 ((wrF .i64 (2*s41.1.2.2.1))+1)),()))) fun x43=>
     bif (zi (wrF .i64 (1+(wrF .i64 (Int.tmod a0.1 6)))) 0) then none
     else opt (jZ (s41.1.1.2.2.2.2.1,(((s41.2.1.2.2.1.length:Nat):Int),()))) fun x44=>
      opt (jZ (s41.1.1.2.2.2.2.2,(((s41.2.1.2.2.1.length:Nat):Int),()))) fun x45=>
      bif (zi ((s41.2.1.2.2.1.length:Nat):Int) 24) then some (0,((s41.1.1,((),())),((s41.2.1.1,(s41.2.1.2.1,(s41.2.1.2.2.1,()))),())))
      else opt (wF ((s41.2.1.1,(s41.2.1.2.1,s41.2.1.2.2.1)),(((wrF .i64 ((wrF .i64 (1+(wrF .i64 (Int.tmod a0.1 6))))+s41.1.2.2.1)),((Int.tmod x43.1 (wrF .i64 (1+(wrF .i64 (Int.tmod a0.1 6))))),((wrF .i64 (1+(Int.tmod x44.1 20))),(Int.tmod x45.1 50)))),()))) fun x46=>
       bif !x46.1 then some (0,((s41.1.1,((),())),((s41.2.1.1,(s41.2.1.2.1,(s41.2.1.2.2.1,()))),())))
       else opt (zz (fun s47:(((Int×((List Bool)×(List (Int×(Int×(Int×Int))))))×(Int×Unit))×Unit)=>
         bif (zh s47.1.2.1 ((s41.2.1.2.2.1.length:Nat):Int)) then opt (atI s41.2.1.2.2.1 s47.1.2.1) fun x48=>
          opt (gl s41.2.1.2.2.1 (Int.toNat s47.1.2.1)) fun x49=>
          opt (qV (x49,((wrF .i64 ((wrF .i64 (1+(wrF .i64 (Int.tmod a0.1 6))))+s41.1.2.2.1)),((Int.tmod x43.1 (wrF .i64 (1+(wrF .i64 (Int.tmod a0.1 6))))),())))) fun x50=>
          bif x50.1 then some (.inl s47)
          else some (.inr ((s47.1.1,((wrF .i64 (s47.1.2.1+1)),())),()))
         else some (.inl s47)) zL (((0,([],[])),(0,())),())) fun x51=>
        bif (zh x51.1.2.1 ((s41.2.1.2.2.1.length:Nat):Int)) then opt (atI s41.2.1.2.2.1 x51.1.2.1) fun x52=>
         opt (gl s41.2.1.2.2.1 (Int.toNat x51.1.2.1)) fun x53=>
         opt (qV (x53,((wrF .i64 ((wrF .i64 (1+(wrF .i64 (Int.tmod a0.1 6))))+s41.1.2.2.1)),((Int.tmod x43.1 (wrF .i64 (1+(wrF .i64 (Int.tmod a0.1 6))))),())))) fun x54=>
         bif x54.1 then some (0,((s41.1.1,((),())),((s41.2.1.1,(s41.2.1.2.1,(s41.2.1.2.2.1,()))),())))
         else none
        else bif (jb s41.2.1.2.2.1.length ((((wrF .i64 ((wrF .i64 (1+(wrF .i64 (Int.tmod a0.1 6))))+s41.1.2.2.1)),((Int.tmod x43.1 (wrF .i64 (1+(wrF .i64 (Int.tmod a0.1 6))))),((wrF .i64 (1+(Int.tmod x44.1 20))),(Int.tmod x45.1 50))))::[]).length) 32) then some (0,((s41.1.1,((),())),((s41.2.1.1,(s41.2.1.2.1,((s41.2.1.2.2.1++(((wrF .i64 ((wrF .i64 (1+(wrF .i64 (Int.tmod a0.1 6))))+s41.1.2.2.1)),((Int.tmod x43.1 (wrF .i64 (1+(wrF .i64 (Int.tmod a0.1 6))))),((wrF .i64 (1+(Int.tmod x44.1 20))),(Int.tmod x45.1 50))))::[])),()))),())))
         else none
    else some (0,((s41.1.1,((),())),((s41.2.1.1,(s41.2.1.2.1,(s41.2.1.2.2.1,()))),())))) fun x55=>
   some (.inr ((x55.2.1.1,((),((wrF .i64 (s41.1.2.2.1+1)),()))),((x55.2.2.1.1,(x55.2.2.1.2.1,(x55.2.2.1.2.2.1,()))),())))
  else some (.inl (0,((s41.1.1,((),(s41.1.2.2.1,()))),((s41.2.1.1,(s41.2.1.2.1,(s41.2.1.2.2.1,()))),()))))) zL ((x40.2.1.1,((),(0,()))),((x40.2.2.1.1,(x40.2.2.1.2.1,(x40.2.2.1.2.2.1,()))),()))) fun x56=>
 opt (zz (fun s57:(((Int×(Int×((List Int)×((List Int)×((List Int)×(List Int))))))×(Unit×(Int×Unit)))×((Int×((List Bool)×((List (Int×(Int×(Int×Int))))×Unit)))×Unit))=>
  bif (zh (wrF .i64 (s57.1.2.2.1+1)) ((s57.1.1.2.2.1.length:Nat):Int)) then bif zh s57.1.2.2.1 12 then opt (atI s57.1.1.2.2.1 s57.1.2.2.1) fun x58=>
    bif (zi (wrF .i64 (1+(wrF .i64 (Int.tmod a0.1 6)))) 0) then none
    else opt (atI s57.1.1.2.2.1 (wrF .i64 (s57.1.2.2.1+1))) fun x59=>
     bif (zi (wrF .i64 (1+(wrF .i64 (Int.tmod a0.1 6)))) 0) then none
     else opt (jZ (s57.1.1.2.2.2.2.1,(((s57.2.1.2.2.1.length:Nat):Int),()))) fun x60=>
      opt (jZ (s57.1.1.2.2.2.2.2,(((s57.2.1.2.2.1.length:Nat):Int),()))) fun x61=>
      bif (zi ((s57.2.1.2.2.1.length:Nat):Int) 24) then some (.inr ((s57.1.1,((),((wrF .i64 (s57.1.2.2.1+2)),()))),((s57.2.1.1,(s57.2.1.2.1,(s57.2.1.2.2.1,()))),())))
      else opt (wF ((s57.2.1.1,(s57.2.1.2.1,s57.2.1.2.2.1)),(((Int.tmod (wrF .i64 x58) (wrF .i64 (1+(wrF .i64 (Int.tmod a0.1 6))))),((Int.tmod (wrF .i64 x59) (wrF .i64 (1+(wrF .i64 (Int.tmod a0.1 6))))),((wrF .i64 (1+(Int.tmod x60.1 20))),(Int.tmod x61.1 50)))),()))) fun x62=>
       bif !x62.1 then some (.inr ((s57.1.1,((),((wrF .i64 (s57.1.2.2.1+2)),()))),((s57.2.1.1,(s57.2.1.2.1,(s57.2.1.2.2.1,()))),())))
       else opt (zz (fun s63:(((Int×((List Bool)×(List (Int×(Int×(Int×Int))))))×(Int×Unit))×Unit)=>
         bif (zh s63.1.2.1 ((s57.2.1.2.2.1.length:Nat):Int)) then opt (atI s57.2.1.2.2.1 s63.1.2.1) fun x64=>
          opt (gl s57.2.1.2.2.1 (Int.toNat s63.1.2.1)) fun x65=>
          opt (qV (x65,((Int.tmod (wrF .i64 x58) (wrF .i64 (1+(wrF .i64 (Int.tmod a0.1 6))))),((Int.tmod (wrF .i64 x59) (wrF .i64 (1+(wrF .i64 (Int.tmod a0.1 6))))),())))) fun x66=>
          bif x66.1 then some (.inl s63)
          else some (.inr ((s63.1.1,((wrF .i64 (s63.1.2.1+1)),())),()))
         else some (.inl s63)) zL (((0,([],[])),(0,())),())) fun x67=>
        bif (zh x67.1.2.1 ((s57.2.1.2.2.1.length:Nat):Int)) then opt (atI s57.2.1.2.2.1 x67.1.2.1) fun x68=>
         opt (gl s57.2.1.2.2.1 (Int.toNat x67.1.2.1)) fun x69=>
         opt (qV (x69,((Int.tmod (wrF .i64 x58) (wrF .i64 (1+(wrF .i64 (Int.tmod a0.1 6))))),((Int.tmod (wrF .i64 x59) (wrF .i64 (1+(wrF .i64 (Int.tmod a0.1 6))))),())))) fun x70=>
         bif x70.1 then some (.inr ((s57.1.1,((),((wrF .i64 (s57.1.2.2.1+2)),()))),((s57.2.1.1,(s57.2.1.2.1,(s57.2.1.2.2.1,()))),())))
         else none
        else bif (jb s57.2.1.2.2.1.length ((((Int.tmod (wrF .i64 x58) (wrF .i64 (1+(wrF .i64 (Int.tmod a0.1 6))))),((Int.tmod (wrF .i64 x59) (wrF .i64 (1+(wrF .i64 (Int.tmod a0.1 6))))),((wrF .i64 (1+(Int.tmod x60.1 20))),(Int.tmod x61.1 50))))::[]).length) 32) then some (.inr ((s57.1.1,((),((wrF .i64 (s57.1.2.2.1+2)),()))),((s57.2.1.1,(s57.2.1.2.1,((s57.2.1.2.2.1++(((Int.tmod (wrF .i64 x58) (wrF .i64 (1+(wrF .i64 (Int.tmod a0.1 6))))),((Int.tmod (wrF .i64 x59) (wrF .i64 (1+(wrF .i64 (Int.tmod a0.1 6))))),((wrF .i64 (1+(Int.tmod x60.1 20))),(Int.tmod x61.1 50))))::[])),()))),())))
         else none
   else some (.inl (0,((s57.1.1,((),(s57.1.2.2.1,()))),((s57.2.1.1,(s57.2.1.2.1,(s57.2.1.2.2.1,()))),()))))
  else some (.inl (0,((s57.1.1,((),(s57.1.2.2.1,()))),((s57.2.1.1,(s57.2.1.2.1,(s57.2.1.2.2.1,()))),()))))) zL ((x56.2.1.1,((),(0,()))),((x56.2.2.1.1,(x56.2.2.1.2.1,(x56.2.2.1.2.2.1,()))),()))) fun x71=>
 some ((x71.2.2.1.1,(x71.2.2.1.2.1,x71.2.2.1.2.2.1)),())
abbrev kT:Type:=(XT×Unit)→Option (zN×Unit)
def zdm:zaV→YT→Wf→kT:=fun jZ wF qV=>sF Tryz.prog [(62,⟨zfB,zfC,jZ⟩),(68,⟨zaX,zaY,wF⟩),(69,⟨UW,UX,qV⟩)] zlz (zR [(3,59),(8,59)] [(6,59)]) 30 32 WU WV
theorem zmW (jZ) (wF) (qV) (a0):zdm jZ wF qV (a0,())=Ky jZ wF qV a0:=by kernel_rfl
def yc:kT:=zdm gr uU xX
theorem zat:Con.Ok Tryz.prog 32 ⟨WU,WV,yc⟩:=zC (ze zsu (ze zsy (ze zqy zo))) zr (by kernel_rfl)
theorem ziI (a0):yc (a0,())=Ky gr uU xX a0:=zmW gr uU xX a0
abbrev zaZ:List VT:=[⟨false,(.int .u8)⟩,⟨false,(.int .u8)⟩,⟨false,(.int .u8)⟩]
abbrev za0:List VT:=[⟨true,Yl⟩]
def zqA:zV:=zS [cdF Yl] [] [] [] []
def za1 (a0:Int) (a1:Int) (a2:Int):Option (XU×Unit):=
 some (((wrF .i64 (100+(wrF .i64 (20*(wrF .i64 a0))))),((wrF .i64 (Int.tmod a1 40)),((wrF .i64 a2),8000))),())
abbrev VX:Type:=(Int×Int×Int×Unit)→Option (XU×Unit)
def zhg:VX:=sF Tryz.prog [] zqA (zR []) 30 33 zaZ za0
theorem zsA (a0) (a1) (a2):zhg (a0,a1,a2,())=za1 a0 a1 a2:=by kernel_rfl
def Qg:VX:=zhg
theorem zmX:Con.Ok Tryz.prog 33 ⟨zaZ,za0,Qg⟩:=zC zo zr (by kernel_rfl)
theorem zmY (a0) (a1) (a2):Qg (a0,a1,a2,())=za1  a0 a1 a2:=zsA  a0 a1 a2
abbrev Yw:List VT:=[⟨true,xw⟩]
abbrev Yx:List VT:=[⟨true,qz⟩]
def zmZ:zV:=zS [cdF xw,⟨qz,YQ qz,[7]⟩,cdF wK,cdF vE,cdF zw,cdF zP,⟨(.pair (.int .u8) (.pair (.int .u8) (.int .u8))),YQ (.pair (.int .u8) (.pair (.int .u8) (.int .u8))),[]⟩,⟨zQ,YQ zQ,[0]⟩,cdF Qf,cdF qg] [] [⟨4,93,none,zQ,true⟩,⟨7,93,none,zQ,true⟩,⟨10,93,none,zQ,true⟩,⟨3,55,none,qg,true⟩,⟨6,55,none,qg,true⟩,⟨8,55,none,qg,true⟩,⟨3,58,none,qg,true⟩,⟨6,58,none,qg,true⟩,⟨8,58,none,qg,true⟩] [(4,93,5,[0]),(4,93,3,[7]),(7,93,5,[0]),(10,93,5,[0]),(3,55,3,[0]),(3,58,3,[0])] [33]
def Ux (jz:kT) (Qo:VX) (a0:wq):Option (qC×Unit):=
 opt (jz (a0.1,())) fun x0=>
 opt (Qo (a0.2.2.1.1,(a0.2.2.1.2.1,(a0.2.2.1.2.2,())))) fun x1=>
 opt (zz (fun s2:((((Int×(Int×((List Int)×((List Int)×((List Int)×(List Int))))))×((List ((List Int)×(List Int)))×((Int×(Int×Int))×(Int×(Int×((List (Bool×(Bool×(Int×(Int×(Int×(Int×(Int×Int))))))))×(List Int)))))))×(Unit×(Int×Unit)))×(((Int×((List Bool)×(List (Int×(Int×(Int×Int))))))×((Int×(Int×(Int×Int)))×((List ((List (Int×Int))×Int))×(Int×Unit))))×Unit))=>
  bif (zh s2.1.2.2.1 (wrF .i64 (2*((s2.2.1.1.2.2.length:Nat):Int)))) then opt (zz (fun s3:((Unit×(Int×Unit))×(((List (Int×Int))×(Int×Unit))×Unit))=>
    bif (zh s3.1.2.1 (uS 1 (jQ 0 16))) then opt (bif zh s3.1.2.1 0 then none
      else some (0,(((127,1),()),()))) fun x4=>
     opt (bif zh s3.1.2.1 0 then none
      else some (0,((x4.2.1.1,()),()))) fun x5=>
     bif (jb s3.2.1.1.length ((x5.2.1.1::[]).length) 16) then some (.inr (((),((wrF .i64 (s3.1.2.1+1)),())),(((s3.2.1.1++(x5.2.1.1::[])),((wrF .i64 (s3.2.1.2.1+x5.2.1.1.2)),())),())))
     else none
    else some (.inl (0,(((),(s3.1.2.1,())),((s3.2.1.1,(s3.2.1.2.1,())),()))))) zL (((),(0,())),(([],(0,())),()))) fun x6=>
   opt (bif (zh 0 ((s2.1.1.2.1.length:Nat):Int)) then bif zh 0 (Int.tmod s2.1.2.2.1 3) then bif (zi ((s2.1.1.2.1.length:Nat):Int) 0) then none
      else opt (atI s2.1.1.2.1 (Int.tmod s2.1.2.2.1 ((s2.1.1.2.1.length:Nat):Int))) fun x7=>
       opt (zz (fun s8:((Unit×(Int×Unit))×(((List (Int×Int))×(Int×Unit))×Unit))=>
        bif (zh s8.1.2.1 (uS 1 (jQ ((x7.1.length:Nat):Int) 10))) then opt (bif (zh s8.1.2.1 ((x7.1.length:Nat):Int)) then opt (atI x7.1 s8.1.2.1) fun x9=>
           opt (atI (α:=Int) (128::(127::(127::(64::(255::(63::[])))))) (Int.tmod x9 6)) fun x10=>
           opt (gl (α:=Int) (128::(127::(127::(64::(255::(63::[])))))) (Int.toNat (Int.tmod x9 6))) fun x11=>
           some (0,(((x11,1),()),()))
          else some (0,(((127,1),()),()))) fun x12=>
         opt (bif (zh s8.1.2.1 ((x7.2.length:Nat):Int)) then opt (atI x7.2 s8.1.2.1) fun x13=>
           some (0,(((x12.2.1.1.1,(wrF .i64 (1+(wrF .i64 (4*(wrF .i64 x13)))))),()),()))
          else some (0,((x12.2.1.1,()),()))) fun x14=>
         bif (jb s8.2.1.1.length ((x14.2.1.1::[]).length) 16) then some (.inr (((),((wrF .i64 (s8.1.2.1+1)),())),(((s8.2.1.1++(x14.2.1.1::[])),((wrF .i64 (s8.2.1.2.1+x14.2.1.1.2)),())),())))
         else none
        else some (.inl (0,(((),(s8.1.2.1,())),((s8.2.1.1,(s8.2.1.2.1,())),()))))) zL (((),(0,())),(([],(0,())),()))) fun x15=>
       opt (zz (fun s16:((Unit×(Int×Unit))×(((List (Int×Int))×(Int×Unit))×Unit))=>
        bif (zh s16.1.2.1 ((s16.2.1.1.length:Nat):Int)) then opt (atI s16.2.1.1 s16.1.2.1) fun x17=>
         opt (gl s16.2.1.1 (Int.toNat s16.1.2.1)) fun x18=>
         opt (atI s16.2.1.1 s16.1.2.1) fun x19=>
         opt (gl s16.2.1.1 (Int.toNat s16.1.2.1)) fun x20=>
         some (.inr (((),((wrF .i64 (s16.1.2.1+1)),())),(((s16.2.1.1.set (Int.toNat s16.1.2.1) (x20.1,(wrF .i64 (40*x18.2)))),(s16.2.1.2.1,())),())))
        else some (.inl (0,(((),(s16.1.2.1,())),((s16.2.1.1,(s16.2.1.2.1,())),()))))) zL (((),(0,())),((x15.2.2.1.1,(x15.2.2.1.2.1,())),()))) fun x21=>
       some (0,((s2.1.1,((),())),((x21.2.2.1.1,((wrF .i64 (40*x21.2.2.1.2.1)),())),())))
     else some (0,((s2.1.1,((),())),((x6.2.2.1.1,(x6.2.2.1.2.1,())),())))
    else some (0,((s2.1.1,((),())),((x6.2.2.1.1,(x6.2.2.1.2.1,())),())))) fun x22=>
   bif (jb s2.2.1.2.2.1.length (((x22.2.2.1.1,x22.2.2.1.2.1)::[]).length) 32) then some (.inr ((x22.2.1.1,((),((wrF .i64 (s2.1.2.2.1+1)),()))),((s2.2.1.1,(s2.2.1.2.1,((s2.2.1.2.2.1++((x22.2.2.1.1,x22.2.2.1.2.1)::[])),(s2.2.1.2.2.2.1,())))),())))
   else none
  else some (.inl (0,((s2.1.1,((),(s2.1.2.2.1,()))),((s2.2.1.1,(s2.2.1.2.1,(s2.2.1.2.2.1,(s2.2.1.2.2.2.1,())))),()))))) zL ((a0,((),(0,()))),((x0.1,((x1.1.1,(x1.1.2.1,(x1.1.2.2.1,(wrF .i64 (2000+(wrF .i64 (200*(wrF .i64 a0.2.2.2.1)))))))),([],((wrF .i64 (339+(wrF .i64 (Int.tmod a0.2.2.2.2.1 500)))),())))),()))) fun x23=>
 some ((x23.2.2.1.1,(x23.2.2.1.2.1,(x23.2.2.1.2.2.1,x23.2.2.1.2.2.2.1))),())
abbrev Uy:Type:=(wq×Unit)→Option (qC×Unit)
def zex:kT→VX→Uy:=fun jz Qo=>sF Tryz.prog [(32,⟨WU,WV,jz⟩),(33,⟨zaZ,za0,Qo⟩)] zmZ (zR []) 30 10 Yw Yx
theorem zoO (jz) (Qo) (a0):zex jz Qo (a0,())=Ux jz Qo a0:=by kernel_rfl
def uu:Uy:=zex yc Qg
theorem zjZ:Con.Ok Tryz.prog 10 ⟨Yw,Yx,uu⟩:=zC (ze zat (ze zmX zo)) zr (by kernel_rfl)
theorem zj0 (a0):uu (a0,())=Ux yc Qg a0:=zoO yc Qg a0
abbrev Jl:List VT:=[⟨true,zw⟩,⟨false,I⟩]
abbrev Jm:List VT:=[⟨false,I⟩]
def zwH:zV:=zS [cdF zw,cdF zP] [] [] [] []
def zfI (a0:zN) (a1:Int):Option (Int×Unit):=
 opt (atI a0.2.2 (wrF .i64 (Int.tdiv a1 2))) fun x0=>
 bif zi (Int.tmod a1 2) 1 then some (x0.2.1,())
 else some (x0.1,())
abbrev xY:Type:=(zN×Int×Unit)→Option (Int×Unit)
def zm0:xY:=sF Tryz.prog [] zwH (zR []) 30 88 Jl Jm
theorem zzv (a0) (a1):zm0 (a0,a1,())=zfI a0 a1:=by kernel_rfl
def jE:xY:=zm0
theorem WW:Con.Ok Tryz.prog 88 ⟨Jl,Jm,jE⟩:=zC zo zr (by kernel_rfl)
theorem zsB (a0) (a1):jE (a0,a1,())=zfI  a0 a1:=zzv  a0 a1
abbrev zdH:List VT:=[⟨true,zw⟩,⟨false,I⟩]
abbrev zdI:List VT:=[⟨false,(.list I)⟩]
def zuE:zV:=zS [cdF zw,cdF zP] [] [⟨3,25,some 4,I,false⟩,⟨3,25,some 5,I,true⟩,⟨5,25,some 4,I,false⟩,⟨5,25,some 5,I,true⟩] [] [88]
def zdJ (qi:xY) (a0:zN) (a1:Int):Option ((List Int)×Unit):=
 opt (zz (fun s0:((Int×Unit)×((List Int)×Unit))=>
  bif (zh s0.1.1 (wrF .i64 (2*((a0.2.2.length:Nat):Int)))) then opt (opt (qi (a0,(s0.1.1,()))) fun x1=>
    bif zi x1.1 a1 then bif (jb s0.2.1.length ((s0.1.1::[]).length) 8) then some (0,((),((s0.2.1++(s0.1.1::[])),())))
     else none
    else some (0,((),(s0.2.1,())))) fun x2=>
   some (.inr (((wrF .i64 (s0.1.1+1)),()),(x2.2.2.1,())))
  else some (.inl (0,((s0.1.1,()),(s0.2.1,()))))) zL ((0,()),([],()))) fun x3=>
 some (x3.2.2.1,())
abbrev UY:Type:=(zN×Int×Unit)→Option ((List Int)×Unit)
def zkB:xY→UY:=fun qi=>sF Tryz.prog [(88,⟨Jl,Jm,qi⟩)] zuE (zR []) 30 161 zdH zdI
theorem zwI (qi) (a0) (a1):zkB qi (a0,a1,())=zdJ qi a0 a1:=by kernel_rfl
def Wg:UY:=zkB jE
theorem zqB:Con.Ok Tryz.prog 161 ⟨zdH,zdI,Wg⟩:=zC (ze WW zo) zr (by kernel_rfl)
theorem zqC (a0) (a1):Wg (a0,a1,())=zdJ jE a0 a1:=zwI jE a0 a1
abbrev Ug:List VT:=[⟨true,zw⟩,⟨false,I⟩]
abbrev Uh:List VT:=[⟨false,I⟩]
def zAH:zV:=zS [cdF zw,cdF zP] [] [] [] []
def zj1 (a0:zN) (a1:Int):Option (Int×Unit):=
 opt (atI a0.2.2 (wrF .i64 (Int.tdiv a1 2))) fun x0=>
 bif zi (Int.tmod a1 2) 1 then some (x0.1,())
 else some (x0.2.1,())
abbrev ZP:Type:=(zN×Int×Unit)→Option (Int×Unit)
def zsC:ZP:=sF Tryz.prog [] zAH (zR []) 30 89 Ug Uh
theorem zCH (a0) (a1):zsC (a0,a1,())=zj1 a0 a1:=by kernel_rfl
def yw:ZP:=zsC
theorem UZ:Con.Ok Tryz.prog 89 ⟨Ug,Uh,yw⟩:=zC zo zr (by kernel_rfl)
theorem zwJ (a0) (a1):yw (a0,a1,())=zj1  a0 a1:=zCH  a0 a1
abbrev Ui:List VT:=[⟨false,(.list I)⟩,⟨false,I⟩]
abbrev Uj:List VT:=[⟨false,.bool⟩]
def zAI:zV:=zS [] [] [] [] []
def zj2 (a0:(List Int)) (a1:Int):Option (Bool×Unit):=
 opt (zz (fun s0:((Bool×(Int×Unit))×Unit)=>
  bif (zh s0.1.2.1 ((a0.length:Nat):Int)) then opt (atI a0 s0.1.2.1) fun x1=>
   bif zi x1 a1 then some (.inl (1,((true,(s0.1.2.1,())),())))
   else some (.inr ((s0.1.1,((wrF .i64 (s0.1.2.1+1)),())),()))
  else some (.inl (0,((s0.1.1,(s0.1.2.1,())),())))) zL ((false,(0,())),())) fun x2=>
 bif Nat.beq x2.1 0 then some (false,())
 else some (x2.2.1.1,())
abbrev ZQ:Type:=((List Int)×Int×Unit)→Option (Bool×Unit)
def zsD:ZQ:=sF Tryz.prog [] zAI (zR []) 30 98 Ui Uj
theorem zCI (a0) (a1):zsD (a0,a1,())=zj2 a0 a1:=by kernel_rfl
def xm:ZQ:=zsD
theorem zdK:Con.Ok Tryz.prog 98 ⟨Ui,Uj,xm⟩:=zC zo zr (by kernel_rfl)
theorem zwK (a0) (a1):xm (a0,a1,())=zj2  a0 a1:=zCI  a0 a1
abbrev zfJ:List VT:=[⟨true,zw⟩,⟨false,(.int .u8)⟩,⟨false,(.int .u8)⟩]
abbrev zfK:List VT:=[⟨false,(.list I)⟩]
def zwL:zV:=zS [cdF zw,cdF zP] [] [⟨4,90,some 6,I,false⟩,⟨4,90,some 9,I,true⟩,⟨4,90,some 10,I,true⟩,⟨8,90,some 6,I,false⟩,⟨8,90,some 9,I,true⟩,⟨8,90,some 10,I,true⟩,⟨10,90,some 6,I,false⟩,⟨10,90,some 9,I,true⟩,⟨10,90,some 10,I,true⟩,⟨12,90,some 6,I,false⟩,⟨12,90,some 9,I,true⟩,⟨12,90,some 10,I,true⟩] [] [89,98]
def zfL (kB:UY) (qy:ZP) (qT:ZQ) (a0:zN) (a1:Int) (a2:Int):Option ((List Int)×Unit):=
 bif zi a0.1 0 then none
 else opt (zz (fun s0:(((Int×((List Bool)×(List (Int×(Int×(Int×Int))))))×((List Int)×(Int×Unit)))×((List Int)×((List Int)×Unit)))=>
   bif (zh ((s0.2.1.length:Nat):Int) 8) then bif (zi ((s0.2.1.length:Nat):Int) 0) then opt (kB (s0.1.1,(s0.1.2.2.1,()))) fun x1=>
     opt (zz (fun s2:((Int×Unit)×((List Int)×((List Int)×Unit)))=>
      bif (zh s2.1.1 ((x1.1.length:Nat):Int)) then opt (opt (atI x1.1 s2.1.1) fun x3=>
        opt (qy (s0.1.1,(x3,()))) fun x4=>
        opt (qT (s2.2.1,(x4.1,()))) fun x5=>
        bif !x5.1 then opt (atI x1.1 s2.1.1) fun x6=>
         bif (jb s2.2.2.1.length ((x6::[]).length) 8) then some (0,((),(s2.2.1,((s2.2.2.1++(x6::[])),()))))
         else none
        else some (0,((),(s2.2.1,(s2.2.2.1,()))))) fun x7=>
       some (.inr (((wrF .i64 (s2.1.1+1)),()),(x7.2.2.1,(x7.2.2.2.1,()))))
      else some (.inl (0,((s2.1.1,()),(s2.2.1,(s2.2.2.1,())))))) zL ((0,()),(s0.2.2.1,([],())))) fun x8=>
     bif (zi ((x8.2.2.2.1.length:Nat):Int) 0) then some (.inl s0)
     else bif (zi ((x8.2.2.2.1.length:Nat):Int) 0) then none
      else opt (atI x8.2.2.2.1 (Int.tmod (wrF .i64 ((wrF .i64 a2)+(wrF .i64 (3*((s0.2.1.length:Nat):Int))))) ((x8.2.2.2.1.length:Nat):Int))) fun x9=>
       opt (gl x8.2.2.2.1 (Int.toNat (Int.tmod (wrF .i64 ((wrF .i64 a2)+(wrF .i64 (3*((s0.2.1.length:Nat):Int))))) ((x8.2.2.2.1.length:Nat):Int)))) fun x10=>
       bif (jb s0.2.1.length ((x10::[]).length) 8) then opt (qy (s0.1.1,(x10,()))) fun x11=>
        bif (jb x8.2.2.1.length ((x11.1::[]).length) 8) then some (.inr ((s0.1.1,(s0.1.2.1,(x11.1,()))),((s0.2.1++(x10::[])),((x8.2.2.1++(x11.1::[])),()))))
        else none
       else none
    else opt (atI s0.1.1.2.1 s0.1.2.2.1) fun x12=>
     bif !x12 then opt (kB (s0.1.1,(s0.1.2.2.1,()))) fun x13=>
      opt (zz (fun s14:((Int×Unit)×((List Int)×((List Int)×Unit)))=>
       bif (zh s14.1.1 ((x13.1.length:Nat):Int)) then opt (opt (atI x13.1 s14.1.1) fun x15=>
         opt (qy (s0.1.1,(x15,()))) fun x16=>
         opt (qT (s14.2.1,(x16.1,()))) fun x17=>
         bif !x17.1 then opt (atI x13.1 s14.1.1) fun x18=>
          bif (jb s14.2.2.1.length ((x18::[]).length) 8) then some (0,((),(s14.2.1,((s14.2.2.1++(x18::[])),()))))
          else none
         else some (0,((),(s14.2.1,(s14.2.2.1,()))))) fun x19=>
        some (.inr (((wrF .i64 (s14.1.1+1)),()),(x19.2.2.1,(x19.2.2.2.1,()))))
       else some (.inl (0,((s14.1.1,()),(s14.2.1,(s14.2.2.1,())))))) zL ((0,()),(s0.2.2.1,([],())))) fun x20=>
      bif (zi ((x20.2.2.2.1.length:Nat):Int) 0) then some (.inl s0)
      else bif (zi ((x20.2.2.2.1.length:Nat):Int) 0) then none
       else opt (atI x20.2.2.2.1 (Int.tmod (wrF .i64 ((wrF .i64 a2)+(wrF .i64 (3*((s0.2.1.length:Nat):Int))))) ((x20.2.2.2.1.length:Nat):Int))) fun x21=>
        opt (gl x20.2.2.2.1 (Int.toNat (Int.tmod (wrF .i64 ((wrF .i64 a2)+(wrF .i64 (3*((s0.2.1.length:Nat):Int))))) ((x20.2.2.2.1.length:Nat):Int)))) fun x22=>
        bif (jb s0.2.1.length ((x22::[]).length) 8) then opt (qy (s0.1.1,(x22,()))) fun x23=>
         bif (jb x20.2.2.1.length ((x23.1::[]).length) 8) then some (.inr ((s0.1.1,(s0.1.2.1,(x23.1,()))),((s0.2.1++(x22::[])),((x20.2.2.1++(x23.1::[])),()))))
         else none
        else none
     else some (.inl s0)
   else some (.inl s0)) zL ((a0,([],((Int.tmod (wrF .i64 a1) a0.1),()))),([],(((Int.tmod (wrF .i64 a1) a0.1)::[]),())))) fun x24=>
  bif (zh ((x24.2.1.length:Nat):Int) 8) then bif (zi ((x24.2.1.length:Nat):Int) 0) then opt (kB (x24.1.1,(x24.1.2.2.1,()))) fun x25=>
    opt (zz (fun s26:((Int×Unit)×((List Int)×((List Int)×Unit)))=>
     bif (zh s26.1.1 ((x25.1.length:Nat):Int)) then opt (opt (atI x25.1 s26.1.1) fun x27=>
       opt (qy (x24.1.1,(x27,()))) fun x28=>
       opt (qT (s26.2.1,(x28.1,()))) fun x29=>
       bif !x29.1 then opt (atI x25.1 s26.1.1) fun x30=>
        bif (jb s26.2.2.1.length ((x30::[]).length) 8) then some (0,((),(s26.2.1,((s26.2.2.1++(x30::[])),()))))
        else none
       else some (0,((),(s26.2.1,(s26.2.2.1,()))))) fun x31=>
      some (.inr (((wrF .i64 (s26.1.1+1)),()),(x31.2.2.1,(x31.2.2.2.1,()))))
     else some (.inl (0,((s26.1.1,()),(s26.2.1,(s26.2.2.1,())))))) zL ((0,()),(x24.2.2.1,([],())))) fun x32=>
    bif (zi ((x32.2.2.2.1.length:Nat):Int) 0) then some (x24.2.1,())
    else bif (zi ((x32.2.2.2.1.length:Nat):Int) 0) then none
     else opt (atI x32.2.2.2.1 (Int.tmod (wrF .i64 ((wrF .i64 a2)+(wrF .i64 (3*((x24.2.1.length:Nat):Int))))) ((x32.2.2.2.1.length:Nat):Int))) fun x33=>
      opt (gl x32.2.2.2.1 (Int.toNat (Int.tmod (wrF .i64 ((wrF .i64 a2)+(wrF .i64 (3*((x24.2.1.length:Nat):Int))))) ((x32.2.2.2.1.length:Nat):Int)))) fun x34=>
      bif (jb x24.2.1.length ((x34::[]).length) 8) then opt (qy (x24.1.1,(x34,()))) fun x35=>
       bif (jb x32.2.2.1.length ((x35.1::[]).length) 8) then none
       else none
      else none
   else opt (atI x24.1.1.2.1 x24.1.2.2.1) fun x36=>
    bif !x36 then opt (kB (x24.1.1,(x24.1.2.2.1,()))) fun x37=>
     opt (zz (fun s38:((Int×Unit)×((List Int)×((List Int)×Unit)))=>
      bif (zh s38.1.1 ((x37.1.length:Nat):Int)) then opt (opt (atI x37.1 s38.1.1) fun x39=>
        opt (qy (x24.1.1,(x39,()))) fun x40=>
        opt (qT (s38.2.1,(x40.1,()))) fun x41=>
        bif !x41.1 then opt (atI x37.1 s38.1.1) fun x42=>
         bif (jb s38.2.2.1.length ((x42::[]).length) 8) then some (0,((),(s38.2.1,((s38.2.2.1++(x42::[])),()))))
         else none
        else some (0,((),(s38.2.1,(s38.2.2.1,()))))) fun x43=>
       some (.inr (((wrF .i64 (s38.1.1+1)),()),(x43.2.2.1,(x43.2.2.2.1,()))))
      else some (.inl (0,((s38.1.1,()),(s38.2.1,(s38.2.2.1,())))))) zL ((0,()),(x24.2.2.1,([],())))) fun x44=>
     bif (zi ((x44.2.2.2.1.length:Nat):Int) 0) then some (x24.2.1,())
     else bif (zi ((x44.2.2.2.1.length:Nat):Int) 0) then none
      else opt (atI x44.2.2.2.1 (Int.tmod (wrF .i64 ((wrF .i64 a2)+(wrF .i64 (3*((x24.2.1.length:Nat):Int))))) ((x44.2.2.2.1.length:Nat):Int))) fun x45=>
       opt (gl x44.2.2.2.1 (Int.toNat (Int.tmod (wrF .i64 ((wrF .i64 a2)+(wrF .i64 (3*((x24.2.1.length:Nat):Int))))) ((x44.2.2.2.1.length:Nat):Int)))) fun x46=>
       bif (jb x24.2.1.length ((x46::[]).length) 8) then opt (qy (x24.1.1,(x46,()))) fun x47=>
        bif (jb x44.2.2.1.length ((x47.1::[]).length) 8) then none
        else none
       else none
    else some (x24.2.1,())
  else some (x24.2.1,())
abbrev za2:Type:=(zN×Int×Int×Unit)→Option ((List Int)×Unit)
def zm1:UY→ZP→ZQ→za2:=fun kB qy qT=>sF Tryz.prog [(161,⟨zdH,zdI,kB⟩),(89,⟨Ug,Uh,qy⟩),(98,⟨Ui,Uj,qT⟩)] zwL (zR [] [(4,90)]) 30 131 zfJ zfK
theorem zzw (kB) (qy) (qT) (a0) (a1) (a2):zm1 kB qy qT (a0,a1,a2,())=zfL kB qy qT a0 a1 a2:=by kernel_rfl
def ZT:za2:=zm1 Wg yw xm
theorem zsE:Con.Ok Tryz.prog 131 ⟨zfJ,zfK,ZT⟩:=zC (ze zqB (ze UZ (ze zdK zo))) zr (by kernel_rfl)
theorem zsF (a0) (a1) (a2):ZT (a0,a1,a2,())=zfL Wg yw xm a0 a1 a2:=zzw Wg yw xm a0 a1 a2
abbrev zfM:List VT:=[⟨true,zw⟩,⟨false,I⟩]
abbrev zfN:List VT:=[⟨false,.bool⟩]
def zwM:zV:=zS [cdF zw,cdF zP] [] [] [] []
def zfO (a0:zN) (a1:Int):Option (Bool×Unit):=
 bif !(zh a1 0) then some ((zh a1 (wrF .i64 (2*((a0.2.2.length:Nat):Int)))),())
 else some (false,())
abbrev za3:Type:=(zN×Int×Unit)→Option (Bool×Unit)
def zm2:za3:=sF Tryz.prog [] zwM (zR []) 30 160 zfM zfN
theorem zzx (a0) (a1):zm2 (a0,a1,())=zfO a0 a1:=by kernel_rfl
def YU:za3:=zm2
theorem zsG:Con.Ok Tryz.prog 160 ⟨zfM,zfN,YU⟩:=zC zo zr (by kernel_rfl)
theorem zsH (a0) (a1):YU (a0,a1,())=zfO  a0 a1:=zzx  a0 a1
abbrev Ga:List VT:=[⟨true,zw⟩,⟨false,(.list I)⟩]
abbrev Gb:List VT:=[⟨false,(.list I)⟩]
def zuF:zV:=zS [cdF zw,cdF zP] [] [⟨3,29,some 4,I,false⟩] [] [88,89]
def zdL (qi:xY) (qy:ZP) (a0:zN) (a1:(List Int)):Option ((List Int)×Unit):=
 opt (atI a1 0) fun x0=>
 opt (qi (a0,(x0,()))) fun x1=>
 opt (zz (fun s2:((Int×Unit)×((List Int)×Unit))=>
  bif (zh s2.1.1 ((a1.length:Nat):Int)) then opt (atI a1 s2.1.1) fun x3=>
   opt (qy (a0,(x3,()))) fun x4=>
   bif (jb s2.2.1.length ((x4.1::[]).length) 8) then some (.inr (((wrF .i64 (s2.1.1+1)),()),((s2.2.1++(x4.1::[])),())))
   else none
  else some (.inl (0,((s2.1.1,()),(s2.2.1,()))))) zL ((0,()),((x1.1::[]),()))) fun x5=>
 some (x5.2.2.1,())
abbrev Wh:Type:=(zN×(List Int)×Unit)→Option ((List Int)×Unit)
def zkC:xY→ZP→Wh:=fun qi qy=>sF Tryz.prog [(88,⟨Jl,Jm,qi⟩),(89,⟨Ug,Uh,qy⟩)] zuF (zR []) 30 133 Ga Gb
theorem zwN (qi) (qy) (a0) (a1):zkC qi qy (a0,a1,())=zdL qi qy a0 a1:=by kernel_rfl
def ke:Wh:=zkC jE yw
theorem zfP:Con.Ok Tryz.prog 133 ⟨Ga,Gb,ke⟩:=zC (ze WW (ze UZ zo)) zr (by kernel_rfl)
theorem zqD (a0) (a1):ke (a0,a1,())=zdL jE yw a0 a1:=zwN jE yw a0 a1
abbrev Gc:List VT:=[⟨true,zw⟩,⟨false,(.list I)⟩]
abbrev Gd:List VT:=[⟨false,.bool⟩]
def zuG:zV:=zS [cdF zw,cdF zP] [] [] [] [160,98,88]
def zdM (Xw:za3) (wo:Wh) (qT:ZQ) (qi:xY) (a0:zN) (a1:(List Int)):Option (Bool×Unit):=
 opt (bif (zh ((a1.length:Nat):Int) 1) then some (1,((false,()),()))
  else bif (zh 8 ((a1.length:Nat):Int)) then some (1,((false,()),()))
   else some (0,((false,()),()))) fun x0=>
 bif Nat.beq x0.1 0 then opt (zz (fun s1:((Bool×(Int×Unit))×Unit)=>
   bif (zh s1.1.2.1 ((a1.length:Nat):Int)) then opt (atI a1 s1.1.2.1) fun x2=>
    opt (Xw (a0,(x2,()))) fun x3=>
    bif !x3.1 then some (.inl (1,((false,(s1.1.2.1,())),())))
    else some (.inr ((s1.1.1,((wrF .i64 (s1.1.2.1+1)),())),()))
   else some (.inl (0,((s1.1.1,(s1.1.2.1,())),())))) zL ((x0.2.1.1,(0,())),())) fun x4=>
  bif Nat.beq x4.1 0 then opt (wo (a0,(a1,()))) fun x5=>
   opt (zz (fun s6:((Bool×(Int×Unit))×Unit)=>
    bif (zh s6.1.2.1 ((x5.1.length:Nat):Int)) then opt (XO x5.1 none (some s6.1.2.1) none) fun x7=>
     opt (atI x5.1 s6.1.2.1) fun x8=>
     opt (qT (x7,(x8,()))) fun x9=>
     bif x9.1 then some (.inl (1,((false,(s6.1.2.1,())),())))
     else opt (bif zh 0 s6.1.2.1 then bif (zh s6.1.2.1 ((a1.length:Nat):Int)) then opt (atI x5.1 s6.1.2.1) fun x10=>
         opt (atI a0.2.1 x10) fun x11=>
         bif x11 then some (1,((false,()),()))
         else opt (atI a1 s6.1.2.1) fun x12=>
          opt (qi (a0,(x12,()))) fun x13=>
          opt (atI x5.1 s6.1.2.1) fun x14=>
          bif !(zi x13.1 x14) then some (1,((false,()),()))
          else some (0,((s6.1.1,()),()))
        else some (0,((s6.1.1,()),()))
       else some (0,((s6.1.1,()),()))) fun x15=>
      bif Nat.beq x15.1 0 then some (.inr ((x15.2.1.1,((wrF .i64 (s6.1.2.1+1)),())),()))
      else some (.inl (1,((x15.2.1.1,(s6.1.2.1,())),())))
    else some (.inl (0,((s6.1.1,(s6.1.2.1,())),())))) zL ((x4.2.1.1,(0,())),())) fun x16=>
   bif Nat.beq x16.1 0 then some (true,())
   else some (x16.2.1.1,())
  else some (x4.2.1.1,())
 else some (x0.2.1.1,())
abbrev Wi:Type:=(zN×(List Int)×Unit)→Option (Bool×Unit)
def zkD:za3→Wh→ZQ→xY→Wi:=fun Xw wo qT qi=>sF Tryz.prog [(160,⟨zfM,zfN,Xw⟩),(133,⟨Ga,Gb,wo⟩),(98,⟨Ui,Uj,qT⟩),(88,⟨Jl,Jm,qi⟩)] zuG (zR []) 30 129 Gc Gd
theorem zwO (Xw) (wo) (qT) (qi) (a0) (a1):zkD Xw wo qT qi (a0,a1,())=zdM Xw wo qT qi a0 a1:=by kernel_rfl
def vW:Wi:=zkD YU ke xm jE
theorem zfQ:Con.Ok Tryz.prog 129 ⟨Gc,Gd,vW⟩:=zC (ze zsG (ze zfP (ze zdK (ze WW zo)))) zr (by kernel_rfl)
theorem zqE (a0) (a1):vW (a0,a1,())=zdM YU ke xm jE a0 a1:=zwO YU ke xm jE a0 a1
abbrev za4:List VT:=[⟨false,(.list I)⟩,⟨false,(.list I)⟩]
abbrev za5:List VT:=[⟨false,.bool⟩]
def zqF:zV:=zS [] [] [] [] [98]
def za6 (qT:ZQ) (a0:(List Int)) (a1:(List Int)):Option (Bool×Unit):=
 opt (zz (fun s0:((Bool×(Int×Unit))×Unit)=>
  bif (zh s0.1.2.1 (wrF .i64 (((a0.length:Nat):Int) - 1))) then opt (atI a0 s0.1.2.1) fun x1=>
   opt (qT (a1,(x1,()))) fun x2=>
   bif x2.1 then some (.inl (1,((true,(s0.1.2.1,())),())))
   else some (.inr ((s0.1.1,((wrF .i64 (s0.1.2.1+1)),())),()))
  else some (.inl (0,((s0.1.1,(s0.1.2.1,())),())))) zL ((false,(1,())),())) fun x3=>
 bif Nat.beq x3.1 0 then some (false,())
 else some (x3.2.1.1,())
abbrev VY:Type:=((List Int)×(List Int)×Unit)→Option (Bool×Unit)
def zhh:ZQ→VY:=fun qT=>sF Tryz.prog [(98,⟨Ui,Uj,qT⟩)] zqF (zR []) 30 132 za4 za5
theorem zsI (qT) (a0) (a1):zhh qT (a0,a1,())=za6 qT a0 a1:=by kernel_rfl
def Qh:VY:=zhh xm
theorem zm3:Con.Ok Tryz.prog 132 ⟨za4,za5,Qh⟩:=zC (ze zdK zo) zr (by kernel_rfl)
theorem zm4 (a0) (a1):Qh (a0,a1,())=za6 xm a0 a1:=zsI xm a0 a1
abbrev Ge:List VT:=[⟨true,zw⟩,⟨false,(.list I)⟩,⟨false,(.list I)⟩]
abbrev Gf:List VT:=[⟨false,.bool⟩]
def zuH:zV:=zS [cdF zw,cdF zP] [] [] [] [132]
def zdN (wo:Wh) (gK:VY) (a0:zN) (a1:(List Int)) (a2:(List Int)):Option (Bool×Unit):=
 opt (zz (fun s0:((Bool×(Int×Unit))×Unit)=>
  bif (zh s0.1.2.1 ((a1.length:Nat):Int)) then opt (zz (fun s1:((Bool×(Int×Unit))×Unit)=>
    bif (zh s1.1.2.1 ((a2.length:Nat):Int)) then opt (atI a1 s0.1.2.1) fun x2=>
     opt (atI a2 s1.1.2.1) fun x3=>
     bif (zi (wrF .i64 (Int.tdiv x2 2)) (wrF .i64 (Int.tdiv x3 2))) then some (.inl (1,((false,(s1.1.2.1,())),())))
     else some (.inr ((s1.1.1,((wrF .i64 (s1.1.2.1+1)),())),()))
    else some (.inl (0,((s1.1.1,(s1.1.2.1,())),())))) zL ((s0.1.1,(0,())),())) fun x4=>
   bif Nat.beq x4.1 0 then some (.inr ((x4.2.1.1,((wrF .i64 (s0.1.2.1+1)),())),()))
   else some (.inl (1,((x4.2.1.1,(s0.1.2.1,())),())))
  else some (.inl (0,((s0.1.1,(s0.1.2.1,())),())))) zL ((false,(0,())),())) fun x5=>
 bif Nat.beq x5.1 0 then opt (wo (a0,(a1,()))) fun x6=>
  opt (wo (a0,(a2,()))) fun x7=>
  opt (gK (x6.1,(x7.1,()))) fun x8=>
  bif !x8.1 then opt (wo (a0,(a2,()))) fun x9=>
   opt (wo (a0,(a1,()))) fun x10=>
   opt (gK (x9.1,(x10.1,()))) fun x11=>
   some ((!x11.1),())
  else some (false,())
 else some (x5.2.1.1,())
abbrev Wj:Type:=(zN×(List Int)×(List Int)×Unit)→Option (Bool×Unit)
def zkE:Wh→VY→Wj:=fun wo gK=>sF Tryz.prog [(133,⟨Ga,Gb,wo⟩),(132,⟨za4,za5,gK⟩)] zuH (zR []) 30 90 Ge Gf
theorem zwP (wo) (gK) (a0) (a1) (a2):zkE wo gK (a0,a1,a2,())=zdN wo gK a0 a1 a2:=by kernel_rfl
def kf:Wj:=zkE ke Qh
theorem zfR:Con.Ok Tryz.prog 90 ⟨Ge,Gf,kf⟩:=zC (ze zfP (ze zm3 zo)) zr (by kernel_rfl)
theorem zqG (a0) (a1) (a2):kf (a0,a1,a2,())=zdN ke Qh a0 a1 a2:=zwP ke Qh a0 a1 a2
abbrev za7:List VT:=[⟨false,I⟩,⟨false,I⟩,⟨false,I⟩]
abbrev za8:List VT:=[⟨false,.bool⟩]
def zAJ:zV:=zS [] [] [] [] []
def zj3 (a0:Int) (a1:Int) (a2:Int):Option (Bool×Unit):=
 bif !(zh a0 a1) then some ((!(zh a2 a0)),())
 else some (false,())
abbrev WX:Type:=(Int×Int×Int×Unit)→Option (Bool×Unit)
def zsJ:WX:=sF Tryz.prog [] zAJ (zR []) 30 71 za7 za8
theorem zCJ (a0) (a1) (a2):zsJ (a0,a1,a2,())=zj3 a0 a1 a2:=by kernel_rfl
def kg:WX:=zsJ
theorem zkF:Con.Ok Tryz.prog 71 ⟨za7,za8,kg⟩:=zC zo zr (by kernel_rfl)
theorem zwQ (a0) (a1) (a2):kg (a0,a1,a2,())=zj3  a0 a1 a2:=zCJ  a0 a1 a2
abbrev za9:List VT:=[⟨true,zw⟩,⟨false,I⟩]
abbrev zba:List VT:=[⟨false,.bool⟩]
def zqH:zV:=zS [cdF zw,cdF zP] [] [] [] [71]
def zbb (qY:WX) (a0:zN) (a1:Int):Option (Bool×Unit):=
 opt (qY (a1,(0,((wrF .i64 (a0.1 - 1)),())))) fun x0=>
 bif x0.1 then opt (atI a0.2.1 a1) fun x1=>
  some (x1,())
 else some (false,())
abbrev VZ:Type:=(zN×Int×Unit)→Option (Bool×Unit)
def zhi:WX→VZ:=fun qY=>sF Tryz.prog [(71,⟨za7,za8,qY⟩)] zqH (zR []) 30 128 za9 zba
theorem zsK (qY) (a0) (a1):zhi qY (a0,a1,())=zbb qY a0 a1:=by kernel_rfl
def Qi:VZ:=zhi kg
theorem zm5:Con.Ok Tryz.prog 128 ⟨za9,zba,Qi⟩:=zC (ze zkF zo) zr (by kernel_rfl)
theorem zm6 (a0) (a1):Qi (a0,a1,())=zbb kg a0 a1:=zsK kg a0 a1
abbrev Gg:List VT:=[⟨true,zw⟩,⟨true,zv⟩]
abbrev Gh:List VT:=[⟨false,.bool⟩]
def zuI:zV:=zS [cdF zv,cdF zw,cdF zP,cdF zm] [] [] [] [71,128,129,88,89,90]
def zdO (qY:WX) (gL:VZ) (yj:Wi) (qi:xY) (qy:ZP) (yH:Wj) (a0:zN) (a1:zO):Option (Bool×Unit):=
 opt (opt (qY (a1.1,(1,(4095,())))) fun x0=>
  bif !x0.1 then some (1,((false,()),()))
  else opt (gL (a0,(a1.2.1,()))) fun x1=>
   bif !x1.1 then some (1,((false,()),()))
   else opt (gL (a0,(a1.2.2.1,()))) fun x2=>
    bif !x2.1 then some (1,((false,()),()))
    else bif zi a1.2.1 a1.2.2.1 then some (1,((false,()),()))
     else opt (qY (a1.2.2.2.2.1,(84,(1542,())))) fun x3=>
      bif !x3.1 then some (1,((false,()),()))
      else opt (qY (a1.2.2.2.2.2.2.2.1,(1,(1099511627776,())))) fun x4=>
       bif !x4.1 then some (1,((false,()),()))
       else some (0,((false,()),()))) fun x5=>
 bif Nat.beq x5.1 0 then opt (bif zi a1.2.2.2.1 7 then opt (opt (qY (a1.2.2.2.2.2.1,(1,(240,())))) fun x6=>
     bif !x6.1 then some (1,((false,()),()))
     else bif (!((zi a1.2.2.2.2.2.2.1.1 0)&&((zi a1.2.2.2.2.2.2.1.2 0)&&true))) then some (1,((false,()),()))
      else some (0,((x5.2.1.1,()),()))) fun x7=>
    bif Nat.beq x7.1 0 then some (0,((x7.2.1.1,()),()))
    else some (1,((x7.2.1.1,()),()))
   else bif zi a1.2.2.2.1 6 then opt (bif !(zi a1.2.2.2.2.2.1 0) then some (1,((false,()),()))
      else opt (qY (a1.2.2.2.2.2.2.1.1,(a1.2.2.2.2.1,(1048576,())))) fun x8=>
       bif !x8.1 then some (1,((false,()),()))
       else opt (qY (a1.2.2.2.2.2.2.1.2,(1,(2097152,())))) fun x9=>
        bif !x9.1 then some (1,((false,()),()))
        else some (0,((x5.2.1.1,()),()))) fun x10=>
     bif Nat.beq x10.1 0 then some (0,((x10.2.1.1,()),()))
     else some (1,((x10.2.1.1,()),()))
    else some (1,((false,()),()))) fun x11=>
  bif Nat.beq x11.1 0 then opt (bif (zh ((a1.2.2.2.2.2.2.2.2.length:Nat):Int) 1) then some (1,((false,()),()))
    else bif (zh 2 ((a1.2.2.2.2.2.2.2.2.length:Nat):Int)) then some (1,((false,()),()))
     else some (0,((x11.2.1.1,()),()))) fun x12=>
   bif Nat.beq x12.1 0 then opt (zz (fun s13:((Bool×(Int×Unit))×Unit)=>
     bif (zh s13.1.2.1 ((a1.2.2.2.2.2.2.2.2.length:Nat):Int)) then opt (atI a1.2.2.2.2.2.2.2.2 s13.1.2.1) fun x14=>
      opt (opt (yj (a0,(x14,()))) fun x15=>
       bif !x15.1 then some (1,((false,()),()))
       else opt (atI x14 0) fun x16=>
        opt (qi (a0,(x16,()))) fun x17=>
        bif !(zi x17.1 a1.2.1) then some (1,((false,()),()))
        else opt (atI x14 (wrF .i64 (((x14.length:Nat):Int) - 1))) fun x18=>
         opt (qy (a0,(x18,()))) fun x19=>
         bif !(zi x19.1 a1.2.2.1) then some (1,((false,()),()))
         else some (0,((s13.1.1,()),()))) fun x20=>
      bif Nat.beq x20.1 0 then some (.inr ((x20.2.1.1,((wrF .i64 (s13.1.2.1+1)),())),()))
      else some (.inl (1,((x20.2.1.1,(s13.1.2.1,())),())))
     else some (.inl (0,((s13.1.1,(s13.1.2.1,())),())))) zL ((x12.2.1.1,(0,())),())) fun x21=>
    bif Nat.beq x21.1 0 then bif (zi ((a1.2.2.2.2.2.2.2.2.length:Nat):Int) 1) then some (true,())
     else opt (atI a1.2.2.2.2.2.2.2.2 0) fun x22=>
      opt (atI a1.2.2.2.2.2.2.2.2 1) fun x23=>
      opt (yH (a0,(x22,(x23,())))) fun x24=>
      some (x24.1,())
    else some (x21.2.1.1,())
   else some (x12.2.1.1,())
  else some (x11.2.1.1,())
 else some (x5.2.1.1,())
abbrev Wk:Type:=(zN×zO×Unit)→Option (Bool×Unit)
def zkG:WX→VZ→Wi→xY→ZP→Wj→Wk:=fun qY gL yj qi qy yH=>sF Tryz.prog [(71,⟨za7,za8,qY⟩),(128,⟨za9,zba,gL⟩),(129,⟨Gc,Gd,yj⟩),(88,⟨Jl,Jm,qi⟩),(89,⟨Ug,Uh,qy⟩),(90,⟨Ge,Gf,yH⟩)] zuI (zR []) 30 83 Gg Gh
theorem zwR (qY) (gL) (yj) (qi) (qy) (yH) (a0) (a1):zkG qY gL yj qi qy yH (a0,a1,())=zdO qY gL yj qi qy yH a0 a1:=by kernel_rfl
def kh:Wk:=zkG kg Qi vW jE yw kf
theorem zqI:Con.Ok Tryz.prog 83 ⟨Gg,Gh,kh⟩:=zC (ze zkF (ze zm5 (ze zfQ (ze WW (ze UZ (ze zfR zo)))))) zr (by kernel_rfl)
theorem zqJ (a0) (a1):kh (a0,a1,())=zdO kg Qi vW jE yw kf a0 a1:=zwR kg Qi vW jE yw kf a0 a1
abbrev XW:List VT:=[⟨true,wK⟩,⟨true,zw⟩,⟨false,I⟩]
abbrev XX:List VT:=[⟨true,zv⟩,⟨false,.bool⟩]
def ziJ:zV:=zS [⟨zv,YQ zv,[9]⟩,cdF wK,cdF zw,cdF zP,cdF zm] [] [⟨3,147,none,(.list I),true⟩,⟨7,147,none,(.list I),true⟩,⟨10,147,none,(.list I),true⟩,⟨16,147,none,(.list I),true⟩,⟨19,147,none,(.list I),true⟩,⟨2,54,some 6,I,false⟩,⟨5,54,some 6,I,false⟩,⟨2,54,none,(.list I),true⟩,⟨5,54,none,(.list I),true⟩] [(3,147,11,[9]),(7,147,11,[9]),(10,147,11,[9]),(16,147,11,[9]),(19,147,11,[9]),(16,147,11,[9]),(19,147,11,[9])] [129,88,89,90,83]
def XY (JP:za2) (yj:Wi) (qi:xY) (qy:ZP) (yH:Wj) (yI:Wk) (a0:XV) (a1:zN) (a2:Int):Option (zO×Bool×Unit):=
 bif zi a1.1 0 then none
 else opt (zz (fun s0:((Int×(Int×Unit))×Unit)=>
   bif zh s0.1.2.1 a1.1 then opt (atI a1.2.1 s0.1.1) fun x1=>
    bif !x1 then bif zi a1.1 0 then none
     else some (.inr (((Int.tmod (wrF .i64 (s0.1.1+1)) a1.1),((wrF .i64 (s0.1.2.1+1)),())),()))
    else some (.inl (0,((s0.1.1,(s0.1.2.1,())),())))
   else some (.inl (0,((s0.1.1,(s0.1.2.1,())),())))) zL (((Int.tmod (wrF .i64 a0.2.2.1) a1.1),(0,())),())) fun x2=>
  opt (zz (fun s3:(((Int×((List Bool)×(List (Int×(Int×(Int×Int))))))×((List Int)×(Int×Unit)))×Unit)=>
   bif zh s3.1.2.2.1 16 then opt (JP (s3.1.1,((wrF .u8 x2.2.1.1),((wrF .u8 (a0.2.2.2.1+(wrF .u8 s3.1.2.2.1))),())))) fun x4=>
    opt (bif (zh 0 ((x4.1.length:Nat):Int)) then opt (yj (s3.1.1,(x4.1,()))) fun x5=>
      bif x5.1 then opt (atI x4.1 0) fun x6=>
       opt (qi (s3.1.1,(x6,()))) fun x7=>
       opt (atI s3.1.1.2.1 x7.1) fun x8=>
       bif x8 then opt (atI x4.1 (wrF .i64 (((x4.1.length:Nat):Int) - 1))) fun x9=>
        opt (qy (s3.1.1,(x9,()))) fun x10=>
        opt (atI s3.1.1.2.1 x10.1) fun x11=>
        bif x11 then some (1,((x4.1,()),()))
        else some (0,((s3.1.2.1,()),()))
       else some (0,((s3.1.2.1,()),()))
      else some (0,((s3.1.2.1,()),()))
     else some (0,((s3.1.2.1,()),()))) fun x12=>
    bif Nat.beq x12.1 0 then some (.inr ((s3.1.1,(x12.2.1.1,((wrF .i64 (s3.1.2.2.1+1)),()))),()))
    else some (.inl (1,((s3.1.1,(x12.2.1.1,(s3.1.2.2.1,()))),())))
   else some (.inl (0,((s3.1.1,(s3.1.2.1,(s3.1.2.2.1,()))),())))) zL ((a1,([],(0,()))),())) fun x13=>
  bif Nat.beq x13.1 0 then some ((0,(0,(0,(0,(0,(0,((0,0),(0,[])))))))),(false,()))
  else bif zr5 x13.2.1.2.1 then opt (atI x13.2.1.2.1 0) fun x14=>
    opt (qi (a1,(x14,()))) fun x15=>
    opt (atI x13.2.1.2.1 (wrF .i64 (((x13.2.1.2.1.length:Nat):Int) - 1))) fun x16=>
    opt (qy (a1,(x16,()))) fun x17=>
    opt (bif a0.1 then some (0,(((),()),((a2,(x15.1,(x17.1,(6,((wrF .i64 (84+(wrF .i64 a0.2.2.2.2.1))),(0,(((wrF .i64 ((wrF .i64 (84+(wrF .i64 a0.2.2.2.2.1)))+(wrF .i64 (4*(wrF .i64 a0.2.2.2.2.2.2.1))))),(wrF .i64 (1+(wrF .i64 a0.2.2.2.2.2.2.2)))),(1099511627776,((x13.2.1.2.1::[]),()))))))))),())))
     else opt (atI (α:=Int) (4::(6::(8::(12::(16::(24::(48::(10::(5::(240::[])))))))))) (Int.tmod a0.2.2.2.2.2.1 10)) fun x18=>
      opt (gl (α:=Int) (4::(6::(8::(12::(16::(24::(48::(10::(5::(240::[])))))))))) (Int.toNat (Int.tmod a0.2.2.2.2.2.1 10))) fun x19=>
      some (0,(((),()),((a2,(x15.1,(x17.1,(7,((wrF .i64 (84+(wrF .i64 a0.2.2.2.2.1))),(x19,((0,0),(1099511627776,((x13.2.1.2.1::[]),()))))))))),())))) fun x20=>
    opt (zz (fun s21:(((Int×((List Bool)×(List (Int×(Int×(Int×Int))))))×(Unit×(Int×Unit)))×((Int×(Int×(Int×(Int×(Int×(Int×((Int×Int)×(Int×((List (List Int))×Unit)))))))))×Unit))=>
     bif zh s21.1.2.2.1 24 then bif a0.2.1 then bif (zi ((s21.2.1.2.2.2.2.2.2.2.2.1.length:Nat):Int) 1) then opt (zz (fun s22:(((Int×((List Bool)×(List (Int×(Int×(Int×Int))))))×((List Int)×(Int×Unit)))×Unit)=>
         bif zh s22.1.2.2.1 16 then opt (JP (s22.1.1,((wrF .u8 x2.2.1.1),((wrF .u8 ((wrF .u8 (a0.2.2.2.1+(wrF .u8 s21.1.2.2.1)))+(wrF .u8 s22.1.2.2.1))),())))) fun x23=>
          opt (bif (zh 0 ((x23.1.length:Nat):Int)) then opt (yj (s22.1.1,(x23.1,()))) fun x24=>
            bif x24.1 then opt (atI x23.1 0) fun x25=>
             opt (qi (s22.1.1,(x25,()))) fun x26=>
             opt (atI s22.1.1.2.1 x26.1) fun x27=>
             bif x27 then opt (atI x23.1 (wrF .i64 (((x23.1.length:Nat):Int) - 1))) fun x28=>
              opt (qy (s22.1.1,(x28,()))) fun x29=>
              opt (atI s22.1.1.2.1 x29.1) fun x30=>
              bif x30 then some (1,((x23.1,()),()))
              else some (0,((s22.1.2.1,()),()))
             else some (0,((s22.1.2.1,()),()))
            else some (0,((s22.1.2.1,()),()))
           else some (0,((s22.1.2.1,()),()))) fun x31=>
          bif Nat.beq x31.1 0 then some (.inr ((s22.1.1,(x31.2.1.1,((wrF .i64 (s22.1.2.2.1+1)),()))),()))
          else some (.inl (1,((s22.1.1,(x31.2.1.1,(s22.1.2.2.1,()))),())))
         else some (.inl (0,((s22.1.1,(s22.1.2.1,(s22.1.2.2.1,()))),())))) zL ((s21.1.1,([],(0,()))),())) fun x32=>
        bif Nat.beq x32.1 0 then some (.inr ((s21.1.1,((),((wrF .i64 (s21.1.2.2.1+1)),()))),((s21.2.1.1,(s21.2.1.2.1,(s21.2.1.2.2.1,(s21.2.1.2.2.2.1,(s21.2.1.2.2.2.2.1,(s21.2.1.2.2.2.2.2.1,(s21.2.1.2.2.2.2.2.2.1,(s21.2.1.2.2.2.2.2.2.2.1,(s21.2.1.2.2.2.2.2.2.2.2.1,()))))))))),())))
        else opt (bif zr5 x32.2.1.2.1 then opt (atI x32.2.1.2.1 (wrF .i64 (((x32.2.1.2.1.length:Nat):Int) - 1))) fun x33=>
           opt (qy (s21.1.1,(x33,()))) fun x34=>
           bif zi x34.1 s21.2.1.2.2.1 then opt (yH (s21.1.1,(x13.2.1.2.1,(x32.2.1.2.1,())))) fun x35=>
            bif x35.1 then bif (jb s21.2.1.2.2.2.2.2.2.2.2.1.length ((x32.2.1.2.1::[]).length) 24) then some (0,(((),()),((s21.2.1.1,(s21.2.1.2.1,(s21.2.1.2.2.1,(s21.2.1.2.2.2.1,(s21.2.1.2.2.2.2.1,(s21.2.1.2.2.2.2.2.1,(s21.2.1.2.2.2.2.2.2.1,(s21.2.1.2.2.2.2.2.2.2.1,((s21.2.1.2.2.2.2.2.2.2.2.1++(x32.2.1.2.1::[])),()))))))))),())))
             else none
            else some (0,(((),()),((s21.2.1.1,(s21.2.1.2.1,(s21.2.1.2.2.1,(s21.2.1.2.2.2.1,(s21.2.1.2.2.2.2.1,(s21.2.1.2.2.2.2.2.1,(s21.2.1.2.2.2.2.2.2.1,(s21.2.1.2.2.2.2.2.2.2.1,(s21.2.1.2.2.2.2.2.2.2.2.1,()))))))))),())))
           else some (0,(((),()),((s21.2.1.1,(s21.2.1.2.1,(s21.2.1.2.2.1,(s21.2.1.2.2.2.1,(s21.2.1.2.2.2.2.1,(s21.2.1.2.2.2.2.2.1,(s21.2.1.2.2.2.2.2.2.1,(s21.2.1.2.2.2.2.2.2.2.1,(s21.2.1.2.2.2.2.2.2.2.2.1,()))))))))),())))
          else none) fun x36=>
         some (.inr ((s21.1.1,((),((wrF .i64 (s21.1.2.2.1+1)),()))),((x36.2.2.1.1,(x36.2.2.1.2.1,(x36.2.2.1.2.2.1,(x36.2.2.1.2.2.2.1,(x36.2.2.1.2.2.2.2.1,(x36.2.2.1.2.2.2.2.2.1,(x36.2.2.1.2.2.2.2.2.2.1,(x36.2.2.1.2.2.2.2.2.2.2.1,(x36.2.2.1.2.2.2.2.2.2.2.2.1,()))))))))),())))
       else some (.inl (0,((s21.1.1,((),(s21.1.2.2.1,()))),((s21.2.1.1,(s21.2.1.2.1,(s21.2.1.2.2.1,(s21.2.1.2.2.2.1,(s21.2.1.2.2.2.2.1,(s21.2.1.2.2.2.2.2.1,(s21.2.1.2.2.2.2.2.2.1,(s21.2.1.2.2.2.2.2.2.2.1,(s21.2.1.2.2.2.2.2.2.2.2.1,()))))))))),()))))
      else some (.inl (0,((s21.1.1,((),(s21.1.2.2.1,()))),((s21.2.1.1,(s21.2.1.2.1,(s21.2.1.2.2.1,(s21.2.1.2.2.2.1,(s21.2.1.2.2.2.2.1,(s21.2.1.2.2.2.2.2.1,(s21.2.1.2.2.2.2.2.2.1,(s21.2.1.2.2.2.2.2.2.2.1,(s21.2.1.2.2.2.2.2.2.2.2.1,()))))))))),()))))
     else some (.inl (0,((s21.1.1,((),(s21.1.2.2.1,()))),((s21.2.1.1,(s21.2.1.2.1,(s21.2.1.2.2.1,(s21.2.1.2.2.2.1,(s21.2.1.2.2.2.2.1,(s21.2.1.2.2.2.2.2.1,(s21.2.1.2.2.2.2.2.2.1,(s21.2.1.2.2.2.2.2.2.2.1,(s21.2.1.2.2.2.2.2.2.2.2.1,()))))))))),()))))) zL ((a1,((),(0,()))),((x20.2.2.1.1,(x20.2.2.1.2.1,(x20.2.2.1.2.2.1,(x20.2.2.1.2.2.2.1,(x20.2.2.1.2.2.2.2.1,(x20.2.2.1.2.2.2.2.2.1,(x20.2.2.1.2.2.2.2.2.2.1,(x20.2.2.1.2.2.2.2.2.2.2.1,(x20.2.2.1.2.2.2.2.2.2.2.2.1,()))))))))),()))) fun x37=>
    opt (yI (x37.2.1.1,((x37.2.2.1.1,(x37.2.2.1.2.1,(x37.2.2.1.2.2.1,(x37.2.2.1.2.2.2.1,(x37.2.2.1.2.2.2.2.1,(x37.2.2.1.2.2.2.2.2.1,(x37.2.2.1.2.2.2.2.2.2.1,(x37.2.2.1.2.2.2.2.2.2.2.1,x37.2.2.1.2.2.2.2.2.2.2.2.1)))))))),()))) fun x38=>
    some ((x37.2.2.1.1,(x37.2.2.1.2.1,(x37.2.2.1.2.2.1,(x37.2.2.1.2.2.2.1,(x37.2.2.1.2.2.2.2.1,(x37.2.2.1.2.2.2.2.2.1,(x37.2.2.1.2.2.2.2.2.2.1,(x37.2.2.1.2.2.2.2.2.2.2.1,x37.2.2.1.2.2.2.2.2.2.2.2.1)))))))),(x38.1,()))
   else none
abbrev QN:Type:=(XV×zN×Int×Unit)→Option (zO×Bool×Unit)
def zbc:za2→Wi→xY→ZP→Wj→Wk→QN:=fun JP yj qi qy yH yI=>sF Tryz.prog [(131,⟨zfJ,zfK,JP⟩),(129,⟨Gc,Gd,yj⟩),(88,⟨Jl,Jm,qi⟩),(89,⟨Ug,Uh,qy⟩),(90,⟨Ge,Gf,yH⟩),(83,⟨Gg,Gh,yI⟩)] ziJ (zR []) 30 63 XW XX
theorem zj4 (JP) (yj) (qi) (qy) (yH) (yI) (a0) (a1) (a2):zbc JP yj qi qy yH yI (a0,a1,a2,())=XY JP yj qi qy yH yI a0 a1 a2:=by kernel_rfl
def xS:QN:=zbc ZT vW jE yw kf kh
theorem zgU:Con.Ok Tryz.prog 63 ⟨XW,XX,xS⟩:=zC (ze zsE (ze zfQ (ze WW (ze UZ (ze zfR (ze zqI zo)))))) zr (by kernel_rfl)
theorem zgV (a0) (a1) (a2):xS (a0,a1,a2,())=XY ZT vW jE yw kf kh a0 a1 a2:=zj4 ZT vW jE yw kf kh a0 a1 a2
abbrev Qj:List VT:=[⟨true,xw⟩]
abbrev Qk:List VT:=[⟨false,(.list zv)⟩]
def zhT:zV:=zS [cdF xw,cdF zv,cdF wK,cdF vE,cdF zw,cdF zP,⟨(.pair (.int .u8) (.pair (.int .u8) (.int .u8))),YQ (.pair (.int .u8) (.pair (.int .u8) (.int .u8))),[]⟩,cdF Qf,cdF zm] [] [⟨3,61,some 2,zv,false⟩,⟨3,61,some 3,wK,true⟩,⟨10,61,some 2,zv,false⟩,⟨10,61,some 3,wK,true⟩,⟨12,61,some 2,zv,false⟩,⟨12,61,some 3,wK,true⟩,⟨3,38,some 4,zv,false⟩,⟨3,38,some 5,zv,true⟩,⟨6,38,some 4,zv,false⟩,⟨6,38,some 5,zv,true⟩] [] []
def YV (jz:kT) (uo:QN) (a0:wq):Option ((List zO)×Unit):=
 opt (zz (fun s0:((Int×Unit)×((List (Bool×(Bool×(Int×(Int×(Int×(Int×(Int×Int))))))))×Unit))=>
  bif (zh s0.1.1 ((a0.2.2.2.2.2.1.length:Nat):Int)) then opt (atI a0.2.2.2.2.2.1 s0.1.1) fun x1=>
   bif (jb s0.2.1.length (((true,x1.2)::[]).length) 10) then some (.inr (((wrF .i64 (s0.1.1+1)),()),((s0.2.1++((true,x1.2)::[])),())))
   else none
  else some (.inl (0,((s0.1.1,()),(s0.2.1,()))))) zL ((0,()),([],()))) fun x2=>
 opt (jz (a0.1,())) fun x3=>
 opt (zz (fun s4:(((Int×((List Bool)×(List (Int×(Int×(Int×Int))))))×(Int×Unit))×((List (Bool×(Bool×(Int×(Int×(Int×(Int×(Int×Int))))))))×((List (Int×(Int×(Int×(Int×(Int×(Int×((Int×Int)×(Int×(List (List Int)))))))))))×Unit)))=>
  bif (zh s4.1.2.1 ((s4.2.1.length:Nat):Int)) then bif (zh ((s4.2.2.1.length:Nat):Int) 6) then opt (atI s4.2.1 s4.1.2.1) fun x5=>
    opt (gl s4.2.1 (Int.toNat s4.1.2.1)) fun x6=>
    opt (uo (x6,(s4.1.1,((wrF .i64 (((s4.2.2.1.length:Nat):Int)+1)),())))) fun x7=>
    opt (bif x7.2.1 then bif (jb s4.2.2.1.length ((x7.1::[]).length) 96) then some (0,((),((s4.2.2.1++(x7.1::[])),())))
      else none
     else some (0,((),(s4.2.2.1,())))) fun x8=>
    some (.inr ((s4.1.1,((wrF .i64 (s4.1.2.1+1)),())),(s4.2.1,(x8.2.2.1,()))))
   else some (.inl (0,((s4.1.1,(s4.1.2.1,())),(s4.2.1,(s4.2.2.1,())))))
  else some (.inl (0,((s4.1.1,(s4.1.2.1,())),(s4.2.1,(s4.2.2.1,())))))) zL ((x3.1,(0,())),(x2.2.2.1,([],())))) fun x9=>
 opt (zz (fun s10:((Int×Unit)×((List (Int×(Int×(Int×(Int×(Int×(Int×((Int×Int)×(Int×(List (List Int)))))))))))×Unit))=>
  bif (zh s10.1.1 ((s10.2.1.length:Nat):Int)) then opt (bif (zh s10.1.1 ((a0.2.2.2.2.2.2.length:Nat):Int)) then opt (atI a0.2.2.2.2.2.2 s10.1.1) fun x11=>
     bif zh 0 x11 then opt (atI a0.2.2.2.2.2.2 s10.1.1) fun x12=>
      opt (atI s10.2.1 s10.1.1) fun x13=>
      opt (gl s10.2.1 (Int.toNat s10.1.1)) fun x14=>
      some (0,((),((s10.2.1.set (Int.toNat s10.1.1) (x14.1,(x14.2.1,(x14.2.2.1,(x14.2.2.2.1,(x14.2.2.2.2.1,(x14.2.2.2.2.2.1,(x14.2.2.2.2.2.2.1,((wrF .i64 (20*(wrF .i64 x12))),x14.2.2.2.2.2.2.2.2))))))))),())))
     else some (0,((),(s10.2.1,())))
    else some (0,((),(s10.2.1,())))) fun x15=>
   some (.inr (((wrF .i64 (s10.1.1+1)),()),(x15.2.2.1,())))
  else some (.inl (0,((s10.1.1,()),(s10.2.1,()))))) zL ((0,()),(x9.2.2.2.1,()))) fun x16=>
 some (x16.2.2.1,())
abbrev YW:Type:=(wq×Unit)→Option ((List zO)×Unit)
def zau:kT→QN→YW:=fun jz uo=>sF Tryz.prog [(32,⟨WU,WV,jz⟩),(63,⟨XW,XX,uo⟩)] zhT (zR []) 30 11 Qj Qk
theorem ziK (jz) (uo) (a0):zau jz uo (a0,())=YV jz uo a0:=by kernel_rfl
def xx:YW:=zau yc xS
theorem zfS:Con.Ok Tryz.prog 11 ⟨Qj,Qk,xx⟩:=zC (ze zat (ze zgU zo)) zr (by kernel_rfl)
theorem zfT (a0):xx (a0,())=YV yc xS a0:=ziK yc xS a0
abbrev Ym:List VT:=[⟨true,zw⟩,⟨false,I⟩]
abbrev Yn:List VT:=[⟨false,.bool⟩]
def zzy:zV:=zS [cdF zw,cdF zP] [] [] [] []
def zhU (a0:zN) (a1:Int):Option (Bool×Unit):=
 bif !(zh a1 0) then some ((zh a1 a0.1),())
 else some (false,())
abbrev zc2:Type:=(zN×Int×Unit)→Option (Bool×Unit)
def zpJ:zc2:=sF Tryz.prog [] zzy (zR []) 30 92 Ym Yn
theorem zAK (a0) (a1):zpJ (a0,a1,())=zhU a0 a1:=by kernel_rfl
def VE:zc2:=zpJ
theorem zuJ:Con.Ok Tryz.prog 92 ⟨Ym,Yn,VE⟩:=zC zo zr (by kernel_rfl)
theorem zuK (a0) (a1):VE (a0,a1,())=zhU  a0 a1:=zAK  a0 a1
abbrev Jn:List VT:=[⟨true,zw⟩]
abbrev Jo:List VT:=[⟨false,.bool⟩]
def zwS:zV:=zS [cdF zw,cdF zP] [] [] [] [92]
def zfU (Yt:zc2) (a0:zN):Option (Bool×Unit):=
 opt (zz (fun s0:((Bool×(Int×Unit))×Unit)=>
  bif (zh s0.1.2.1 ((a0.2.2.length:Nat):Int)) then opt (zz (fun s1:((Bool×(Int×Unit))×Unit)=>
    bif zh s1.1.2.1 4 then bif zi s1.1.2.1 0 then opt (atI a0.2.2 s0.1.2.1) fun x2=>
      opt (Yt (a0,(x2.1,()))) fun x3=>
      bif x3.1 then opt (Yt (a0,(x2.2.1,()))) fun x4=>
       bif x4.1 then bif (!(!(zi x2.1 x2.2.1))) then some (.inl (1,((false,(s1.1.2.1,())),())))
        else some (.inr ((s1.1.1,((wrF .i64 (s1.1.2.1+1)),())),()))
       else some (.inl (1,((false,(s1.1.2.1,())),())))
      else some (.inl (1,((false,(s1.1.2.1,())),())))
     else bif zi s1.1.2.1 1 then opt (atI a0.2.2 s0.1.2.1) fun x5=>
       opt (atI a0.2.1 x5.1) fun x6=>
       bif !x6 then some (.inr ((s1.1.1,((wrF .i64 (s1.1.2.1+1)),())),()))
       else opt (atI a0.2.1 x5.2.1) fun x7=>
        bif !(!x7) then some (.inl (1,((false,(s1.1.2.1,())),())))
        else some (.inr ((s1.1.1,((wrF .i64 (s1.1.2.1+1)),())),()))
      else bif zi s1.1.2.1 2 then opt (atI a0.2.2 s0.1.2.1) fun x8=>
        opt (XO a0.2.2 none (some s0.1.2.1) none) fun x9=>
        opt (zz (fun s10:((Bool×(Int×Unit))×Unit)=>
         bif (zh s10.1.2.1 ((x9.length:Nat):Int)) then opt (atI x9 s10.1.2.1) fun x11=>
          opt (bif zi x8.1 x11.1 then bif zi x8.2.1 x11.2.1 then some (1,((false,()),()))
            else bif zi x8.1 x11.2.1 then bif zi x8.2.1 x11.1 then some (1,((false,()),()))
              else some (0,((s10.1.1,()),()))
             else some (0,((s10.1.1,()),()))
           else bif zi x8.1 x11.2.1 then bif zi x8.2.1 x11.1 then some (1,((false,()),()))
             else some (0,((s10.1.1,()),()))
            else some (0,((s10.1.1,()),()))) fun x12=>
          bif Nat.beq x12.1 0 then some (.inr ((x12.2.1.1,((wrF .i64 (s10.1.2.1+1)),())),()))
          else some (.inl (1,((x12.2.1.1,(s10.1.2.1,())),())))
         else some (.inl (0,((s10.1.1,(s10.1.2.1,())),())))) zL ((false,(0,())),())) fun x13=>
        bif Nat.beq x13.1 0 then some (.inr ((s1.1.1,((wrF .i64 (s1.1.2.1+1)),())),()))
        else bif !x13.2.1.1 then some (.inl (1,((false,(s1.1.2.1,())),())))
         else some (.inr ((s1.1.1,((wrF .i64 (s1.1.2.1+1)),())),()))
       else bif zi s1.1.2.1 3 then opt (atI a0.2.2 s0.1.2.1) fun x14=>
         bif !(zh x14.2.2.1 1) then bif !(zh 1000 x14.2.2.1) then bif !(zh x14.2.2.2 0) then bif (!(!(zh 10000 x14.2.2.2))) then some (.inl (1,((false,(s1.1.2.1,())),())))
            else some (.inr ((s1.1.1,((wrF .i64 (s1.1.2.1+1)),())),()))
           else some (.inl (1,((false,(s1.1.2.1,())),())))
          else some (.inl (1,((false,(s1.1.2.1,())),())))
         else some (.inl (1,((false,(s1.1.2.1,())),())))
        else none
    else some (.inl (0,((s1.1.1,(s1.1.2.1,())),())))) zL ((s0.1.1,(0,())),())) fun x15=>
   bif Nat.beq x15.1 0 then some (.inr ((x15.2.1.1,((wrF .i64 (s0.1.2.1+1)),())),()))
   else some (.inl (1,((x15.2.1.1,(s0.1.2.1,())),())))
  else some (.inl (0,((s0.1.1,(s0.1.2.1,())),())))) zL ((false,(0,())),())) fun x16=>
 bif Nat.beq x16.1 0 then some (true,())
 else some (x16.2.1.1,())
abbrev zbd:Type:=(zN×Unit)→Option (Bool×Unit)
def zm7:zc2→zbd:=fun Yt=>sF Tryz.prog [(92,⟨Ym,Yn,Yt⟩)] zwS (zR []) 30 64 Jn Jo
theorem zzz (Yt) (a0):zm7 Yt (a0,())=zfU Yt a0:=by kernel_rfl
def YX:zbd:=zm7 VE
theorem zsL:Con.Ok Tryz.prog 64 ⟨Jn,Jo,YX⟩:=zC (ze zuJ zo) zr (by kernel_rfl)
theorem zsM (a0):YX (a0,())=zfU VE a0:=zzz VE a0
abbrev Jp:List VT:=[⟨true,zw⟩,⟨false,I⟩,⟨true,(.pair .bool (.pair .bool (.pair .bool (.pair .bool (.pair .bool (.pair .bool (.pair .bool (.pair .bool (.pair .bool (.pair .bool (.pair .bool (.pair .bool (.pair .bool (.pair .bool (.pair .bool (.pair .bool (.pair .bool (.pair .bool (.pair .bool (.pair .bool (.pair .bool (.pair .bool (.pair .bool .bool)))))))))))))))))))))))⟩]
abbrev Jq:List VT:=[⟨false,(.list .bool)⟩]
def zwT:zV:=zS [⟨(.pair .bool (.pair .bool (.pair .bool (.pair .bool (.pair .bool (.pair .bool (.pair .bool (.pair .bool (.pair .bool (.pair .bool (.pair .bool (.pair .bool (.pair .bool (.pair .bool (.pair .bool (.pair .bool (.pair .bool (.pair .bool (.pair .bool (.pair .bool (.pair .bool (.pair .bool (.pair .bool .bool))))))))))))))))))))))),YQ (.pair .bool (.pair .bool (.pair .bool (.pair .bool (.pair .bool (.pair .bool (.pair .bool (.pair .bool (.pair .bool (.pair .bool (.pair .bool (.pair .bool (.pair .bool (.pair .bool (.pair .bool (.pair .bool (.pair .bool (.pair .bool (.pair .bool (.pair .bool (.pair .bool (.pair .bool (.pair .bool .bool))))))))))))))))))))))),[]⟩,cdF zw,cdF zP] [] [⟨4,56,some 6,.bool,false⟩,⟨6,56,some 6,.bool,false⟩,⟨8,56,some 6,.bool,false⟩] [] []
def zfV (a0:zN) (a1:Int) (a2:(Bool×(Bool×(Bool×(Bool×(Bool×(Bool×(Bool×(Bool×(Bool×(Bool×(Bool×(Bool×(Bool×(Bool×(Bool×(Bool×(Bool×(Bool×(Bool×(Bool×(Bool×(Bool×(Bool×Bool)))))))))))))))))))))))):Option ((List Bool)×Unit):=
 bif zhM a0.1 a0.1 1 then opt (atI (List.replicate (Int.toNat a0.1) false) a1) fun x0=>
  opt (gl (List.replicate (Int.toNat a0.1) false) (Int.toNat a1)) fun x1=>
  opt (zz (fun s2:((Int×Unit)×((List Bool)×Unit))=>
   bif zh s2.1.1 a0.1 then opt (zz (fun s3:((Int×Unit)×((List Bool)×Unit))=>
     bif (zh s3.1.1 ((a0.2.2.length:Nat):Int)) then opt (atI a0.2.2 s3.1.1) fun x4=>
      opt (bif zi s3.1.1 0 then bif !a2.1 then opt (atI s3.2.1 x4.1) fun x5=>
         opt (gl s3.2.1 (Int.toNat x4.1)) fun x6=>
         opt (atI s3.2.1 x4.2.1) fun x7=>
         opt (gl s3.2.1 (Int.toNat x4.2.1)) fun x8=>
         bif !(x6 == x8) then opt (atI s3.2.1 x4.1) fun x9=>
          opt (gl s3.2.1 (Int.toNat x4.1)) fun x10=>
          opt (atI (s3.2.1.set (Int.toNat x4.1) true) x4.2.1) fun x11=>
          opt (gl (s3.2.1.set (Int.toNat x4.1) true) (Int.toNat x4.2.1)) fun x12=>
          some (0,((),(((s3.2.1.set (Int.toNat x4.1) true).set (Int.toNat x4.2.1) true),())))
         else some (0,((),(s3.2.1,())))
        else some (0,((),(s3.2.1,())))
       else bif zi s3.1.1 1 then bif !a2.2.1 then opt (atI s3.2.1 x4.1) fun x13=>
          opt (gl s3.2.1 (Int.toNat x4.1)) fun x14=>
          opt (atI s3.2.1 x4.2.1) fun x15=>
          opt (gl s3.2.1 (Int.toNat x4.2.1)) fun x16=>
          bif !(x14 == x16) then opt (atI s3.2.1 x4.1) fun x17=>
           opt (gl s3.2.1 (Int.toNat x4.1)) fun x18=>
           opt (atI (s3.2.1.set (Int.toNat x4.1) true) x4.2.1) fun x19=>
           opt (gl (s3.2.1.set (Int.toNat x4.1) true) (Int.toNat x4.2.1)) fun x20=>
           some (0,((),(((s3.2.1.set (Int.toNat x4.1) true).set (Int.toNat x4.2.1) true),())))
          else some (0,((),(s3.2.1,())))
         else some (0,((),(s3.2.1,())))
        else bif zi s3.1.1 2 then bif !a2.2.2.1 then opt (atI s3.2.1 x4.1) fun x21=>
           opt (gl s3.2.1 (Int.toNat x4.1)) fun x22=>
           opt (atI s3.2.1 x4.2.1) fun x23=>
           opt (gl s3.2.1 (Int.toNat x4.2.1)) fun x24=>
           bif !(x22 == x24) then opt (atI s3.2.1 x4.1) fun x25=>
            opt (gl s3.2.1 (Int.toNat x4.1)) fun x26=>
            opt (atI (s3.2.1.set (Int.toNat x4.1) true) x4.2.1) fun x27=>
            opt (gl (s3.2.1.set (Int.toNat x4.1) true) (Int.toNat x4.2.1)) fun x28=>
            some (0,((),(((s3.2.1.set (Int.toNat x4.1) true).set (Int.toNat x4.2.1) true),())))
           else some (0,((),(s3.2.1,())))
          else some (0,((),(s3.2.1,())))
         else bif zi s3.1.1 3 then bif !a2.2.2.2.1 then opt (atI s3.2.1 x4.1) fun x29=>
            opt (gl s3.2.1 (Int.toNat x4.1)) fun x30=>
            opt (atI s3.2.1 x4.2.1) fun x31=>
            opt (gl s3.2.1 (Int.toNat x4.2.1)) fun x32=>
            bif !(x30 == x32) then opt (atI s3.2.1 x4.1) fun x33=>
             opt (gl s3.2.1 (Int.toNat x4.1)) fun x34=>
             opt (atI (s3.2.1.set (Int.toNat x4.1) true) x4.2.1) fun x35=>
             opt (gl (s3.2.1.set (Int.toNat x4.1) true) (Int.toNat x4.2.1)) fun x36=>
             some (0,((),(((s3.2.1.set (Int.toNat x4.1) true).set (Int.toNat x4.2.1) true),())))
            else some (0,((),(s3.2.1,())))
           else some (0,((),(s3.2.1,())))
          else bif zi s3.1.1 4 then bif !a2.2.2.2.2.1 then opt (atI s3.2.1 x4.1) fun x37=>
             opt (gl s3.2.1 (Int.toNat x4.1)) fun x38=>
             opt (atI s3.2.1 x4.2.1) fun x39=>
             opt (gl s3.2.1 (Int.toNat x4.2.1)) fun x40=>
             bif !(x38 == x40) then opt (atI s3.2.1 x4.1) fun x41=>
              opt (gl s3.2.1 (Int.toNat x4.1)) fun x42=>
              opt (atI (s3.2.1.set (Int.toNat x4.1) true) x4.2.1) fun x43=>
              opt (gl (s3.2.1.set (Int.toNat x4.1) true) (Int.toNat x4.2.1)) fun x44=>
              some (0,((),(((s3.2.1.set (Int.toNat x4.1) true).set (Int.toNat x4.2.1) true),())))
             else some (0,((),(s3.2.1,())))
            else some (0,((),(s3.2.1,())))
           else bif zi s3.1.1 5 then bif !a2.2.2.2.2.2.1 then opt (atI s3.2.1 x4.1) fun x45=>
              opt (gl s3.2.1 (Int.toNat x4.1)) fun x46=>
              opt (atI s3.2.1 x4.2.1) fun x47=>
              opt (gl s3.2.1 (Int.toNat x4.2.1)) fun x48=>
              bif !(x46 == x48) then opt (atI s3.2.1 x4.1) fun x49=>
               opt (gl s3.2.1 (Int.toNat x4.1)) fun x50=>
               opt (atI (s3.2.1.set (Int.toNat x4.1) true) x4.2.1) fun x51=>
               opt (gl (s3.2.1.set (Int.toNat x4.1) true) (Int.toNat x4.2.1)) fun x52=>
               some (0,((),(((s3.2.1.set (Int.toNat x4.1) true).set (Int.toNat x4.2.1) true),())))
              else some (0,((),(s3.2.1,())))
             else some (0,((),(s3.2.1,())))
            else bif zi s3.1.1 6 then bif !a2.2.2.2.2.2.2.1 then opt (atI s3.2.1 x4.1) fun x53=>
               opt (gl s3.2.1 (Int.toNat x4.1)) fun x54=>
               opt (atI s3.2.1 x4.2.1) fun x55=>
               opt (gl s3.2.1 (Int.toNat x4.2.1)) fun x56=>
               bif !(x54 == x56) then opt (atI s3.2.1 x4.1) fun x57=>
                opt (gl s3.2.1 (Int.toNat x4.1)) fun x58=>
                opt (atI (s3.2.1.set (Int.toNat x4.1) true) x4.2.1) fun x59=>
                opt (gl (s3.2.1.set (Int.toNat x4.1) true) (Int.toNat x4.2.1)) fun x60=>
                some (0,((),(((s3.2.1.set (Int.toNat x4.1) true).set (Int.toNat x4.2.1) true),())))
               else some (0,((),(s3.2.1,())))
              else some (0,((),(s3.2.1,())))
             else bif zi s3.1.1 7 then bif !a2.2.2.2.2.2.2.2.1 then opt (atI s3.2.1 x4.1) fun x61=>
                opt (gl s3.2.1 (Int.toNat x4.1)) fun x62=>
                opt (atI s3.2.1 x4.2.1) fun x63=>
                opt (gl s3.2.1 (Int.toNat x4.2.1)) fun x64=>
                bif !(x62 == x64) then opt (atI s3.2.1 x4.1) fun x65=>
                 opt (gl s3.2.1 (Int.toNat x4.1)) fun x66=>
                 opt (atI (s3.2.1.set (Int.toNat x4.1) true) x4.2.1) fun x67=>
                 opt (gl (s3.2.1.set (Int.toNat x4.1) true) (Int.toNat x4.2.1)) fun x68=>
                 some (0,((),(((s3.2.1.set (Int.toNat x4.1) true).set (Int.toNat x4.2.1) true),())))
                else some (0,((),(s3.2.1,())))
               else some (0,((),(s3.2.1,())))
              else bif zi s3.1.1 8 then bif !a2.2.2.2.2.2.2.2.2.1 then opt (atI s3.2.1 x4.1) fun x69=>
                 opt (gl s3.2.1 (Int.toNat x4.1)) fun x70=>
                 opt (atI s3.2.1 x4.2.1) fun x71=>
                 opt (gl s3.2.1 (Int.toNat x4.2.1)) fun x72=>
                 bif !(x70 == x72) then opt (atI s3.2.1 x4.1) fun x73=>
                  opt (gl s3.2.1 (Int.toNat x4.1)) fun x74=>
                  opt (atI (s3.2.1.set (Int.toNat x4.1) true) x4.2.1) fun x75=>
                  opt (gl (s3.2.1.set (Int.toNat x4.1) true) (Int.toNat x4.2.1)) fun x76=>
                  some (0,((),(((s3.2.1.set (Int.toNat x4.1) true).set (Int.toNat x4.2.1) true),())))
                 else some (0,((),(s3.2.1,())))
                else some (0,((),(s3.2.1,())))
               else bif zi s3.1.1 9 then bif !a2.2.2.2.2.2.2.2.2.2.1 then opt (atI s3.2.1 x4.1) fun x77=>
                  opt (gl s3.2.1 (Int.toNat x4.1)) fun x78=>
                  opt (atI s3.2.1 x4.2.1) fun x79=>
                  opt (gl s3.2.1 (Int.toNat x4.2.1)) fun x80=>
                  bif !(x78 == x80) then opt (atI s3.2.1 x4.1) fun x81=>
                   opt (gl s3.2.1 (Int.toNat x4.1)) fun x82=>
                   opt (atI (s3.2.1.set (Int.toNat x4.1) true) x4.2.1) fun x83=>
                   opt (gl (s3.2.1.set (Int.toNat x4.1) true) (Int.toNat x4.2.1)) fun x84=>
                   some (0,((),(((s3.2.1.set (Int.toNat x4.1) true).set (Int.toNat x4.2.1) true),())))
                  else some (0,((),(s3.2.1,())))
                 else some (0,((),(s3.2.1,())))
                else bif zi s3.1.1 10 then bif !a2.2.2.2.2.2.2.2.2.2.2.1 then opt (atI s3.2.1 x4.1) fun x85=>
                   opt (gl s3.2.1 (Int.toNat x4.1)) fun x86=>
                   opt (atI s3.2.1 x4.2.1) fun x87=>
                   opt (gl s3.2.1 (Int.toNat x4.2.1)) fun x88=>
                   bif !(x86 == x88) then opt (atI s3.2.1 x4.1) fun x89=>
                    opt (gl s3.2.1 (Int.toNat x4.1)) fun x90=>
                    opt (atI (s3.2.1.set (Int.toNat x4.1) true) x4.2.1) fun x91=>
                    opt (gl (s3.2.1.set (Int.toNat x4.1) true) (Int.toNat x4.2.1)) fun x92=>
                    some (0,((),(((s3.2.1.set (Int.toNat x4.1) true).set (Int.toNat x4.2.1) true),())))
                   else some (0,((),(s3.2.1,())))
                  else some (0,((),(s3.2.1,())))
                 else bif zi s3.1.1 11 then bif !a2.2.2.2.2.2.2.2.2.2.2.2.1 then opt (atI s3.2.1 x4.1) fun x93=>
                    opt (gl s3.2.1 (Int.toNat x4.1)) fun x94=>
                    opt (atI s3.2.1 x4.2.1) fun x95=>
                    opt (gl s3.2.1 (Int.toNat x4.2.1)) fun x96=>
                    bif !(x94 == x96) then opt (atI s3.2.1 x4.1) fun x97=>
                     opt (gl s3.2.1 (Int.toNat x4.1)) fun x98=>
                     opt (atI (s3.2.1.set (Int.toNat x4.1) true) x4.2.1) fun x99=>
                     opt (gl (s3.2.1.set (Int.toNat x4.1) true) (Int.toNat x4.2.1)) fun x100=>
                     some (0,((),(((s3.2.1.set (Int.toNat x4.1) true).set (Int.toNat x4.2.1) true),())))
                    else some (0,((),(s3.2.1,())))
                   else some (0,((),(s3.2.1,())))
                  else bif zi s3.1.1 12 then bif !a2.2.2.2.2.2.2.2.2.2.2.2.2.1 then opt (atI s3.2.1 x4.1) fun x101=>
                     opt (gl s3.2.1 (Int.toNat x4.1)) fun x102=>
                     opt (atI s3.2.1 x4.2.1) fun x103=>
                     opt (gl s3.2.1 (Int.toNat x4.2.1)) fun x104=>
                     bif !(x102 == x104) then opt (atI s3.2.1 x4.1) fun x105=>
                      opt (gl s3.2.1 (Int.toNat x4.1)) fun x106=>
                      opt (atI (s3.2.1.set (Int.toNat x4.1) true) x4.2.1) fun x107=>
                      opt (gl (s3.2.1.set (Int.toNat x4.1) true) (Int.toNat x4.2.1)) fun x108=>
                      some (0,((),(((s3.2.1.set (Int.toNat x4.1) true).set (Int.toNat x4.2.1) true),())))
                     else some (0,((),(s3.2.1,())))
                    else some (0,((),(s3.2.1,())))
                   else bif zi s3.1.1 13 then bif !a2.2.2.2.2.2.2.2.2.2.2.2.2.2.1 then opt (atI s3.2.1 x4.1) fun x109=>
                      opt (gl s3.2.1 (Int.toNat x4.1)) fun x110=>
                      opt (atI s3.2.1 x4.2.1) fun x111=>
                      opt (gl s3.2.1 (Int.toNat x4.2.1)) fun x112=>
                      bif !(x110 == x112) then opt (atI s3.2.1 x4.1) fun x113=>
                       opt (gl s3.2.1 (Int.toNat x4.1)) fun x114=>
                       opt (atI (s3.2.1.set (Int.toNat x4.1) true) x4.2.1) fun x115=>
                       opt (gl (s3.2.1.set (Int.toNat x4.1) true) (Int.toNat x4.2.1)) fun x116=>
                       some (0,((),(((s3.2.1.set (Int.toNat x4.1) true).set (Int.toNat x4.2.1) true),())))
                      else some (0,((),(s3.2.1,())))
                     else some (0,((),(s3.2.1,())))
                    else bif zi s3.1.1 14 then bif !a2.2.2.2.2.2.2.2.2.2.2.2.2.2.2.1 then opt (atI s3.2.1 x4.1) fun x117=>
                       opt (gl s3.2.1 (Int.toNat x4.1)) fun x118=>
                       opt (atI s3.2.1 x4.2.1) fun x119=>
                       opt (gl s3.2.1 (Int.toNat x4.2.1)) fun x120=>
                       bif !(x118 == x120) then opt (atI s3.2.1 x4.1) fun x121=>
                        opt (gl s3.2.1 (Int.toNat x4.1)) fun x122=>
                        opt (atI (s3.2.1.set (Int.toNat x4.1) true) x4.2.1) fun x123=>
                        opt (gl (s3.2.1.set (Int.toNat x4.1) true) (Int.toNat x4.2.1)) fun x124=>
                        some (0,((),(((s3.2.1.set (Int.toNat x4.1) true).set (Int.toNat x4.2.1) true),())))
                       else some (0,((),(s3.2.1,())))
                      else some (0,((),(s3.2.1,())))
                     else bif zi s3.1.1 15 then bif !a2.2.2.2.2.2.2.2.2.2.2.2.2.2.2.2.1 then opt (atI s3.2.1 x4.1) fun x125=>
                        opt (gl s3.2.1 (Int.toNat x4.1)) fun x126=>
                        opt (atI s3.2.1 x4.2.1) fun x127=>
                        opt (gl s3.2.1 (Int.toNat x4.2.1)) fun x128=>
                        bif !(x126 == x128) then opt (atI s3.2.1 x4.1) fun x129=>
                         opt (gl s3.2.1 (Int.toNat x4.1)) fun x130=>
                         opt (atI (s3.2.1.set (Int.toNat x4.1) true) x4.2.1) fun x131=>
                         opt (gl (s3.2.1.set (Int.toNat x4.1) true) (Int.toNat x4.2.1)) fun x132=>
                         some (0,((),(((s3.2.1.set (Int.toNat x4.1) true).set (Int.toNat x4.2.1) true),())))
                        else some (0,((),(s3.2.1,())))
                       else some (0,((),(s3.2.1,())))
                      else bif zi s3.1.1 16 then bif !a2.2.2.2.2.2.2.2.2.2.2.2.2.2.2.2.2.1 then opt (atI s3.2.1 x4.1) fun x133=>
                         opt (gl s3.2.1 (Int.toNat x4.1)) fun x134=>
                         opt (atI s3.2.1 x4.2.1) fun x135=>
                         opt (gl s3.2.1 (Int.toNat x4.2.1)) fun x136=>
                         bif !(x134 == x136) then opt (atI s3.2.1 x4.1) fun x137=>
                          opt (gl s3.2.1 (Int.toNat x4.1)) fun x138=>
                          opt (atI (s3.2.1.set (Int.toNat x4.1) true) x4.2.1) fun x139=>
                          opt (gl (s3.2.1.set (Int.toNat x4.1) true) (Int.toNat x4.2.1)) fun x140=>
                          some (0,((),(((s3.2.1.set (Int.toNat x4.1) true).set (Int.toNat x4.2.1) true),())))
                         else some (0,((),(s3.2.1,())))
                        else some (0,((),(s3.2.1,())))
                       else bif zi s3.1.1 17 then bif !a2.2.2.2.2.2.2.2.2.2.2.2.2.2.2.2.2.2.1 then opt (atI s3.2.1 x4.1) fun x141=>
                          opt (gl s3.2.1 (Int.toNat x4.1)) fun x142=>
                          opt (atI s3.2.1 x4.2.1) fun x143=>
                          opt (gl s3.2.1 (Int.toNat x4.2.1)) fun x144=>
                          bif !(x142 == x144) then opt (atI s3.2.1 x4.1) fun x145=>
                           opt (gl s3.2.1 (Int.toNat x4.1)) fun x146=>
                           opt (atI (s3.2.1.set (Int.toNat x4.1) true) x4.2.1) fun x147=>
                           opt (gl (s3.2.1.set (Int.toNat x4.1) true) (Int.toNat x4.2.1)) fun x148=>
                           some (0,((),(((s3.2.1.set (Int.toNat x4.1) true).set (Int.toNat x4.2.1) true),())))
                          else some (0,((),(s3.2.1,())))
                         else some (0,((),(s3.2.1,())))
                        else bif zi s3.1.1 18 then bif !a2.2.2.2.2.2.2.2.2.2.2.2.2.2.2.2.2.2.2.1 then opt (atI s3.2.1 x4.1) fun x149=>
                           opt (gl s3.2.1 (Int.toNat x4.1)) fun x150=>
                           opt (atI s3.2.1 x4.2.1) fun x151=>
                           opt (gl s3.2.1 (Int.toNat x4.2.1)) fun x152=>
                           bif !(x150 == x152) then opt (atI s3.2.1 x4.1) fun x153=>
                            opt (gl s3.2.1 (Int.toNat x4.1)) fun x154=>
                            opt (atI (s3.2.1.set (Int.toNat x4.1) true) x4.2.1) fun x155=>
                            opt (gl (s3.2.1.set (Int.toNat x4.1) true) (Int.toNat x4.2.1)) fun x156=>
                            some (0,((),(((s3.2.1.set (Int.toNat x4.1) true).set (Int.toNat x4.2.1) true),())))
                           else some (0,((),(s3.2.1,())))
                          else some (0,((),(s3.2.1,())))
                         else bif zi s3.1.1 19 then bif !a2.2.2.2.2.2.2.2.2.2.2.2.2.2.2.2.2.2.2.2.1 then opt (atI s3.2.1 x4.1) fun x157=>
                            opt (gl s3.2.1 (Int.toNat x4.1)) fun x158=>
                            opt (atI s3.2.1 x4.2.1) fun x159=>
                            opt (gl s3.2.1 (Int.toNat x4.2.1)) fun x160=>
                            bif !(x158 == x160) then opt (atI s3.2.1 x4.1) fun x161=>
                             opt (gl s3.2.1 (Int.toNat x4.1)) fun x162=>
                             opt (atI (s3.2.1.set (Int.toNat x4.1) true) x4.2.1) fun x163=>
                             opt (gl (s3.2.1.set (Int.toNat x4.1) true) (Int.toNat x4.2.1)) fun x164=>
                             some (0,((),(((s3.2.1.set (Int.toNat x4.1) true).set (Int.toNat x4.2.1) true),())))
                            else some (0,((),(s3.2.1,())))
                           else some (0,((),(s3.2.1,())))
                          else bif zi s3.1.1 20 then bif !a2.2.2.2.2.2.2.2.2.2.2.2.2.2.2.2.2.2.2.2.2.1 then opt (atI s3.2.1 x4.1) fun x165=>
                             opt (gl s3.2.1 (Int.toNat x4.1)) fun x166=>
                             opt (atI s3.2.1 x4.2.1) fun x167=>
                             opt (gl s3.2.1 (Int.toNat x4.2.1)) fun x168=>
                             bif !(x166 == x168) then opt (atI s3.2.1 x4.1) fun x169=>
                              opt (gl s3.2.1 (Int.toNat x4.1)) fun x170=>
                              opt (atI (s3.2.1.set (Int.toNat x4.1) true) x4.2.1) fun x171=>
                              opt (gl (s3.2.1.set (Int.toNat x4.1) true) (Int.toNat x4.2.1)) fun x172=>
                              some (0,((),(((s3.2.1.set (Int.toNat x4.1) true).set (Int.toNat x4.2.1) true),())))
                             else some (0,((),(s3.2.1,())))
                            else some (0,((),(s3.2.1,())))
                           else bif zi s3.1.1 21 then bif !a2.2.2.2.2.2.2.2.2.2.2.2.2.2.2.2.2.2.2.2.2.2.1 then opt (atI s3.2.1 x4.1) fun x173=>
                              opt (gl s3.2.1 (Int.toNat x4.1)) fun x174=>
                              opt (atI s3.2.1 x4.2.1) fun x175=>
                              opt (gl s3.2.1 (Int.toNat x4.2.1)) fun x176=>
                              bif !(x174 == x176) then opt (atI s3.2.1 x4.1) fun x177=>
                               opt (gl s3.2.1 (Int.toNat x4.1)) fun x178=>
                               opt (atI (s3.2.1.set (Int.toNat x4.1) true) x4.2.1) fun x179=>
                               opt (gl (s3.2.1.set (Int.toNat x4.1) true) (Int.toNat x4.2.1)) fun x180=>
                               some (0,((),(((s3.2.1.set (Int.toNat x4.1) true).set (Int.toNat x4.2.1) true),())))
                              else some (0,((),(s3.2.1,())))
                             else some (0,((),(s3.2.1,())))
                            else bif zi s3.1.1 22 then bif !a2.2.2.2.2.2.2.2.2.2.2.2.2.2.2.2.2.2.2.2.2.2.2.1 then opt (atI s3.2.1 x4.1) fun x181=>
                               opt (gl s3.2.1 (Int.toNat x4.1)) fun x182=>
                               opt (atI s3.2.1 x4.2.1) fun x183=>
                               opt (gl s3.2.1 (Int.toNat x4.2.1)) fun x184=>
                               bif !(x182 == x184) then opt (atI s3.2.1 x4.1) fun x185=>
                                opt (gl s3.2.1 (Int.toNat x4.1)) fun x186=>
                                opt (atI (s3.2.1.set (Int.toNat x4.1) true) x4.2.1) fun x187=>
                                opt (gl (s3.2.1.set (Int.toNat x4.1) true) (Int.toNat x4.2.1)) fun x188=>
                                some (0,((),(((s3.2.1.set (Int.toNat x4.1) true).set (Int.toNat x4.2.1) true),())))
                               else some (0,((),(s3.2.1,())))
                              else some (0,((),(s3.2.1,())))
                             else bif zi s3.1.1 23 then bif !a2.2.2.2.2.2.2.2.2.2.2.2.2.2.2.2.2.2.2.2.2.2.2.2 then opt (atI s3.2.1 x4.1) fun x189=>
                                opt (gl s3.2.1 (Int.toNat x4.1)) fun x190=>
                                opt (atI s3.2.1 x4.2.1) fun x191=>
                                opt (gl s3.2.1 (Int.toNat x4.2.1)) fun x192=>
                                bif !(x190 == x192) then opt (atI s3.2.1 x4.1) fun x193=>
                                 opt (gl s3.2.1 (Int.toNat x4.1)) fun x194=>
                                 opt (atI (s3.2.1.set (Int.toNat x4.1) true) x4.2.1) fun x195=>
                                 opt (gl (s3.2.1.set (Int.toNat x4.1) true) (Int.toNat x4.2.1)) fun x196=>
                                 some (0,((),(((s3.2.1.set (Int.toNat x4.1) true).set (Int.toNat x4.2.1) true),())))
                                else some (0,((),(s3.2.1,())))
                               else some (0,((),(s3.2.1,())))
                              else none) fun x197=>
      some (.inr (((wrF .i64 (s3.1.1+1)),()),(x197.2.2.1,())))
     else some (.inl (0,((s3.1.1,()),(s3.2.1,()))))) zL ((0,()),(s2.2.1,()))) fun x198=>
    some (.inr (((wrF .i64 (s2.1.1+1)),()),(x198.2.2.1,())))
   else some (.inl (0,((s2.1.1,()),(s2.2.1,()))))) zL ((0,()),(((List.replicate (Int.toNat a0.1) false).set (Int.toNat a1) true),()))) fun x199=>
  some (x199.2.2.1,())
 else none
abbrev zbe:Type:=(zN×Int×(Bool×(Bool×(Bool×(Bool×(Bool×(Bool×(Bool×(Bool×(Bool×(Bool×(Bool×(Bool×(Bool×(Bool×(Bool×(Bool×(Bool×(Bool×(Bool×(Bool×(Bool×(Bool×(Bool×Bool)))))))))))))))))))))))×Unit)→Option ((List Bool)×Unit)
def zm8:zbe:=sF Tryz.prog [] zwT (zR []) 30 66 Jp Jq
theorem zzA (a0) (a1) (a2):zm8 (a0,a1,a2,())=zfV a0 a1 a2:=by kernel_rfl
def Jr:zbe:=zm8
theorem zsN:Con.Ok Tryz.prog 66 ⟨Jp,Jq,Jr⟩:=zC zo zr (by kernel_rfl)
theorem zsO (a0) (a1) (a2):Jr (a0,a1,a2,())=zfV  a0 a1 a2:=zzA  a0 a1 a2
abbrev wM:List VT:=[⟨false,(.list .bool)⟩,⟨false,.bool⟩]
abbrev wN:List VT:=[⟨false,I⟩]
def zdn:zV:=zS [] [] [] [] []
def Qw (a0:(List Bool)) (a1:Bool):Option (Int×Unit):=
 opt (zz (fun s0:((Int×(Int×Unit))×Unit)=>
  bif (zh s0.1.2.1 ((a0.length:Nat):Int)) then opt (atI a0 s0.1.2.1) fun x1=>
   bif a1 == x1 then some (.inl (1,((s0.1.2.1,(s0.1.2.1,())),())))
   else some (.inr ((s0.1.1,((wrF .i64 (s0.1.2.1+1)),())),()))
  else some (.inl (0,((s0.1.1,(s0.1.2.1,())),())))) zL ((0,(0,())),())) fun x2=>
 bif Nat.beq x2.1 0 then some ((-1),())
 else some (x2.2.1.1,())
abbrev kj:Type:=((List Bool)×Bool×Unit)→Option (Int×Unit)
def Vs:kj:=sF Tryz.prog [] zdn (zR []) 30 96 wM wN
theorem zdP (a0) (a1):Vs (a0,a1,())=Qw a0 a1:=by kernel_rfl
def yD:kj:=Vs
theorem zbS:Con.Ok Tryz.prog 96 ⟨wM,wN,yD⟩:=zC zo zr (by kernel_rfl)
theorem zbT (a0) (a1):yD (a0,a1,())=Qw  a0 a1:=zdP  a0 a1
abbrev jR:List VT:=[⟨false,(.list .bool)⟩,⟨false,.bool⟩]
abbrev jS:List VT:=[⟨false,.bool⟩]
def zbf:zV:=zS [] [] [] [] [96]
def Zh (yJ:kj) (a0:(List Bool)) (a1:Bool):Option (Bool×Unit):=
 opt (yJ (a0,(a1,()))) fun x0=>
 some ((!(zh x0.1 0)),())
abbrev vI:Type:=((List Bool)×Bool×Unit)→Option (Bool×Unit)
def Yu:kj→vI:=fun yJ=>sF Tryz.prog [(96,⟨wM,wN,yJ⟩)] zbf (zR []) 30 65 jR jS
theorem zbU (yJ) (a0) (a1):Yu yJ (a0,a1,())=Zh yJ a0 a1:=by kernel_rfl
def wX:vI:=Yu yD
theorem GL:Con.Ok Tryz.prog 65 ⟨jR,jS,wX⟩:=zC (ze zbS zo) zr (by kernel_rfl)
theorem GM (a0) (a1):wX (a0,a1,())=Zh yD a0 a1:=zbU yD a0 a1
abbrev jF:List VT:=[⟨true,zw⟩]
abbrev jG:List VT:=[⟨false,I⟩]
def zwU:zV:=zS [⟨(.pair .bool (.pair .bool (.pair .bool (.pair .bool (.pair .bool (.pair .bool (.pair .bool (.pair .bool (.pair .bool (.pair .bool (.pair .bool (.pair .bool (.pair .bool (.pair .bool (.pair .bool (.pair .bool (.pair .bool (.pair .bool (.pair .bool (.pair .bool (.pair .bool (.pair .bool (.pair .bool .bool))))))))))))))))))))))),YQ (.pair .bool (.pair .bool (.pair .bool (.pair .bool (.pair .bool (.pair .bool (.pair .bool (.pair .bool (.pair .bool (.pair .bool (.pair .bool (.pair .bool (.pair .bool (.pair .bool (.pair .bool (.pair .bool (.pair .bool (.pair .bool (.pair .bool (.pair .bool (.pair .bool (.pair .bool (.pair .bool .bool))))))))))))))))))))))),[]⟩,cdF zw,cdF zP] [] [] [] [64,65]
def zfW (Xx:zbd) (Xy:zbe) (wY:vI) (a0:zN):Option (Int×Unit):=
 opt (bif zh a0.1 2 then some (1,((260,()),()))
  else bif zh 12 a0.1 then some (1,((260,()),()))
   else bif (!(zi ((a0.2.1.length:Nat):Int) a0.1)) then some (1,((260,()),()))
    else some (0,((0,()),()))) fun x0=>
 bif Nat.beq x0.1 0 then opt (bif (zh 24 ((a0.2.2.length:Nat):Int)) then some (1,((260,()),()))
   else opt (Xx (a0,())) fun x1=>
    bif !x1.1 then some (1,((260,()),()))
    else some (0,((x0.2.1.1,()),()))) fun x2=>
  bif Nat.beq x2.1 0 then bif zhM a0.1 a0.1 8 then opt (zz (fun s3:((Int×Unit)×((List Int)×Unit))=>
     bif (zh s3.1.1 ((a0.2.2.length:Nat):Int)) then opt (atI a0.2.2 s3.1.1) fun x4=>
      opt (atI s3.2.1 x4.1) fun x5=>
      opt (gl s3.2.1 (Int.toNat x4.1)) fun x6=>
      opt (atI s3.2.1 x4.1) fun x7=>
      opt (gl s3.2.1 (Int.toNat x4.1)) fun x8=>
      opt (atI (s3.2.1.set (Int.toNat x4.1) (wrF .i64 (x6+1))) x4.2.1) fun x9=>
      opt (gl (s3.2.1.set (Int.toNat x4.1) (wrF .i64 (x6+1))) (Int.toNat x4.2.1)) fun x10=>
      opt (atI (s3.2.1.set (Int.toNat x4.1) (wrF .i64 (x6+1))) x4.2.1) fun x11=>
      opt (gl (s3.2.1.set (Int.toNat x4.1) (wrF .i64 (x6+1))) (Int.toNat x4.2.1)) fun x12=>
      some (.inr (((wrF .i64 (s3.1.1+1)),()),(((s3.2.1.set (Int.toNat x4.1) (wrF .i64 (x6+1))).set (Int.toNat x4.2.1) (wrF .i64 (x10+1))),())))
     else some (.inl (0,((s3.1.1,()),(s3.2.1,()))))) zL ((0,()),((List.replicate (Int.toNat a0.1) 0),()))) fun x13=>
    opt (zz (fun s14:((Int×(Int×Unit))×Unit)=>
     bif (zh s14.1.2.1 ((a0.2.1.length:Nat):Int)) then opt (atI a0.2.1 s14.1.2.1) fun x15=>
      opt (bif x15 then opt (atI x13.2.2.1 s14.1.2.1) fun x16=>
        opt (gl x13.2.2.1 (Int.toNat s14.1.2.1)) fun x17=>
        bif zh x17 1 then some (1,((260,()),()))
        else opt (atI x13.2.2.1 s14.1.2.1) fun x18=>
         opt (gl x13.2.2.1 (Int.toNat s14.1.2.1)) fun x19=>
         bif zh 2 x19 then some (1,((260,()),()))
         else some (0,((s14.1.1,()),()))
       else some (0,((s14.1.1,()),()))) fun x20=>
      bif Nat.beq x20.1 0 then some (.inr ((x20.2.1.1,((wrF .i64 (s14.1.2.1+1)),())),()))
      else some (.inl (1,((x20.2.1.1,(s14.1.2.1,())),())))
     else some (.inl (0,((s14.1.1,(s14.1.2.1,())),())))) zL ((x2.2.1.1,(0,())),())) fun x21=>
    bif Nat.beq x21.1 0 then opt (Xy (a0,(0,((false,(false,(false,(false,(false,(false,(false,(false,(false,(false,(false,(false,(false,(false,(false,(false,(false,(false,(false,(false,(false,(false,(false,false))))))))))))))))))))))),())))) fun x22=>
     opt (wY (x22.1,(false,()))) fun x23=>
     bif x23.1 then some (260,())
     else some (0,())
    else some (x21.2.1.1,())
   else none
  else some (x2.2.1.1,())
 else some (x0.2.1.1,())
abbrev yT:Type:=(zN×Unit)→Option (Int×Unit)
def zm9:zbd→zbe→vI→yT:=fun Xx Xy wY=>sF Tryz.prog [(64,⟨Jn,Jo,Xx⟩),(66,⟨Jp,Jq,Xy⟩),(65,⟨jR,jS,wY⟩)] zwU (zR []) 30 37 jF jG
theorem zzB (Xx) (Xy) (wY) (a0):zm9 Xx Xy wY (a0,())=zfW Xx Xy wY a0:=by kernel_rfl
def jm:yT:=zm9 YX Jr wX
theorem Ql:Con.Ok Tryz.prog 37 ⟨jF,jG,jm⟩:=zC (ze zsL (ze zsN (ze GL zo))) zr (by kernel_rfl)
theorem zsP (a0):jm (a0,())=zfW YX Jr wX a0:=zzB YX Jr wX a0
abbrev yn:List VT:=[⟨false,I⟩,⟨false,I⟩,⟨false,I⟩]
abbrev yp:List VT:=[⟨false,.bool⟩]
def zoP:zV:=zS [] [] [] [] []
def GN (a0:Int) (a1:Int) (a2:Int):Option (Bool×Unit):=
 bif !(zh a0 a1) then some ((!(zh a2 a0)),())
 else some (false,())
abbrev vM:Type:=(Int×Int×Int×Unit)→Option (Bool×Unit)
def zfX:vM:=sF Tryz.prog [] zoP (zR []) 30 67 yn yp
theorem zqK (a0) (a1) (a2):zfX (a0,a1,a2,())=GN a0 a1 a2:=by kernel_rfl
def wO:vM:=zfX
theorem VO:Con.Ok Tryz.prog 67 ⟨yn,yp,wO⟩:=zC zo zr (by kernel_rfl)
theorem zlA (a0) (a1) (a2):wO (a0,a1,a2,())=GN  a0 a1 a2:=zqK  a0 a1 a2
abbrev vv:List VT:=[⟨true,Yl⟩]
abbrev vy:List VT:=[⟨false,I⟩]
def zj5:zV:=zS [cdF Yl] [] [] [] [67]
def VP (qe:vM) (a0:XU):Option (Int×Unit):=
 opt (opt (qe (a0.1,(1,(10000,())))) fun x0=>
  bif !x0.1 then some (1,((320,()),()))
  else opt (qe (a0.2.1,(0,(1000,())))) fun x1=>
   bif !x1.1 then some (1,((320,()),()))
   else some (0,((0,()),()))) fun x2=>
 bif Nat.beq x2.1 0 then opt (opt (qe (a0.2.2.1,(0,(10000,())))) fun x3=>
   bif !x3.1 then some (1,((320,()),()))
   else opt (qe (a0.2.2.2,(1542,(65536,())))) fun x4=>
    bif !x4.1 then some (1,((320,()),()))
    else some (0,((x2.2.1.1,()),()))) fun x5=>
  bif Nat.beq x5.1 0 then some (0,())
  else some (x5.2.1.1,())
 else some (x2.2.1.1,())
abbrev JR:Type:=(XU×Unit)→Option (Int×Unit)
def zb0:vM→JR:=fun qe=>sF Tryz.prog [(67,⟨yn,yp,qe⟩)] zj5 (zR []) 30 38 vv vy
theorem zlB (qe) (a0):zb0 qe (a0,())=VP qe a0:=by kernel_rfl
def uO:JR:=zb0 wO
theorem zhV:Con.Ok Tryz.prog 38 ⟨vv,vy,uO⟩:=zC (ze VO zo) zr (by kernel_rfl)
theorem zhW (a0):uO (a0,())=VP wO a0:=zlB wO a0
abbrev xZ:List VT:=[⟨true,zQ⟩]
abbrev ve:List VT:=[⟨false,I⟩]
def zuL:zV:=zS [cdF zQ,cdF qg] [] [] [] []
def zdQ (a0:qx):Option (Int×Unit):=
 opt (bif (zh ((a0.1.length:Nat):Int) 1) then some (1,((370,()),()))
  else bif (zh 128 ((a0.1.length:Nat):Int)) then some (1,((370,()),()))
   else some (0,((0,()),()))) fun x0=>
 bif Nat.beq x0.1 0 then opt (zz (fun s1:((Int×(Int×(Int×Unit)))×Unit)=>
   bif (zh s1.1.2.2.1 ((a0.1.length:Nat):Int)) then opt (atI a0.1 s1.1.2.2.1) fun x2=>
    opt (bif zh x2.1 0 then some (1,((370,()),()))
     else bif zh 255 x2.1 then some (1,((370,()),()))
      else bif zh x2.2 1 then some (1,((370,()),()))
       else bif zh 9600000 x2.2 then some (1,((370,()),()))
        else some (0,((s1.1.1,()),()))) fun x3=>
    bif Nat.beq x3.1 0 then some (.inr ((x3.2.1.1,((wrF .i64 (s1.1.2.1+x2.2)),((wrF .i64 (s1.1.2.2.1+1)),()))),()))
    else some (.inl (1,((x3.2.1.1,(s1.1.2.1,(s1.1.2.2.1,()))),())))
   else some (.inl (0,((s1.1.1,(s1.1.2.1,(s1.1.2.2.1,()))),())))) zL ((x0.2.1.1,(0,(0,()))),())) fun x4=>
  bif Nat.beq x4.1 0 then opt (bif !(zi x4.2.1.2.1 a0.2) then some (1,((370,()),()))
    else bif zh 9600000 x4.2.1.2.1 then some (1,((370,()),()))
     else some (0,((x4.2.1.1,()),()))) fun x5=>
   bif Nat.beq x5.1 0 then some (0,())
   else some (x5.2.1.1,())
  else some (x4.2.1.1,())
 else some (x0.2.1.1,())
abbrev gZ:Type:=(qx×Unit)→Option (Int×Unit)
def zkH:gZ:=sF Tryz.prog [] zuL (zR []) 30 39 xZ ve
theorem zwV (a0):zkH (a0,())=zdQ a0:=by kernel_rfl
def xn:gZ:=zkH
theorem GO:Con.Ok Tryz.prog 39 ⟨xZ,ve,xn⟩:=zC zo zr (by kernel_rfl)
theorem zqL (a0):xn (a0,())=zdQ  a0:=zwV  a0
abbrev jj:List VT:=[⟨true,qz⟩]
abbrev jk:List VT:=[⟨false,I⟩]
def zj6:zV:=zS [cdF qz,cdF zw,cdF zP,cdF zQ,cdF qg] [] [] [] [37,38,39]
def VQ (zZ:yT) (uQ:JR) (jf:gZ) (a0:qC):Option (Int×Unit):=
 opt (zZ (a0.1,())) fun x0=>
 bif !(zi x0.1 0) then some (x0.1,())
 else opt (uQ (a0.2.1,())) fun x1=>
  bif !(zi x1.1 0) then some (x1.1,())
  else opt (zz (fun s2:((Int×(Int×Unit))×Unit)=>
    bif (zh s2.1.2.1 ((a0.2.2.1.length:Nat):Int)) then opt (atI a0.2.2.1 s2.1.2.1) fun x3=>
     opt (jf (x3,())) fun x4=>
     bif !(zi x4.1 0) then some (.inl (1,((x4.1,(s2.1.2.1,())),())))
     else some (.inr ((s2.1.1,((wrF .i64 (s2.1.2.1+1)),())),()))
    else some (.inl (0,((s2.1.1,(s2.1.2.1,())),())))) zL ((0,(0,())),())) fun x5=>
   bif Nat.beq x5.1 0 then opt (bif (!(zi ((a0.2.2.1.length:Nat):Int) (wrF .i64 (2*((a0.1.2.2.length:Nat):Int))))) then some (1,((410,()),()))
     else bif zh a0.2.2.2 84 then some (1,((410,()),()))
      else bif zh 1542 a0.2.2.2 then some (1,((410,()),()))
       else some (0,((x5.2.1.1,()),()))) fun x6=>
    bif Nat.beq x6.1 0 then some (0,())
    else some (x6.2.1.1,())
   else some (x5.2.1.1,())
abbrev xl:Type:=(qC×Unit)→Option (Int×Unit)
def zb1:yT→JR→gZ→xl:=fun zZ uQ jf=>sF Tryz.prog [(37,⟨jF,jG,zZ⟩),(38,⟨vv,vy,uQ⟩),(39,⟨xZ,ve,jf⟩)] zj6 (zR []) 30 13 jj jk
theorem zlC (zZ) (uQ) (jf) (a0):zb1 zZ uQ jf (a0,())=VQ zZ uQ jf a0:=by kernel_rfl
def jB:xl:=zb1 jm uO xn
theorem Yo:Con.Ok Tryz.prog 13 ⟨jj,jk,jB⟩:=zC (ze Ql (ze zhV (ze GO zo))) zr (by kernel_rfl)
theorem zhX (a0):jB (a0,())=VQ jm uO xn a0:=zlC jm uO xn a0
abbrev zkI:List VT:=[⟨true,zw⟩,⟨false,I⟩,⟨false,(.list I)⟩]
abbrev zkJ:List VT:=[⟨false,(.list .bool)⟩]
def zuM:zV:=zS [cdF zw,cdF zP] [] [⟨4,62,some 6,.bool,false⟩,⟨7,62,some 6,.bool,false⟩,⟨10,62,some 6,.bool,false⟩] [] [98]
def zdR (qT:ZQ) (a0:zN) (a1:Int) (a2:(List Int)):Option ((List Bool)×Unit):=
 bif zhM a0.1 a0.1 1 then opt (atI (List.replicate (Int.toNat a0.1) false) a1) fun x0=>
  opt (gl (List.replicate (Int.toNat a0.1) false) (Int.toNat a1)) fun x1=>
  opt (zz (fun s2:((Int×Unit)×((List Bool)×Unit))=>
   bif zh s2.1.1 a0.1 then opt (zz (fun s3:((Int×Unit)×((List Bool)×Unit))=>
     bif (zh s3.1.1 ((a0.2.2.length:Nat):Int)) then opt (atI a0.2.2 s3.1.1) fun x4=>
      opt (opt (qT (a2,(s3.1.1,()))) fun x5=>
       bif !x5.1 then opt (atI s3.2.1 x4.1) fun x6=>
        opt (gl s3.2.1 (Int.toNat x4.1)) fun x7=>
        bif x7 then opt (atI s3.2.1 x4.1) fun x8=>
         opt (gl s3.2.1 (Int.toNat x4.1)) fun x9=>
         opt (atI (s3.2.1.set (Int.toNat x4.1) true) x4.2.1) fun x10=>
         opt (gl (s3.2.1.set (Int.toNat x4.1) true) (Int.toNat x4.2.1)) fun x11=>
         some (0,((),(((s3.2.1.set (Int.toNat x4.1) true).set (Int.toNat x4.2.1) true),())))
        else opt (atI s3.2.1 x4.2.1) fun x12=>
         opt (gl s3.2.1 (Int.toNat x4.2.1)) fun x13=>
         bif x13 then opt (atI s3.2.1 x4.1) fun x14=>
          opt (gl s3.2.1 (Int.toNat x4.1)) fun x15=>
          opt (atI (s3.2.1.set (Int.toNat x4.1) true) x4.2.1) fun x16=>
          opt (gl (s3.2.1.set (Int.toNat x4.1) true) (Int.toNat x4.2.1)) fun x17=>
          some (0,((),(((s3.2.1.set (Int.toNat x4.1) true).set (Int.toNat x4.2.1) true),())))
         else some (0,((),(s3.2.1,())))
       else some (0,((),(s3.2.1,())))) fun x18=>
      some (.inr (((wrF .i64 (s3.1.1+1)),()),(x18.2.2.1,())))
     else some (.inl (0,((s3.1.1,()),(s3.2.1,()))))) zL ((0,()),(s2.2.1,()))) fun x19=>
    some (.inr (((wrF .i64 (s2.1.1+1)),()),(x19.2.2.1,())))
   else some (.inl (0,((s2.1.1,()),(s2.2.1,()))))) zL ((0,()),(((List.replicate (Int.toNat a0.1) false).set (Int.toNat a1) true),()))) fun x20=>
  some (x20.2.2.1,())
 else none
abbrev Gi:Type:=(zN×Int×(List Int)×Unit)→Option ((List Bool)×Unit)
def zkK:ZQ→Gi:=fun qT=>sF Tryz.prog [(98,⟨Ui,Uj,qT⟩)] zuM (zR []) 30 70 zkI zkJ
theorem zwW (qT) (a0) (a1) (a2):zkK qT (a0,a1,a2,())=zdR qT a0 a1 a2:=by kernel_rfl
def Vt:Gi:=zkK xm
theorem zqM (a0) (a1) (a2):Vt (a0,a1,a2,())=zdR xm a0 a1 a2:=zwW xm a0 a1 a2
abbrev zdS:List VT:=[⟨true,zw⟩]
abbrev zdT:List VT:=[⟨false,.bool⟩]
def zuN:zV:=zS [cdF zw,cdF zP] [] [] [] [68,69]
def zdU (wF:YT) (qV:Wf) (Wy:Gi) (a0:zN):Option (Bool×Unit):=
 opt (bif zh a0.1 2 then some (1,((false,()),()))
  else bif zh 12 a0.1 then some (1,((false,()),()))
   else bif (!(zi ((a0.2.1.length:Nat):Int) a0.1)) then some (1,((false,()),()))
    else bif (zh 24 ((a0.2.2.length:Nat):Int)) then some (1,((false,()),()))
     else some (0,((false,()),()))) fun x0=>
 bif Nat.beq x0.1 0 then bif zhM a0.1 a0.1 8 then opt (zz (fun s1:((Bool×(Int×Unit))×((List Int)×Unit))=>
    bif (zh s1.1.2.1 ((a0.2.2.length:Nat):Int)) then opt (atI a0.2.2 s1.1.2.1) fun x2=>
     opt (wF (a0,(x2,()))) fun x3=>
     bif !x3.1 then some (.inl (1,((false,(s1.1.2.1,())),(s1.2.1,()))))
     else opt (zz (fun s4:((Bool×(Int×Unit))×Unit)=>
       bif zh s4.1.2.1 s1.1.2.1 then opt (atI a0.2.2 s4.1.2.1) fun x5=>
        opt (qV (x5,(x2.1,(x2.2.1,())))) fun x6=>
        bif x6.1 then some (.inl (1,((false,(s4.1.2.1,())),())))
        else some (.inr ((s4.1.1,((wrF .i64 (s4.1.2.1+1)),())),()))
       else some (.inl (0,((s4.1.1,(s4.1.2.1,())),())))) zL ((s1.1.1,(0,())),())) fun x7=>
      bif Nat.beq x7.1 0 then opt (atI s1.2.1 x2.1) fun x8=>
       opt (gl s1.2.1 (Int.toNat x2.1)) fun x9=>
       opt (atI s1.2.1 x2.1) fun x10=>
       opt (gl s1.2.1 (Int.toNat x2.1)) fun x11=>
       opt (atI (s1.2.1.set (Int.toNat x2.1) (wrF .i64 (x9+1))) x2.2.1) fun x12=>
       opt (gl (s1.2.1.set (Int.toNat x2.1) (wrF .i64 (x9+1))) (Int.toNat x2.2.1)) fun x13=>
       opt (atI (s1.2.1.set (Int.toNat x2.1) (wrF .i64 (x9+1))) x2.2.1) fun x14=>
       opt (gl (s1.2.1.set (Int.toNat x2.1) (wrF .i64 (x9+1))) (Int.toNat x2.2.1)) fun x15=>
       some (.inr ((x7.2.1.1,((wrF .i64 (s1.1.2.1+1)),())),(((s1.2.1.set (Int.toNat x2.1) (wrF .i64 (x9+1))).set (Int.toNat x2.2.1) (wrF .i64 (x13+1))),())))
      else some (.inl (1,((x7.2.1.1,(s1.1.2.1,())),(s1.2.1,()))))
    else some (.inl (0,((s1.1.1,(s1.1.2.1,())),(s1.2.1,()))))) zL ((x0.2.1.1,(0,())),((List.replicate (Int.toNat a0.1) 0),()))) fun x16=>
   bif Nat.beq x16.1 0 then opt (Wy (a0,(0,([],())))) fun x17=>
    opt (zz (fun s18:((Bool×(Int×Unit))×Unit)=>
     bif zh s18.1.2.1 a0.1 then opt (opt (atI x17.1 s18.1.2.1) fun x19=>
       bif !x19 then some (1,((false,()),()))
       else opt (atI a0.2.1 s18.1.2.1) fun x20=>
        bif x20 then opt (atI x16.2.2.1 s18.1.2.1) fun x21=>
         opt (gl x16.2.2.1 (Int.toNat s18.1.2.1)) fun x22=>
         bif zh x22 1 then some (1,((false,()),()))
         else opt (atI x16.2.2.1 s18.1.2.1) fun x23=>
          opt (gl x16.2.2.1 (Int.toNat s18.1.2.1)) fun x24=>
          bif zh 2 x24 then some (1,((false,()),()))
          else some (0,((s18.1.1,()),()))
        else some (0,((s18.1.1,()),()))) fun x25=>
      bif Nat.beq x25.1 0 then some (.inr ((x25.2.1.1,((wrF .i64 (s18.1.2.1+1)),())),()))
      else some (.inl (1,((x25.2.1.1,(s18.1.2.1,())),())))
     else some (.inl (0,((s18.1.1,(s18.1.2.1,())),())))) zL ((x16.2.1.1,(0,())),())) fun x26=>
    bif Nat.beq x26.1 0 then some (true,())
    else some (x26.2.1.1,())
   else some (x16.2.1.1,())
  else none
 else some (x0.2.1.1,())
abbrev Wl:Type:=(zN×Unit)→Option (Bool×Unit)
def zkL:YT→Wf→Gi→Wl:=fun wF qV Wy=>sF Tryz.prog [(68,⟨zaX,zaY,wF⟩),(69,⟨UW,UX,qV⟩),(70,⟨zkI,zkJ,Wy⟩)] zuN (zR []) 30 40 zdS zdT
theorem zwX (wF) (qV) (Wy) (a0):zkL wF qV Wy (a0,())=zdU wF qV Wy a0:=by kernel_rfl
def Za:Wl:=zkL uU xX Vt
theorem zqN (a0):Za (a0,())=zdU uU xX Vt a0:=zwX uU xX Vt a0
abbrev zkM:List VT:=[⟨true,Yl⟩]
abbrev zkN:List VT:=[⟨false,.bool⟩]
def zuO:zV:=zS [cdF Yl] [] [] [] [71]
def zdV (qY:WX) (a0:XU):Option (Bool×Unit):=
 opt (qY (a0.1,(1,(10000,())))) fun x0=>
 bif x0.1 then opt (qY (a0.2.1,(0,(1000,())))) fun x1=>
  bif x1.1 then opt (qY (a0.2.2.1,(0,(10000,())))) fun x2=>
   bif x2.1 then opt (qY (a0.2.2.2,(1542,(65536,())))) fun x3=>
    some (x3.1,())
   else some (false,())
  else some (false,())
 else some (false,())
abbrev Gj:Type:=(XU×Unit)→Option (Bool×Unit)
def zkO:WX→Gj:=fun qY=>sF Tryz.prog [(71,⟨za7,za8,qY⟩)] zuO (zR []) 30 41 zkM zkN
theorem zwY (qY) (a0):zkO qY (a0,())=zdV qY a0:=by kernel_rfl
def Vu:Gj:=zkO kg
theorem zqO (a0):Vu (a0,())=zdV kg a0:=zwY kg a0
abbrev zdW:List VT:=[⟨true,zQ⟩]
abbrev zdX:List VT:=[⟨false,.bool⟩]
def zuP:zV:=zS [cdF zQ,cdF qg] [] [] [] []
def zdY (a0:qx):Option (Bool×Unit):=
 opt (bif (zh ((a0.1.length:Nat):Int) 1) then some (1,((false,()),()))
  else bif (zh 128 ((a0.1.length:Nat):Int)) then some (1,((false,()),()))
   else some (0,((false,()),()))) fun x0=>
 bif Nat.beq x0.1 0 then opt (zz (fun s1:((Bool×(Int×(Int×Unit)))×Unit)=>
   bif (zh s1.1.2.2.1 ((a0.1.length:Nat):Int)) then opt (atI a0.1 s1.1.2.2.1) fun x2=>
    opt (bif zh x2.1 0 then some (1,((false,()),()))
     else bif zh 255 x2.1 then some (1,((false,()),()))
      else bif zh x2.2 1 then some (1,((false,()),()))
       else bif zh 9600000 x2.2 then some (1,((false,()),()))
        else some (0,((s1.1.1,()),()))) fun x3=>
    bif Nat.beq x3.1 0 then some (.inr ((x3.2.1.1,((wrF .i64 (s1.1.2.1+x2.2)),((wrF .i64 (s1.1.2.2.1+1)),()))),()))
    else some (.inl (1,((x3.2.1.1,(s1.1.2.1,(s1.1.2.2.1,()))),())))
   else some (.inl (0,((s1.1.1,(s1.1.2.1,(s1.1.2.2.1,()))),())))) zL ((x0.2.1.1,(0,(0,()))),())) fun x4=>
  bif Nat.beq x4.1 0 then bif zi x4.2.1.2.1 a0.2 then some ((!(zh 9600000 x4.2.1.2.1)),())
   else some (false,())
  else some (x4.2.1.1,())
 else some (x0.2.1.1,())
abbrev Wm:Type:=(qx×Unit)→Option (Bool×Unit)
def zkP:Wm:=sF Tryz.prog [] zuP (zR []) 30 42 zdW zdX
theorem zwZ (a0):zkP (a0,())=zdY a0:=by kernel_rfl
def Zb:Wm:=zkP
theorem zqP (a0):Zb (a0,())=zdY  a0:=zwZ  a0
abbrev zb2:List VT:=[⟨true,qz⟩]
abbrev zb3:List VT:=[⟨false,I⟩]
def zj7:zV:=zS [cdF qz,cdF zw,cdF zP,cdF zQ,cdF qg] [] [] [] [40,41,42]
def VR (yK:Wl) (Wz:Gj) (yL:Wm) (a0:qC):Option (Int×Unit):=
 opt (yK (a0.1,())) fun x0=>
 bif !x0.1 then some (260,())
 else opt (Wz (a0.2.1,())) fun x1=>
  bif !x1.1 then some (320,())
  else opt (zz (fun s2:((Int×(Int×Unit))×Unit)=>
    bif (zh s2.1.2.1 ((a0.2.2.1.length:Nat):Int)) then opt (atI a0.2.2.1 s2.1.2.1) fun x3=>
     opt (yL (x3,())) fun x4=>
     bif !x4.1 then some (.inl (1,((370,(s2.1.2.1,())),())))
     else some (.inr ((s2.1.1,((wrF .i64 (s2.1.2.1+1)),())),()))
    else some (.inl (0,((s2.1.1,(s2.1.2.1,())),())))) zL ((0,(0,())),())) fun x5=>
   bif Nat.beq x5.1 0 then opt (bif (!(zi ((a0.2.2.1.length:Nat):Int) (wrF .i64 (2*((a0.1.2.2.length:Nat):Int))))) then some (1,((410,()),()))
     else bif zh a0.2.2.2 84 then some (1,((410,()),()))
      else bif zh 1542 a0.2.2.2 then some (1,((410,()),()))
       else some (0,((x5.2.1.1,()),()))) fun x6=>
    bif Nat.beq x6.1 0 then some (0,())
    else some (x6.2.1.1,())
   else some (x5.2.1.1,())
abbrev JS:Type:=(qC×Unit)→Option (Int×Unit)
def zb4:Wl→Gj→Wm→JS:=fun yK Wz yL=>sF Tryz.prog [(40,⟨zdS,zdT,yK⟩),(41,⟨zkM,zkN,Wz⟩),(42,⟨zdW,zdX,yL⟩)] zj7 (zR []) 30 14 zb2 zb3
theorem zlD (yK) (Wz) (yL) (a0):zb4 yK Wz yL (a0,())=VR yK Wz yL a0:=by kernel_rfl
def Zo:JS:=zb4 Za Vu Zb
theorem zhY (a0):Zo (a0,())=VR Za Vu Zb a0:=zlD Za Vu Zb a0
abbrev kI:List VT:=[⟨true,zw⟩,⟨false,I⟩]
abbrev kJ:List VT:=[⟨false,.bool⟩]
def zoQ:zV:=zS [cdF zw,cdF zP] [] [] [] [67]
def GP (qe:vM) (a0:zN) (a1:Int):Option (Bool×Unit):=
 opt (qe (a1,(0,((wrF .i64 (a0.1 - 1)),())))) fun x0=>
 bif x0.1 then opt (atI a0.2.1 a1) fun x1=>
  some (x1,())
 else some (false,())
abbrev XZ:Type:=(zN×Int×Unit)→Option (Bool×Unit)
def zfY:vM→XZ:=fun qe=>sF Tryz.prog [(67,⟨yn,yp,qe⟩)] zoQ (zR []) 30 119 kI kJ
theorem zqQ (qe) (a0) (a1):zfY qe (a0,a1,())=GP qe a0 a1:=by kernel_rfl
def Zt:XZ:=zfY wO
theorem zlE:Con.Ok Tryz.prog 119 ⟨kI,kJ,Zt⟩:=zC (ze VO zo) zr (by kernel_rfl)
theorem zlF (a0) (a1):Zt (a0,a1,())=GP wO a0 a1:=zqQ wO a0 a1
abbrev vz:List VT:=[⟨false,I⟩,⟨false,I⟩,⟨false,I⟩]
abbrev vA:List VT:=[⟨false,.bool⟩]
def zj8:zV:=zS [] [] [] [] []
def VS (a0:Int) (a1:Int) (a2:Int):Option (Bool×Unit):=
 bif !(zh a0 a1) then some ((!(zh a2 a0)),())
 else some (false,())
abbrev JT:Type:=(Int×Int×Int×Unit)→Option (Bool×Unit)
def zb5:JT:=sF Tryz.prog [] zj8 (zR []) 30 86 vz vA
theorem zlG (a0) (a1) (a2):zb5 (a0,a1,a2,())=VS a0 a1 a2:=by kernel_rfl
def uP:JT:=zb5
theorem zhZ:Con.Ok Tryz.prog 86 ⟨vz,vA,uP⟩:=zC zo zr (by kernel_rfl)
theorem zh0 (a0) (a1) (a2):uP (a0,a1,a2,())=VS  a0 a1 a2:=zlG  a0 a1 a2
abbrev ye:List VT:=[⟨true,zm⟩]
abbrev yf:List VT:=[⟨false,I⟩]
def zsQ:zV:=zS [cdF zm] [] [] [] [86]
def zcD (vB:JT) (a0:qI):Option (Int×Unit):=
 opt (opt (vB (a0.1,(1,(1048576,())))) fun x0=>
  bif !x0.1 then some (1,((130,()),()))
  else opt (vB (a0.2,(1,(2097152,())))) fun x1=>
   bif !x1.1 then some (1,((130,()),()))
   else some (0,((0,()),()))) fun x2=>
 bif Nat.beq x2.1 0 then some (0,())
 else some (x2.2.1.1,())
abbrev vp:Type:=(qI×Unit)→Option (Int×Unit)
def ziL:JT→vp:=fun vB=>sF Tryz.prog [(86,⟨vz,vA,vB⟩)] zsQ (zR []) 30 84 ye yf
theorem zuQ (vB) (a0):ziL vB (a0,())=zcD vB a0:=by kernel_rfl
def we:vp:=ziL uP
theorem Yy:Con.Ok Tryz.prog 84 ⟨ye,yf,we⟩:=zC (ze zhZ zo) zr (by kernel_rfl)
theorem zoR (a0):we (a0,())=zcD uP a0:=zuQ uP a0
abbrev yU:List VT:=[⟨true,YR⟩,⟨false,(.list I)⟩]
abbrev yV:List VT:=[⟨false,(.list I)⟩]
def zlH:zV:=zS [cdF YR,cdF zP,cdF zpI] [] [⟨5,30,some 4,I,false⟩,⟨5,30,none,I,true⟩,⟨5,30,some 5,I,true⟩,⟨1,54,none,I,true⟩,⟨3,54,none,I,true⟩,⟨6,54,none,I,true⟩,⟨8,54,none,I,true⟩,⟨0,54,none,I,true⟩] [(5,30,5,[0])] []
def Kz (a0:VD) (a1:(List Int)):Option ((List Int)×Unit):=
 bif (zhM 0 (wrF .i64 (((a1.length:Nat):Int)+1)) 8) then opt (zz (fun s0:((Int×Unit)×(((List Int)×Unit)×(Unit×(Unit×Unit))))=>
   bif (zh s0.1.1 ((a1.length:Nat):Int)) then opt (atI a1 s0.1.1) fun x1=>
    bif zh x1 0 then some (.inl (0,((s0.1.1,()),((s0.2.1.1,()),((),((),()))))))
    else bif (!(zh x1 (wrF .i64 (2*((a0.2.2.length:Nat):Int))))) then some (.inl (0,((s0.1.1,()),((s0.2.1.1,()),((),((),()))))))
     else opt (atI a0.2.2 (wrF .i64 (Int.tdiv x1 2))) fun x2=>
      opt (bif zi (Int.tmod x1 2) 1 then some (0,(((x1,(x2.2.1,x2.1)),()),((),((),()))))
       else some (0,(((x1,(x2.1,x2.2.1)),()),((),((),()))))) fun x3=>
      opt (bif zi s0.1.1 0 then bif (jb s0.2.1.1.length ((x3.2.1.1.2.1::[]).length) 8) then some (0,((),(((s0.2.1.1++(x3.2.1.1.2.1::[])),()),((),()))))
        else none
       else some (0,((),((s0.2.1.1,()),((),()))))) fun x4=>
      bif (jb x4.2.2.1.1.length ((x3.2.1.1.2.2::[]).length) 8) then some (.inr (((wrF .i64 (s0.1.1+1)),()),(((x4.2.2.1.1++(x3.2.1.1.2.2::[])),()),((),((),())))))
      else none
   else some (.inl (0,((s0.1.1,()),((s0.2.1.1,()),((),((),()))))))) zL ((0,()),(((List.replicate (Int.toNat 0) 0),()),((),((),()))))) fun x5=>
  some (x5.2.2.1.1,())
 else none
abbrev kU:Type:=(VD×(List Int)×Unit)→Option ((List Int)×Unit)
def zdo:kU:=sF Tryz.prog [] zlH (zR []) 30 176 yU yV
theorem zna (a0) (a1):zdo (a0,a1,())=Kz a0 a1:=by kernel_rfl
def yW:kU:=zdo
theorem zav:Con.Ok Tryz.prog 176 ⟨yU,yV,yW⟩:=zC zo zr (by kernel_rfl)
theorem ziM (a0) (a1):yW (a0,a1,())=Kz  a0 a1:=zna  a0 a1
abbrev yX:List VT:=[⟨true,YR⟩,⟨false,(.list I)⟩]
abbrev yY:List VT:=[⟨false,.bool⟩]
def zlI:zV:=zS [⟨(.pair .bool (.pair .bool (.pair .bool (.pair .bool (.pair .bool (.pair .bool (.pair .bool (.pair .bool (.pair .bool (.pair .bool (.pair .bool .bool))))))))))),YQ (.pair .bool (.pair .bool (.pair .bool (.pair .bool (.pair .bool (.pair .bool (.pair .bool (.pair .bool (.pair .bool (.pair .bool (.pair .bool .bool))))))))))),[]⟩,cdF YR,cdF zP,cdF zpI] [] [] [] []
def KB (a0:VD) (a1:(List Int)):Option (Bool×Unit):=
 opt (bif (zh ((a1.length:Nat):Int) 1) then some (1,((false,()),()))
  else bif (zh 8 ((a1.length:Nat):Int)) then some (1,((false,()),()))
   else some (0,((false,()),()))) fun x0=>
 bif Nat.beq x0.1 0 then opt (zz (fun s1:((Int×(Int×(Int×Unit)))×((List Bool)×(Unit×(Unit×Unit))))=>
   bif (zh s1.1.2.2.1 ((a1.length:Nat):Int)) then opt (atI a1 s1.1.2.2.1) fun x2=>
    bif zh x2 0 then some (.inl (0,((s1.1.1,(s1.1.2.1,(s1.1.2.2.1,()))),(s1.2.1,((),((),()))))))
    else bif (!(zh x2 (wrF .i64 (2*((a0.2.2.length:Nat):Int))))) then some (.inl (0,((s1.1.1,(s1.1.2.1,(s1.1.2.2.1,()))),(s1.2.1,((),((),()))))))
     else opt (atI a0.2.2 (wrF .i64 (Int.tdiv x2 2))) fun x3=>
      opt (bif zi (Int.tmod x2 2) 1 then some (0,(((x2,(x3.2.1,x3.1)),()),((),((),()))))
       else some (0,(((x2,(x3.1,x3.2.1)),()),((),((),()))))) fun x4=>
      bif Nat.beq x4.1 0 then opt (bif zi s1.1.2.2.1 0 then bif zh x4.2.1.1.2.1 12 then opt (atI s1.2.1 x4.2.1.1.2.1) fun x5=>
          opt (gl s1.2.1 (Int.toNat x4.2.1.1.2.1)) fun x6=>
          some (0,((),((s1.2.1.set (Int.toNat x4.2.1.1.2.1) true),((),()))))
         else none
        else bif !(zi x4.2.1.1.2.1 s1.1.1) then some (1,((),(s1.2.1,((),()))))
         else opt (atI a0.2.1 s1.1.1) fun x7=>
          bif x7 then some (1,((),(s1.2.1,((),()))))
          else some (0,((),(s1.2.1,((),()))))) fun x8=>
       bif Nat.beq x8.1 0 then bif zh x4.2.1.1.2.2 12 then opt (atI x8.2.2.1 x4.2.1.1.2.2) fun x9=>
         opt (gl x8.2.2.1 (Int.toNat x4.2.1.1.2.2)) fun x10=>
         bif x10 then some (.inl (1,((s1.1.1,(s1.1.2.1,(s1.1.2.2.1,()))),(x8.2.2.1,((),((),()))))))
         else bif zh x4.2.1.1.2.2 12 then opt (atI x8.2.2.1 x4.2.1.1.2.2) fun x11=>
           opt (gl x8.2.2.1 (Int.toNat x4.2.1.1.2.2)) fun x12=>
           some (.inr ((x4.2.1.1.2.2,((wrF .i64 (s1.1.2.1+1)),((wrF .i64 (s1.1.2.2.1+1)),()))),((x8.2.2.1.set (Int.toNat x4.2.1.1.2.2) true),((),((),())))))
          else none
        else none
       else some (.inl (1,((s1.1.1,(s1.1.2.1,(s1.1.2.2.1,()))),(x8.2.2.1,((),((),()))))))
      else none
   else some (.inl (0,((s1.1.1,(s1.1.2.1,(s1.1.2.2.1,()))),(s1.2.1,((),((),()))))))) zL ((0,(0,(0,()))),((List.replicate 12 false),((),((),()))))) fun x13=>
  bif Nat.beq x13.1 0 then some ((zi x13.2.1.2.1 ((a1.length:Nat):Int)),())
  else some ((zi x13.2.1.2.1 ((a1.length:Nat):Int)),())
 else some (x0.2.1.1,())
abbrev kV:Type:=(VD×(List Int)×Unit)→Option (Bool×Unit)
def zdp:kV:=sF Tryz.prog [] zlI (zR []) 30 157 yX yY
theorem znb (a0) (a1):zdp (a0,a1,())=KB a0 a1:=by kernel_rfl
def yZ:kV:=zdp
theorem zaw:Con.Ok Tryz.prog 157 ⟨yX,yY,yZ⟩:=zC zo zr (by kernel_rfl)
theorem ziN (a0) (a1):yZ (a0,a1,())=KB  a0 a1:=znb  a0 a1
abbrev km:List VT:=[⟨true,zw⟩,⟨false,(.list I)⟩]
abbrev kn:List VT:=[⟨false,I⟩]
def zuR:zV:=zS [cdF zw,cdF zP] [] [] [] [37,157]
def zdZ (zZ:yT) (jA:kV) (a0:zN) (a1:(List Int)):Option (Int×Unit):=
 opt (zZ (a0,())) fun x0=>
 bif !(zi x0.1 0) then some (x0.1,())
 else opt (jA (a0,(a1,()))) fun x1=>
  bif !x1.1 then some (310,())
  else some (0,())
abbrev Wn:Type:=(zN×(List Int)×Unit)→Option (Int×Unit)
def zkQ:yT→kV→Wn:=fun zZ jA=>sF Tryz.prog [(37,⟨jF,jG,zZ⟩),(157,⟨yX,yY,jA⟩)] zuR (zR []) 30 174 km kn
theorem zw0 (zZ) (jA) (a0) (a1):zkQ zZ jA (a0,a1,())=zdZ zZ jA a0 a1:=by kernel_rfl
def ko:Wn:=zkQ jm yZ
theorem zfZ:Con.Ok Tryz.prog 174 ⟨km,kn,ko⟩:=zC (ze Ql (ze zaw zo)) zr (by kernel_rfl)
theorem zqR (a0) (a1):ko (a0,a1,())=zdZ jm yZ a0 a1:=zw0 jm yZ a0 a1
abbrev Qx:List VT:=[⟨true,zw⟩,⟨false,(.list I)⟩]
abbrev Qy:List VT:=[⟨false,(.list I)⟩,⟨false,I⟩]
def zuS:zV:=zS [cdF zw,cdF zP] [] [⟨3,23,some 6,I,false⟩,⟨3,23,some 8,I,false⟩] [] [174]
def zd0 (ji:kU) (yM:Wn) (a0:zN) (a1:(List Int)):Option ((List Int)×Int×Unit):=
 opt (yM (a0,(a1,()))) fun x0=>
 bif !(zi x0.1 0) then some ([],(x0.1,()))
 else opt (ji (a0,(a1,()))) fun x1=>
  some (x1.1,(0,()))
abbrev Gk:Type:=(zN×(List Int)×Unit)→Option ((List Int)×Int×Unit)
def zkR:kU→Wn→Gk:=fun ji yM=>sF Tryz.prog [(176,⟨yU,yV,ji⟩),(174,⟨km,kn,yM⟩)] zuS (zR []) 30 173 Qx Qy
theorem zw1 (ji) (yM) (a0) (a1):zkR ji yM (a0,a1,())=zd0 ji yM a0 a1:=by kernel_rfl
def Wo:Gk:=zkR yW ko
theorem zqS:Con.Ok Tryz.prog 173 ⟨Qx,Qy,Wo⟩:=zC (ze zav (ze zfZ zo)) zr (by kernel_rfl)
theorem zqT (a0) (a1):Wo (a0,a1,())=zd0 yW ko a0 a1:=zw1 yW ko a0 a1
abbrev Js:List VT:=[⟨true,zw⟩,⟨false,(.list I)⟩]
abbrev Jt:List VT:=[⟨false,I⟩,⟨false,I⟩,⟨false,I⟩]
def zw2:zV:=zS [cdF zw,cdF zP] [] [] [] []
def zf0 (WA:Gk) (a0:zN) (a1:(List Int)):Option (Int×Int×Int×Unit):=
 opt (WA (a0,(a1,()))) fun x0=>
 bif !(zi x0.2.1 0) then some (0,(0,(x0.2.1,())))
 else opt (atI x0.1 0) fun x1=>
  opt (atI x0.1 (wrF .i64 (((x0.1.length:Nat):Int) - 1))) fun x2=>
  some (x1,(x2,(0,())))
abbrev zbg:Type:=(zN×(List Int)×Unit)→Option (Int×Int×Int×Unit)
def znc:Gk→zbg:=fun WA=>sF Tryz.prog [(173,⟨Qx,Qy,WA⟩)] zw2 (zR []) 30 154 Js Jt
theorem zzC (WA) (a0) (a1):znc WA (a0,a1,())=zf0 WA a0 a1:=by kernel_rfl
def YY:zbg:=znc Wo
theorem zsR:Con.Ok Tryz.prog 154 ⟨Js,Jt,YY⟩:=zC (ze zqS zo) zr (by kernel_rfl)
theorem zsS (a0) (a1):YY (a0,a1,())=zf0 Wo a0 a1:=zzC Wo a0 a1
abbrev Zu:List VT:=[⟨true,zw⟩,⟨false,(.list I)⟩,⟨false,I⟩,⟨false,I⟩]
abbrev Zv:List VT:=[⟨false,.bool⟩]
def zsT:zV:=zS [cdF zw,cdF zP] [] [] [] [154]
def zcE (Xz:zbg) (a0:zN) (a1:(List Int)) (a2:Int) (a3:Int):Option (Bool×Unit):=
 opt (Xz (a0,(a1,()))) fun x0=>
 bif zi x0.2.2.1 0 then bif zi x0.1 a2 then some ((zi x0.2.1 a3),())
  else some (false,())
 else some (false,())
abbrev Uk:Type:=(zN×(List Int)×Int×Int×Unit)→Option (Bool×Unit)
def ziO:zbg→Uk:=fun Xz=>sF Tryz.prog [(154,⟨Js,Jt,Xz⟩)] zsT (zR []) 30 125 Zu Zv
theorem zuT (Xz) (a0) (a1) (a2) (a3):ziO Xz (a0,a1,a2,a3,())=zcE Xz a0 a1 a2 a3:=by kernel_rfl
def Zw:Uk:=ziO YY
theorem zoS:Con.Ok Tryz.prog 125 ⟨Zu,Zv,Zw⟩:=zC (ze zsR zo) zr (by kernel_rfl)
theorem zoT (a0) (a1) (a2) (a3):Zw (a0,a1,a2,a3,())=zcE YY a0 a1 a2 a3:=zuT YY a0 a1 a2 a3
abbrev Zx:List VT:=[⟨false,(.list I)⟩,⟨false,(.list I)⟩]
abbrev Zy:List VT:=[⟨false,.bool⟩]
def zsU:zV:=zS [] [] [] [] []
def zcF (a0:(List Int)) (a1:(List Int)):Option (Bool×Unit):=
 opt (zz (fun s0:((Bool×(Int×Unit))×Unit)=>
  bif (zh s0.1.2.1 ((a0.length:Nat):Int)) then opt (atI a0 s0.1.2.1) fun x1=>
   opt (zz (fun s2:((Bool×(Int×Unit))×Unit)=>
    bif (zh s2.1.2.1 ((a1.length:Nat):Int)) then opt (atI a1 s2.1.2.1) fun x3=>
     bif (zi (wrF .i64 (Int.tdiv x1 2)) (wrF .i64 (Int.tdiv x3 2))) then some (.inl (1,((true,(s2.1.2.1,())),())))
     else some (.inr ((s2.1.1,((wrF .i64 (s2.1.2.1+1)),())),()))
    else some (.inl (0,((s2.1.1,(s2.1.2.1,())),())))) zL ((s0.1.1,(0,())),())) fun x4=>
   bif Nat.beq x4.1 0 then some (.inr ((x4.2.1.1,((wrF .i64 (s0.1.2.1+1)),())),()))
   else some (.inl (1,((x4.2.1.1,(s0.1.2.1,())),())))
  else some (.inl (0,((s0.1.1,(s0.1.2.1,())),())))) zL ((false,(0,())),())) fun x5=>
 bif Nat.beq x5.1 0 then some (false,())
 else some (x5.2.1.1,())
abbrev Ul:Type:=((List Int)×(List Int)×Unit)→Option (Bool×Unit)
def ziP:Ul:=sF Tryz.prog [] zsU (zR []) 30 158 Zx Zy
theorem zuU (a0) (a1):ziP (a0,a1,())=zcF a0 a1:=by kernel_rfl
def QV:Ul:=ziP
theorem zoU:Con.Ok Tryz.prog 158 ⟨Zx,Zy,QV⟩:=zC zo zr (by kernel_rfl)
theorem zoV (a0) (a1):QV (a0,a1,())=zcF  a0 a1:=zuU  a0 a1
abbrev yq:List VT:=[⟨false,(.list I)⟩,⟨false,I⟩]
abbrev yr:List VT:=[⟨false,I⟩]
def ze6:zV:=zS [] [] [] [] []
def Ju (a0:(List Int)) (a1:Int):Option (Int×Unit):=
 opt (zz (fun s0:((Int×(Int×Unit))×Unit)=>
  bif (zh s0.1.2.1 ((a0.length:Nat):Int)) then opt (atI a0 s0.1.2.1) fun x1=>
   bif zi a1 x1 then some (.inl (1,((s0.1.2.1,(s0.1.2.1,())),())))
   else some (.inr ((s0.1.1,((wrF .i64 (s0.1.2.1+1)),())),()))
  else some (.inl (0,((s0.1.1,(s0.1.2.1,())),())))) zL ((0,(0,())),())) fun x2=>
 bif Nat.beq x2.1 0 then some ((-1),())
 else some (x2.2.1.1,())
abbrev gu:Type:=((List Int)×Int×Unit)→Option (Int×Unit)
def KD:gu:=sF Tryz.prog [] ze6 (zR []) 30 190 yq yr
theorem zf1 (a0) (a1):KD (a0,a1,())=Ju a0 a1:=by kernel_rfl
def xy:gu:=KD
theorem zdq:Con.Ok Tryz.prog 190 ⟨yq,yr,xy⟩:=zC zo zr (by kernel_rfl)
theorem zdr (a0) (a1):xy (a0,a1,())=Ju  a0 a1:=zf1  a0 a1
abbrev wB:List VT:=[⟨false,(.list I)⟩,⟨false,I⟩]
abbrev wC:List VT:=[⟨false,.bool⟩]
def zcG:zV:=zS [] [] [] [] [190]
def ZU (xE:gu) (a0:(List Int)) (a1:Int):Option (Bool×Unit):=
 opt (xE (a0,(a1,()))) fun x0=>
 some ((!(zh x0.1 0)),())
abbrev uM:Type:=((List Int)×Int×Unit)→Option (Bool×Unit)
def XI:gu→uM:=fun xE=>sF Tryz.prog [(190,⟨yq,yr,xE⟩)] zcG (zR []) 30 177 wB wC
theorem zds (xE) (a0) (a1):XI xE (a0,a1,())=ZU xE a0 a1:=by kernel_rfl
def yz:uM:=XI xy
theorem zbh:Con.Ok Tryz.prog 177 ⟨wB,wC,yz⟩:=zC (ze zdq zo) zr (by kernel_rfl)
theorem zbi (a0) (a1):yz (a0,a1,())=ZU xy a0 a1:=zds xy a0 a1
abbrev vN:List VT:=[⟨true,YR⟩,⟨false,(.list I)⟩,⟨false,(.list I)⟩]
abbrev vO:List VT:=[⟨false,.bool⟩]
def zlJ:zV:=zS [cdF YR] [] [] [] [177]
def KE (ji:kU) (yA:uM) (a0:VD) (a1:(List Int)) (a2:(List Int)):Option (Bool×Unit):=
 opt (ji (a0,(a1,()))) fun x0=>
 opt (ji (a0,(a2,()))) fun x1=>
 opt (XO x0.1 (some 1) (some (wrF .i64 (((x0.1.length:Nat):Int) - 1))) (some (wrF .i64 (((x0.1.length:Nat):Int) - 1)))) fun x2=>
 opt (zz (fun s3:((Bool×(Int×Unit))×Unit)=>
  bif (zh s3.1.2.1 ((x2.length:Nat):Int)) then opt (atI x2 s3.1.2.1) fun x4=>
   opt (yA (x1.1,(x4,()))) fun x5=>
   bif x5.1 then some (.inl (1,((true,(s3.1.2.1,())),())))
   else some (.inr ((s3.1.1,((wrF .i64 (s3.1.2.1+1)),())),()))
  else some (.inl (0,((s3.1.1,(s3.1.2.1,())),())))) zL ((false,(0,())),())) fun x6=>
 bif Nat.beq x6.1 0 then some (false,())
 else some (x6.2.1.1,())
abbrev WY:Type:=(VD×(List Int)×(List Int)×Unit)→Option (Bool×Unit)
def zdt:kU→uM→WY:=fun ji yA=>sF Tryz.prog [(176,⟨yU,yV,ji⟩),(177,⟨wB,wC,yA⟩)] zlJ (zR []) 30 159 vN vO
theorem znd (ji) (yA) (a0) (a1) (a2):zdt ji yA (a0,a1,a2,())=KE ji yA a0 a1 a2:=by kernel_rfl
def kW:WY:=zdt yW yz
theorem ziQ:Con.Ok Tryz.prog 159 ⟨vN,vO,kW⟩:=zC (ze zav (ze zbh zo)) zr (by kernel_rfl)
theorem ziR (a0) (a1) (a2):kW (a0,a1,a2,())=KE yW yz a0 a1 a2:=znd yW yz a0 a1 a2
abbrev Qz:List VT:=[⟨true,zw⟩,⟨false,(.list I)⟩,⟨false,(.list I)⟩]
abbrev QA:List VT:=[⟨false,.bool⟩,⟨false,I⟩]
def zuV:zV:=zS [cdF zw,cdF zP] [] [] [] [157,158,159,174]
def zd1 (jA:kV) (Jc:Ul) (vU:WY) (yM:Wn) (a0:zN) (a1:(List Int)) (a2:(List Int)):Option (Bool×Int×Unit):=
 opt (yM (a0,(a1,()))) fun x0=>
 bif !(zi x0.1 0) then some (false,(x0.1,()))
 else opt (jA (a0,(a2,()))) fun x1=>
  bif !x1.1 then some (false,(310,()))
  else opt (Jc (a1,(a2,()))) fun x2=>
   bif !x2.1 then opt (vU (a0,(a1,(a2,())))) fun x3=>
    bif !x3.1 then opt (vU (a0,(a2,(a1,())))) fun x4=>
     some ((!x4.1),(0,()))
    else some (false,(0,()))
   else some (false,(0,()))
abbrev Gl:Type:=(zN×(List Int)×(List Int)×Unit)→Option (Bool×Int×Unit)
def zkS:kV→Ul→WY→Wn→Gl:=fun jA Jc vU yM=>sF Tryz.prog [(157,⟨yX,yY,jA⟩),(158,⟨Zx,Zy,Jc⟩),(159,⟨vN,vO,vU⟩),(174,⟨km,kn,yM⟩)] zuV (zR []) 30 127 Qz QA
theorem zw3 (jA) (Jc) (vU) (yM) (a0) (a1) (a2):zkS jA Jc vU yM (a0,a1,a2,())=zd1 jA Jc vU yM a0 a1 a2:=by kernel_rfl
def Zc:Gl:=zkS yZ QV kW ko
theorem zqU:Con.Ok Tryz.prog 127 ⟨Qz,QA,Zc⟩:=zC (ze zaw (ze zoU (ze ziQ (ze zfZ zo)))) zr (by kernel_rfl)
theorem zqV (a0) (a1) (a2):Zc (a0,a1,a2,())=zd1 yZ QV kW ko a0 a1 a2:=zw3 yZ QV kW ko a0 a1 a2
abbrev ug:List VT:=[⟨true,zw⟩,⟨true,zv⟩]
abbrev uh:List VT:=[⟨false,.bool⟩]
def zsV:zV:=zS [cdF zv,cdF zw,cdF zP,cdF zm] [] [] [] [67,119,84,125,127]
def zcH (qe:vM) (kQ:XZ) (qo:vp) (ZI:Uk) (kC:Gl) (a0:zN) (a1:zO):Option (Bool×Unit):=
 opt (qe (a1.1,(1,(4095,())))) fun x0=>
 bif !x0.1 then some (false,())
 else opt (kQ (a0,(a1.2.1,()))) fun x1=>
  bif x1.1 then opt (kQ (a0,(a1.2.2.1,()))) fun x2=>
   bif x2.1 then bif (!(!(zi a1.2.1 a1.2.2.1))) then some (false,())
    else opt (qe (a1.2.2.2.2.1,(84,(1542,())))) fun x3=>
     bif !x3.1 then some (false,())
     else opt (qe (a1.2.2.2.2.2.2.2.1,(1,(1099511627776,())))) fun x4=>
      bif !x4.1 then some (false,())
      else bif zi a1.2.2.2.1 7 then opt (qe (a1.2.2.2.2.2.1,(1,(240,())))) fun x5=>
        bif x5.1 then bif (!((zi a1.2.2.2.2.2.2.1.1 0)&&((zi a1.2.2.2.2.2.2.1.2 0)&&true))) then some (false,())
         else opt (qe (((a1.2.2.2.2.2.2.2.2.length:Nat):Int),(1,(2,())))) fun x6=>
          bif !x6.1 then some (false,())
          else opt (zz (fun s7:((Bool×(Int×Unit))×Unit)=>
            bif (zh s7.1.2.1 ((a1.2.2.2.2.2.2.2.2.length:Nat):Int)) then opt (atI a1.2.2.2.2.2.2.2.2 s7.1.2.1) fun x8=>
             opt (ZI (a0,(x8,(a1.2.1,(a1.2.2.1,()))))) fun x9=>
             bif !x9.1 then some (.inl (1,((false,(s7.1.2.1,())),())))
             else some (.inr ((s7.1.1,((wrF .i64 (s7.1.2.1+1)),())),()))
            else some (.inl (0,((s7.1.1,(s7.1.2.1,())),())))) zL ((false,(0,())),())) fun x10=>
           bif Nat.beq x10.1 0 then bif (zh ((a1.2.2.2.2.2.2.2.2.length:Nat):Int) 2) then some (true,())
            else opt (atI a1.2.2.2.2.2.2.2.2 0) fun x11=>
             opt (atI a1.2.2.2.2.2.2.2.2 1) fun x12=>
             opt (kC (a0,(x11,(x12,())))) fun x13=>
             bif zi x13.2.1 0 then bif !x13.1 then some (false,())
              else some (true,())
             else some (false,())
           else bif !x10.2.1.1 then some (false,())
            else bif (zh ((a1.2.2.2.2.2.2.2.2.length:Nat):Int) 2) then some (true,())
             else opt (atI a1.2.2.2.2.2.2.2.2 0) fun x14=>
              opt (atI a1.2.2.2.2.2.2.2.2 1) fun x15=>
              opt (kC (a0,(x14,(x15,())))) fun x16=>
              bif zi x16.2.1 0 then bif !x16.1 then some (false,())
               else some (true,())
              else some (false,())
        else some (false,())
       else bif zi a1.2.2.2.1 6 then bif zi a1.2.2.2.2.2.1 0 then opt (qo (a1.2.2.2.2.2.2.1,())) fun x17=>
          bif zi x17.1 0 then bif (!(!(zh a1.2.2.2.2.2.2.1.1 a1.2.2.2.2.1))) then some (false,())
           else opt (qe (((a1.2.2.2.2.2.2.2.2.length:Nat):Int),(1,(2,())))) fun x18=>
            bif !x18.1 then some (false,())
            else opt (zz (fun s19:((Bool×(Int×Unit))×Unit)=>
              bif (zh s19.1.2.1 ((a1.2.2.2.2.2.2.2.2.length:Nat):Int)) then opt (atI a1.2.2.2.2.2.2.2.2 s19.1.2.1) fun x20=>
               opt (ZI (a0,(x20,(a1.2.1,(a1.2.2.1,()))))) fun x21=>
               bif !x21.1 then some (.inl (1,((false,(s19.1.2.1,())),())))
               else some (.inr ((s19.1.1,((wrF .i64 (s19.1.2.1+1)),())),()))
              else some (.inl (0,((s19.1.1,(s19.1.2.1,())),())))) zL ((false,(0,())),())) fun x22=>
             bif Nat.beq x22.1 0 then bif (zh ((a1.2.2.2.2.2.2.2.2.length:Nat):Int) 2) then some (true,())
              else opt (atI a1.2.2.2.2.2.2.2.2 0) fun x23=>
               opt (atI a1.2.2.2.2.2.2.2.2 1) fun x24=>
               opt (kC (a0,(x23,(x24,())))) fun x25=>
               bif zi x25.2.1 0 then bif !x25.1 then some (false,())
                else some (true,())
               else some (false,())
             else bif !x22.2.1.1 then some (false,())
              else bif (zh ((a1.2.2.2.2.2.2.2.2.length:Nat):Int) 2) then some (true,())
               else opt (atI a1.2.2.2.2.2.2.2.2 0) fun x26=>
                opt (atI a1.2.2.2.2.2.2.2.2 1) fun x27=>
                opt (kC (a0,(x26,(x27,())))) fun x28=>
                bif zi x28.2.1 0 then bif !x28.1 then some (false,())
                 else some (true,())
                else some (false,())
          else some (false,())
         else some (false,())
        else some (false,())
   else some (false,())
  else some (false,())
abbrev QW:Type:=(zN×zO×Unit)→Option (Bool×Unit)
def ziS:vM→XZ→vp→Uk→Gl→QW:=fun qe kQ qo ZI kC=>sF Tryz.prog [(67,⟨yn,yp,qe⟩),(119,⟨kI,kJ,kQ⟩),(84,⟨ye,yf,qo⟩),(125,⟨Zu,Zv,ZI⟩),(127,⟨Qz,QA,kC⟩)] zsV (zR []) 30 82 ug uh
theorem zuW (qe) (kQ) (qo) (ZI) (kC) (a0) (a1):ziS qe kQ qo ZI kC (a0,a1,())=zcH qe kQ qo ZI kC a0 a1:=by kernel_rfl
def ui:QW:=ziS wO Zt we Zw Zc
theorem zey:Con.Ok Tryz.prog 82 ⟨ug,uh,ui⟩:=zC (ze VO (ze zlE (ze Yy (ze zoS (ze zqU zo))))) zr (by kernel_rfl)
theorem zoW (a0) (a1):ui (a0,a1,())=zcH wO Zt we Zw Zc a0 a1:=zuW wO Zt we Zw Zc a0 a1
abbrev wU:List VT:=[⟨true,zw⟩,⟨false,(.list zv)⟩]
abbrev wW:List VT:=[⟨false,I⟩]
def zne:zV:=zS [cdF zv,cdF zw,cdF zP,cdF zm] [] [] [] [37,82]
def Uz (zZ:yT) (yh:QW) (a0:zN) (a1:(List zO)):Option (Int×Unit):=
 opt (zZ (a0,())) fun x0=>
 bif !(zi x0.1 0) then some (x0.1,())
 else bif (zh 12 ((a1.length:Nat):Int)) then some (3,())
  else opt (zz (fun s1:((Int×(Int×Unit))×Unit)=>
    bif (zh s1.1.2.1 ((a1.length:Nat):Int)) then opt (atI a1 s1.1.2.1) fun x2=>
     opt (yh (a0,(x2,()))) fun x3=>
     bif !x3.1 then some (.inl (1,((321,(s1.1.2.1,())),())))
     else some (.inr ((s1.1.1,((wrF .i64 (s1.1.2.1+1)),())),()))
    else some (.inl (0,((s1.1.1,(s1.1.2.1,())),())))) zL ((0,(0,())),())) fun x4=>
   bif Nat.beq x4.1 0 then opt (zz (fun s5:((Int×(Int×Unit))×((List (Int×Bool))×Unit))=>
     bif (zh s5.1.2.1 ((a1.length:Nat):Int)) then opt (atI a1 s5.1.2.1) fun x6=>
      bif mpD (α:=Bool) s5.2.1 x6.1 false then some (.inl (1,((322,(s5.1.2.1,())),(s5.2.1,()))))
      else some (.inr ((s5.1.1,((wrF .i64 (s5.1.2.1+1)),())),((mpP (α:=Bool) s5.2.1 x6.1 true),())))
     else some (.inl (0,((s5.1.1,(s5.1.2.1,())),(s5.2.1,()))))) zL ((x4.2.1.1,(0,())),([],()))) fun x7=>
    bif Nat.beq x7.1 0 then some (0,())
    else some (x7.2.1.1,())
   else some (x4.2.1.1,())
abbrev vu:Type:=(zN×(List zO)×Unit)→Option (Int×Unit)
def zez:yT→QW→vu:=fun zZ yh=>sF Tryz.prog [(37,⟨jF,jG,zZ⟩),(82,⟨ug,uh,yh⟩)] zne (zR []) 30 72 wU wW
theorem zoX (zZ) (yh) (a0) (a1):zez zZ yh (a0,a1,())=Uz zZ yh a0 a1:=by kernel_rfl
def wm:vu:=zez jm ui
theorem Va:Con.Ok Tryz.prog 72 ⟨wU,wW,wm⟩:=zC (ze Ql (ze zey zo)) zr (by kernel_rfl)
theorem zj9 (a0) (a1):wm (a0,a1,())=Uz jm ui a0 a1:=zoX jm ui a0 a1
abbrev wh:List VT:=[⟨false,(.list I)⟩,⟨false,I⟩]
abbrev wi:List VT:=[⟨false,I⟩]
def zbV:zV:=zS [] [] [] [] []
def Zz (a0:(List Int)) (a1:Int):Option (Int×Unit):=
 opt (zz (fun s0:((Int×(Int×Unit))×Unit)=>
  bif (zh s0.1.2.1 ((a0.length:Nat):Int)) then opt (atI a0 s0.1.2.1) fun x1=>
   bif zi a1 x1 then some (.inl (1,((s0.1.2.1,(s0.1.2.1,())),())))
   else some (.inr ((s0.1.1,((wrF .i64 (s0.1.2.1+1)),())),()))
  else some (.inl (0,((s0.1.1,(s0.1.2.1,())),())))) zL ((0,(0,())),())) fun x2=>
 bif Nat.beq x2.1 0 then some ((-1),())
 else some (x2.2.1.1,())
abbrev uj:Type:=((List Int)×Int×Unit)→Option (Int×Unit)
def YZ:uj:=sF Tryz.prog [] zbV (zR []) 30 162 wh wi
theorem zcI (a0) (a1):YZ (a0,a1,())=Zz a0 a1:=by kernel_rfl
def yg:uj:=YZ
theorem zaA:Con.Ok Tryz.prog 162 ⟨wh,wi,yg⟩:=zC zo zr (by kernel_rfl)
theorem zaB (a0) (a1):yg (a0,a1,())=Zz  a0 a1:=zcI  a0 a1
abbrev qA:List VT:=[⟨false,(.list I)⟩,⟨false,I⟩]
abbrev qB:List VT:=[⟨false,.bool⟩]
def GQ:zV:=zS [] [] [] [] [162]
def gb (yi:uj) (a0:(List Int)) (a1:Int):Option (Bool×Unit):=
 opt (yi (a0,(a1,()))) fun x0=>
 some ((!(zh x0.1 0)),())
abbrev jc:Type:=((List Int)×Int×Unit)→Option (Bool×Unit)
def JY:uj→jc:=fun yi=>sF Tryz.prog [(162,⟨wh,wi,yi⟩)] GQ (zR []) 30 136 qA qB
theorem zaC (yi) (a0) (a1):JY yi (a0,a1,())=gb yi a0 a1:=by kernel_rfl
def qd:jc:=JY yg
theorem uv:Con.Ok Tryz.prog 136 ⟨qA,qB,qd⟩:=zC (ze zaA zo) zr (by kernel_rfl)
theorem UA (a0) (a1):qd (a0,a1,())=gb yg a0 a1:=zaC yg a0 a1
abbrev ZA:List VT:=[⟨true,Uf⟩]
abbrev ZB:List VT:=[⟨false,I⟩]
def zsW:zV:=zS [cdF Uf,cdF zP] [] [] [] []
def zcJ (a0:zhf):Option (Int×Unit):=
 some (a0.1.2.2.1,())
abbrev Um:Type:=(zhf×Unit)→Option (Int×Unit)
def ziT:Um:=sF Tryz.prog [] zsW (zR []) 30 138 ZA ZB
theorem zuX (a0):ziT (a0,())=zcJ a0:=by kernel_rfl
def Xa:Um:=ziT
theorem zoY:Con.Ok Tryz.prog 138 ⟨ZA,ZB,Xa⟩:=zC zo zr (by kernel_rfl)
theorem zoZ (a0):Xa (a0,())=zcJ  a0:=zuX  a0
abbrev gv:List VT:=[⟨true,zw⟩,⟨false,I⟩]
abbrev gw:List VT:=[⟨false,I⟩,⟨false,I⟩]
def zAL:zV:=zS [cdF zw,cdF Uf,cdF zP] [] [] [] [37,138]
def zka (zZ:yT) (Jd:Um) (a0:zN) (a1:Int):Option (Int×Int×Unit):=
 opt (zZ (a0,())) fun x0=>
 bif !(zi x0.1 0) then some (0,(x0.1,()))
 else opt (bif zh a1 0 then some (1,((0,(2,())),()))
   else bif (!(zh a1 (wrF .i64 (2*((a0.2.2.length:Nat):Int))))) then some (1,((0,(2,())),()))
    else some (0,((0,(0,())),()))) fun x1=>
  bif Nat.beq x1.1 0 then opt (atI a0.2.2 (wrF .i64 (Int.tdiv a1 2))) fun x2=>
   opt (Jd ((x2,a1),())) fun x3=>
   some (x3.1,(0,()))
  else some (x1.2.1.1,(x1.2.1.2.1,()))
abbrev WZ:Type:=(zN×Int×Unit)→Option (Int×Int×Unit)
def zsX:yT→Um→WZ:=fun zZ Jd=>sF Tryz.prog [(37,⟨jF,jG,zZ⟩),(138,⟨ZA,ZB,Jd⟩)] zAL (zR []) 30 100 gv gw
theorem zCK (zZ) (Jd) (a0) (a1):zsX zZ Jd (a0,a1,())=zka zZ Jd a0 a1:=by kernel_rfl
def xa:WZ:=zsX jm Xa
theorem zd2:Con.Ok Tryz.prog 100 ⟨gv,gw,xa⟩:=zC (ze Ql (ze zoY zo)) zr (by kernel_rfl)
theorem zw4 (a0) (a1):xa (a0,a1,())=zka jm Xa a0 a1:=zCK jm Xa a0 a1
abbrev gx:List VT:=[⟨true,zQ⟩,⟨false,I⟩,⟨false,I⟩]
abbrev gy:List VT:=[⟨false,I⟩]
def zqW:zV:=zS [cdF zQ,cdF qg] [] [] [] [39]
def zbj (jf:gZ) (a0:qx) (a1:Int) (a2:Int):Option (Int×Unit):=
 opt (jf (a0,())) fun x0=>
 bif !(zi x0.1 0) then some (x0.1,())
 else opt (bif zh a1 1 then some (1,((2,()),()))
   else bif zh 1000 a1 then some (1,((2,()),()))
    else bif zh a2 84 then some (1,((2,()),()))
     else bif zh 1542 a2 then some (1,((2,()),()))
      else some (0,((0,()),()))) fun x1=>
  bif Nat.beq x1.1 0 then some (0,())
  else some (x1.2.1.1,())
abbrev Ka:Type:=(qx×Int×Int×Unit)→Option (Int×Unit)
def zhj:gZ→Ka:=fun jf=>sF Tryz.prog [(39,⟨xZ,ve,jf⟩)] zqW (zR []) 30 139 gx gy
theorem zsY (jf) (a0) (a1) (a2):zhj jf (a0,a1,a2,())=zbj jf a0 a1 a2:=by kernel_rfl
def Qm:Ka:=zhj xn
theorem znf:Con.Ok Tryz.prog 139 ⟨gx,gy,Qm⟩:=zC (ze GO zo) zr (by kernel_rfl)
theorem zng (a0) (a1) (a2):Qm (a0,a1,a2,())=zbj xn a0 a1 a2:=zsY xn a0 a1 a2
abbrev QB:List VT:=[⟨true,zQ⟩,⟨false,I⟩,⟨false,I⟩,⟨false,I⟩]
abbrev QC:List VT:=[⟨false,I⟩]
def zuY:zV:=zS [cdF zQ,cdF qg] [] [] [] [39]
def zd3 (jf:gZ) (a0:qx) (a1:Int) (a2:Int) (a3:Int):Option (Int×Unit):=
 opt (jf (a0,())) fun x0=>
 bif !(zi x0.1 0) then some (x0.1,())
 else opt (bif zh a1 0 then some (1,((2,()),()))
   else bif !(zh a1 8) then some (1,((2,()),()))
    else bif zh a2 (-1099511627776) then some (1,((2,()),()))
     else bif zh 1099511627776 a2 then some (1,((2,()),()))
      else bif zh a3 0 then some (1,((2,()),()))
       else bif zh 1099511627776 a3 then some (1,((2,()),()))
        else some (0,((0,()),()))) fun x1=>
  bif Nat.beq x1.1 0 then some (0,())
  else some (x1.2.1.1,())
abbrev Gm:Type:=(qx×Int×Int×Int×Unit)→Option (Int×Unit)
def zkT:gZ→Gm:=fun jf=>sF Tryz.prog [(39,⟨xZ,ve,jf⟩)] zuY (zR []) 30 191 QB QC
theorem zw5 (jf) (a0) (a1) (a2) (a3):zkT jf (a0,a1,a2,a3,())=zd3 jf a0 a1 a2 a3:=by kernel_rfl
def Wp:Gm:=zkT xn
theorem zqX:Con.Ok Tryz.prog 191 ⟨QB,QC,Wp⟩:=zC (ze GO zo) zr (by kernel_rfl)
theorem zqY (a0) (a1) (a2) (a3):Wp (a0,a1,a2,a3,())=zd3 xn a0 a1 a2 a3:=zw5 xn a0 a1 a2 a3
abbrev Jv:List VT:=[⟨true,zQ⟩,⟨false,I⟩]
abbrev Jw:List VT:=[⟨false,I⟩,⟨false,I⟩]
def zw6:zV:=zS [cdF zQ,cdF qg] [] [] [] []
def zf2 (a0:qx) (a1:Int):Option (Int×Int×Unit):=
 bif zi a0.2 0 then none
 else bif zi a0.2 0 then none
  else opt (atI a0.1 0) fun x0=>
   bif (!(zh (Int.tmod (wrF .i64 ((Int.tmod a1 a0.2)+a0.2)) a0.2) x0.2)) then opt (atI a0.1 0) fun x1=>
    opt (zz (fun s2:((Int×(Int×(Int×Unit)))×Unit)=>
     opt (atI a0.1 s2.1.2.1) fun x3=>
     bif !(zh s2.1.1 x3.2) then opt (atI a0.1 s2.1.2.1) fun x4=>
      some (.inr (((wrF .i64 (s2.1.1 - x4.2)),((wrF .i64 (s2.1.2.1+1)),(s2.1.2.2.1,()))),()))
     else opt (atI a0.1 s2.1.2.1) fun x5=>
      some (.inl (0,((s2.1.1,(s2.1.2.1,((wrF .i64 (x5.2 - s2.1.1)),()))),())))) zL (((wrF .i64 ((Int.tmod (wrF .i64 ((Int.tmod a1 a0.2)+a0.2)) a0.2) - x1.2)),(1,(0,()))),())) fun x6=>
    some (x6.2.1.2.1,(x6.2.1.2.2.1,()))
   else opt (atI a0.1 0) fun x7=>
    some (0,((wrF .i64 (x7.2 - (Int.tmod (wrF .i64 ((Int.tmod a1 a0.2)+a0.2)) a0.2))),()))
abbrev zbk:Type:=(qx×Int×Unit)→Option (Int×Int×Unit)
def znh:zbk:=sF Tryz.prog [] zw6 (zR []) 30 197 Jv Jw
theorem zzD (a0) (a1):znh (a0,a1,())=zf2 a0 a1:=by kernel_rfl
def Xb:zbk:=znh
theorem zsZ:Con.Ok Tryz.prog 197 ⟨Jv,Jw,Xb⟩:=zC zo zr (by kernel_rfl)
theorem zs0 (a0) (a1):Xb (a0,a1,())=zf2  a0 a1:=zzD  a0 a1
abbrev Jx:List VT:=[⟨true,zQ⟩,⟨false,I⟩,⟨false,I⟩]
abbrev Jy:List VT:=[⟨false,I⟩]
def zw7:zV:=zS [cdF zQ,cdF qg] [] [] [] [197]
def zf3 (XA:zbk) (a0:qx) (a1:Int) (a2:Int):Option (Int×Unit):=
 opt (XA (a0,(a2,()))) fun x0=>
 opt (zz (fun s1:((Int×(((List (Int×Int))×Int)×(Int×(Int×(Int×(Int×(Int×Unit)))))))×Unit)=>
  bif (zh s1.1.2.2.2.2.2.2.1 (wrF .i64 (((a0.1.length:Nat):Int)+1))) then opt (atI s1.1.2.1.1 s1.1.2.2.2.2.1) fun x2=>
   bif zh s1.1.1 0 then none
   else bif (!(zi (gp .and .i64 (wH .i64 x2.1 s1.1.1) 1) 1)) then some (.inl (1,((s1.1.1,(s1.1.2.1,(s1.1.2.2.2.1,(s1.1.2.2.2.1,(s1.1.2.2.2.2.1,(s1.1.2.2.2.2.2.1,(s1.1.2.2.2.2.2.2.1,()))))))),())))
    else bif (zi ((s1.1.2.1.1.length:Nat):Int) 0) then none
     else opt (atI s1.1.2.1.1 (Int.tmod (wrF .i64 (s1.1.2.2.2.2.1+1)) ((s1.1.2.1.1.length:Nat):Int))) fun x3=>
      some (.inr ((s1.1.1,(s1.1.2.1,(s1.1.2.2.1,((wrF .i64 (s1.1.2.2.2.1+s1.1.2.2.2.2.2.1)),((Int.tmod (wrF .i64 (s1.1.2.2.2.2.1+1)) ((s1.1.2.1.1.length:Nat):Int)),(x3.2,((wrF .i64 (s1.1.2.2.2.2.2.2.1+1)),()))))))),()))
  else some (.inl (0,((s1.1.1,(s1.1.2.1,(s1.1.2.2.1,(s1.1.2.2.2.1,(s1.1.2.2.2.2.1,(s1.1.2.2.2.2.2.1,(s1.1.2.2.2.2.2.2.1,()))))))),())))) zL ((a1,(a0,(0,(0,(x0.1,(x0.2.1,(0,()))))))),())) fun x4=>
 bif Nat.beq x4.1 0 then bif zi x4.2.1.2.1.2 a0.2 then some (1099511627776,())
  else some (x4.2.1.2.1.2,())
 else bif zi x4.2.1.2.2.1 a0.2 then some (1099511627776,())
  else some (x4.2.1.2.2.1,())
abbrev zbl:Type:=(qx×Int×Int×Unit)→Option (Int×Unit)
def zni:zbk→zbl:=fun XA=>sF Tryz.prog [(197,⟨Jv,Jw,XA⟩)] zw7 (zR []) 30 192 Jx Jy
theorem zzE (XA) (a0) (a1) (a2):zni XA (a0,a1,a2,())=zf3 XA a0 a1 a2:=by kernel_rfl
def Xc:zbl:=zni Xb
theorem zs1:Con.Ok Tryz.prog 192 ⟨Jx,Jy,Xc⟩:=zC (ze zsZ zo) zr (by kernel_rfl)
theorem zs2 (a0) (a1) (a2):Xc (a0,a1,a2,())=zf3 Xb a0 a1 a2:=zzE Xb a0 a1 a2
abbrev Jz:List VT:=[⟨true,zQ⟩,⟨false,I⟩,⟨false,I⟩]
abbrev JA:List VT:=[⟨false,I⟩,⟨false,I⟩]
def zw8:zV:=zS [cdF zQ,cdF qg] [] [] [] [191,192]
def zf4 (WB:Gm) (XB:zbl) (a0:qx) (a1:Int) (a2:Int):Option (Int×Int×Unit):=
 opt (WB (a0,(a1,(a2,(0,()))))) fun x0=>
 bif !(zi x0.1 0) then some (0,(x0.1,()))
 else opt (XB (a0,(a1,(a2,())))) fun x1=>
  some (x1.1,(0,()))
abbrev zbm:Type:=(qx×Int×Int×Unit)→Option (Int×Int×Unit)
def znj:Gm→zbl→zbm:=fun WB XB=>sF Tryz.prog [(191,⟨QB,QC,WB⟩),(192,⟨Jx,Jy,XB⟩)] zw8 (zR []) 30 178 Jz JA
theorem zzF (WB) (XB) (a0) (a1) (a2):znj WB XB (a0,a1,a2,())=zf4 WB XB a0 a1 a2:=by kernel_rfl
def Xd:zbm:=znj Wp Xc
theorem zs3:Con.Ok Tryz.prog 178 ⟨Jz,JA,Xd⟩:=zC (ze zqX (ze zs1 zo)) zr (by kernel_rfl)
theorem zs4 (a0) (a1) (a2):Xd (a0,a1,a2,())=zf4 Wp Xc a0 a1 a2:=zzF Wp Xc a0 a1 a2
abbrev kK:List VT:=[⟨true,zQ⟩]
abbrev kL:List VT:=[⟨false,.bool⟩]
def zo0:zV:=zS [cdF zQ,cdF qg] [] [] [] [178]
def GR (XC:zbm) (a0:qx):Option (Bool×Unit):=
 opt (XC (a0,(6,(0,())))) fun x0=>
 bif zi x0.2.1 0 then some ((zi x0.1 1099511627776),())
 else some (false,())
abbrev Vb:Type:=(qx×Unit)→Option (Bool×Unit)
def zf5:zbm→Vb:=fun XC=>sF Tryz.prog [(178,⟨Jz,JA,XC⟩)] zo0 (zR []) 30 164 kK kL
theorem zqZ (XC) (a0):zf5 XC (a0,())=GR XC a0:=by kernel_rfl
def ZC:Vb:=zf5 Xd
theorem zlK:Con.Ok Tryz.prog 164 ⟨kK,kL,ZC⟩:=zC (ze zs3 zo) zr (by kernel_rfl)
theorem zlL (a0):ZC (a0,())=GR Xd a0:=zqZ Xd a0
abbrev xT:List VT:=[⟨true,qg⟩]
abbrev xU:List VT:=[⟨false,.bool⟩]
def zo1:zV:=zS [cdF qg] [] [] [] []
def Vc (a0:zjY):Option (Bool×Unit):=
 some ((zi (gp .and .i64 (wH .i64 a0.1 6) 1) 1),())
abbrev ZD:Type:=(zjY×Unit)→Option (Bool×Unit)
def zf6:ZD:=sF Tryz.prog [] zo1 (zR []) 30 180 xT xU
theorem zq0 (a0):zf6 (a0,())=Vc a0:=by kernel_rfl
def xV:ZD:=zf6
theorem zb6:Con.Ok Tryz.prog 180 ⟨xT,xU,xV⟩:=zC zo zr (by kernel_rfl)
theorem zb7 (a0):xV (a0,())=Vc  a0:=zq0  a0
abbrev uw:List VT:=[⟨true,zQ⟩,⟨false,I⟩]
abbrev ux:List VT:=[⟨false,I⟩]
def znk:zV:=zS [cdF zQ,cdF qg] [] [] [] [164,180]
def Yz (ZJ:Vb) (jx:ZD) (a0:qx) (a1:Int):Option (Int×Unit):=
 opt (ZJ (a0,())) fun x0=>
 bif x0.1 then some (a0.2,())
 else opt (zz (fun s1:((Int×(Int×(Int×Unit)))×(Unit×(Unit×Unit)))=>
   bif (zh s1.1.2.2.1 ((a0.1.length:Nat):Int)) then opt (atI a0.1 s1.1.2.2.1) fun x2=>
    opt (jx (x2,())) fun x3=>
    bif x3.1 then opt (atI a0.1 s1.1.2.2.1) fun x4=>
     some (.inr ((s1.1.1,((wrF .i64 (s1.1.2.1+x4.2)),((wrF .i64 (s1.1.2.2.1+1)),()))),((),((),()))))
    else some (.inl (0,((s1.1.1,(s1.1.2.1,(s1.1.2.2.1,()))),((),((),())))))
   else some (.inl (0,((s1.1.1,(s1.1.2.1,(s1.1.2.2.1,()))),((),((),())))))) zL ((0,(0,(0,()))),((),((),())))) fun x5=>
  bif (zi x5.2.1.2.2.1 ((a0.1.length:Nat):Int)) then some (x5.2.1.1,())
  else opt (atI a0.1 x5.2.1.2.2.1) fun x6=>
   opt (zz (fun s7:(((Int×Int)×(Int×(Int×(Int×Unit))))×(Unit×(Unit×Unit)))=>
    bif (zh s7.1.2.2.2.1 ((a0.1.length:Nat):Int)) then bif (zi ((a0.1.length:Nat):Int) 0) then none
     else opt (atI a0.1 (Int.tmod (wrF .i64 ((wrF .i64 (x5.2.1.2.2.1+1))+s7.1.2.2.2.1)) ((a0.1.length:Nat):Int))) fun x8=>
      opt (jx (x8,())) fun x9=>
      bif x9.1 then opt (bif zi s7.1.1.2 0 then some (0,(((s7.1.2.2.1,s7.1.1.2),()),((),((),()))))
        else some (0,((s7.1.1,()),((),((),()))))) fun x10=>
       some (.inr (((x10.2.1.1.1,(wrF .i64 (x10.2.1.1.2+x8.2))),(s7.1.2.1,((wrF .i64 (s7.1.2.2.1+x8.2)),((wrF .i64 (s7.1.2.2.2.1+1)),())))),((),((),()))))
      else bif zh 0 s7.1.1.2 then some (.inr (((0,0),((wrF .i64 (s7.1.2.1+(uS 0 (wrF .i64 (s7.1.1.2 - a1))))),((wrF .i64 (s7.1.2.2.1+x8.2)),((wrF .i64 (s7.1.2.2.2.1+1)),())))),((),((),()))))
       else some (.inr (((0,0),(s7.1.2.1,((wrF .i64 (s7.1.2.2.1+x8.2)),((wrF .i64 (s7.1.2.2.2.1+1)),())))),((),((),()))))
    else some (.inl (0,((s7.1.1,(s7.1.2.1,(s7.1.2.2.1,(s7.1.2.2.2.1,())))),((),((),())))))) zL (((0,0),(x5.2.1.1,((wrF .i64 (x5.2.1.2.1+x6.2)),(0,())))),((),((),())))) fun x11=>
   bif Nat.beq x11.1 0 then some (x11.2.1.2.1,())
   else some (x11.2.1.2.1,())
abbrev YA:Type:=(qx×Int×Unit)→Option (Int×Unit)
def zeA:Vb→ZD→YA:=fun ZJ jx=>sF Tryz.prog [(164,⟨kK,kL,ZJ⟩),(180,⟨xT,xU,jx⟩)] znk (zR []) 30 140 uw ux
theorem zo2 (ZJ) (jx) (a0) (a1):zeA ZJ jx (a0,a1,())=Yz ZJ jx a0 a1:=by kernel_rfl
def uz:YA:=zeA ZC xV
theorem zkb:Con.Ok Tryz.prog 140 ⟨uw,ux,uz⟩:=zC (ze zlK (ze zb6 zo)) zr (by kernel_rfl)
theorem zbn (a0) (a1):uz (a0,a1,())=Yz ZC xV a0 a1:=zo2 ZC xV a0 a1
abbrev QD:List VT:=[⟨false,I⟩,⟨false,I⟩]
abbrev QE:List VT:=[⟨false,I⟩]
def zuZ:zV:=zS [] [] [] [] []
def zd4 (a0:Int) (a1:Int):Option (Int×Unit):=
 bif zi a1 0 then none
 else bif zi a1 0 then none
  else some ((Int.tmod (wrF .i64 ((Int.tmod a0 a1)+a1)) a1),())
abbrev Gn:Type:=(Int×Int×Unit)→Option (Int×Unit)
def zkU:Gn:=sF Tryz.prog [] zuZ (zR []) 30 166 QD QE
theorem zw9 (a0) (a1):zkU (a0,a1,())=zd4 a0 a1:=by kernel_rfl
def Wq:Gn:=zkU
theorem zq1:Con.Ok Tryz.prog 166 ⟨QD,QE,Wq⟩:=zC zo zr (by kernel_rfl)
theorem zq2 (a0) (a1):Wq (a0,a1,())=zd4  a0 a1:=zw9  a0 a1
abbrev vP:List VT:=[⟨false,I⟩,⟨false,I⟩]
abbrev vQ:List VT:=[⟨false,I⟩]
def zlM:zV:=zS [] [] [] [] [166]
def KF (WC:Gn) (a0:Int) (a1:Int):Option (Int×Unit):=
 opt (WC (a0,(a1,()))) fun x0=>
 bif zi a1 0 then none
 else some ((wrF .i64 (Int.tdiv (wrF .i64 (a0 - x0.1)) a1)),())
abbrev Ya:Type:=(Int×Int×Unit)→Option (Int×Unit)
def zdu:Gn→Ya:=fun WC=>sF Tryz.prog [(166,⟨QD,QE,WC⟩)] zlM (zR []) 30 142 vP vQ
theorem znl (WC) (a0) (a1):zdu WC (a0,a1,())=KF WC a0 a1:=by kernel_rfl
def vR:Ya:=zdu Wq
theorem ziU:Con.Ok Tryz.prog 142 ⟨vP,vQ,vR⟩:=zC (ze zq1 zo) zr (by kernel_rfl)
theorem ziV (a0) (a1):vR (a0,a1,())=KF Wq a0 a1:=znl Wq a0 a1
abbrev xz:List VT:=[⟨true,zQ⟩,⟨false,I⟩,⟨false,I⟩]
abbrev xA:List VT:=[⟨true,xK⟩,⟨false,I⟩]
def zxa:zV:=zS [cdF zQ,cdF qg] [] [⟨7,87,none,jK,true⟩,⟨12,87,none,jK,true⟩,⟨7,87,some 6,jK,false⟩,⟨12,87,some 6,jK,false⟩,⟨2,48,none,jK,true⟩,⟨6,48,none,jK,true⟩,⟨2,90,none,jK,true⟩,⟨5,90,none,jK,true⟩,⟨9,90,none,jK,true⟩,⟨12,90,none,jK,true⟩,⟨13,90,none,jK,true⟩,⟨18,90,none,jK,true⟩,⟨8,90,none,jK,true⟩] [] [139,140,142,180]
def KG (Qp:Ka) (gS:YA) (xd:Ya) (jx:ZD) (a0:qx) (a1:Int) (a2:Int):Option (ya×Int×Unit):=
 opt (Qp (a0,(a1,(a2,())))) fun x0=>
 bif !(zi x0.1 0) then some ((0,0),(x0.1,()))
 else opt (gS (a0,((wrF .i64 (a2*a1)),()))) fun x1=>
  bif (zi (wrF .i64 (a0.2*a1)) 0) then none
  else bif (zh (wrF .i64 (Int.tdiv (wrF .i64 (x1.1*1048576)) (wrF .i64 (a0.2*a1)))) 1) then some ((0,0),(4,()))
   else opt (xd ((wrF .i64 ((wrF .i64 ((-127)*a1))*1048576)),((wrF .i64 ((wrF .i64 (Int.tdiv (wrF .i64 (x1.1*1048576)) (wrF .i64 (a0.2*a1))))*a1)),()))) fun x2=>
    opt (zz (fun s3:((Int×(Int×Unit))×(((List (Int×Int))×Unit)×(Unit×(Unit×Unit))))=>
     bif (zh s3.1.2.1 ((a0.1.length:Nat):Int)) then opt (atI a0.1 s3.1.2.1) fun x4=>
      opt (jx (x4,())) fun x5=>
      bif x5.1 then opt (atI a0.1 s3.1.2.1) fun x6=>
       some (.inr (((wrF .i64 (s3.1.1+x6.2)),((wrF .i64 (s3.1.2.1+1)),())),((s3.2.1.1,()),((),((),())))))
      else some (.inl (0,((s3.1.1,(s3.1.2.1,())),((s3.2.1.1,()),((),((),()))))))
     else some (.inl (0,((s3.1.1,(s3.1.2.1,())),((s3.2.1.1,()),((),((),()))))))) zL ((0,(0,())),(([],()),((),((),()))))) fun x7=>
    bif (zi x7.2.1.2.1 ((a0.1.length:Nat):Int)) then opt (zz (fun s8:((Int×(Int×(Int×(Int×Unit))))×(Unit×Unit))=>
      bif (zh s8.1.2.2.2.1 ((x7.2.2.1.1.length:Nat):Int)) then opt (atI x7.2.2.1.1 s8.1.2.2.2.1) fun x9=>
       opt (gl x7.2.2.1.1 (Int.toNat s8.1.2.2.2.1)) fun x10=>
       opt (zz (fun s11:((Int×(Int×(Int×(Int×(Int×Unit)))))×(Unit×Unit))=>
        bif (zh s11.1.2.2.2.2.1 ((x7.2.2.1.1.length:Nat):Int)) then bif (zi ((x7.2.2.1.1.length:Nat):Int) 0) then none
         else opt (atI x7.2.2.1.1 (Int.tmod (wrF .i64 ((wrF .i64 (s8.1.2.2.2.1+1))+s11.1.2.2.2.2.1)) ((x7.2.2.1.1.length:Nat):Int))) fun x12=>
          opt (gl x7.2.2.1.1 (Int.toNat (Int.tmod (wrF .i64 ((wrF .i64 (s8.1.2.2.2.1+1))+s11.1.2.2.2.2.1)) ((x7.2.2.1.1.length:Nat):Int)))) fun x13=>
          bif (zi ((x7.2.2.1.1.length:Nat):Int) 0) then none
          else opt (xd ((wrF .i64 ((wrF .i64 (s11.1.2.2.2.1 - (wrF .i64 (127*s11.1.2.2.1))))*1048576)),((wrF .i64 (s11.1.2.1*s11.1.2.2.1)),()))) fun x14=>
           some (.inr (((uS s11.1.1 (wrF .i64 ((wrF .i64 ((wrF .i64 ((wrF .i64 (x13.1+(wrF .i64 ((wrF .i64 (Int.tdiv (wrF .i64 ((wrF .i64 (s8.1.2.2.2.1+1))+s11.1.2.2.2.2.1)) ((x7.2.2.1.1.length:Nat):Int)))*a0.2))))+(jQ (wrF .i64 (a2*a1)) x13.2))) - (wrF .i64 ((wrF .i64 (x10.1+x10.2)) - (jQ (wrF .i64 (a2*a1)) x10.2))))) - x14.1))),(s11.1.2.1,(s11.1.2.2.1,((wrF .i64 (s11.1.2.2.2.1+(uS 0 (wrF .i64 (x13.2 - (wrF .i64 (a2*a1))))))),((wrF .i64 (s11.1.2.2.2.2.1+1)),()))))),((),())))
        else some (.inl (0,((s11.1.1,(s11.1.2.1,(s11.1.2.2.1,(s11.1.2.2.2.1,(s11.1.2.2.2.2.1,()))))),((),()))))) zL ((s8.1.1,(s8.1.2.1,(s8.1.2.2.1,(0,(0,()))))),((),()))) fun x15=>
       some (.inr ((x15.2.1.1,(x15.2.1.2.1,(x15.2.1.2.2.1,((wrF .i64 (s8.1.2.2.2.1+1)),())))),((),())))
      else some (.inl (0,((s8.1.1,(s8.1.2.1,(s8.1.2.2.1,(s8.1.2.2.2.1,())))),((),()))))) zL (((uS 0 (wrF .i64 (0 - x2.1))),((wrF .i64 (Int.tdiv (wrF .i64 (x1.1*1048576)) (wrF .i64 (a0.2*a1)))),(a1,(0,())))),((),()))) fun x16=>
     some ((x16.2.1.2.1,x16.2.1.1),(0,()))
    else opt (atI a0.1 x7.2.1.2.1) fun x17=>
     opt (zz (fun s18:(((Int×Int)×(Int×(Int×Unit)))×(((List (Int×Int))×Unit)×(Unit×(Unit×Unit))))=>
      bif (zh s18.1.2.2.1 ((a0.1.length:Nat):Int)) then bif (zi ((a0.1.length:Nat):Int) 0) then none
       else opt (atI a0.1 (Int.tmod (wrF .i64 ((wrF .i64 (x7.2.1.2.1+1))+s18.1.2.2.1)) ((a0.1.length:Nat):Int))) fun x19=>
        opt (jx (x19,())) fun x20=>
        bif x20.1 then opt (bif zi s18.1.1.2 0 then some (0,(((s18.1.2.1,s18.1.1.2),()),((),((),()))))
          else some (0,((s18.1.1,()),((),((),()))))) fun x21=>
         some (.inr (((x21.2.1.1.1,(wrF .i64 (x21.2.1.1.2+x19.2))),((wrF .i64 (s18.1.2.1+x19.2)),((wrF .i64 (s18.1.2.2.1+1)),()))),((s18.2.1.1,()),((),((),())))))
        else bif zh 0 s18.1.1.2 then bif (jb s18.2.1.1.length ((s18.1.1::[]).length) 16) then some (.inr (((0,0),((wrF .i64 (s18.1.2.1+x19.2)),((wrF .i64 (s18.1.2.2.1+1)),()))),(((s18.2.1.1++(s18.1.1::[])),()),((),((),())))))
          else none
         else some (.inr (((0,0),((wrF .i64 (s18.1.2.1+x19.2)),((wrF .i64 (s18.1.2.2.1+1)),()))),((s18.2.1.1,()),((),((),())))))
      else some (.inl (0,((s18.1.1,(s18.1.2.1,(s18.1.2.2.1,()))),((s18.2.1.1,()),((),((),()))))))) zL (((0,0),((wrF .i64 (x7.2.1.1+x17.2)),(0,()))),((x7.2.2.1.1,()),((),((),()))))) fun x22=>
     bif Nat.beq x22.1 0 then opt (zz (fun s23:((Int×(Int×(Int×(Int×Unit))))×(Unit×Unit))=>
       bif (zh s23.1.2.2.2.1 ((x22.2.2.1.1.length:Nat):Int)) then opt (atI x22.2.2.1.1 s23.1.2.2.2.1) fun x24=>
        opt (gl x22.2.2.1.1 (Int.toNat s23.1.2.2.2.1)) fun x25=>
        opt (zz (fun s26:((Int×(Int×(Int×(Int×(Int×Unit)))))×(Unit×Unit))=>
         bif (zh s26.1.2.2.2.2.1 ((x22.2.2.1.1.length:Nat):Int)) then bif (zi ((x22.2.2.1.1.length:Nat):Int) 0) then none
          else opt (atI x22.2.2.1.1 (Int.tmod (wrF .i64 ((wrF .i64 (s23.1.2.2.2.1+1))+s26.1.2.2.2.2.1)) ((x22.2.2.1.1.length:Nat):Int))) fun x27=>
           opt (gl x22.2.2.1.1 (Int.toNat (Int.tmod (wrF .i64 ((wrF .i64 (s23.1.2.2.2.1+1))+s26.1.2.2.2.2.1)) ((x22.2.2.1.1.length:Nat):Int)))) fun x28=>
           bif (zi ((x22.2.2.1.1.length:Nat):Int) 0) then none
           else opt (xd ((wrF .i64 ((wrF .i64 (s26.1.2.2.2.1 - (wrF .i64 (127*s26.1.2.2.1))))*1048576)),((wrF .i64 (s26.1.2.1*s26.1.2.2.1)),()))) fun x29=>
            some (.inr (((uS s26.1.1 (wrF .i64 ((wrF .i64 ((wrF .i64 ((wrF .i64 (x28.1+(wrF .i64 ((wrF .i64 (Int.tdiv (wrF .i64 ((wrF .i64 (s23.1.2.2.2.1+1))+s26.1.2.2.2.2.1)) ((x22.2.2.1.1.length:Nat):Int)))*a0.2))))+(jQ (wrF .i64 (a2*a1)) x28.2))) - (wrF .i64 ((wrF .i64 (x25.1+x25.2)) - (jQ (wrF .i64 (a2*a1)) x25.2))))) - x29.1))),(s26.1.2.1,(s26.1.2.2.1,((wrF .i64 (s26.1.2.2.2.1+(uS 0 (wrF .i64 (x28.2 - (wrF .i64 (a2*a1))))))),((wrF .i64 (s26.1.2.2.2.2.1+1)),()))))),((),())))
         else some (.inl (0,((s26.1.1,(s26.1.2.1,(s26.1.2.2.1,(s26.1.2.2.2.1,(s26.1.2.2.2.2.1,()))))),((),()))))) zL ((s23.1.1,(s23.1.2.1,(s23.1.2.2.1,(0,(0,()))))),((),()))) fun x30=>
        some (.inr ((x30.2.1.1,(x30.2.1.2.1,(x30.2.1.2.2.1,((wrF .i64 (s23.1.2.2.2.1+1)),())))),((),())))
       else some (.inl (0,((s23.1.1,(s23.1.2.1,(s23.1.2.2.1,(s23.1.2.2.2.1,())))),((),()))))) zL (((uS 0 (wrF .i64 (0 - x2.1))),((wrF .i64 (Int.tdiv (wrF .i64 (x1.1*1048576)) (wrF .i64 (a0.2*a1)))),(a1,(0,())))),((),()))) fun x31=>
      some ((x31.2.1.2.1,x31.2.1.1),(0,()))
     else opt (zz (fun s32:((Int×(Int×(Int×(Int×Unit))))×(Unit×Unit))=>
       bif (zh s32.1.2.2.2.1 ((x22.2.2.1.1.length:Nat):Int)) then opt (atI x22.2.2.1.1 s32.1.2.2.2.1) fun x33=>
        opt (gl x22.2.2.1.1 (Int.toNat s32.1.2.2.2.1)) fun x34=>
        opt (zz (fun s35:((Int×(Int×(Int×(Int×(Int×Unit)))))×(Unit×Unit))=>
         bif (zh s35.1.2.2.2.2.1 ((x22.2.2.1.1.length:Nat):Int)) then bif (zi ((x22.2.2.1.1.length:Nat):Int) 0) then none
          else opt (atI x22.2.2.1.1 (Int.tmod (wrF .i64 ((wrF .i64 (s32.1.2.2.2.1+1))+s35.1.2.2.2.2.1)) ((x22.2.2.1.1.length:Nat):Int))) fun x36=>
           opt (gl x22.2.2.1.1 (Int.toNat (Int.tmod (wrF .i64 ((wrF .i64 (s32.1.2.2.2.1+1))+s35.1.2.2.2.2.1)) ((x22.2.2.1.1.length:Nat):Int)))) fun x37=>
           bif (zi ((x22.2.2.1.1.length:Nat):Int) 0) then none
           else opt (xd ((wrF .i64 ((wrF .i64 (s35.1.2.2.2.1 - (wrF .i64 (127*s35.1.2.2.1))))*1048576)),((wrF .i64 (s35.1.2.1*s35.1.2.2.1)),()))) fun x38=>
            some (.inr (((uS s35.1.1 (wrF .i64 ((wrF .i64 ((wrF .i64 ((wrF .i64 (x37.1+(wrF .i64 ((wrF .i64 (Int.tdiv (wrF .i64 ((wrF .i64 (s32.1.2.2.2.1+1))+s35.1.2.2.2.2.1)) ((x22.2.2.1.1.length:Nat):Int)))*a0.2))))+(jQ (wrF .i64 (a2*a1)) x37.2))) - (wrF .i64 ((wrF .i64 (x34.1+x34.2)) - (jQ (wrF .i64 (a2*a1)) x34.2))))) - x38.1))),(s35.1.2.1,(s35.1.2.2.1,((wrF .i64 (s35.1.2.2.2.1+(uS 0 (wrF .i64 (x37.2 - (wrF .i64 (a2*a1))))))),((wrF .i64 (s35.1.2.2.2.2.1+1)),()))))),((),())))
         else some (.inl (0,((s35.1.1,(s35.1.2.1,(s35.1.2.2.1,(s35.1.2.2.2.1,(s35.1.2.2.2.2.1,()))))),((),()))))) zL ((s32.1.1,(s32.1.2.1,(s32.1.2.2.1,(0,(0,()))))),((),()))) fun x39=>
        some (.inr ((x39.2.1.1,(x39.2.1.2.1,(x39.2.1.2.2.1,((wrF .i64 (s32.1.2.2.2.1+1)),())))),((),())))
       else some (.inl (0,((s32.1.1,(s32.1.2.1,(s32.1.2.2.1,(s32.1.2.2.2.1,())))),((),()))))) zL (((uS 0 (wrF .i64 (0 - x2.1))),((wrF .i64 (Int.tdiv (wrF .i64 (x1.1*1048576)) (wrF .i64 (a0.2*a1)))),(a1,(0,())))),((),()))) fun x40=>
      some ((x40.2.1.2.1,x40.2.1.1),(0,()))
abbrev ZV:Type:=(qx×Int×Int×Unit)→Option (ya×Int×Unit)
def znm:Ka→YA→Ya→ZD→ZV:=fun Qp gS xd jx=>sF Tryz.prog [(139,⟨gx,gy,Qp⟩),(140,⟨uw,ux,gS⟩),(142,⟨vP,vQ,xd⟩),(180,⟨xT,xU,jx⟩)] zxa (zR []) 30 101 xz xA
theorem zzG (Qp) (gS) (xd) (jx) (a0) (a1) (a2):znm Qp gS xd jx (a0,a1,a2,())=KG Qp gS xd jx a0 a1 a2:=by kernel_rfl
def jH:ZV:=znm Qm uz vR xV
theorem zbo:Con.Ok Tryz.prog 101 ⟨xz,xA,jH⟩:=zC (ze znf (ze zkb (ze ziU (ze zb6 zo)))) zr (by kernel_rfl)
theorem zbp (a0) (a1) (a2):jH (a0,a1,a2,())=KG Qm uz vR xV a0 a1 a2:=zzG Qm uz vR xV a0 a1 a2
abbrev vS:List VT:=[⟨false,(.list zm)⟩]
abbrev vT:List VT:=[⟨true,zm⟩,⟨false,I⟩]
def zxb:zV:=zS [cdF zm] [] [] [] [84]
def zf7 (qo:vp) (a0:(List qI)):Option (qI×Int×Unit):=
 bif (zi ((a0.length:Nat):Int) 0) then some ((0,0),(2,()))
 else bif (zh 12 ((a0.length:Nat):Int)) then some ((0,0),(3,()))
  else opt (zz (fun s0:(((Int×Int)×((Int×Int)×(Int×(Int×Unit))))×Unit)=>
    bif (zh s0.1.2.2.2.1 ((a0.length:Nat):Int)) then opt (atI a0 s0.1.2.2.2.1) fun x1=>
     opt (qo (x1,())) fun x2=>
     bif !(zi x2.1 0) then some (.inl (1,(((0,0),(s0.1.2.1,(x2.1,(s0.1.2.2.2.1,())))),())))
     else some (.inr ((s0.1.1,(((wrF .i64 (s0.1.2.1.1+x1.1)),(wrF .i64 (s0.1.2.1.2+x1.2))),(s0.1.2.2.1,((wrF .i64 (s0.1.2.2.2.1+1)),())))),()))
    else some (.inl (0,((s0.1.1,(s0.1.2.1,(s0.1.2.2.1,(s0.1.2.2.2.1,())))),())))) zL (((0,0),((0,0),(0,(0,())))),())) fun x3=>
   bif Nat.beq x3.1 0 then opt (qo (x3.2.1.2.1,())) fun x4=>
    bif !(zi x4.1 0) then some ((0,0),(6,()))
    else some (x3.2.1.2.1,(0,()))
   else some (x3.2.1.1,(x3.2.1.2.2.1,()))
abbrev ZW:Type:=((List qI)×Unit)→Option (qI×Int×Unit)
def znn:vp→ZW:=fun qo=>sF Tryz.prog [(84,⟨ye,yf,qo⟩)] zxb (zR []) 30 102 vS vT
theorem zzH (qo) (a0):znn qo (a0,())=zf7 qo a0:=by kernel_rfl
def wD:ZW:=znn we
theorem zbq:Con.Ok Tryz.prog 102 ⟨vS,vT,wD⟩:=zC (ze Yy zo) zr (by kernel_rfl)
theorem zs5 (a0):wD (a0,())=zf7 we a0:=zzH we a0
abbrev kp:List VT:=[⟨true,xK⟩]
abbrev kq:List VT:=[⟨false,I⟩]
def zu0:zV:=zS [cdF xK] [] [] [] []
def zd5 (a0:ya):Option (Int×Unit):=
 opt (bif zh a0.1 1 then some (1,((140,()),()))
  else bif zh 2097152 a0.1 then some (1,((140,()),()))
   else bif zh a0.2 0 then some (1,((140,()),()))
    else bif zh 268435456 a0.2 then some (1,((140,()),()))
     else some (0,((0,()),()))) fun x0=>
 bif Nat.beq x0.1 0 then some (0,())
 else some (x0.2.1.1,())
abbrev Wr:Type:=(ya×Unit)→Option (Int×Unit)
def zkV:Wr:=sF Tryz.prog [] zu0 (zR []) 30 59 kp kq
theorem zxc (a0):zkV (a0,())=zd5 a0:=by kernel_rfl
def kr:Wr:=zkV
theorem zf8:Con.Ok Tryz.prog 59 ⟨kp,kq,kr⟩:=zC zo zr (by kernel_rfl)
theorem zq3 (a0):kr (a0,())=zd5  a0:=zxc  a0
abbrev ku:List VT:=[⟨false,(.list I)⟩]
abbrev kx:List VT:=[⟨false,.bool⟩]
def zu1:zV:=zS [] [] [] [] []
def zd6 (a0:(List Int)):Option (Bool×Unit):=
 opt (zz (fun s0:((Bool×(Int×Unit))×Unit)=>
  bif (zh s0.1.2.1 ((a0.length:Nat):Int)) then opt (atI a0 s0.1.2.1) fun x1=>
   opt (bif zh x1 (-1125899906842624) then some (1,((false,()),()))
    else bif zh 1125899906842624 x1 then some (1,((false,()),()))
     else some (0,((s0.1.1,()),()))) fun x2=>
   bif Nat.beq x2.1 0 then some (.inr ((x2.2.1.1,((wrF .i64 (s0.1.2.1+1)),())),()))
   else some (.inl (1,((x2.2.1.1,(s0.1.2.1,())),())))
  else some (.inl (0,((s0.1.1,(s0.1.2.1,())),())))) zL ((false,(0,())),())) fun x3=>
 bif Nat.beq x3.1 0 then some (true,())
 else some (x3.2.1.1,())
abbrev Ws:Type:=((List Int)×Unit)→Option (Bool×Unit)
def zkW:Ws:=sF Tryz.prog [] zu1 (zR []) 30 182 ku kx
theorem zxd (a0):zkW (a0,())=zd6 a0:=by kernel_rfl
def ky:Ws:=zkW
theorem zf9:Con.Ok Tryz.prog 182 ⟨ku,kx,ky⟩:=zC zo zr (by kernel_rfl)
theorem zq4 (a0):ky (a0,())=zd6  a0:=zxd  a0
abbrev gz:List VT:=[⟨false,I⟩]
abbrev gC:List VT:=[⟨false,(.int .u64)⟩]
def zq5:zV:=zS [] [] [] [] []
def Kb (a0:Int):Option (Int×Unit):=
 bif zh a0 0 then some ((wrF .u64 (wrF .i64 (0 - a0))),())
 else some ((wrF .u64 a0),())
abbrev Kc:Type:=(Int×Unit)→Option (Int×Unit)
def zhk:Kc:=sF Tryz.prog [] zq5 (zR []) 30 184 gz gC
theorem zs6 (a0):zhk (a0,())=Kb a0:=by kernel_rfl
def gD:Kc:=zhk
theorem zno:Con.Ok Tryz.prog 184 ⟨gz,gC,gD⟩:=zC zo zr (by kernel_rfl)
theorem zdv (a0):gD (a0,())=Kb  a0:=zs6  a0
abbrev uA:List VT:=[⟨false,(.int .u64)⟩,⟨false,(.int .u64)⟩]
abbrev uB:List VT:=[⟨false,(.int .u64)⟩,⟨false,(.int .u64)⟩]
def znp:zV:=zS [] [] [] [] []
def UB (a0:Int) (a1:Int):Option (Int×Int×Unit):=
 some ((wrF .u64 ((wrF .u64 ((wrF .u64 ((wH .u64 a0 32)*(wH .u64 a1 32)))+(wH .u64 (wrF .u64 ((wrF .u64 ((wH .u64 a0 32)*(gp .and .u64 a1 4294967295)))+(wH .u64 (wrF .u64 ((gp .and .u64 a0 4294967295)*(gp .and .u64 a1 4294967295))) 32))) 32)))+(wH .u64 (wrF .u64 ((gp .and .u64 (wrF .u64 ((wrF .u64 ((wH .u64 a0 32)*(gp .and .u64 a1 4294967295)))+(wH .u64 (wrF .u64 ((gp .and .u64 a0 4294967295)*(gp .and .u64 a1 4294967295))) 32))) 4294967295)+(wrF .u64 ((gp .and .u64 a0 4294967295)*(wH .u64 a1 32))))) 32))),((wrF .u64 (a0*a1)),()))
abbrev YB:Type:=(Int×Int×Unit)→Option (Int×Int×Unit)
def zeB:YB:=sF Tryz.prog [] znp (zR []) 30 183 uA uB
theorem zo3 (a0) (a1):zeB (a0,a1,())=UB a0 a1:=by kernel_rfl
def gN:YB:=zeB
theorem zkc:Con.Ok Tryz.prog 183 ⟨uA,uB,gN⟩:=zC zo zr (by kernel_rfl)
theorem zkd (a0) (a1):gN (a0,a1,())=UB  a0 a1:=zo3  a0 a1
abbrev uC:List VT:=[⟨false,(.int .u64)⟩]
abbrev uD:List VT:=[⟨false,I⟩]
def znq:zV:=zS [] [] [] [] []
def zeC:(Int×Unit)→Option (Int×Unit):=sF Tryz.prog [] znq (zR []) 30 196 uC uD
theorem zke:Con.Ok Tryz.prog 196 ⟨uC,uD,zeC⟩:=zC zo zr (by kernel_rfl)
abbrev wP:List VT:=[⟨false,(.int .u64)⟩]
abbrev wQ:List VT:=[⟨false,I⟩]
def zdw:zV:=zS [] [] [] [] [196]
def kz:(Int×Unit)→Option (Int×Unit):=sF Tryz.prog [(196,⟨uC,uD,zeC⟩)] zdw (zR []) 30 193 wP wQ
theorem zbW:Con.Ok Tryz.prog 193 ⟨wP,wQ,kz⟩:=zC (ze zke zo) zr (by kernel_rfl)
abbrev uE:List VT:=[⟨false,(.int .u64)⟩,⟨false,(.int .u64)⟩,⟨false,(.int .u64)⟩]
abbrev uF:List VT:=[⟨false,(.int .u64)⟩,⟨false,(.int .u64)⟩]
def znr:zV:=zS [] [] [] [] [193]
def UC (yN:(Int×Unit)→Option (Int×Unit)) (a0:Int) (a1:Int) (a2:Int):Option (Int×Int×Unit):=
 opt (bif zi a2 0 then none
  else some (0,((),()))) fun x0=>
 opt (bif !(zh a0 a2) then none
  else some (0,((),()))) fun x1=>
 bif zi a0 0 then bif zi a2 0 then none
  else bif zi a2 0 then none
   else some ((wrF .u64 (Int.tdiv a1 a2)),((Int.tmod a1 a2),()))
 else opt (yN (a2,())) fun x2=>
  bif zh (wrF .u64 x2.1) 0 then none
  else bif zh (wrF .u64 x2.1) 0 then none
   else bif (zh (wrF .u64 (64 - (wrF .u64 x2.1))) 0) then none
    else bif zh (wrF .u64 x2.1) 0 then none
     else bif (zi (wH .u64 (xg .u64 a2 (wrF .u64 x2.1)) 32) 0) then none
      else opt (zz (fun s3:((Int×(Int×Unit))×Unit)=>
        bif !(zh s3.1.1 4294967296) then bif (!(zh (wrF .u64 (s3.1.2.1+(wH .u64 (xg .u64 a2 (wrF .u64 x2.1)) 32))) 4294967296)) then some (.inl (0,(((wrF .u64 (s3.1.1 - 1)),((wrF .u64 (s3.1.2.1+(wH .u64 (xg .u64 a2 (wrF .u64 x2.1)) 32))),())),())))
         else some (.inr (((wrF .u64 (s3.1.1 - 1)),((wrF .u64 (s3.1.2.1+(wH .u64 (xg .u64 a2 (wrF .u64 x2.1)) 32))),())),()))
        else bif (zh (wrF .u64 ((wrF .u64 (4294967296*s3.1.2.1))+(wH .u64 (xg .u64 a1 (wrF .u64 x2.1)) 32))) (wrF .u64 (s3.1.1*(gp .and .u64 (xg .u64 a2 (wrF .u64 x2.1)) 4294967295)))) then bif (!(zh (wrF .u64 (s3.1.2.1+(wH .u64 (xg .u64 a2 (wrF .u64 x2.1)) 32))) 4294967296)) then some (.inl (0,(((wrF .u64 (s3.1.1 - 1)),((wrF .u64 (s3.1.2.1+(wH .u64 (xg .u64 a2 (wrF .u64 x2.1)) 32))),())),())))
          else some (.inr (((wrF .u64 (s3.1.1 - 1)),((wrF .u64 (s3.1.2.1+(wH .u64 (xg .u64 a2 (wrF .u64 x2.1)) 32))),())),()))
         else some (.inl (0,((s3.1.1,(s3.1.2.1,())),())))) zL (((wrF .u64 (Int.tdiv (gp .or .u64 (xg .u64 a0 (wrF .u64 x2.1)) (wH .u64 a1 (wrF .u64 (64 - (wrF .u64 x2.1))))) (wH .u64 (xg .u64 a2 (wrF .u64 x2.1)) 32))),((wrF .u64 ((gp .or .u64 (xg .u64 a0 (wrF .u64 x2.1)) (wH .u64 a1 (wrF .u64 (64 - (wrF .u64 x2.1))))) - (wrF .u64 ((wrF .u64 (Int.tdiv (gp .or .u64 (xg .u64 a0 (wrF .u64 x2.1)) (wH .u64 a1 (wrF .u64 (64 - (wrF .u64 x2.1))))) (wH .u64 (xg .u64 a2 (wrF .u64 x2.1)) 32)))*(wH .u64 (xg .u64 a2 (wrF .u64 x2.1)) 32))))),())),())) fun x4=>
       bif (zi (wH .u64 (xg .u64 a2 (wrF .u64 x2.1)) 32) 0) then none
       else opt (zz (fun s5:((Int×(Int×Unit))×Unit)=>
         bif !(zh s5.1.1 4294967296) then bif (!(zh (wrF .u64 (s5.1.2.1+(wH .u64 (xg .u64 a2 (wrF .u64 x2.1)) 32))) 4294967296)) then some (.inl (0,(((wrF .u64 (s5.1.1 - 1)),((wrF .u64 (s5.1.2.1+(wH .u64 (xg .u64 a2 (wrF .u64 x2.1)) 32))),())),())))
          else some (.inr (((wrF .u64 (s5.1.1 - 1)),((wrF .u64 (s5.1.2.1+(wH .u64 (xg .u64 a2 (wrF .u64 x2.1)) 32))),())),()))
         else bif (zh (wrF .u64 ((wrF .u64 (4294967296*s5.1.2.1))+(gp .and .u64 (xg .u64 a1 (wrF .u64 x2.1)) 4294967295))) (wrF .u64 (s5.1.1*(gp .and .u64 (xg .u64 a2 (wrF .u64 x2.1)) 4294967295)))) then bif (!(zh (wrF .u64 (s5.1.2.1+(wH .u64 (xg .u64 a2 (wrF .u64 x2.1)) 32))) 4294967296)) then some (.inl (0,(((wrF .u64 (s5.1.1 - 1)),((wrF .u64 (s5.1.2.1+(wH .u64 (xg .u64 a2 (wrF .u64 x2.1)) 32))),())),())))
           else some (.inr (((wrF .u64 (s5.1.1 - 1)),((wrF .u64 (s5.1.2.1+(wH .u64 (xg .u64 a2 (wrF .u64 x2.1)) 32))),())),()))
          else some (.inl (0,((s5.1.1,(s5.1.2.1,())),())))) zL (((wrF .u64 (Int.tdiv (wrF .u64 ((wrF .u64 ((wrF .u64 ((gp .or .u64 (xg .u64 a0 (wrF .u64 x2.1)) (wH .u64 a1 (wrF .u64 (64 - (wrF .u64 x2.1)))))*4294967296))+(wH .u64 (xg .u64 a1 (wrF .u64 x2.1)) 32))) - (wrF .u64 (x4.2.1.1*(xg .u64 a2 (wrF .u64 x2.1)))))) (wH .u64 (xg .u64 a2 (wrF .u64 x2.1)) 32))),((wrF .u64 ((wrF .u64 ((wrF .u64 ((wrF .u64 ((gp .or .u64 (xg .u64 a0 (wrF .u64 x2.1)) (wH .u64 a1 (wrF .u64 (64 - (wrF .u64 x2.1)))))*4294967296))+(wH .u64 (xg .u64 a1 (wrF .u64 x2.1)) 32))) - (wrF .u64 (x4.2.1.1*(xg .u64 a2 (wrF .u64 x2.1)))))) - (wrF .u64 ((wrF .u64 (Int.tdiv (wrF .u64 ((wrF .u64 ((wrF .u64 ((gp .or .u64 (xg .u64 a0 (wrF .u64 x2.1)) (wH .u64 a1 (wrF .u64 (64 - (wrF .u64 x2.1)))))*4294967296))+(wH .u64 (xg .u64 a1 (wrF .u64 x2.1)) 32))) - (wrF .u64 (x4.2.1.1*(xg .u64 a2 (wrF .u64 x2.1)))))) (wH .u64 (xg .u64 a2 (wrF .u64 x2.1)) 32)))*(wH .u64 (xg .u64 a2 (wrF .u64 x2.1)) 32))))),())),())) fun x6=>
        bif zh (wrF .u64 x2.1) 0 then none
        else some ((wrF .u64 ((wrF .u64 (x4.2.1.1*4294967296))+x6.2.1.1)),((wH .u64 (wrF .u64 ((wrF .u64 ((wrF .u64 ((wrF .u64 ((wrF .u64 ((wrF .u64 ((gp .or .u64 (xg .u64 a0 (wrF .u64 x2.1)) (wH .u64 a1 (wrF .u64 (64 - (wrF .u64 x2.1)))))*4294967296))+(wH .u64 (xg .u64 a1 (wrF .u64 x2.1)) 32))) - (wrF .u64 (x4.2.1.1*(xg .u64 a2 (wrF .u64 x2.1))))))*4294967296))+(gp .and .u64 (xg .u64 a1 (wrF .u64 x2.1)) 4294967295))) - (wrF .u64 (x6.2.1.1*(xg .u64 a2 (wrF .u64 x2.1)))))) (wrF .u64 x2.1)),()))
abbrev YC:Type:=(Int×Int×Int×Unit)→Option (Int×Int×Unit)
def zeD:((Int×Unit)→Option (Int×Unit))→YC:=fun yN=>sF Tryz.prog [(193,⟨wP,wQ,yN⟩)] znr (zR []) 30 185 uE uF
theorem zo4 (yN) (a0) (a1) (a2):zeD yN (a0,a1,a2,())=UC yN a0 a1 a2:=by kernel_rfl
def gO:YC:=zeD kz
theorem zkf:Con.Ok Tryz.prog 185 ⟨uE,uF,gO⟩:=zC (ze zbW zo) zr (by kernel_rfl)
theorem zkg (a0) (a1) (a2):gO (a0,a1,a2,())=UC kz a0 a1 a2:=zo4 kz a0 a1 a2
abbrev QF:List VT:=[⟨false,I⟩]
abbrev QG:List VT:=[⟨false,I⟩,⟨false,.bool⟩]
def zu2:zV:=zS [] [] [] [] [182]
def zd7 (yO:Ws) (a0:Int):Option (Int×Bool×Unit):=
 opt (yO ((a0::[]),())) fun x0=>
 bif !x0.1 then some (0,(false,()))
 else some (a0,(true,()))
abbrev Gp:Type:=(Int×Unit)→Option (Int×Bool×Unit)
def zkX:Ws→Gp:=fun yO=>sF Tryz.prog [(182,⟨ku,kx,yO⟩)] zu2 (zR []) 30 186 QF QG
theorem zxe (yO) (a0):zkX yO (a0,())=zd7 yO a0:=by kernel_rfl
def Wt:Gp:=zkX ky
theorem zq6:Con.Ok Tryz.prog 186 ⟨QF,QG,Wt⟩:=zC (ze zf9 zo) zr (by kernel_rfl)
theorem zq7 (a0):Wt (a0,())=zd7 ky a0:=zxe ky a0
abbrev JB:List VT:=[⟨false,I⟩,⟨false,I⟩,⟨false,I⟩]
abbrev JC:List VT:=[⟨false,I⟩,⟨false,.bool⟩]
def zxf:zV:=zS [] [] [] [] [182,184,183,185,186]
def zga (yO:Ws) (gM:Kc) (gT:YB) (gU:YC) (WD:Gp) (a0:Int) (a1:Int) (a2:Int):Option (Int×Bool×Unit):=
 opt (opt (yO ((a0::(a1::(a2::[]))),())) fun x0=>
  bif !x0.1 then some (1,((0,(false,())),()))
  else bif zh a2 1 then some (1,((0,(false,())),()))
   else some (0,((0,(false,())),()))) fun x1=>
 bif Nat.beq x1.1 0 then opt (gM (a0,())) fun x2=>
  opt (gM (a1,())) fun x3=>
  opt (gT (x2.1,(x3.1,()))) fun x4=>
  bif (!(zh x4.1 (wrF .u64 a2))) then some (0,(false,()))
  else opt (gU (x4.1,(x4.2.1,((wrF .u64 a2),())))) fun x5=>
   bif zh 1125899906842624 x5.1 then some (0,(false,()))
   else opt (bif (!((zh a0 0) == (zh a1 0))) then opt (bif !(zi x5.2.1 0) then some (0,(((wrF .i64 ((wrF .i64 (0 - (wrF .i64 x5.1))) - 1)),()),()))
       else some (0,(((wrF .i64 (0 - (wrF .i64 x5.1))),()),()))) fun x6=>
      some (0,((x6.2.1.1,()),()))
     else some (0,(((wrF .i64 x5.1),()),()))) fun x7=>
    opt (WD (x7.2.1.1,())) fun x8=>
    some (x8.1,(x8.2.1,()))
 else some (x1.2.1.1,(x1.2.1.2.1,()))
abbrev zbr:Type:=(Int×Int×Int×Unit)→Option (Int×Bool×Unit)
def zns:Ws→Kc→YB→YC→Gp→zbr:=fun yO gM gT gU WD=>sF Tryz.prog [(182,⟨ku,kx,yO⟩),(184,⟨gz,gC,gM⟩),(183,⟨uA,uB,gT⟩),(185,⟨uE,uF,gU⟩),(186,⟨QF,QG,WD⟩)] zxf (zR []) 30 171 JB JC
theorem zzI (yO) (gM) (gT) (gU) (WD) (a0) (a1) (a2):zns yO gM gT gU WD (a0,a1,a2,())=zga yO gM gT gU WD a0 a1 a2:=by kernel_rfl
def Xe:zbr:=zns ky gD gN gO Wt
theorem zs7:Con.Ok Tryz.prog 171 ⟨JB,JC,Xe⟩:=zC (ze zf9 (ze zno (ze zkc (ze zkf (ze zq6 zo))))) zr (by kernel_rfl)
theorem zs8 (a0) (a1) (a2):Xe (a0,a1,a2,())=zga ky gD gN gO Wt a0 a1 a2:=zzI ky gD gN gO Wt a0 a1 a2
abbrev gF:List VT:=[⟨false,I⟩,⟨false,I⟩,⟨false,I⟩]
abbrev gG:List VT:=[⟨false,I⟩]
def zxg:zV:=zS [] [] [] [] [171]
def zgb (XD:zbr) (a0:Int) (a1:Int) (a2:Int):Option (Int×Unit):=
 opt (XD ((wrF .i64 (0 - a0)),(a1,(a2,())))) fun x0=>
 some ((wrF .i64 (0 - x0.1)),())
abbrev Xf:Type:=(Int×Int×Int×Unit)→Option (Int×Unit)
def znt:zbr→Xf:=fun XD=>sF Tryz.prog [(171,⟨JB,JC,XD⟩)] zxg (zR []) 30 150 gF gG
theorem zzJ (XD) (a0) (a1) (a2):znt XD (a0,a1,a2,())=zgb XD a0 a1 a2:=by kernel_rfl
def uV:Xf:=znt Xe
theorem zhl:Con.Ok Tryz.prog 150 ⟨gF,gG,uV⟩:=zC (ze zs7 zo) zr (by kernel_rfl)
theorem zs9 (a0) (a1) (a2):uV (a0,a1,a2,())=zgb Xe a0 a1 a2:=zzJ Xe a0 a1 a2
abbrev kM:List VT:=[⟨false,(.list zm)⟩,⟨false,I⟩]
abbrev kN:List VT:=[⟨false,I⟩,⟨false,.bool⟩]
def zo5:zV:=zS [cdF zm] [] [] [] [150]
def GS (xe:Xf) (a0:(List qI)) (a1:Int):Option (Int×Bool×Unit):=
 opt (zz (fun s0:((Int×(Bool×(Int×Unit)))×(Unit×(Unit×Unit)))=>
  bif (zh s0.1.2.2.1 ((a0.length:Nat):Int)) then opt (atI a0 s0.1.2.2.1) fun x1=>
   bif zh a1 x1.2 then some (.inr ((s0.1.1,(s0.1.2.1,((wrF .i64 (s0.1.2.2.1+1)),()))),((),((),()))))
   else opt (xe (x1.1,(1048576,(a1,())))) fun x2=>
    opt (bif !s0.1.2.1 then some (0,((x2.1,(true,())),((),())))
     else bif zh x2.1 s0.1.1 then some (0,((x2.1,(true,())),((),())))
      else some (0,((s0.1.1,(s0.1.2.1,())),((),())))) fun x3=>
    opt (zz (fun s4:((Int×(Bool×(Int×Unit)))×(Unit×(Unit×Unit)))=>
     bif (zh s4.1.2.2.1 ((a0.length:Nat):Int)) then opt (atI a0 s4.1.2.2.1) fun x5=>
      bif !(zh a1 x5.2) then some (.inr ((s4.1.1,(s4.1.2.1,((wrF .i64 (s4.1.2.2.1+1)),()))),((),((),()))))
      else bif !(zh x5.1 x1.1) then some (.inr ((s4.1.1,(s4.1.2.1,((wrF .i64 (s4.1.2.2.1+1)),()))),((),((),()))))
       else opt (xe ((wrF .i64 ((wrF .i64 ((wrF .i64 (x5.2 - a1))*x1.1))+(wrF .i64 ((wrF .i64 (a1 - x1.2))*x5.1)))),(1048576,((wrF .i64 (a1*(wrF .i64 (x5.2 - x1.2)))),())))) fun x6=>
        opt (bif !s4.1.2.1 then some (0,((x6.1,(true,())),((),())))
         else bif zh x6.1 s4.1.1 then some (0,((x6.1,(true,())),((),())))
          else some (0,((s4.1.1,(s4.1.2.1,())),((),())))) fun x7=>
        some (.inr ((x7.2.1.1,(x7.2.1.2.1,((wrF .i64 (s4.1.2.2.1+1)),()))),((),((),()))))
     else some (.inl (0,((s4.1.1,(s4.1.2.1,(s4.1.2.2.1,()))),((),((),())))))) zL ((x3.2.1.1,(x3.2.1.2.1,(0,()))),((),((),())))) fun x8=>
    bif Nat.beq x8.1 0 then some (.inr ((x8.2.1.1,(x8.2.1.2.1,((wrF .i64 (s0.1.2.2.1+1)),()))),((),((),()))))
    else some (.inl (1,((x8.2.1.1,(x8.2.1.2.1,(s0.1.2.2.1,()))),((),((),())))))
  else some (.inl (0,((s0.1.1,(s0.1.2.1,(s0.1.2.2.1,()))),((),((),())))))) zL ((0,(false,(0,()))),((),((),())))) fun x9=>
 bif Nat.beq x9.1 0 then some (x9.2.1.1,(x9.2.1.2.1,()))
 else some (x9.2.1.1,(x9.2.1.2.1,()))
abbrev Vd:Type:=((List qI)×Int×Unit)→Option (Int×Bool×Unit)
def zgc:Xf→Vd:=fun xe=>sF Tryz.prog [(150,⟨gF,gG,xe⟩)] zo5 (zR []) 30 148 kM kN
theorem zq8 (xe) (a0) (a1):zgc xe (a0,a1,())=GS xe a0 a1:=by kernel_rfl
def ZE:Vd:=zgc uV
theorem zlN:Con.Ok Tryz.prog 148 ⟨kM,kN,ZE⟩:=zC (ze zhl zo) zr (by kernel_rfl)
theorem zlO (a0) (a1):ZE (a0,a1,())=GS uV a0 a1:=zq8 uV a0 a1
abbrev vf:List VT:=[⟨false,(.list zm)⟩,⟨true,xK⟩]
abbrev vg:List VT:=[⟨false,I⟩,⟨false,I⟩]
def zu3:zV:=zS [cdF xK] [] [⟨2,30,some 2,zm,false⟩,⟨5,30,some 2,zm,false⟩] [] [84,59,148]
def zd8 (qo:vp) (yk:Wr) (xk:Vd) (a0:(List qI)) (a1:ya):Option (Int×Int×Unit):=
 bif (zi ((a0.length:Nat):Int) 0) then some (0,(2,()))
 else bif (zh 12 ((a0.length:Nat):Int)) then some (0,(3,()))
  else opt (zz (fun s0:((Int×(Int×Unit))×Unit)=>
    bif (zh s0.1.2.1 ((a0.length:Nat):Int)) then opt (atI a0 s0.1.2.1) fun x1=>
     opt (qo (x1,())) fun x2=>
     bif !(zi x2.1 0) then some (.inl (1,((x2.1,(s0.1.2.1,())),())))
     else some (.inr ((s0.1.1,((wrF .i64 (s0.1.2.1+1)),())),()))
    else some (.inl (0,((s0.1.1,(s0.1.2.1,())),())))) zL ((0,(0,())),())) fun x3=>
   bif Nat.beq x3.1 0 then opt (yk (a1,())) fun x4=>
    bif !(zi x4.1 0) then bif !(zi x4.1 0) then some (0,(x4.1,()))
     else opt (xk (a0,(a1.1,()))) fun x5=>
      bif !x5.2.1 then some (0,(141,()))
      else some ((wrF .i64 (a1.2+x5.1)),(0,()))
    else opt (xk (a0,(a1.1,()))) fun x6=>
     bif !x6.2.1 then some (0,(141,()))
     else some ((wrF .i64 (a1.2+x6.1)),(0,()))
   else bif !(zi x3.2.1.1 0) then bif !(zi x3.2.1.1 0) then some (0,(x3.2.1.1,()))
     else opt (xk (a0,(a1.1,()))) fun x7=>
      bif !x7.2.1 then some (0,(141,()))
      else some ((wrF .i64 (a1.2+x7.1)),(0,()))
    else opt (yk (a1,())) fun x8=>
     bif !(zi x8.1 0) then bif !(zi x8.1 0) then some (0,(x8.1,()))
      else opt (xk (a0,(a1.1,()))) fun x9=>
       bif !x9.2.1 then some (0,(141,()))
       else some ((wrF .i64 (a1.2+x9.1)),(0,()))
     else opt (xk (a0,(a1.1,()))) fun x10=>
      bif !x10.2.1 then some (0,(141,()))
      else some ((wrF .i64 (a1.2+x10.1)),(0,()))
abbrev Zd:Type:=((List qI)×ya×Unit)→Option (Int×Int×Unit)
def zkY:vp→Wr→Vd→Zd:=fun qo yk xk=>sF Tryz.prog [(84,⟨ye,yf,qo⟩),(59,⟨kp,kq,yk⟩),(148,⟨kM,kN,xk⟩)] zu3 (zR []) 30 103 vf vg
theorem zxh (qo) (yk) (xk) (a0) (a1):zkY qo yk xk (a0,a1,())=zd8 qo yk xk a0 a1:=by kernel_rfl
def jM:Zd:=zkY we kr ZE
theorem GU:Con.Ok Tryz.prog 103 ⟨vf,vg,jM⟩:=zC (ze Yy (ze zf8 (ze zlN zo))) zr (by kernel_rfl)
theorem zq9 (a0) (a1):jM (a0,a1,())=zd8 we kr ZE a0 a1:=zxh we kr ZE a0 a1
abbrev uG:List VT:=[⟨true,zm⟩,⟨true,xK⟩]
abbrev uH:List VT:=[⟨false,I⟩]
def znu:zV:=zS [cdF zm] [] [] [] [84,59]
def UD (qo:vp) (yk:Wr) (a0:qI) (a1:ya):Option (Int×Unit):=
 opt (qo (a0,())) fun x0=>
 bif !(zi x0.1 0) then some (x0.1,())
 else opt (yk (a1,())) fun x1=>
  bif !(zi x1.1 0) then some (x1.1,())
  else bif zh a1.1 a0.2 then some (141,())
   else some (0,())
abbrev YD:Type:=(qI×ya×Unit)→Option (Int×Unit)
def zeE:vp→Wr→YD:=fun qo yk=>sF Tryz.prog [(84,⟨ye,yf,qo⟩),(59,⟨kp,kq,yk⟩)] znu (zR []) 30 149 uG uH
theorem zo6 (qo) (yk) (a0) (a1):zeE qo yk (a0,a1,())=UD qo yk a0 a1:=by kernel_rfl
def gP:YD:=zeE we kr
theorem zkh:Con.Ok Tryz.prog 149 ⟨uG,uH,gP⟩:=zC (ze Yy (ze zf8 zo)) zr (by kernel_rfl)
theorem zki (a0) (a1):gP (a0,a1,())=UD we kr a0 a1:=zo6 we kr a0 a1
abbrev xb:List VT:=[⟨true,zm⟩,⟨true,xK⟩]
abbrev xc:List VT:=[⟨false,I⟩,⟨false,I⟩]
def zra:zV:=zS [cdF zm] [] [] [] [149,150]
def zbt (gV:YD) (xe:Xf) (a0:qI) (a1:ya):Option (Int×Int×Unit):=
 opt (gV (a0,(a1,()))) fun x0=>
 bif !(zi x0.1 0) then some (0,(x0.1,()))
 else opt (xe (a0.2,(a1.2,(1048576,())))) fun x1=>
  some ((wrF .i64 (a0.1+x1.1)),(0,()))
abbrev uN:Type:=(qI×ya×Unit)→Option (Int×Int×Unit)
def zhm:YD→Xf→uN:=fun gV xe=>sF Tryz.prog [(149,⟨uG,uH,gV⟩),(150,⟨gF,gG,xe⟩)] zra (zR []) 30 104 xb xc
theorem zta (gV) (xe) (a0) (a1):zhm gV xe (a0,a1,())=zbt gV xe a0 a1:=by kernel_rfl
def jg:uN:=zhm gP uV
theorem KH:Con.Ok Tryz.prog 104 ⟨xb,xc,jg⟩:=zC (ze zkh (ze zhl zo)) zr (by kernel_rfl)
theorem znv (a0) (a1):jg (a0,a1,())=zbt gP uV a0 a1:=zta gP uV a0 a1
end Go.Proofs.YtplhphmbkmpocaaGreat.ad
end
