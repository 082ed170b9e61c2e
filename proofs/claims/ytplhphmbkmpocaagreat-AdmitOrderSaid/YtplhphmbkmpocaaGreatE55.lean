/- Parts of a proof, joined. -/
import Derived.Test.YtplhphmbkmpocaaGreatE54
set_option linter.unusedSectionVars false
set_option linter.unusedVariables false
set_option linter.unusedSimpArgs false
set_option maxHeartbeats 0
set_option maxRecDepth 100000
noncomputable section
namespace Go.Proofs.YtplhphmbkmpocaaGreat.ad
open Go Go.Fz Go.Fz.Sy
abbrev cdF (t:Ty):zlZ:=⟨t,Yn t,[]⟩
abbrev ze3:List VT:=[⟨false,(.list (.int .u8))⟩,⟨false,I⟩]
abbrev ze4:List VT:=[⟨false,I⟩]
def zvy:zT:=zM [] [] [] [] []
def ze5 (a0:(List Int)) (a1:Int):Option (Int×Unit):=
 bif (zh a1 ((a0.length:Nat):Int)) then opt (atI a0 a1) fun x0=>
  some ((wrF .i64 x0),())
 else some (0,())
abbrev zau:Type:=((List Int)×Int×Unit)→Option (Int×Unit)
def zl4:zau:=sF Tryz.prog [] zvy (zL []) 30 62 ze3 ze4
theorem zyi (a0) (a1):zl4 (a0,a1,())=ze5 a0 a1:=by kernel_rfl
def kL:zau:=zl4
theorem zrr:Con.Ok Tryz.prog 62 ⟨ze3,ze4,kL⟩:=zA zn zt (by kernel_rfl)
theorem zrs (a0) (a1):kL (a0,a1,())=ze5  a0 a1:=zyi  a0 a1
abbrev ze6:List VT:=[⟨true,zv⟩,⟨false,I⟩]
abbrev ze7:List VT:=[⟨false,.bool⟩]
def zvz:zT:=zM [cdF zv,cdF zO] [] [] [] []
def ze8 (a0:zJ) (a1:Int):Option (Bool×Unit):=
 bif !(zh a1 0) then some ((zh a1 a0.1),())
 else some (false,())
abbrev zav:Type:=(zJ×Int×Unit)→Option (Bool×Unit)
def zl5:zav:=sF Tryz.prog [] zvz (zL []) 30 97 ze6 ze7
theorem zyj (a0) (a1):zl5 (a0,a1,())=ze8 a0 a1:=by kernel_rfl
def Yp:zav:=zl5
theorem zrt:Con.Ok Tryz.prog 97 ⟨ze6,ze7,Yp⟩:=zA zn zt (by kernel_rfl)
theorem zru (a0) (a1):Yp (a0,a1,())=ze8  a0 a1:=zyj  a0 a1
abbrev zaw:List VT:=[⟨true,zv⟩,⟨true,zO⟩]
abbrev zax:List VT:=[⟨false,.bool⟩]
def zvA:zT:=zM [cdF zv,cdF zO] [] [] [] [97]
def ze9 (Jl:zav) (a0:zJ) (a1:GO):Option (Bool×Unit):=
 opt (opt (Jl (a0,(a1.1,()))) fun x0=>
  bif !x0.1 then some (1,((false,()),()))
  else opt (Jl (a0,(a1.2.1,()))) fun x1=>
   bif !x1.1 then some (1,((false,()),()))
   else bif zi a1.1 a1.2.1 then some (1,((false,()),()))
    else opt (atI a0.2.1 a1.1) fun x2=>
     bif x2 then opt (atI a0.2.1 a1.2.1) fun x3=>
      bif x3 then some (1,((false,()),()))
      else some (0,((false,()),()))
     else some (0,((false,()),()))) fun x4=>
 bif Nat.beq x4.1 0 then bif !(zh a1.2.2.1 1) then bif !(zh 1000 a1.2.2.1) then bif !(zh a1.2.2.2 0) then some ((!(zh 10000 a1.2.2.2)),())
    else some (false,())
   else some (false,())
  else some (false,())
 else some (x4.2.1.1,())
abbrev Yq:Type:=(zJ×GO×Unit)→Option (Bool×Unit)
def zl6:zav→Yq:=fun Jl=>sF Tryz.prog [(97,⟨ze6,ze7,Jl⟩)] zvA (zL []) 30 68 zaw zax
theorem zyk (Jl) (a0) (a1):zl6 Jl (a0,a1,())=ze9 Jl a0 a1:=by kernel_rfl
def uv:Yq:=zl6 Yp
theorem zrv:Con.Ok Tryz.prog 68 ⟨zaw,zax,uv⟩:=zA (zf zrt zn) zt (by kernel_rfl)
theorem zrw (a0) (a1):uv (a0,a1,())=ze9 Yp a0 a1:=zyk Yp a0 a1
abbrev Uw:List VT:=[⟨true,zO⟩,⟨false,I⟩,⟨false,I⟩]
abbrev Ux:List VT:=[⟨false,.bool⟩]
def ztx:zT:=zM [cdF zO] [] [] [] []
def zdc (a0:GO) (a1:Int) (a2:Int):Option (Bool×Unit):=
 bif zi a0.1 a1 then bif zi a0.2.1 a2 then some (true,())
  else bif zi a0.1 a2 then some ((zi a0.2.1 a1),())
   else some (false,())
 else bif zi a0.1 a2 then some ((zi a0.2.1 a1),())
  else some (false,())
abbrev JC:Type:=(GO×Int×Int×Unit)→Option (Bool×Unit)
def zjQ:JC:=sF Tryz.prog [] ztx (zL []) 30 69 Uw Ux
theorem zvB (a0) (a1) (a2):zjQ (a0,a1,a2,())=zdc a0 a1 a2:=by kernel_rfl
def xD:JC:=zjQ
theorem zpA:Con.Ok Tryz.prog 69 ⟨Uw,Ux,xD⟩:=zA zn zt (by kernel_rfl)
theorem zpB (a0) (a1) (a2):xD (a0,a1,a2,())=zdc  a0 a1 a2:=zvB  a0 a1 a2
abbrev Ws:List VT:=[⟨true,vg⟩]
abbrev Wt:List VT:=[⟨true,zv⟩]
def zkK:zT:=zM [cdF vg,⟨zv,Yn zv,[1,2]⟩,cdF zO] [] [⟨5,141,none,.bool,true⟩,⟨9,141,none,.bool,true⟩,⟨13,141,none,.bool,true⟩,⟨16,141,none,.bool,true⟩,⟨19,141,none,.bool,true⟩,⟨21,141,none,.bool,true⟩,⟨24,141,none,.bool,true⟩,⟨3,59,none,zO,true⟩,⟨6,59,none,zO,true⟩,⟨8,59,none,zO,true⟩] [(5,141,5,[1,2]),(9,141,5,[2]),(13,141,5,[2]),(16,141,5,[2]),(19,141,5,[2]),(21,141,5,[2]),(24,141,5,[2]),(5,141,5,[1])] [62,68,69]
def VU (jL:zau) (wi:Yq) (qN:JC) (a0:Xp):Option (zJ×Unit):=
 opt (zC (fun s0:((Unit×(Int×Unit))×((Int×((List Bool)×((List (Int×(Int×(Int×Int))))×Unit)))×Unit))=>
  bif zh s0.1.2.1 s0.2.1.1 then bif (qT s0.2.1.2.1.length (((!(zh s0.1.2.1 (wrF .i64 (1+(wrF .i64 (Int.tmod a0.1 6))))))::[]).length) 1) then some (.inr (((),((wrF .i64 (s0.1.2.1+1)),())),((s0.2.1.1,((s0.2.1.2.1++((!(zh s0.1.2.1 (wrF .i64 (1+(wrF .i64 (Int.tmod a0.1 6))))))::[])),(s0.2.1.2.2.1,()))),())))
   else none
  else some (.inl (0,(((),(s0.1.2.1,())),((s0.2.1.1,(s0.2.1.2.1,(s0.2.1.2.2.1,()))),()))))) zK (((),(0,())),(((wrF .i64 ((wrF .i64 (1+(wrF .i64 (Int.tmod a0.1 6))))+(wrF .i64 (2+(wrF .i64 (Int.tmod a0.2.1 5)))))),([],([],()))),()))) fun x1=>
 opt (zC (fun s2:(((Int×(Int×((List Int)×((List Int)×((List Int)×(List Int))))))×(Unit×(Int×Unit)))×((Int×((List Bool)×((List (Int×(Int×(Int×Int))))×Unit)))×Unit))=>
  bif (zh s2.1.2.2.1 (wrF .i64 (1+(wrF .i64 (Int.tmod a0.1 6))))) then opt (jL (s2.1.1.2.2.2.2.1,(((s2.2.1.2.2.1.length:Nat):Int),()))) fun x3=>
   opt (jL (s2.1.1.2.2.2.2.2,(((s2.2.1.2.2.1.length:Nat):Int),()))) fun x4=>
   bif (zi ((s2.2.1.2.2.1.length:Nat):Int) 24) then some (.inr ((s2.1.1,((),((wrF .i64 (s2.1.2.2.1+1)),()))),((s2.2.1.1,(s2.2.1.2.1,(s2.2.1.2.2.1,()))),())))
   else opt (wi ((s2.2.1.1,(s2.2.1.2.1,s2.2.1.2.2.1)),(((wrF .i64 (s2.1.2.2.1 - 1)),(s2.1.2.2.1,((wrF .i64 (1+(Int.tmod x3.1 20))),(Int.tmod x4.1 50)))),()))) fun x5=>
    bif !x5.1 then some (.inr ((s2.1.1,((),((wrF .i64 (s2.1.2.2.1+1)),()))),((s2.2.1.1,(s2.2.1.2.1,(s2.2.1.2.2.1,()))),())))
    else opt (zC (fun s6:(((Int×((List Bool)×(List (Int×(Int×(Int×Int))))))×(Int×Unit))×Unit)=>
      bif (zh s6.1.2.1 ((s2.2.1.2.2.1.length:Nat):Int)) then opt (atI s2.2.1.2.2.1 s6.1.2.1) fun x7=>
       opt (gl s2.2.1.2.2.1 (Int.toNat s6.1.2.1)) fun x8=>
       opt (qN (x8,((wrF .i64 (s2.1.2.2.1 - 1)),(s2.1.2.2.1,())))) fun x9=>
       bif x9.1 then some (.inl s6)
       else some (.inr ((s6.1.1,((wrF .i64 (s6.1.2.1+1)),())),()))
      else some (.inl s6)) zK (((0,([],[])),(0,())),())) fun x10=>
     bif (zh x10.1.2.1 ((s2.2.1.2.2.1.length:Nat):Int)) then opt (atI s2.2.1.2.2.1 x10.1.2.1) fun x11=>
      opt (gl s2.2.1.2.2.1 (Int.toNat x10.1.2.1)) fun x12=>
      opt (qN (x12,((wrF .i64 (s2.1.2.2.1 - 1)),(s2.1.2.2.1,())))) fun x13=>
      bif x13.1 then some (.inr ((s2.1.1,((),((wrF .i64 (s2.1.2.2.1+1)),()))),((s2.2.1.1,(s2.2.1.2.1,(s2.2.1.2.2.1,()))),())))
      else none
     else bif (qT s2.2.1.2.2.1.length ((((wrF .i64 (s2.1.2.2.1 - 1)),(s2.1.2.2.1,((wrF .i64 (1+(Int.tmod x3.1 20))),(Int.tmod x4.1 50))))::[]).length) 32) then some (.inr ((s2.1.1,((),((wrF .i64 (s2.1.2.2.1+1)),()))),((s2.2.1.1,(s2.2.1.2.1,((s2.2.1.2.2.1++(((wrF .i64 (s2.1.2.2.1 - 1)),(s2.1.2.2.1,((wrF .i64 (1+(Int.tmod x3.1 20))),(Int.tmod x4.1 50))))::[])),()))),())))
      else none
  else some (.inl (0,((s2.1.1,((),(s2.1.2.2.1,()))),((s2.2.1.1,(s2.2.1.2.1,(s2.2.1.2.2.1,()))),()))))) zK ((a0,((),(1,()))),((x1.2.2.1.1,(x1.2.2.1.2.1,(x1.2.2.1.2.2.1,()))),()))) fun x14=>
 opt (zC (fun s15:(((Int×(Int×((List Int)×((List Int)×((List Int)×(List Int))))))×(Unit×(Int×Unit)))×((Int×((List Bool)×((List (Int×(Int×(Int×Int))))×Unit)))×Unit))=>
  bif (zh s15.1.2.2.1 (wrF .i64 (2+(wrF .i64 (Int.tmod a0.2.1 5))))) then opt (jL (s15.1.1.2.2.2.1,((wrF .i64 (2*s15.1.2.2.1)),()))) fun x16=>
   bif (zi (wrF .i64 (1+(wrF .i64 (Int.tmod a0.1 6)))) 0) then none
   else opt (jL (s15.1.1.2.2.2.2.1,(((s15.2.1.2.2.1.length:Nat):Int),()))) fun x17=>
    opt (jL (s15.1.1.2.2.2.2.2,(((s15.2.1.2.2.1.length:Nat):Int),()))) fun x18=>
    bif (zi ((s15.2.1.2.2.1.length:Nat):Int) 24) then some (.inr ((s15.1.1,((),((wrF .i64 (s15.1.2.2.1+1)),()))),((s15.2.1.1,(s15.2.1.2.1,(s15.2.1.2.2.1,()))),())))
    else opt (wi ((s15.2.1.1,(s15.2.1.2.1,s15.2.1.2.2.1)),(((wrF .i64 ((wrF .i64 (1+(wrF .i64 (Int.tmod a0.1 6))))+s15.1.2.2.1)),((Int.tmod x16.1 (wrF .i64 (1+(wrF .i64 (Int.tmod a0.1 6))))),((wrF .i64 (1+(Int.tmod x17.1 20))),(Int.tmod x18.1 50)))),()))) fun x19=>
     bif !x19.1 then some (.inr ((s15.1.1,((),((wrF .i64 (s15.1.2.2.1+1)),()))),((s15.2.1.1,(s15.2.1.2.1,(s15.2.1.2.2.1,()))),())))
     else opt (zC (fun s20:(((Int×((List Bool)×(List (Int×(Int×(Int×Int))))))×(Int×Unit))×Unit)=>
       bif (zh s20.1.2.1 ((s15.2.1.2.2.1.length:Nat):Int)) then opt (atI s15.2.1.2.2.1 s20.1.2.1) fun x21=>
        opt (gl s15.2.1.2.2.1 (Int.toNat s20.1.2.1)) fun x22=>
        opt (qN (x22,((wrF .i64 ((wrF .i64 (1+(wrF .i64 (Int.tmod a0.1 6))))+s15.1.2.2.1)),((Int.tmod x16.1 (wrF .i64 (1+(wrF .i64 (Int.tmod a0.1 6))))),())))) fun x23=>
        bif x23.1 then some (.inl s20)
        else some (.inr ((s20.1.1,((wrF .i64 (s20.1.2.1+1)),())),()))
       else some (.inl s20)) zK (((0,([],[])),(0,())),())) fun x24=>
      bif (zh x24.1.2.1 ((s15.2.1.2.2.1.length:Nat):Int)) then opt (atI s15.2.1.2.2.1 x24.1.2.1) fun x25=>
       opt (gl s15.2.1.2.2.1 (Int.toNat x24.1.2.1)) fun x26=>
       opt (qN (x26,((wrF .i64 ((wrF .i64 (1+(wrF .i64 (Int.tmod a0.1 6))))+s15.1.2.2.1)),((Int.tmod x16.1 (wrF .i64 (1+(wrF .i64 (Int.tmod a0.1 6))))),())))) fun x27=>
       bif x27.1 then some (.inr ((s15.1.1,((),((wrF .i64 (s15.1.2.2.1+1)),()))),((s15.2.1.1,(s15.2.1.2.1,(s15.2.1.2.2.1,()))),())))
       else none
      else bif (qT s15.2.1.2.2.1.length ((((wrF .i64 ((wrF .i64 (1+(wrF .i64 (Int.tmod a0.1 6))))+s15.1.2.2.1)),((Int.tmod x16.1 (wrF .i64 (1+(wrF .i64 (Int.tmod a0.1 6))))),((wrF .i64 (1+(Int.tmod x17.1 20))),(Int.tmod x18.1 50))))::[]).length) 32) then some (.inr ((s15.1.1,((),((wrF .i64 (s15.1.2.2.1+1)),()))),((s15.2.1.1,(s15.2.1.2.1,((s15.2.1.2.2.1++(((wrF .i64 ((wrF .i64 (1+(wrF .i64 (Int.tmod a0.1 6))))+s15.1.2.2.1)),((Int.tmod x16.1 (wrF .i64 (1+(wrF .i64 (Int.tmod a0.1 6))))),((wrF .i64 (1+(Int.tmod x17.1 20))),(Int.tmod x18.1 50))))::[])),()))),())))
       else none
  else some (.inl (0,((s15.1.1,((),(s15.1.2.2.1,()))),((s15.2.1.1,(s15.2.1.2.1,(s15.2.1.2.2.1,()))),()))))) zK ((x14.2.1.1,((),(0,()))),((x14.2.2.1.1,(x14.2.2.1.2.1,(x14.2.2.1.2.2.1,()))),()))) fun x28=>
 opt (bif (zh 2 (wrF .i64 (1+(wrF .i64 (Int.tmod a0.1 6))))) then bif zi (Int.tmod x28.2.1.1.1 2) 0 then opt (jL (x28.2.1.1.2.2.2.2.1,(((x28.2.2.1.2.2.1.length:Nat):Int),()))) fun x29=>
    opt (jL (x28.2.1.1.2.2.2.2.2,(((x28.2.2.1.2.2.1.length:Nat):Int),()))) fun x30=>
    bif (zi ((x28.2.2.1.2.2.1.length:Nat):Int) 24) then some (0,((x28.2.1.1,((),())),((x28.2.2.1.1,(x28.2.2.1.2.1,(x28.2.2.1.2.2.1,()))),())))
    else opt (wi ((x28.2.2.1.1,(x28.2.2.1.2.1,x28.2.2.1.2.2.1)),(((wrF .i64 ((wrF .i64 (1+(wrF .i64 (Int.tmod a0.1 6)))) - 1)),(0,((wrF .i64 (1+(Int.tmod x29.1 20))),(Int.tmod x30.1 50)))),()))) fun x31=>
     bif !x31.1 then some (0,((x28.2.1.1,((),())),((x28.2.2.1.1,(x28.2.2.1.2.1,(x28.2.2.1.2.2.1,()))),())))
     else opt (zC (fun s32:(((Int×((List Bool)×(List (Int×(Int×(Int×Int))))))×(Int×Unit))×Unit)=>
       bif (zh s32.1.2.1 ((x28.2.2.1.2.2.1.length:Nat):Int)) then opt (atI x28.2.2.1.2.2.1 s32.1.2.1) fun x33=>
        opt (gl x28.2.2.1.2.2.1 (Int.toNat s32.1.2.1)) fun x34=>
        opt (qN (x34,((wrF .i64 ((wrF .i64 (1+(wrF .i64 (Int.tmod a0.1 6)))) - 1)),(0,())))) fun x35=>
        bif x35.1 then some (.inl s32)
        else some (.inr ((s32.1.1,((wrF .i64 (s32.1.2.1+1)),())),()))
       else some (.inl s32)) zK (((0,([],[])),(0,())),())) fun x36=>
      bif (zh x36.1.2.1 ((x28.2.2.1.2.2.1.length:Nat):Int)) then opt (atI x28.2.2.1.2.2.1 x36.1.2.1) fun x37=>
       opt (gl x28.2.2.1.2.2.1 (Int.toNat x36.1.2.1)) fun x38=>
       opt (qN (x38,((wrF .i64 ((wrF .i64 (1+(wrF .i64 (Int.tmod a0.1 6)))) - 1)),(0,())))) fun x39=>
       bif x39.1 then some (0,((x28.2.1.1,((),())),((x28.2.2.1.1,(x28.2.2.1.2.1,(x28.2.2.1.2.2.1,()))),())))
       else none
      else bif (qT x28.2.2.1.2.2.1.length ((((wrF .i64 ((wrF .i64 (1+(wrF .i64 (Int.tmod a0.1 6)))) - 1)),(0,((wrF .i64 (1+(Int.tmod x29.1 20))),(Int.tmod x30.1 50))))::[]).length) 32) then some (0,((x28.2.1.1,((),())),((x28.2.2.1.1,(x28.2.2.1.2.1,((x28.2.2.1.2.2.1++(((wrF .i64 ((wrF .i64 (1+(wrF .i64 (Int.tmod a0.1 6)))) - 1)),(0,((wrF .i64 (1+(Int.tmod x29.1 20))),(Int.tmod x30.1 50))))::[])),()))),())))
       else none
   else some (0,((x28.2.1.1,((),())),((x28.2.2.1.1,(x28.2.2.1.2.1,(x28.2.2.1.2.2.1,()))),())))
  else some (0,((x28.2.1.1,((),())),((x28.2.2.1.1,(x28.2.2.1.2.1,(x28.2.2.1.2.2.1,()))),())))) fun x40=>
 opt (zC (fun s41:(((Int×(Int×((List Int)×((List Int)×((List Int)×(List Int))))))×(Unit×(Int×Unit)))×((Int×((List Bool)×((List (Int×(Int×(Int×Int))))×Unit)))×Unit))=>
  bif (zh s41.1.2.2.1 (wrF .i64 (2+(wrF .i64 (Int.tmod a0.2.1 5))))) then opt (opt (jL (s41.1.1.2.2.2.1,((wrF .i64 ((wrF .i64 (2*s41.1.2.2.1))+1)),()))) fun x42=>
    bif zh 0 (Int.tmod x42.1 3) then opt (jL (s41.1.1.2.2.2.1,((wrF .i64 ((wrF .i64 (2*s41.1.2.2.1))+1)),()))) fun x43=>
     bif (zi (wrF .i64 (1+(wrF .i64 (Int.tmod a0.1 6)))) 0) then none
     else opt (jL (s41.1.1.2.2.2.2.1,(((s41.2.1.2.2.1.length:Nat):Int),()))) fun x44=>
      opt (jL (s41.1.1.2.2.2.2.2,(((s41.2.1.2.2.1.length:Nat):Int),()))) fun x45=>
      bif (zi ((s41.2.1.2.2.1.length:Nat):Int) 24) then some (0,((s41.1.1,((),())),((s41.2.1.1,(s41.2.1.2.1,(s41.2.1.2.2.1,()))),())))
      else opt (wi ((s41.2.1.1,(s41.2.1.2.1,s41.2.1.2.2.1)),(((wrF .i64 ((wrF .i64 (1+(wrF .i64 (Int.tmod a0.1 6))))+s41.1.2.2.1)),((Int.tmod x43.1 (wrF .i64 (1+(wrF .i64 (Int.tmod a0.1 6))))),((wrF .i64 (1+(Int.tmod x44.1 20))),(Int.tmod x45.1 50)))),()))) fun x46=>
       bif !x46.1 then some (0,((s41.1.1,((),())),((s41.2.1.1,(s41.2.1.2.1,(s41.2.1.2.2.1,()))),())))
       else opt (zC (fun s47:(((Int×((List Bool)×(List (Int×(Int×(Int×Int))))))×(Int×Unit))×Unit)=>
         bif (zh s47.1.2.1 ((s41.2.1.2.2.1.length:Nat):Int)) then opt (atI s41.2.1.2.2.1 s47.1.2.1) fun x48=>
          opt (gl s41.2.1.2.2.1 (Int.toNat s47.1.2.1)) fun x49=>
          opt (qN (x49,((wrF .i64 ((wrF .i64 (1+(wrF .i64 (Int.tmod a0.1 6))))+s41.1.2.2.1)),((Int.tmod x43.1 (wrF .i64 (1+(wrF .i64 (Int.tmod a0.1 6))))),())))) fun x50=>
          bif x50.1 then some (.inl s47)
          else some (.inr ((s47.1.1,((wrF .i64 (s47.1.2.1+1)),())),()))
         else some (.inl s47)) zK (((0,([],[])),(0,())),())) fun x51=>
        bif (zh x51.1.2.1 ((s41.2.1.2.2.1.length:Nat):Int)) then opt (atI s41.2.1.2.2.1 x51.1.2.1) fun x52=>
         opt (gl s41.2.1.2.2.1 (Int.toNat x51.1.2.1)) fun x53=>
         opt (qN (x53,((wrF .i64 ((wrF .i64 (1+(wrF .i64 (Int.tmod a0.1 6))))+s41.1.2.2.1)),((Int.tmod x43.1 (wrF .i64 (1+(wrF .i64 (Int.tmod a0.1 6))))),())))) fun x54=>
         bif x54.1 then some (0,((s41.1.1,((),())),((s41.2.1.1,(s41.2.1.2.1,(s41.2.1.2.2.1,()))),())))
         else none
        else bif (qT s41.2.1.2.2.1.length ((((wrF .i64 ((wrF .i64 (1+(wrF .i64 (Int.tmod a0.1 6))))+s41.1.2.2.1)),((Int.tmod x43.1 (wrF .i64 (1+(wrF .i64 (Int.tmod a0.1 6))))),((wrF .i64 (1+(Int.tmod x44.1 20))),(Int.tmod x45.1 50))))::[]).length) 32) then some (0,((s41.1.1,((),())),((s41.2.1.1,(s41.2.1.2.1,((s41.2.1.2.2.1++(((wrF .i64 ((wrF .i64 (1+(wrF .i64 (Int.tmod a0.1 6))))+s41.1.2.2.1)),((Int.tmod x43.1 (wrF .i64 (1+(wrF .i64 (Int.tmod a0.1 6))))),((wrF .i64 (1+(Int.tmod x44.1 20))),(Int.tmod x45.1 50))))::[])),()))),())))
         else none
    else some (0,((s41.1.1,((),())),((s41.2.1.1,(s41.2.1.2.1,(s41.2.1.2.2.1,()))),())))) fun x55=>
   some (.inr ((x55.2.1.1,((),((wrF .i64 (s41.1.2.2.1+1)),()))),((x55.2.2.1.1,(x55.2.2.1.2.1,(x55.2.2.1.2.2.1,()))),())))
  else some (.inl (0,((s41.1.1,((),(s41.1.2.2.1,()))),((s41.2.1.1,(s41.2.1.2.1,(s41.2.1.2.2.1,()))),()))))) zK ((x40.2.1.1,((),(0,()))),((x40.2.2.1.1,(x40.2.2.1.2.1,(x40.2.2.1.2.2.1,()))),()))) fun x56=>
 opt (zC (fun s57:(((Int×(Int×((List Int)×((List Int)×((List Int)×(List Int))))))×(Unit×(Int×Unit)))×((Int×((List Bool)×((List (Int×(Int×(Int×Int))))×Unit)))×Unit))=>
  bif (zh (wrF .i64 (s57.1.2.2.1+1)) ((s57.1.1.2.2.1.length:Nat):Int)) then bif zh s57.1.2.2.1 12 then opt (atI s57.1.1.2.2.1 s57.1.2.2.1) fun x58=>
    bif (zi (wrF .i64 (1+(wrF .i64 (Int.tmod a0.1 6)))) 0) then none
    else opt (atI s57.1.1.2.2.1 (wrF .i64 (s57.1.2.2.1+1))) fun x59=>
     bif (zi (wrF .i64 (1+(wrF .i64 (Int.tmod a0.1 6)))) 0) then none
     else opt (jL (s57.1.1.2.2.2.2.1,(((s57.2.1.2.2.1.length:Nat):Int),()))) fun x60=>
      opt (jL (s57.1.1.2.2.2.2.2,(((s57.2.1.2.2.1.length:Nat):Int),()))) fun x61=>
      bif (zi ((s57.2.1.2.2.1.length:Nat):Int) 24) then some (.inr ((s57.1.1,((),((wrF .i64 (s57.1.2.2.1+2)),()))),((s57.2.1.1,(s57.2.1.2.1,(s57.2.1.2.2.1,()))),())))
      else opt (wi ((s57.2.1.1,(s57.2.1.2.1,s57.2.1.2.2.1)),(((Int.tmod (wrF .i64 x58) (wrF .i64 (1+(wrF .i64 (Int.tmod a0.1 6))))),((Int.tmod (wrF .i64 x59) (wrF .i64 (1+(wrF .i64 (Int.tmod a0.1 6))))),((wrF .i64 (1+(Int.tmod x60.1 20))),(Int.tmod x61.1 50)))),()))) fun x62=>
       bif !x62.1 then some (.inr ((s57.1.1,((),((wrF .i64 (s57.1.2.2.1+2)),()))),((s57.2.1.1,(s57.2.1.2.1,(s57.2.1.2.2.1,()))),())))
       else opt (zC (fun s63:(((Int×((List Bool)×(List (Int×(Int×(Int×Int))))))×(Int×Unit))×Unit)=>
         bif (zh s63.1.2.1 ((s57.2.1.2.2.1.length:Nat):Int)) then opt (atI s57.2.1.2.2.1 s63.1.2.1) fun x64=>
          opt (gl s57.2.1.2.2.1 (Int.toNat s63.1.2.1)) fun x65=>
          opt (qN (x65,((Int.tmod (wrF .i64 x58) (wrF .i64 (1+(wrF .i64 (Int.tmod a0.1 6))))),((Int.tmod (wrF .i64 x59) (wrF .i64 (1+(wrF .i64 (Int.tmod a0.1 6))))),())))) fun x66=>
          bif x66.1 then some (.inl s63)
          else some (.inr ((s63.1.1,((wrF .i64 (s63.1.2.1+1)),())),()))
         else some (.inl s63)) zK (((0,([],[])),(0,())),())) fun x67=>
        bif (zh x67.1.2.1 ((s57.2.1.2.2.1.length:Nat):Int)) then opt (atI s57.2.1.2.2.1 x67.1.2.1) fun x68=>
         opt (gl s57.2.1.2.2.1 (Int.toNat x67.1.2.1)) fun x69=>
         opt (qN (x69,((Int.tmod (wrF .i64 x58) (wrF .i64 (1+(wrF .i64 (Int.tmod a0.1 6))))),((Int.tmod (wrF .i64 x59) (wrF .i64 (1+(wrF .i64 (Int.tmod a0.1 6))))),())))) fun x70=>
         bif x70.1 then some (.inr ((s57.1.1,((),((wrF .i64 (s57.1.2.2.1+2)),()))),((s57.2.1.1,(s57.2.1.2.1,(s57.2.1.2.2.1,()))),())))
         else none
        else bif (qT s57.2.1.2.2.1.length ((((Int.tmod (wrF .i64 x58) (wrF .i64 (1+(wrF .i64 (Int.tmod a0.1 6))))),((Int.tmod (wrF .i64 x59) (wrF .i64 (1+(wrF .i64 (Int.tmod a0.1 6))))),((wrF .i64 (1+(Int.tmod x60.1 20))),(Int.tmod x61.1 50))))::[]).length) 32) then some (.inr ((s57.1.1,((),((wrF .i64 (s57.1.2.2.1+2)),()))),((s57.2.1.1,(s57.2.1.2.1,((s57.2.1.2.2.1++(((Int.tmod (wrF .i64 x58) (wrF .i64 (1+(wrF .i64 (Int.tmod a0.1 6))))),((Int.tmod (wrF .i64 x59) (wrF .i64 (1+(wrF .i64 (Int.tmod a0.1 6))))),((wrF .i64 (1+(Int.tmod x60.1 20))),(Int.tmod x61.1 50))))::[])),()))),())))
         else none
   else some (.inl (0,((s57.1.1,((),(s57.1.2.2.1,()))),((s57.2.1.1,(s57.2.1.2.1,(s57.2.1.2.2.1,()))),()))))
  else some (.inl (0,((s57.1.1,((),(s57.1.2.2.1,()))),((s57.2.1.1,(s57.2.1.2.1,(s57.2.1.2.2.1,()))),()))))) zK ((x56.2.1.1,((),(0,()))),((x56.2.2.1.1,(x56.2.2.1.2.1,(x56.2.2.1.2.2.1,()))),()))) fun x71=>
 some ((x71.2.2.1.1,(x71.2.2.1.2.1,x71.2.2.1.2.2.1)),())
abbrev ko:Type:=(Xp×Unit)→Option (zJ×Unit)
def zcQ:zau→Yq→JC→ko:=fun jL wi qN=>sF Tryz.prog [(62,⟨ze3,ze4,jL⟩),(68,⟨zaw,zax,wi⟩),(69,⟨Uw,Ux,qN⟩)] zkK (zL [(3,59),(8,59)] [(6,59)]) 30 32 Ws Wt
theorem zl7 (jL) (wi) (qN) (a0):zcQ jL wi qN (a0,())=VU jL wi qN a0:=by kernel_rfl
def wP:ko:=zcQ kL uv xD
theorem GP:Con.Ok Tryz.prog 32 ⟨Ws,Wt,wP⟩:=zA (zf zrr (zf zrv (zf zpA zn))) zt (by kernel_rfl)
theorem zhZ (a0):wP (a0,())=VU kL uv xD a0:=zl7 kL uv xD a0
abbrev zay:List VT:=[⟨false,(.int .u8)⟩,⟨false,(.int .u8)⟩,⟨false,(.int .u8)⟩]
abbrev zaz:List VT:=[⟨true,WK⟩]
def zpC:zT:=zM [cdF WK] [] [] [] []
def zaA (a0:Int) (a1:Int) (a2:Int):Option (Xq×Unit):=
 some (((wrF .i64 (100+(wrF .i64 (20*(wrF .i64 a0))))),((wrF .i64 (Int.tmod a1 40)),((wrF .i64 a2),8000))),())
abbrev Vt:Type:=(Int×Int×Int×Unit)→Option (Xq×Unit)
def zgB:Vt:=sF Tryz.prog [] zpC (zL []) 30 33 zay zaz
theorem zrx (a0) (a1) (a2):zgB (a0,a1,a2,())=zaA a0 a1 a2:=by kernel_rfl
def ZC:Vt:=zgB
theorem zl8:Con.Ok Tryz.prog 33 ⟨zay,zaz,ZC⟩:=zA zn zt (by kernel_rfl)
theorem zl9 (a0) (a1) (a2):ZC (a0,a1,a2,())=zaA  a0 a1 a2:=zrx  a0 a1 a2
abbrev WT:List VT:=[⟨true,xd⟩]
abbrev WU:List VT:=[⟨true,qM⟩]
def zma:zT:=zM [cdF xd,⟨qM,Yn qM,[7]⟩,cdF wv,cdF vg,cdF zv,cdF zO,⟨(.pair (.int .u8) (.pair (.int .u8) (.int .u8))),Yn (.pair (.int .u8) (.pair (.int .u8) (.int .u8))),[]⟩,⟨zN,Yn zN,[0]⟩,cdF ZB,cdF qh] [] [⟨4,93,none,zN,true⟩,⟨7,93,none,zN,true⟩,⟨10,93,none,zN,true⟩,⟨3,55,none,qh,true⟩,⟨6,55,none,qh,true⟩,⟨8,55,none,qh,true⟩,⟨3,58,none,qh,true⟩,⟨6,58,none,qh,true⟩,⟨8,58,none,qh,true⟩] [(4,93,5,[0]),(4,93,3,[7]),(7,93,5,[0]),(10,93,5,[0]),(3,55,3,[0]),(3,58,3,[0])] [33]
def KW (jk:ko) (ZK:Vt) (a0:jZ):Option (js×Unit):=
 opt (jk (a0.1,())) fun x0=>
 opt (ZK (a0.2.2.1.1,(a0.2.2.1.2.1,(a0.2.2.1.2.2,())))) fun x1=>
 opt (zC (fun s2:((((Int×(Int×((List Int)×((List Int)×((List Int)×(List Int))))))×((List ((List Int)×(List Int)))×((Int×(Int×Int))×(Int×(Int×((List (Bool×(Bool×(Int×(Int×(Int×(Int×(Int×Int))))))))×(List Int)))))))×(Unit×(Int×Unit)))×(((Int×((List Bool)×(List (Int×(Int×(Int×Int))))))×((Int×(Int×(Int×Int)))×((List ((List (Int×Int))×Int))×(Int×Unit))))×Unit))=>
  bif (zh s2.1.2.2.1 (wrF .i64 (2*((s2.2.1.1.2.2.length:Nat):Int)))) then opt (zC (fun s3:((Unit×(Int×Unit))×(((List (Int×Int))×(Int×Unit))×Unit))=>
    bif (zh s3.1.2.1 (ur 1 (jB 0 16))) then opt (bif zh s3.1.2.1 0 then none
      else some (0,(((127,1),()),()))) fun x4=>
     opt (bif zh s3.1.2.1 0 then none
      else some (0,((x4.2.1.1,()),()))) fun x5=>
     bif (qT s3.2.1.1.length ((x5.2.1.1::[]).length) 16) then some (.inr (((),((wrF .i64 (s3.1.2.1+1)),())),(((s3.2.1.1++(x5.2.1.1::[])),((wrF .i64 (s3.2.1.2.1+x5.2.1.1.2)),())),())))
     else none
    else some (.inl (0,(((),(s3.1.2.1,())),((s3.2.1.1,(s3.2.1.2.1,())),()))))) zK (((),(0,())),(([],(0,())),()))) fun x6=>
   opt (bif (zh 0 ((s2.1.1.2.1.length:Nat):Int)) then bif zh 0 (Int.tmod s2.1.2.2.1 3) then bif (zi ((s2.1.1.2.1.length:Nat):Int) 0) then none
      else opt (atI s2.1.1.2.1 (Int.tmod s2.1.2.2.1 ((s2.1.1.2.1.length:Nat):Int))) fun x7=>
       opt (zC (fun s8:((Unit×(Int×Unit))×(((List (Int×Int))×(Int×Unit))×Unit))=>
        bif (zh s8.1.2.1 (ur 1 (jB ((x7.1.length:Nat):Int) 10))) then opt (bif (zh s8.1.2.1 ((x7.1.length:Nat):Int)) then opt (atI x7.1 s8.1.2.1) fun x9=>
           opt (atI (α:=Int) (128::(127::(127::(64::(255::(63::[])))))) (Int.tmod x9 6)) fun x10=>
           opt (gl (α:=Int) (128::(127::(127::(64::(255::(63::[])))))) (Int.toNat (Int.tmod x9 6))) fun x11=>
           some (0,(((x11,1),()),()))
          else some (0,(((127,1),()),()))) fun x12=>
         opt (bif (zh s8.1.2.1 ((x7.2.length:Nat):Int)) then opt (atI x7.2 s8.1.2.1) fun x13=>
           some (0,(((x12.2.1.1.1,(wrF .i64 (1+(wrF .i64 (4*(wrF .i64 x13)))))),()),()))
          else some (0,((x12.2.1.1,()),()))) fun x14=>
         bif (qT s8.2.1.1.length ((x14.2.1.1::[]).length) 16) then some (.inr (((),((wrF .i64 (s8.1.2.1+1)),())),(((s8.2.1.1++(x14.2.1.1::[])),((wrF .i64 (s8.2.1.2.1+x14.2.1.1.2)),())),())))
         else none
        else some (.inl (0,(((),(s8.1.2.1,())),((s8.2.1.1,(s8.2.1.2.1,())),()))))) zK (((),(0,())),(([],(0,())),()))) fun x15=>
       opt (zC (fun s16:((Unit×(Int×Unit))×(((List (Int×Int))×(Int×Unit))×Unit))=>
        bif (zh s16.1.2.1 ((s16.2.1.1.length:Nat):Int)) then opt (atI s16.2.1.1 s16.1.2.1) fun x17=>
         opt (gl s16.2.1.1 (Int.toNat s16.1.2.1)) fun x18=>
         opt (atI s16.2.1.1 s16.1.2.1) fun x19=>
         opt (gl s16.2.1.1 (Int.toNat s16.1.2.1)) fun x20=>
         some (.inr (((),((wrF .i64 (s16.1.2.1+1)),())),(((s16.2.1.1.set (Int.toNat s16.1.2.1) (x20.1,(wrF .i64 (40*x18.2)))),(s16.2.1.2.1,())),())))
        else some (.inl (0,(((),(s16.1.2.1,())),((s16.2.1.1,(s16.2.1.2.1,())),()))))) zK (((),(0,())),((x15.2.2.1.1,(x15.2.2.1.2.1,())),()))) fun x21=>
       some (0,((s2.1.1,((),())),((x21.2.2.1.1,((wrF .i64 (40*x21.2.2.1.2.1)),())),())))
     else some (0,((s2.1.1,((),())),((x6.2.2.1.1,(x6.2.2.1.2.1,())),())))
    else some (0,((s2.1.1,((),())),((x6.2.2.1.1,(x6.2.2.1.2.1,())),())))) fun x22=>
   bif (qT s2.2.1.2.2.1.length (((x22.2.2.1.1,x22.2.2.1.2.1)::[]).length) 32) then some (.inr ((x22.2.1.1,((),((wrF .i64 (s2.1.2.2.1+1)),()))),((s2.2.1.1,(s2.2.1.2.1,((s2.2.1.2.2.1++((x22.2.2.1.1,x22.2.2.1.2.1)::[])),(s2.2.1.2.2.2.1,())))),())))
   else none
  else some (.inl (0,((s2.1.1,((),(s2.1.2.2.1,()))),((s2.2.1.1,(s2.2.1.2.1,(s2.2.1.2.2.1,(s2.2.1.2.2.2.1,())))),()))))) zK ((a0,((),(0,()))),((x0.1,((x1.1.1,(x1.1.2.1,(x1.1.2.2.1,(wrF .i64 (2000+(wrF .i64 (200*(wrF .i64 a0.2.2.2.1)))))))),([],((wrF .i64 (339+(wrF .i64 (Int.tmod a0.2.2.2.2.1 500)))),())))),()))) fun x23=>
 some ((x23.2.2.1.1,(x23.2.2.1.2.1,(x23.2.2.1.2.2.1,x23.2.2.1.2.2.2.1))),())
abbrev KY:Type:=(jZ×Unit)→Option (js×Unit)
def zd2:ko→Vt→KY:=fun jk ZK=>sF Tryz.prog [(32,⟨Ws,Wt,jk⟩),(33,⟨zay,zaz,ZK⟩)] zma (zL []) 30 10 WT WU
theorem znU (jk) (ZK) (a0):zd2 jk ZK (a0,())=KW jk ZK a0:=by kernel_rfl
def vN:KY:=zd2 wP ZC
theorem zje:Con.Ok Tryz.prog 10 ⟨WT,WU,vN⟩:=zA (zf GP (zf zl8 zn)) zt (by kernel_rfl)
theorem zjf (a0):vN (a0,())=KW wP ZC a0:=znU wP ZC a0
abbrev QH:List VT:=[⟨true,zv⟩,⟨false,I⟩]
abbrev QI:List VT:=[⟨false,I⟩]
def zvC:zT:=zM [cdF zv,cdF zO] [] [] [] []
def zfa (a0:zJ) (a1:Int):Option (Int×Unit):=
 opt (atI a0.2.2 (wrF .i64 (Int.tdiv a1 2))) fun x0=>
 bif zi (Int.tmod a1 2) 1 then some (x0.2.1,())
 else some (x0.1,())
abbrev xE:Type:=(zJ×Int×Unit)→Option (Int×Unit)
def zmb:xE:=sF Tryz.prog [] zvC (zL []) 30 88 QH QI
theorem zyl (a0) (a1):zmb (a0,a1,())=zfa a0 a1:=by kernel_rfl
def jt:xE:=zmb
theorem Wu:Con.Ok Tryz.prog 88 ⟨QH,QI,jt⟩:=zA zn zt (by kernel_rfl)
theorem zry (a0) (a1):jt (a0,a1,())=zfa  a0 a1:=zyl  a0 a1
abbrev zdd:List VT:=[⟨true,zv⟩,⟨false,I⟩]
abbrev zde:List VT:=[⟨false,(.list I)⟩]
def zty:zT:=zM [cdF zv,cdF zO] [] [⟨3,25,some 4,I,false⟩,⟨3,25,some 5,I,true⟩,⟨5,25,some 4,I,false⟩,⟨5,25,some 5,I,true⟩] [] [88]
def zdf (qe:xE) (a0:zJ) (a1:Int):Option ((List Int)×Unit):=
 opt (zC (fun s0:((Int×Unit)×((List Int)×Unit))=>
  bif (zh s0.1.1 (wrF .i64 (2*((a0.2.2.length:Nat):Int)))) then opt (opt (qe (a0,(s0.1.1,()))) fun x1=>
    bif zi x1.1 a1 then bif (qT s0.2.1.length ((s0.1.1::[]).length) 8) then some (0,((),((s0.2.1++(s0.1.1::[])),())))
     else none
    else some (0,((),(s0.2.1,())))) fun x2=>
   some (.inr (((wrF .i64 (s0.1.1+1)),()),(x2.2.2.1,())))
  else some (.inl (0,((s0.1.1,()),(s0.2.1,()))))) zK ((0,()),([],()))) fun x3=>
 some (x3.2.2.1,())
abbrev Uy:Type:=(zJ×Int×Unit)→Option ((List Int)×Unit)
def zjR:xE→Uy:=fun qe=>sF Tryz.prog [(88,⟨QH,QI,qe⟩)] zty (zL []) 30 161 zdd zde
theorem zvD (qe) (a0) (a1):zjR qe (a0,a1,())=zdf qe a0 a1:=by kernel_rfl
def JD:Uy:=zjR jt
theorem zpD:Con.Ok Tryz.prog 161 ⟨zdd,zde,JD⟩:=zA (zf Wu zn) zt (by kernel_rfl)
theorem zpE (a0) (a1):JD (a0,a1,())=zdf jt a0 a1:=zvD jt a0 a1
abbrev Ky:List VT:=[⟨true,zv⟩,⟨false,I⟩]
abbrev Kz:List VT:=[⟨false,I⟩]
def zzt:zT:=zM [cdF zv,cdF zO] [] [] [] []
def zjg (a0:zJ) (a1:Int):Option (Int×Unit):=
 opt (atI a0.2.2 (wrF .i64 (Int.tdiv a1 2))) fun x0=>
 bif zi (Int.tmod a1 2) 1 then some (x0.1,())
 else some (x0.2.1,())
abbrev Zm:Type:=(zJ×Int×Unit)→Option (Int×Unit)
def zrz:Zm:=sF Tryz.prog [] zzt (zL []) 30 89 Ky Kz
theorem zBq (a0) (a1):zrz (a0,a1,())=zjg a0 a1:=by kernel_rfl
def yj:Zm:=zrz
theorem Uz:Con.Ok Tryz.prog 89 ⟨Ky,Kz,yj⟩:=zA zn zt (by kernel_rfl)
theorem zvE (a0) (a1):yj (a0,a1,())=zjg  a0 a1:=zBq  a0 a1
abbrev KB:List VT:=[⟨false,(.list I)⟩,⟨false,I⟩]
abbrev KD:List VT:=[⟨false,.bool⟩]
def zzu:zT:=zM [] [] [] [] []
def zjh (a0:(List Int)) (a1:Int):Option (Bool×Unit):=
 opt (zC (fun s0:((Bool×(Int×Unit))×Unit)=>
  bif (zh s0.1.2.1 ((a0.length:Nat):Int)) then opt (atI a0 s0.1.2.1) fun x1=>
   bif zi x1 a1 then some (.inl (1,((true,(s0.1.2.1,())),())))
   else some (.inr ((s0.1.1,((wrF .i64 (s0.1.2.1+1)),())),()))
  else some (.inl (0,((s0.1.1,(s0.1.2.1,())),())))) zK ((false,(0,())),())) fun x2=>
 bif Nat.beq x2.1 0 then some (false,())
 else some (x2.2.1.1,())
abbrev Zn:Type:=((List Int)×Int×Unit)→Option (Bool×Unit)
def zrA:Zn:=sF Tryz.prog [] zzu (zL []) 30 98 KB KD
theorem zBr (a0) (a1):zrA (a0,a1,())=zjh a0 a1:=by kernel_rfl
def yW:Zn:=zrA
theorem zdg:Con.Ok Tryz.prog 98 ⟨KB,KD,yW⟩:=zA zn zt (by kernel_rfl)
theorem zvF (a0) (a1):yW (a0,a1,())=zjh  a0 a1:=zBr  a0 a1
abbrev zfb:List VT:=[⟨true,zv⟩,⟨false,(.int .u8)⟩,⟨false,(.int .u8)⟩]
abbrev zfc:List VT:=[⟨false,(.list I)⟩]
def zvG:zT:=zM [cdF zv,cdF zO] [] [⟨4,90,some 6,I,false⟩,⟨4,90,some 9,I,true⟩,⟨4,90,some 10,I,true⟩,⟨8,90,some 6,I,false⟩,⟨8,90,some 9,I,true⟩,⟨8,90,some 10,I,true⟩,⟨10,90,some 6,I,false⟩,⟨10,90,some 9,I,true⟩,⟨10,90,some 10,I,true⟩,⟨12,90,some 6,I,false⟩,⟨12,90,some 9,I,true⟩,⟨12,90,some 10,I,true⟩] [] [89,98]
def zfd (uS:Uy) (qp:Zm) (qJ:Zn) (a0:zJ) (a1:Int) (a2:Int):Option ((List Int)×Unit):=
 bif zi a0.1 0 then none
 else opt (zC (fun s0:(((Int×((List Bool)×(List (Int×(Int×(Int×Int))))))×((List Int)×(Int×Unit)))×((List Int)×((List Int)×Unit)))=>
   bif (zh ((s0.2.1.length:Nat):Int) 8) then bif (zi ((s0.2.1.length:Nat):Int) 0) then opt (uS (s0.1.1,(s0.1.2.2.1,()))) fun x1=>
     opt (zC (fun s2:((Int×Unit)×((List Int)×((List Int)×Unit)))=>
      bif (zh s2.1.1 ((x1.1.length:Nat):Int)) then opt (opt (atI x1.1 s2.1.1) fun x3=>
        opt (qp (s0.1.1,(x3,()))) fun x4=>
        opt (qJ (s2.2.1,(x4.1,()))) fun x5=>
        bif !x5.1 then opt (atI x1.1 s2.1.1) fun x6=>
         bif (qT s2.2.2.1.length ((x6::[]).length) 8) then some (0,((),(s2.2.1,((s2.2.2.1++(x6::[])),()))))
         else none
        else some (0,((),(s2.2.1,(s2.2.2.1,()))))) fun x7=>
       some (.inr (((wrF .i64 (s2.1.1+1)),()),(x7.2.2.1,(x7.2.2.2.1,()))))
      else some (.inl (0,((s2.1.1,()),(s2.2.1,(s2.2.2.1,())))))) zK ((0,()),(s0.2.2.1,([],())))) fun x8=>
     bif (zi ((x8.2.2.2.1.length:Nat):Int) 0) then some (.inl s0)
     else bif (zi ((x8.2.2.2.1.length:Nat):Int) 0) then none
      else opt (atI x8.2.2.2.1 (Int.tmod (wrF .i64 ((wrF .i64 a2)+(wrF .i64 (3*((s0.2.1.length:Nat):Int))))) ((x8.2.2.2.1.length:Nat):Int))) fun x9=>
       opt (gl x8.2.2.2.1 (Int.toNat (Int.tmod (wrF .i64 ((wrF .i64 a2)+(wrF .i64 (3*((s0.2.1.length:Nat):Int))))) ((x8.2.2.2.1.length:Nat):Int)))) fun x10=>
       bif (qT s0.2.1.length ((x10::[]).length) 8) then opt (qp (s0.1.1,(x10,()))) fun x11=>
        bif (qT x8.2.2.1.length ((x11.1::[]).length) 8) then some (.inr ((s0.1.1,(s0.1.2.1,(x11.1,()))),((s0.2.1++(x10::[])),((x8.2.2.1++(x11.1::[])),()))))
        else none
       else none
    else opt (atI s0.1.1.2.1 s0.1.2.2.1) fun x12=>
     bif !x12 then opt (uS (s0.1.1,(s0.1.2.2.1,()))) fun x13=>
      opt (zC (fun s14:((Int×Unit)×((List Int)×((List Int)×Unit)))=>
       bif (zh s14.1.1 ((x13.1.length:Nat):Int)) then opt (opt (atI x13.1 s14.1.1) fun x15=>
         opt (qp (s0.1.1,(x15,()))) fun x16=>
         opt (qJ (s14.2.1,(x16.1,()))) fun x17=>
         bif !x17.1 then opt (atI x13.1 s14.1.1) fun x18=>
          bif (qT s14.2.2.1.length ((x18::[]).length) 8) then some (0,((),(s14.2.1,((s14.2.2.1++(x18::[])),()))))
          else none
         else some (0,((),(s14.2.1,(s14.2.2.1,()))))) fun x19=>
        some (.inr (((wrF .i64 (s14.1.1+1)),()),(x19.2.2.1,(x19.2.2.2.1,()))))
       else some (.inl (0,((s14.1.1,()),(s14.2.1,(s14.2.2.1,())))))) zK ((0,()),(s0.2.2.1,([],())))) fun x20=>
      bif (zi ((x20.2.2.2.1.length:Nat):Int) 0) then some (.inl s0)
      else bif (zi ((x20.2.2.2.1.length:Nat):Int) 0) then none
       else opt (atI x20.2.2.2.1 (Int.tmod (wrF .i64 ((wrF .i64 a2)+(wrF .i64 (3*((s0.2.1.length:Nat):Int))))) ((x20.2.2.2.1.length:Nat):Int))) fun x21=>
        opt (gl x20.2.2.2.1 (Int.toNat (Int.tmod (wrF .i64 ((wrF .i64 a2)+(wrF .i64 (3*((s0.2.1.length:Nat):Int))))) ((x20.2.2.2.1.length:Nat):Int)))) fun x22=>
        bif (qT s0.2.1.length ((x22::[]).length) 8) then opt (qp (s0.1.1,(x22,()))) fun x23=>
         bif (qT x20.2.2.1.length ((x23.1::[]).length) 8) then some (.inr ((s0.1.1,(s0.1.2.1,(x23.1,()))),((s0.2.1++(x22::[])),((x20.2.2.1++(x23.1::[])),()))))
         else none
        else none
     else some (.inl s0)
   else some (.inl s0)) zK ((a0,([],((Int.tmod (wrF .i64 a1) a0.1),()))),([],(((Int.tmod (wrF .i64 a1) a0.1)::[]),())))) fun x24=>
  bif (zh ((x24.2.1.length:Nat):Int) 8) then bif (zi ((x24.2.1.length:Nat):Int) 0) then opt (uS (x24.1.1,(x24.1.2.2.1,()))) fun x25=>
    opt (zC (fun s26:((Int×Unit)×((List Int)×((List Int)×Unit)))=>
     bif (zh s26.1.1 ((x25.1.length:Nat):Int)) then opt (opt (atI x25.1 s26.1.1) fun x27=>
       opt (qp (x24.1.1,(x27,()))) fun x28=>
       opt (qJ (s26.2.1,(x28.1,()))) fun x29=>
       bif !x29.1 then opt (atI x25.1 s26.1.1) fun x30=>
        bif (qT s26.2.2.1.length ((x30::[]).length) 8) then some (0,((),(s26.2.1,((s26.2.2.1++(x30::[])),()))))
        else none
       else some (0,((),(s26.2.1,(s26.2.2.1,()))))) fun x31=>
      some (.inr (((wrF .i64 (s26.1.1+1)),()),(x31.2.2.1,(x31.2.2.2.1,()))))
     else some (.inl (0,((s26.1.1,()),(s26.2.1,(s26.2.2.1,())))))) zK ((0,()),(x24.2.2.1,([],())))) fun x32=>
    bif (zi ((x32.2.2.2.1.length:Nat):Int) 0) then some (x24.2.1,())
    else bif (zi ((x32.2.2.2.1.length:Nat):Int) 0) then none
     else opt (atI x32.2.2.2.1 (Int.tmod (wrF .i64 ((wrF .i64 a2)+(wrF .i64 (3*((x24.2.1.length:Nat):Int))))) ((x32.2.2.2.1.length:Nat):Int))) fun x33=>
      opt (gl x32.2.2.2.1 (Int.toNat (Int.tmod (wrF .i64 ((wrF .i64 a2)+(wrF .i64 (3*((x24.2.1.length:Nat):Int))))) ((x32.2.2.2.1.length:Nat):Int)))) fun x34=>
      bif (qT x24.2.1.length ((x34::[]).length) 8) then opt (qp (x24.1.1,(x34,()))) fun x35=>
       bif (qT x32.2.2.1.length ((x35.1::[]).length) 8) then none
       else none
      else none
   else opt (atI x24.1.1.2.1 x24.1.2.2.1) fun x36=>
    bif !x36 then opt (uS (x24.1.1,(x24.1.2.2.1,()))) fun x37=>
     opt (zC (fun s38:((Int×Unit)×((List Int)×((List Int)×Unit)))=>
      bif (zh s38.1.1 ((x37.1.length:Nat):Int)) then opt (opt (atI x37.1 s38.1.1) fun x39=>
        opt (qp (x24.1.1,(x39,()))) fun x40=>
        opt (qJ (s38.2.1,(x40.1,()))) fun x41=>
        bif !x41.1 then opt (atI x37.1 s38.1.1) fun x42=>
         bif (qT s38.2.2.1.length ((x42::[]).length) 8) then some (0,((),(s38.2.1,((s38.2.2.1++(x42::[])),()))))
         else none
        else some (0,((),(s38.2.1,(s38.2.2.1,()))))) fun x43=>
       some (.inr (((wrF .i64 (s38.1.1+1)),()),(x43.2.2.1,(x43.2.2.2.1,()))))
      else some (.inl (0,((s38.1.1,()),(s38.2.1,(s38.2.2.1,())))))) zK ((0,()),(x24.2.2.1,([],())))) fun x44=>
     bif (zi ((x44.2.2.2.1.length:Nat):Int) 0) then some (x24.2.1,())
     else bif (zi ((x44.2.2.2.1.length:Nat):Int) 0) then none
      else opt (atI x44.2.2.2.1 (Int.tmod (wrF .i64 ((wrF .i64 a2)+(wrF .i64 (3*((x24.2.1.length:Nat):Int))))) ((x44.2.2.2.1.length:Nat):Int))) fun x45=>
       opt (gl x44.2.2.2.1 (Int.toNat (Int.tmod (wrF .i64 ((wrF .i64 a2)+(wrF .i64 (3*((x24.2.1.length:Nat):Int))))) ((x44.2.2.2.1.length:Nat):Int)))) fun x46=>
       bif (qT x24.2.1.length ((x46::[]).length) 8) then opt (qp (x24.1.1,(x46,()))) fun x47=>
        bif (qT x44.2.2.1.length ((x47.1::[]).length) 8) then none
        else none
       else none
    else some (x24.2.1,())
  else some (x24.2.1,())
abbrev zaB:Type:=(zJ×Int×Int×Unit)→Option ((List Int)×Unit)
def zmc:Uy→Zm→Zn→zaB:=fun uS qp qJ=>sF Tryz.prog [(161,⟨zdd,zde,uS⟩),(89,⟨Ky,Kz,qp⟩),(98,⟨KB,KD,qJ⟩)] zvG (zL [] [(4,90)]) 30 131 zfb zfc
theorem zym (uS) (qp) (qJ) (a0) (a1) (a2):zmc uS qp qJ (a0,a1,a2,())=zfd uS qp qJ a0 a1 a2:=by kernel_rfl
def Zs:zaB:=zmc JD yj yW
theorem zrB:Con.Ok Tryz.prog 131 ⟨zfb,zfc,Zs⟩:=zA (zf zpD (zf Uz (zf zdg zn))) zt (by kernel_rfl)
theorem zrC (a0) (a1) (a2):Zs (a0,a1,a2,())=zfd JD yj yW a0 a1 a2:=zym JD yj yW a0 a1 a2
abbrev zfe:List VT:=[⟨true,zv⟩,⟨false,I⟩]
abbrev zff:List VT:=[⟨false,.bool⟩]
def zvH:zT:=zM [cdF zv,cdF zO] [] [] [] []
def zfg (a0:zJ) (a1:Int):Option (Bool×Unit):=
 bif !(zh a1 0) then some ((zh a1 (wrF .i64 (2*((a0.2.2.length:Nat):Int)))),())
 else some (false,())
abbrev zaC:Type:=(zJ×Int×Unit)→Option (Bool×Unit)
def zmd:zaC:=sF Tryz.prog [] zvH (zL []) 30 160 zfe zff
theorem zyn (a0) (a1):zmd (a0,a1,())=zfg a0 a1:=by kernel_rfl
def Yr:zaC:=zmd
theorem zrD:Con.Ok Tryz.prog 160 ⟨zfe,zff,Yr⟩:=zA zn zt (by kernel_rfl)
theorem zrE (a0) (a1):Yr (a0,a1,())=zfg  a0 a1:=zyn  a0 a1
abbrev UA:List VT:=[⟨true,zv⟩,⟨false,(.list I)⟩]
abbrev UB:List VT:=[⟨false,(.list I)⟩]
def ztz:zT:=zM [cdF zv,cdF zO] [] [⟨3,29,some 4,I,false⟩] [] [88,89]
def zdh (qe:xE) (qp:Zm) (a0:zJ) (a1:(List Int)):Option ((List Int)×Unit):=
 opt (atI a1 0) fun x0=>
 opt (qe (a0,(x0,()))) fun x1=>
 opt (zC (fun s2:((Int×Unit)×((List Int)×Unit))=>
  bif (zh s2.1.1 ((a1.length:Nat):Int)) then opt (atI a1 s2.1.1) fun x3=>
   opt (qp (a0,(x3,()))) fun x4=>
   bif (qT s2.2.1.length ((x4.1::[]).length) 8) then some (.inr (((wrF .i64 (s2.1.1+1)),()),((s2.2.1++(x4.1::[])),())))
   else none
  else some (.inl (0,((s2.1.1,()),(s2.2.1,()))))) zK ((0,()),((x1.1::[]),()))) fun x5=>
 some (x5.2.2.1,())
abbrev JE:Type:=(zJ×(List Int)×Unit)→Option ((List Int)×Unit)
def zjS:xE→Zm→JE:=fun qe qp=>sF Tryz.prog [(88,⟨QH,QI,qe⟩),(89,⟨Ky,Kz,qp⟩)] ztz (zL []) 30 133 UA UB
theorem zvI (qe) (qp) (a0) (a1):zjS qe qp (a0,a1,())=zdh qe qp a0 a1:=by kernel_rfl
def uC:JE:=zjS jt yj
theorem zfh:Con.Ok Tryz.prog 133 ⟨UA,UB,uC⟩:=zA (zf Wu (zf Uz zn)) zt (by kernel_rfl)
theorem zpF (a0) (a1):uC (a0,a1,())=zdh jt yj a0 a1:=zvI jt yj a0 a1
abbrev UC:List VT:=[⟨true,zv⟩,⟨false,(.list I)⟩]
abbrev UD:List VT:=[⟨false,.bool⟩]
def ztA:zT:=zM [cdF zv,cdF zO] [] [] [] [160,98,88]
def zdi (YQ:zaC) (jY:JE) (qJ:Zn) (qe:xE) (a0:zJ) (a1:(List Int)):Option (Bool×Unit):=
 opt (bif (zh ((a1.length:Nat):Int) 1) then some (1,((false,()),()))
  else bif (zh 8 ((a1.length:Nat):Int)) then some (1,((false,()),()))
   else some (0,((false,()),()))) fun x0=>
 bif Nat.beq x0.1 0 then opt (zC (fun s1:((Bool×(Int×Unit))×Unit)=>
   bif (zh s1.1.2.1 ((a1.length:Nat):Int)) then opt (atI a1 s1.1.2.1) fun x2=>
    opt (YQ (a0,(x2,()))) fun x3=>
    bif !x3.1 then some (.inl (1,((false,(s1.1.2.1,())),())))
    else some (.inr ((s1.1.1,((wrF .i64 (s1.1.2.1+1)),())),()))
   else some (.inl (0,((s1.1.1,(s1.1.2.1,())),())))) zK ((x0.2.1.1,(0,())),())) fun x4=>
  bif Nat.beq x4.1 0 then opt (jY (a0,(a1,()))) fun x5=>
   opt (zC (fun s6:((Bool×(Int×Unit))×Unit)=>
    bif (zh s6.1.2.1 ((x5.1.length:Nat):Int)) then opt (Vj x5.1 none (some s6.1.2.1) none) fun x7=>
     opt (atI x5.1 s6.1.2.1) fun x8=>
     opt (qJ (x7,(x8,()))) fun x9=>
     bif x9.1 then some (.inl (1,((false,(s6.1.2.1,())),())))
     else opt (bif zh 0 s6.1.2.1 then bif (zh s6.1.2.1 ((a1.length:Nat):Int)) then opt (atI x5.1 s6.1.2.1) fun x10=>
         opt (atI a0.2.1 x10) fun x11=>
         bif x11 then some (1,((false,()),()))
         else opt (atI a1 s6.1.2.1) fun x12=>
          opt (qe (a0,(x12,()))) fun x13=>
          opt (atI x5.1 s6.1.2.1) fun x14=>
          bif !(zi x13.1 x14) then some (1,((false,()),()))
          else some (0,((s6.1.1,()),()))
        else some (0,((s6.1.1,()),()))
       else some (0,((s6.1.1,()),()))) fun x15=>
      bif Nat.beq x15.1 0 then some (.inr ((x15.2.1.1,((wrF .i64 (s6.1.2.1+1)),())),()))
      else some (.inl (1,((x15.2.1.1,(s6.1.2.1,())),())))
    else some (.inl (0,((s6.1.1,(s6.1.2.1,())),())))) zK ((x4.2.1.1,(0,())),())) fun x16=>
   bif Nat.beq x16.1 0 then some (true,())
   else some (x16.2.1.1,())
  else some (x4.2.1.1,())
 else some (x0.2.1.1,())
abbrev JF:Type:=(zJ×(List Int)×Unit)→Option (Bool×Unit)
def zjT:zaC→JE→Zn→xE→JF:=fun YQ jY qJ qe=>sF Tryz.prog [(160,⟨zfe,zff,YQ⟩),(133,⟨UA,UB,jY⟩),(98,⟨KB,KD,qJ⟩),(88,⟨QH,QI,qe⟩)] ztA (zL []) 30 129 UC UD
theorem zvJ (YQ) (jY) (qJ) (qe) (a0) (a1):zjT YQ jY qJ qe (a0,a1,())=zdi YQ jY qJ qe a0 a1:=by kernel_rfl
def vB:JF:=zjT Yr uC yW jt
theorem zfi:Con.Ok Tryz.prog 129 ⟨UC,UD,vB⟩:=zA (zf zrD (zf zfh (zf zdg (zf Wu zn)))) zt (by kernel_rfl)
theorem zpG (a0) (a1):vB (a0,a1,())=zdi Yr uC yW jt a0 a1:=zvJ Yr uC yW jt a0 a1
abbrev zaD:List VT:=[⟨false,(.list I)⟩,⟨false,(.list I)⟩]
abbrev zaE:List VT:=[⟨false,.bool⟩]
def zpH:zT:=zM [] [] [] [] [98]
def zaF (qJ:Zn) (a0:(List Int)) (a1:(List Int)):Option (Bool×Unit):=
 opt (zC (fun s0:((Bool×(Int×Unit))×Unit)=>
  bif (zh s0.1.2.1 (wrF .i64 (((a0.length:Nat):Int) - 1))) then opt (atI a0 s0.1.2.1) fun x1=>
   opt (qJ (a1,(x1,()))) fun x2=>
   bif x2.1 then some (.inl (1,((true,(s0.1.2.1,())),())))
   else some (.inr ((s0.1.1,((wrF .i64 (s0.1.2.1+1)),())),()))
  else some (.inl (0,((s0.1.1,(s0.1.2.1,())),())))) zK ((false,(1,())),())) fun x3=>
 bif Nat.beq x3.1 0 then some (false,())
 else some (x3.2.1.1,())
abbrev Vu:Type:=((List Int)×(List Int)×Unit)→Option (Bool×Unit)
def zgC:Zn→Vu:=fun qJ=>sF Tryz.prog [(98,⟨KB,KD,qJ⟩)] zpH (zL []) 30 132 zaD zaE
theorem zrF (qJ) (a0) (a1):zgC qJ (a0,a1,())=zaF qJ a0 a1:=by kernel_rfl
def ZD:Vu:=zgC yW
theorem zme:Con.Ok Tryz.prog 132 ⟨zaD,zaE,ZD⟩:=zA (zf zdg zn) zt (by kernel_rfl)
theorem zmf (a0) (a1):ZD (a0,a1,())=zaF yW a0 a1:=zrF yW a0 a1
abbrev UE:List VT:=[⟨true,zv⟩,⟨false,(.list I)⟩,⟨false,(.list I)⟩]
abbrev UF:List VT:=[⟨false,.bool⟩]
def ztB:zT:=zM [cdF zv,cdF zO] [] [] [] [132]
def zdj (jY:JE) (kW:Vu) (a0:zJ) (a1:(List Int)) (a2:(List Int)):Option (Bool×Unit):=
 opt (zC (fun s0:((Bool×(Int×Unit))×Unit)=>
  bif (zh s0.1.2.1 ((a1.length:Nat):Int)) then opt (zC (fun s1:((Bool×(Int×Unit))×Unit)=>
    bif (zh s1.1.2.1 ((a2.length:Nat):Int)) then opt (atI a1 s0.1.2.1) fun x2=>
     opt (atI a2 s1.1.2.1) fun x3=>
     bif (zi (wrF .i64 (Int.tdiv x2 2)) (wrF .i64 (Int.tdiv x3 2))) then some (.inl (1,((false,(s1.1.2.1,())),())))
     else some (.inr ((s1.1.1,((wrF .i64 (s1.1.2.1+1)),())),()))
    else some (.inl (0,((s1.1.1,(s1.1.2.1,())),())))) zK ((s0.1.1,(0,())),())) fun x4=>
   bif Nat.beq x4.1 0 then some (.inr ((x4.2.1.1,((wrF .i64 (s0.1.2.1+1)),())),()))
   else some (.inl (1,((x4.2.1.1,(s0.1.2.1,())),())))
  else some (.inl (0,((s0.1.1,(s0.1.2.1,())),())))) zK ((false,(0,())),())) fun x5=>
 bif Nat.beq x5.1 0 then opt (jY (a0,(a1,()))) fun x6=>
  opt (jY (a0,(a2,()))) fun x7=>
  opt (kW (x6.1,(x7.1,()))) fun x8=>
  bif !x8.1 then opt (jY (a0,(a2,()))) fun x9=>
   opt (jY (a0,(a1,()))) fun x10=>
   opt (kW (x9.1,(x10.1,()))) fun x11=>
   some ((!x11.1),())
  else some (false,())
 else some (x5.2.1.1,())
abbrev JG:Type:=(zJ×(List Int)×(List Int)×Unit)→Option (Bool×Unit)
def zjU:JE→Vu→JG:=fun jY kW=>sF Tryz.prog [(133,⟨UA,UB,jY⟩),(132,⟨zaD,zaE,kW⟩)] ztB (zL []) 30 90 UE UF
theorem zvK (jY) (kW) (a0) (a1) (a2):zjU jY kW (a0,a1,a2,())=zdj jY kW a0 a1 a2:=by kernel_rfl
def uD:JG:=zjU uC ZD
theorem zfj:Con.Ok Tryz.prog 90 ⟨UE,UF,uD⟩:=zA (zf zfh (zf zme zn)) zt (by kernel_rfl)
theorem zpI (a0) (a1) (a2):uD (a0,a1,a2,())=zdj uC ZD a0 a1 a2:=zvK uC ZD a0 a1 a2
abbrev zaG:List VT:=[⟨false,I⟩,⟨false,I⟩,⟨false,I⟩]
abbrev zaH:List VT:=[⟨false,.bool⟩]
def zzv:zT:=zM [] [] [] [] []
def zji (a0:Int) (a1:Int) (a2:Int):Option (Bool×Unit):=
 bif !(zh a0 a1) then some ((!(zh a2 a0)),())
 else some (false,())
abbrev Wv:Type:=(Int×Int×Int×Unit)→Option (Bool×Unit)
def zrG:Wv:=sF Tryz.prog [] zzv (zL []) 30 71 zaG zaH
theorem zBs (a0) (a1) (a2):zrG (a0,a1,a2,())=zji a0 a1 a2:=by kernel_rfl
def uE:Wv:=zrG
theorem zjV:Con.Ok Tryz.prog 71 ⟨zaG,zaH,uE⟩:=zA zn zt (by kernel_rfl)
theorem zvL (a0) (a1) (a2):uE (a0,a1,a2,())=zji  a0 a1 a2:=zBs  a0 a1 a2
abbrev zaI:List VT:=[⟨true,zv⟩,⟨false,I⟩]
abbrev zaJ:List VT:=[⟨false,.bool⟩]
def zpJ:zT:=zM [cdF zv,cdF zO] [] [] [] [71]
def zaK (qR:Wv) (a0:zJ) (a1:Int):Option (Bool×Unit):=
 opt (qR (a1,(0,((wrF .i64 (a0.1 - 1)),())))) fun x0=>
 bif x0.1 then opt (atI a0.2.1 a1) fun x1=>
  some (x1,())
 else some (false,())
abbrev Vv:Type:=(zJ×Int×Unit)→Option (Bool×Unit)
def zgD:Wv→Vv:=fun qR=>sF Tryz.prog [(71,⟨zaG,zaH,qR⟩)] zpJ (zL []) 30 128 zaI zaJ
theorem zrH (qR) (a0) (a1):zgD qR (a0,a1,())=zaK qR a0 a1:=by kernel_rfl
def ZE:Vv:=zgD uE
theorem zmg:Con.Ok Tryz.prog 128 ⟨zaI,zaJ,ZE⟩:=zA (zf zjV zn) zt (by kernel_rfl)
theorem zmh (a0) (a1):ZE (a0,a1,())=zaK uE a0 a1:=zrH uE a0 a1
abbrev UG:List VT:=[⟨true,zv⟩,⟨true,zU⟩]
abbrev UH:List VT:=[⟨false,.bool⟩]
def ztC:zT:=zM [cdF zU,cdF zv,cdF zO,cdF zp] [] [] [] [71,128,129,88,89,90]
def zdk (qR:Wv) (kX:Vv) (wY:JF) (qe:xE) (qp:Zm) (yx:JG) (a0:zJ) (a1:qE):Option (Bool×Unit):=
 opt (opt (qR (a1.1,(1,(4095,())))) fun x0=>
  bif !x0.1 then some (1,((false,()),()))
  else opt (kX (a0,(a1.2.1,()))) fun x1=>
   bif !x1.1 then some (1,((false,()),()))
   else opt (kX (a0,(a1.2.2.1,()))) fun x2=>
    bif !x2.1 then some (1,((false,()),()))
    else bif zi a1.2.1 a1.2.2.1 then some (1,((false,()),()))
     else opt (qR (a1.2.2.2.2.1,(84,(1542,())))) fun x3=>
      bif !x3.1 then some (1,((false,()),()))
      else opt (qR (a1.2.2.2.2.2.2.2.1,(1,(1099511627776,())))) fun x4=>
       bif !x4.1 then some (1,((false,()),()))
       else some (0,((false,()),()))) fun x5=>
 bif Nat.beq x5.1 0 then opt (bif zi a1.2.2.2.1 7 then opt (opt (qR (a1.2.2.2.2.2.1,(1,(240,())))) fun x6=>
     bif !x6.1 then some (1,((false,()),()))
     else bif (!((zi a1.2.2.2.2.2.2.1.1 0)&&((zi a1.2.2.2.2.2.2.1.2 0)&&true))) then some (1,((false,()),()))
      else some (0,((x5.2.1.1,()),()))) fun x7=>
    bif Nat.beq x7.1 0 then some (0,((x7.2.1.1,()),()))
    else some (1,((x7.2.1.1,()),()))
   else bif zi a1.2.2.2.1 6 then opt (bif !(zi a1.2.2.2.2.2.1 0) then some (1,((false,()),()))
      else opt (qR (a1.2.2.2.2.2.2.1.1,(a1.2.2.2.2.1,(1048576,())))) fun x8=>
       bif !x8.1 then some (1,((false,()),()))
       else opt (qR (a1.2.2.2.2.2.2.1.2,(1,(2097152,())))) fun x9=>
        bif !x9.1 then some (1,((false,()),()))
        else some (0,((x5.2.1.1,()),()))) fun x10=>
     bif Nat.beq x10.1 0 then some (0,((x10.2.1.1,()),()))
     else some (1,((x10.2.1.1,()),()))
    else some (1,((false,()),()))) fun x11=>
  bif Nat.beq x11.1 0 then opt (bif (zh ((a1.2.2.2.2.2.2.2.2.length:Nat):Int) 1) then some (1,((false,()),()))
    else bif (zh 2 ((a1.2.2.2.2.2.2.2.2.length:Nat):Int)) then some (1,((false,()),()))
     else some (0,((x11.2.1.1,()),()))) fun x12=>
   bif Nat.beq x12.1 0 then opt (zC (fun s13:((Bool×(Int×Unit))×Unit)=>
     bif (zh s13.1.2.1 ((a1.2.2.2.2.2.2.2.2.length:Nat):Int)) then opt (atI a1.2.2.2.2.2.2.2.2 s13.1.2.1) fun x14=>
      opt (opt (wY (a0,(x14,()))) fun x15=>
       bif !x15.1 then some (1,((false,()),()))
       else opt (atI x14 0) fun x16=>
        opt (qe (a0,(x16,()))) fun x17=>
        bif !(zi x17.1 a1.2.1) then some (1,((false,()),()))
        else opt (atI x14 (wrF .i64 (((x14.length:Nat):Int) - 1))) fun x18=>
         opt (qp (a0,(x18,()))) fun x19=>
         bif !(zi x19.1 a1.2.2.1) then some (1,((false,()),()))
         else some (0,((s13.1.1,()),()))) fun x20=>
      bif Nat.beq x20.1 0 then some (.inr ((x20.2.1.1,((wrF .i64 (s13.1.2.1+1)),())),()))
      else some (.inl (1,((x20.2.1.1,(s13.1.2.1,())),())))
     else some (.inl (0,((s13.1.1,(s13.1.2.1,())),())))) zK ((x12.2.1.1,(0,())),())) fun x21=>
    bif Nat.beq x21.1 0 then bif (zi ((a1.2.2.2.2.2.2.2.2.length:Nat):Int) 1) then some (true,())
     else opt (atI a1.2.2.2.2.2.2.2.2 0) fun x22=>
      opt (atI a1.2.2.2.2.2.2.2.2 1) fun x23=>
      opt (yx (a0,(x22,(x23,())))) fun x24=>
      some (x24.1,())
    else some (x21.2.1.1,())
   else some (x12.2.1.1,())
  else some (x11.2.1.1,())
 else some (x5.2.1.1,())
abbrev JH:Type:=(zJ×qE×Unit)→Option (Bool×Unit)
def zjW:Wv→Vv→JF→xE→Zm→JG→JH:=fun qR kX wY qe qp yx=>sF Tryz.prog [(71,⟨zaG,zaH,qR⟩),(128,⟨zaI,zaJ,kX⟩),(129,⟨UC,UD,wY⟩),(88,⟨QH,QI,qe⟩),(89,⟨Ky,Kz,qp⟩),(90,⟨UE,UF,yx⟩)] ztC (zL []) 30 83 UG UH
theorem zvM (qR) (kX) (wY) (qe) (qp) (yx) (a0) (a1):zjW qR kX wY qe qp yx (a0,a1,())=zdk qR kX wY qe qp yx a0 a1:=by kernel_rfl
def uF:JH:=zjW uE ZE vB jt yj uD
theorem zpK:Con.Ok Tryz.prog 83 ⟨UG,UH,uF⟩:=zA (zf zjV (zf zmg (zf zfi (zf Wu (zf Uz (zf zfj zn)))))) zt (by kernel_rfl)
theorem zpL (a0) (a1):uF (a0,a1,())=zdk uE ZE vB jt yj uD a0 a1:=zvM uE ZE vB jt yj uD a0 a1
abbrev Xt:List VT:=[⟨true,wv⟩,⟨true,zv⟩,⟨false,I⟩]
abbrev Xu:List VT:=[⟨true,zU⟩,⟨false,.bool⟩]
def zh0:zT:=zM [⟨zU,Yn zU,[9]⟩,cdF wv,cdF zv,cdF zO,cdF zp] [] [⟨3,147,none,(.list I),true⟩,⟨7,147,none,(.list I),true⟩,⟨10,147,none,(.list I),true⟩,⟨16,147,none,(.list I),true⟩,⟨19,147,none,(.list I),true⟩,⟨2,54,some 6,I,false⟩,⟨5,54,some 6,I,false⟩,⟨2,54,none,(.list I),true⟩,⟨5,54,none,(.list I),true⟩] [(3,147,11,[9]),(7,147,11,[9]),(10,147,11,[9]),(16,147,11,[9]),(19,147,11,[9]),(16,147,11,[9]),(19,147,11,[9])] [129,88,89,90,83]
def Xv (Jm:zaB) (wY:JF) (qe:xE) (qp:Zm) (yx:JG) (yy:JH) (a0:Xr) (a1:zJ) (a2:Int):Option (qE×Bool×Unit):=
 bif zi a1.1 0 then none
 else opt (zC (fun s0:((Int×(Int×Unit))×Unit)=>
   bif zh s0.1.2.1 a1.1 then opt (atI a1.2.1 s0.1.1) fun x1=>
    bif !x1 then bif zi a1.1 0 then none
     else some (.inr (((Int.tmod (wrF .i64 (s0.1.1+1)) a1.1),((wrF .i64 (s0.1.2.1+1)),())),()))
    else some (.inl (0,((s0.1.1,(s0.1.2.1,())),())))
   else some (.inl (0,((s0.1.1,(s0.1.2.1,())),())))) zK (((Int.tmod (wrF .i64 a0.2.2.1) a1.1),(0,())),())) fun x2=>
  opt (zC (fun s3:(((Int×((List Bool)×(List (Int×(Int×(Int×Int))))))×((List Int)×(Int×Unit)))×Unit)=>
   bif zh s3.1.2.2.1 16 then opt (Jm (s3.1.1,((wrF .u8 x2.2.1.1),((wrF .u8 (a0.2.2.2.1+(wrF .u8 s3.1.2.2.1))),())))) fun x4=>
    opt (bif (zh 0 ((x4.1.length:Nat):Int)) then opt (wY (s3.1.1,(x4.1,()))) fun x5=>
      bif x5.1 then opt (atI x4.1 0) fun x6=>
       opt (qe (s3.1.1,(x6,()))) fun x7=>
       opt (atI s3.1.1.2.1 x7.1) fun x8=>
       bif x8 then opt (atI x4.1 (wrF .i64 (((x4.1.length:Nat):Int) - 1))) fun x9=>
        opt (qp (s3.1.1,(x9,()))) fun x10=>
        opt (atI s3.1.1.2.1 x10.1) fun x11=>
        bif x11 then some (1,((x4.1,()),()))
        else some (0,((s3.1.2.1,()),()))
       else some (0,((s3.1.2.1,()),()))
      else some (0,((s3.1.2.1,()),()))
     else some (0,((s3.1.2.1,()),()))) fun x12=>
    bif Nat.beq x12.1 0 then some (.inr ((s3.1.1,(x12.2.1.1,((wrF .i64 (s3.1.2.2.1+1)),()))),()))
    else some (.inl (1,((s3.1.1,(x12.2.1.1,(s3.1.2.2.1,()))),())))
   else some (.inl (0,((s3.1.1,(s3.1.2.1,(s3.1.2.2.1,()))),())))) zK ((a1,([],(0,()))),())) fun x13=>
  bif Nat.beq x13.1 0 then some ((0,(0,(0,(0,(0,(0,((0,0),(0,[])))))))),(false,()))
  else bif zq2 x13.2.1.2.1 then opt (atI x13.2.1.2.1 0) fun x14=>
    opt (qe (a1,(x14,()))) fun x15=>
    opt (atI x13.2.1.2.1 (wrF .i64 (((x13.2.1.2.1.length:Nat):Int) - 1))) fun x16=>
    opt (qp (a1,(x16,()))) fun x17=>
    opt (bif a0.1 then some (0,(((),()),((a2,(x15.1,(x17.1,(6,((wrF .i64 (84+(wrF .i64 a0.2.2.2.2.1))),(0,(((wrF .i64 ((wrF .i64 (84+(wrF .i64 a0.2.2.2.2.1)))+(wrF .i64 (4*(wrF .i64 a0.2.2.2.2.2.2.1))))),(wrF .i64 (1+(wrF .i64 a0.2.2.2.2.2.2.2)))),(1099511627776,((x13.2.1.2.1::[]),()))))))))),())))
     else opt (atI (α:=Int) (4::(6::(8::(12::(16::(24::(48::(10::(5::(240::[])))))))))) (Int.tmod a0.2.2.2.2.2.1 10)) fun x18=>
      opt (gl (α:=Int) (4::(6::(8::(12::(16::(24::(48::(10::(5::(240::[])))))))))) (Int.toNat (Int.tmod a0.2.2.2.2.2.1 10))) fun x19=>
      some (0,(((),()),((a2,(x15.1,(x17.1,(7,((wrF .i64 (84+(wrF .i64 a0.2.2.2.2.1))),(x19,((0,0),(1099511627776,((x13.2.1.2.1::[]),()))))))))),())))) fun x20=>
    opt (zC (fun s21:(((Int×((List Bool)×(List (Int×(Int×(Int×Int))))))×(Unit×(Int×Unit)))×((Int×(Int×(Int×(Int×(Int×(Int×((Int×Int)×(Int×((List (List Int))×Unit)))))))))×Unit))=>
     bif zh s21.1.2.2.1 24 then bif a0.2.1 then bif (zi ((s21.2.1.2.2.2.2.2.2.2.2.1.length:Nat):Int) 1) then opt (zC (fun s22:(((Int×((List Bool)×(List (Int×(Int×(Int×Int))))))×((List Int)×(Int×Unit)))×Unit)=>
         bif zh s22.1.2.2.1 16 then opt (Jm (s22.1.1,((wrF .u8 x2.2.1.1),((wrF .u8 ((wrF .u8 (a0.2.2.2.1+(wrF .u8 s21.1.2.2.1)))+(wrF .u8 s22.1.2.2.1))),())))) fun x23=>
          opt (bif (zh 0 ((x23.1.length:Nat):Int)) then opt (wY (s22.1.1,(x23.1,()))) fun x24=>
            bif x24.1 then opt (atI x23.1 0) fun x25=>
             opt (qe (s22.1.1,(x25,()))) fun x26=>
             opt (atI s22.1.1.2.1 x26.1) fun x27=>
             bif x27 then opt (atI x23.1 (wrF .i64 (((x23.1.length:Nat):Int) - 1))) fun x28=>
              opt (qp (s22.1.1,(x28,()))) fun x29=>
              opt (atI s22.1.1.2.1 x29.1) fun x30=>
              bif x30 then some (1,((x23.1,()),()))
              else some (0,((s22.1.2.1,()),()))
             else some (0,((s22.1.2.1,()),()))
            else some (0,((s22.1.2.1,()),()))
           else some (0,((s22.1.2.1,()),()))) fun x31=>
          bif Nat.beq x31.1 0 then some (.inr ((s22.1.1,(x31.2.1.1,((wrF .i64 (s22.1.2.2.1+1)),()))),()))
          else some (.inl (1,((s22.1.1,(x31.2.1.1,(s22.1.2.2.1,()))),())))
         else some (.inl (0,((s22.1.1,(s22.1.2.1,(s22.1.2.2.1,()))),())))) zK ((s21.1.1,([],(0,()))),())) fun x32=>
        bif Nat.beq x32.1 0 then some (.inr ((s21.1.1,((),((wrF .i64 (s21.1.2.2.1+1)),()))),((s21.2.1.1,(s21.2.1.2.1,(s21.2.1.2.2.1,(s21.2.1.2.2.2.1,(s21.2.1.2.2.2.2.1,(s21.2.1.2.2.2.2.2.1,(s21.2.1.2.2.2.2.2.2.1,(s21.2.1.2.2.2.2.2.2.2.1,(s21.2.1.2.2.2.2.2.2.2.2.1,()))))))))),())))
        else opt (bif zq2 x32.2.1.2.1 then opt (atI x32.2.1.2.1 (wrF .i64 (((x32.2.1.2.1.length:Nat):Int) - 1))) fun x33=>
           opt (qp (s21.1.1,(x33,()))) fun x34=>
           bif zi x34.1 s21.2.1.2.2.1 then opt (yx (s21.1.1,(x13.2.1.2.1,(x32.2.1.2.1,())))) fun x35=>
            bif x35.1 then bif (qT s21.2.1.2.2.2.2.2.2.2.2.1.length ((x32.2.1.2.1::[]).length) 24) then some (0,(((),()),((s21.2.1.1,(s21.2.1.2.1,(s21.2.1.2.2.1,(s21.2.1.2.2.2.1,(s21.2.1.2.2.2.2.1,(s21.2.1.2.2.2.2.2.1,(s21.2.1.2.2.2.2.2.2.1,(s21.2.1.2.2.2.2.2.2.2.1,((s21.2.1.2.2.2.2.2.2.2.2.1++(x32.2.1.2.1::[])),()))))))))),())))
             else none
            else some (0,(((),()),((s21.2.1.1,(s21.2.1.2.1,(s21.2.1.2.2.1,(s21.2.1.2.2.2.1,(s21.2.1.2.2.2.2.1,(s21.2.1.2.2.2.2.2.1,(s21.2.1.2.2.2.2.2.2.1,(s21.2.1.2.2.2.2.2.2.2.1,(s21.2.1.2.2.2.2.2.2.2.2.1,()))))))))),())))
           else some (0,(((),()),((s21.2.1.1,(s21.2.1.2.1,(s21.2.1.2.2.1,(s21.2.1.2.2.2.1,(s21.2.1.2.2.2.2.1,(s21.2.1.2.2.2.2.2.1,(s21.2.1.2.2.2.2.2.2.1,(s21.2.1.2.2.2.2.2.2.2.1,(s21.2.1.2.2.2.2.2.2.2.2.1,()))))))))),())))
          else none) fun x36=>
         some (.inr ((s21.1.1,((),((wrF .i64 (s21.1.2.2.1+1)),()))),((x36.2.2.1.1,(x36.2.2.1.2.1,(x36.2.2.1.2.2.1,(x36.2.2.1.2.2.2.1,(x36.2.2.1.2.2.2.2.1,(x36.2.2.1.2.2.2.2.2.1,(x36.2.2.1.2.2.2.2.2.2.1,(x36.2.2.1.2.2.2.2.2.2.2.1,(x36.2.2.1.2.2.2.2.2.2.2.2.1,()))))))))),())))
       else some (.inl (0,((s21.1.1,((),(s21.1.2.2.1,()))),((s21.2.1.1,(s21.2.1.2.1,(s21.2.1.2.2.1,(s21.2.1.2.2.2.1,(s21.2.1.2.2.2.2.1,(s21.2.1.2.2.2.2.2.1,(s21.2.1.2.2.2.2.2.2.1,(s21.2.1.2.2.2.2.2.2.2.1,(s21.2.1.2.2.2.2.2.2.2.2.1,()))))))))),()))))
      else some (.inl (0,((s21.1.1,((),(s21.1.2.2.1,()))),((s21.2.1.1,(s21.2.1.2.1,(s21.2.1.2.2.1,(s21.2.1.2.2.2.1,(s21.2.1.2.2.2.2.1,(s21.2.1.2.2.2.2.2.1,(s21.2.1.2.2.2.2.2.2.1,(s21.2.1.2.2.2.2.2.2.2.1,(s21.2.1.2.2.2.2.2.2.2.2.1,()))))))))),()))))
     else some (.inl (0,((s21.1.1,((),(s21.1.2.2.1,()))),((s21.2.1.1,(s21.2.1.2.1,(s21.2.1.2.2.1,(s21.2.1.2.2.2.1,(s21.2.1.2.2.2.2.1,(s21.2.1.2.2.2.2.2.1,(s21.2.1.2.2.2.2.2.2.1,(s21.2.1.2.2.2.2.2.2.2.1,(s21.2.1.2.2.2.2.2.2.2.2.1,()))))))))),()))))) zK ((a1,((),(0,()))),((x20.2.2.1.1,(x20.2.2.1.2.1,(x20.2.2.1.2.2.1,(x20.2.2.1.2.2.2.1,(x20.2.2.1.2.2.2.2.1,(x20.2.2.1.2.2.2.2.2.1,(x20.2.2.1.2.2.2.2.2.2.1,(x20.2.2.1.2.2.2.2.2.2.2.1,(x20.2.2.1.2.2.2.2.2.2.2.2.1,()))))))))),()))) fun x37=>
    opt (yy (x37.2.1.1,((x37.2.2.1.1,(x37.2.2.1.2.1,(x37.2.2.1.2.2.1,(x37.2.2.1.2.2.2.1,(x37.2.2.1.2.2.2.2.1,(x37.2.2.1.2.2.2.2.2.1,(x37.2.2.1.2.2.2.2.2.2.1,(x37.2.2.1.2.2.2.2.2.2.2.1,x37.2.2.1.2.2.2.2.2.2.2.2.1)))))))),()))) fun x38=>
    some ((x37.2.2.1.1,(x37.2.2.1.2.1,(x37.2.2.1.2.2.1,(x37.2.2.1.2.2.2.1,(x37.2.2.1.2.2.2.2.1,(x37.2.2.1.2.2.2.2.2.1,(x37.2.2.1.2.2.2.2.2.2.1,(x37.2.2.1.2.2.2.2.2.2.2.1,x37.2.2.1.2.2.2.2.2.2.2.2.1)))))))),(x38.1,()))
   else none
abbrev Qi:Type:=(Xr×zJ×Int×Unit)→Option (qE×Bool×Unit)
def zaL:zaB→JF→xE→Zm→JG→JH→Qi:=fun Jm wY qe qp yx yy=>sF Tryz.prog [(131,⟨zfb,zfc,Jm⟩),(129,⟨UC,UD,wY⟩),(88,⟨QH,QI,qe⟩),(89,⟨Ky,Kz,qp⟩),(90,⟨UE,UF,yx⟩),(83,⟨UG,UH,yy⟩)] zh0 (zL []) 30 63 Xt Xu
theorem zjj (Jm) (wY) (qe) (qp) (yx) (yy) (a0) (a1) (a2):zaL Jm wY qe qp yx yy (a0,a1,a2,())=Xv Jm wY qe qp yx yy a0 a1 a2:=by kernel_rfl
def xy:Qi:=zaL Zs vB jt yj uD uF
theorem zgf:Con.Ok Tryz.prog 63 ⟨Xt,Xu,xy⟩:=zA (zf zrB (zf zfi (zf Wu (zf Uz (zf zfj (zf zpK zn)))))) zt (by kernel_rfl)
theorem zgg (a0) (a1) (a2):xy (a0,a1,a2,())=Xv Zs vB jt yj uD uF a0 a1 a2:=zjj Zs vB jt yj uD uF a0 a1 a2
abbrev ZF:List VT:=[⟨true,xd⟩]
abbrev ZG:List VT:=[⟨false,(.list zU)⟩]
def zhc:zT:=zM [cdF xd,cdF zU,cdF wv,cdF vg,cdF zv,cdF zO,⟨(.pair (.int .u8) (.pair (.int .u8) (.int .u8))),Yn (.pair (.int .u8) (.pair (.int .u8) (.int .u8))),[]⟩,cdF ZB,cdF zp] [] [⟨3,61,some 2,zU,false⟩,⟨3,61,some 3,wv,true⟩,⟨10,61,some 2,zU,false⟩,⟨10,61,some 3,wv,true⟩,⟨12,61,some 2,zU,false⟩,⟨12,61,some 3,wv,true⟩,⟨3,38,some 4,zU,false⟩,⟨3,38,some 5,zU,true⟩,⟨6,38,some 4,zU,false⟩,⟨6,38,some 5,zU,true⟩] [] []
def Ys (jk:ko) (vJ:Qi) (a0:jZ):Option ((List qE)×Unit):=
 opt (zC (fun s0:((Int×Unit)×((List (Bool×(Bool×(Int×(Int×(Int×(Int×(Int×Int))))))))×Unit))=>
  bif (zh s0.1.1 ((a0.2.2.2.2.2.1.length:Nat):Int)) then opt (atI a0.2.2.2.2.2.1 s0.1.1) fun x1=>
   bif (qT s0.2.1.length (((true,x1.2)::[]).length) 10) then some (.inr (((wrF .i64 (s0.1.1+1)),()),((s0.2.1++((true,x1.2)::[])),())))
   else none
  else some (.inl (0,((s0.1.1,()),(s0.2.1,()))))) zK ((0,()),([],()))) fun x2=>
 opt (jk (a0.1,())) fun x3=>
 opt (zC (fun s4:(((Int×((List Bool)×(List (Int×(Int×(Int×Int))))))×(Int×Unit))×((List (Bool×(Bool×(Int×(Int×(Int×(Int×(Int×Int))))))))×((List (Int×(Int×(Int×(Int×(Int×(Int×((Int×Int)×(Int×(List (List Int)))))))))))×Unit)))=>
  bif (zh s4.1.2.1 ((s4.2.1.length:Nat):Int)) then bif (zh ((s4.2.2.1.length:Nat):Int) 6) then opt (atI s4.2.1 s4.1.2.1) fun x5=>
    opt (gl s4.2.1 (Int.toNat s4.1.2.1)) fun x6=>
    opt (vJ (x6,(s4.1.1,((wrF .i64 (((s4.2.2.1.length:Nat):Int)+1)),())))) fun x7=>
    opt (bif x7.2.1 then bif (qT s4.2.2.1.length ((x7.1::[]).length) 96) then some (0,((),((s4.2.2.1++(x7.1::[])),())))
      else none
     else some (0,((),(s4.2.2.1,())))) fun x8=>
    some (.inr ((s4.1.1,((wrF .i64 (s4.1.2.1+1)),())),(s4.2.1,(x8.2.2.1,()))))
   else some (.inl (0,((s4.1.1,(s4.1.2.1,())),(s4.2.1,(s4.2.2.1,())))))
  else some (.inl (0,((s4.1.1,(s4.1.2.1,())),(s4.2.1,(s4.2.2.1,())))))) zK ((x3.1,(0,())),(x2.2.2.1,([],())))) fun x9=>
 opt (zC (fun s10:((Int×Unit)×((List (Int×(Int×(Int×(Int×(Int×(Int×((Int×Int)×(Int×(List (List Int)))))))))))×Unit))=>
  bif (zh s10.1.1 ((s10.2.1.length:Nat):Int)) then opt (bif (zh s10.1.1 ((a0.2.2.2.2.2.2.length:Nat):Int)) then opt (atI a0.2.2.2.2.2.2 s10.1.1) fun x11=>
     bif zh 0 x11 then opt (atI a0.2.2.2.2.2.2 s10.1.1) fun x12=>
      opt (atI s10.2.1 s10.1.1) fun x13=>
      opt (gl s10.2.1 (Int.toNat s10.1.1)) fun x14=>
      some (0,((),((s10.2.1.set (Int.toNat s10.1.1) (x14.1,(x14.2.1,(x14.2.2.1,(x14.2.2.2.1,(x14.2.2.2.2.1,(x14.2.2.2.2.2.1,(x14.2.2.2.2.2.2.1,((wrF .i64 (20*(wrF .i64 x12))),x14.2.2.2.2.2.2.2.2))))))))),())))
     else some (0,((),(s10.2.1,())))
    else some (0,((),(s10.2.1,())))) fun x15=>
   some (.inr (((wrF .i64 (s10.1.1+1)),()),(x15.2.2.1,())))
  else some (.inl (0,((s10.1.1,()),(s10.2.1,()))))) zK ((0,()),(x9.2.2.2.1,()))) fun x16=>
 some (x16.2.2.1,())
abbrev Yt:Type:=(jZ×Unit)→Option ((List qE)×Unit)
def GQ:ko→Qi→Yt:=fun jk vJ=>sF Tryz.prog [(32,⟨Ws,Wt,jk⟩),(63,⟨Xt,Xu,vJ⟩)] zhc (zL []) 30 11 ZF ZG
theorem zh1 (jk) (vJ) (a0):GQ jk vJ (a0,())=Ys jk vJ a0:=by kernel_rfl
def xe:Yt:=GQ wP xy
theorem zfk:Con.Ok Tryz.prog 11 ⟨ZF,ZG,xe⟩:=zA (zf GP (zf zgf zn)) zt (by kernel_rfl)
theorem zfl (a0):xe (a0,())=Ys wP xy a0:=zh1 wP xy a0
abbrev WL:List VT:=[⟨true,zv⟩,⟨false,I⟩]
abbrev WM:List VT:=[⟨false,.bool⟩]
def zyo:zT:=zM [cdF zv,cdF zO] [] [] [] []
def zhd (a0:zJ) (a1:Int):Option (Bool×Unit):=
 bif !(zh a1 0) then some ((zh a1 a0.1),())
 else some (false,())
abbrev zcx:Type:=(zJ×Int×Unit)→Option (Bool×Unit)
def zoM:zcx:=sF Tryz.prog [] zyo (zL []) 30 92 WL WM
theorem zzw (a0) (a1):zoM (a0,a1,())=zhd a0 a1:=by kernel_rfl
def Va:zcx:=zoM
theorem ztD:Con.Ok Tryz.prog 92 ⟨WL,WM,Va⟩:=zA zn zt (by kernel_rfl)
theorem ztE (a0) (a1):Va (a0,a1,())=zhd  a0 a1:=zzw  a0 a1
abbrev QJ:List VT:=[⟨true,zv⟩]
abbrev QK:List VT:=[⟨false,.bool⟩]
def zvN:zT:=zM [cdF zv,cdF zO] [] [] [] [92]
def zfm (WQ:zcx) (a0:zJ):Option (Bool×Unit):=
 opt (zC (fun s0:((Bool×(Int×Unit))×Unit)=>
  bif (zh s0.1.2.1 ((a0.2.2.length:Nat):Int)) then opt (zC (fun s1:((Bool×(Int×Unit))×Unit)=>
    bif zh s1.1.2.1 4 then bif zi s1.1.2.1 0 then opt (atI a0.2.2 s0.1.2.1) fun x2=>
      opt (WQ (a0,(x2.1,()))) fun x3=>
      bif x3.1 then opt (WQ (a0,(x2.2.1,()))) fun x4=>
       bif x4.1 then bif (!(!(zi x2.1 x2.2.1))) then some (.inl (1,((false,(s1.1.2.1,())),())))
        else some (.inr ((s1.1.1,((wrF .i64 (s1.1.2.1+1)),())),()))
       else some (.inl (1,((false,(s1.1.2.1,())),())))
      else some (.inl (1,((false,(s1.1.2.1,())),())))
     else bif zi s1.1.2.1 1 then opt (atI a0.2.2 s0.1.2.1) fun x5=>
       opt (atI a0.2.1 x5.1) fun x6=>
       bif !x6 then some (.inr ((s1.1.1,((wrF .i64 (s1.1.2.1+1)),())),()))
       else opt (atI a0.2.1 x5.2.1) fun x7=>
        bif !(!x7) then some (.inl (1,((false,(s1.1.2.1,())),())))
        else some (.inr ((s1.1.1,((wrF .i64 (s1.1.2.1+1)),())),()))
      else bif zi s1.1.2.1 2 then opt (atI a0.2.2 s0.1.2.1) fun x8=>
        opt (Vj a0.2.2 none (some s0.1.2.1) none) fun x9=>
        opt (zC (fun s10:((Bool×(Int×Unit))×Unit)=>
         bif (zh s10.1.2.1 ((x9.length:Nat):Int)) then opt (atI x9 s10.1.2.1) fun x11=>
          opt (bif zi x8.1 x11.1 then bif zi x8.2.1 x11.2.1 then some (1,((false,()),()))
            else bif zi x8.1 x11.2.1 then bif zi x8.2.1 x11.1 then some (1,((false,()),()))
              else some (0,((s10.1.1,()),()))
             else some (0,((s10.1.1,()),()))
           else bif zi x8.1 x11.2.1 then bif zi x8.2.1 x11.1 then some (1,((false,()),()))
             else some (0,((s10.1.1,()),()))
            else some (0,((s10.1.1,()),()))) fun x12=>
          bif Nat.beq x12.1 0 then some (.inr ((x12.2.1.1,((wrF .i64 (s10.1.2.1+1)),())),()))
          else some (.inl (1,((x12.2.1.1,(s10.1.2.1,())),())))
         else some (.inl (0,((s10.1.1,(s10.1.2.1,())),())))) zK ((false,(0,())),())) fun x13=>
        bif Nat.beq x13.1 0 then some (.inr ((s1.1.1,((wrF .i64 (s1.1.2.1+1)),())),()))
        else bif !x13.2.1.1 then some (.inl (1,((false,(s1.1.2.1,())),())))
         else some (.inr ((s1.1.1,((wrF .i64 (s1.1.2.1+1)),())),()))
       else bif zi s1.1.2.1 3 then opt (atI a0.2.2 s0.1.2.1) fun x14=>
         bif !(zh x14.2.2.1 1) then bif !(zh 1000 x14.2.2.1) then bif !(zh x14.2.2.2 0) then bif (!(!(zh 10000 x14.2.2.2))) then some (.inl (1,((false,(s1.1.2.1,())),())))
            else some (.inr ((s1.1.1,((wrF .i64 (s1.1.2.1+1)),())),()))
           else some (.inl (1,((false,(s1.1.2.1,())),())))
          else some (.inl (1,((false,(s1.1.2.1,())),())))
         else some (.inl (1,((false,(s1.1.2.1,())),())))
        else none
    else some (.inl (0,((s1.1.1,(s1.1.2.1,())),())))) zK ((s0.1.1,(0,())),())) fun x15=>
   bif Nat.beq x15.1 0 then some (.inr ((x15.2.1.1,((wrF .i64 (s0.1.2.1+1)),())),()))
   else some (.inl (1,((x15.2.1.1,(s0.1.2.1,())),())))
  else some (.inl (0,((s0.1.1,(s0.1.2.1,())),())))) zK ((false,(0,())),())) fun x16=>
 bif Nat.beq x16.1 0 then some (true,())
 else some (x16.2.1.1,())
abbrev zaM:Type:=(zJ×Unit)→Option (Bool×Unit)
def zmi:zcx→zaM:=fun WQ=>sF Tryz.prog [(92,⟨WL,WM,WQ⟩)] zvN (zL []) 30 64 QJ QK
theorem zyp (WQ) (a0):zmi WQ (a0,())=zfm WQ a0:=by kernel_rfl
def Yu:zaM:=zmi Va
theorem zrI:Con.Ok Tryz.prog 64 ⟨QJ,QK,Yu⟩:=zA (zf ztD zn) zt (by kernel_rfl)
theorem zrJ (a0):Yu (a0,())=zfm Va a0:=zyp Va a0
abbrev QL:List VT:=[⟨true,zv⟩,⟨false,I⟩,⟨true,(.pair .bool (.pair .bool (.pair .bool (.pair .bool (.pair .bool (.pair .bool (.pair .bool (.pair .bool (.pair .bool (.pair .bool (.pair .bool (.pair .bool (.pair .bool (.pair .bool (.pair .bool (.pair .bool (.pair .bool (.pair .bool (.pair .bool (.pair .bool (.pair .bool (.pair .bool (.pair .bool .bool)))))))))))))))))))))))⟩]
abbrev QM:List VT:=[⟨false,(.list .bool)⟩]
def zvO:zT:=zM [⟨(.pair .bool (.pair .bool (.pair .bool (.pair .bool (.pair .bool (.pair .bool (.pair .bool (.pair .bool (.pair .bool (.pair .bool (.pair .bool (.pair .bool (.pair .bool (.pair .bool (.pair .bool (.pair .bool (.pair .bool (.pair .bool (.pair .bool (.pair .bool (.pair .bool (.pair .bool (.pair .bool .bool))))))))))))))))))))))),Yn (.pair .bool (.pair .bool (.pair .bool (.pair .bool (.pair .bool (.pair .bool (.pair .bool (.pair .bool (.pair .bool (.pair .bool (.pair .bool (.pair .bool (.pair .bool (.pair .bool (.pair .bool (.pair .bool (.pair .bool (.pair .bool (.pair .bool (.pair .bool (.pair .bool (.pair .bool (.pair .bool .bool))))))))))))))))))))))),[]⟩,cdF zv,cdF zO] [] [⟨4,56,some 6,.bool,false⟩,⟨6,56,some 6,.bool,false⟩,⟨8,56,some 6,.bool,false⟩] [] []
def zfn (a0:zJ) (a1:Int) (a2:(Bool×(Bool×(Bool×(Bool×(Bool×(Bool×(Bool×(Bool×(Bool×(Bool×(Bool×(Bool×(Bool×(Bool×(Bool×(Bool×(Bool×(Bool×(Bool×(Bool×(Bool×(Bool×(Bool×Bool)))))))))))))))))))))))):Option ((List Bool)×Unit):=
 bif zg5 a0.1 a0.1 1 then opt (atI (List.replicate (Int.toNat a0.1) false) a1) fun x0=>
  opt (gl (List.replicate (Int.toNat a0.1) false) (Int.toNat a1)) fun x1=>
  opt (zC (fun s2:((Int×Unit)×((List Bool)×Unit))=>
   bif zh s2.1.1 a0.1 then opt (zC (fun s3:((Int×Unit)×((List Bool)×Unit))=>
     bif (zh s3.1.1 ((a0.2.2.length:Nat):Int)) then opt (atI a0.2.2 s3.1.1) fun x4=>
      opt (bif zi s3.1.1 0 then bif !a2.1 then opt (atI s3.2.1 x4.1) fun x5=>
         opt (gl s3.2.1 (Int.toNat x4.1)) fun x6=>
         opt (atI s3.2.1 x4.2.1) fun x7=>
         opt (gl s3.2.1 (Int.toNat x4.2.1)) fun x8=>
         bif !(x6 == x8) then opt (atI s3.2.1 x4.1) fun x9=>
          opt (gl s3.2.1 (Int.toNat x4.1)) fun x10=>
          opt (atI (s3.2.1.set (Int.toNat x4.1) true) x4.2.1) fun x11=>
          opt (gl (s3.2.1.set (Int.toNat x4.1) true) (Int.toNat x4.2.1)) fun x12=>
          some (0,((),(((s3.2.1.set (Int.toNat x4.1) true).set (Int.toNat x4.2.1) true),())))
         else some (0,((),(s3.2.1,())))
        else some (0,((),(s3.2.1,())))
       else bif zi s3.1.1 1 then bif !a2.2.1 then opt (atI s3.2.1 x4.1) fun x13=>
          opt (gl s3.2.1 (Int.toNat x4.1)) fun x14=>
          opt (atI s3.2.1 x4.2.1) fun x15=>
          opt (gl s3.2.1 (Int.toNat x4.2.1)) fun x16=>
          bif !(x14 == x16) then opt (atI s3.2.1 x4.1) fun x17=>
           opt (gl s3.2.1 (Int.toNat x4.1)) fun x18=>
           opt (atI (s3.2.1.set (Int.toNat x4.1) true) x4.2.1) fun x19=>
           opt (gl (s3.2.1.set (Int.toNat x4.1) true) (Int.toNat x4.2.1)) fun x20=>
           some (0,((),(((s3.2.1.set (Int.toNat x4.1) true).set (Int.toNat x4.2.1) true),())))
          else some (0,((),(s3.2.1,())))
         else some (0,((),(s3.2.1,())))
        else bif zi s3.1.1 2 then bif !a2.2.2.1 then opt (atI s3.2.1 x4.1) fun x21=>
           opt (gl s3.2.1 (Int.toNat x4.1)) fun x22=>
           opt (atI s3.2.1 x4.2.1) fun x23=>
           opt (gl s3.2.1 (Int.toNat x4.2.1)) fun x24=>
           bif !(x22 == x24) then opt (atI s3.2.1 x4.1) fun x25=>
            opt (gl s3.2.1 (Int.toNat x4.1)) fun x26=>
            opt (atI (s3.2.1.set (Int.toNat x4.1) true) x4.2.1) fun x27=>
            opt (gl (s3.2.1.set (Int.toNat x4.1) true) (Int.toNat x4.2.1)) fun x28=>
            some (0,((),(((s3.2.1.set (Int.toNat x4.1) true).set (Int.toNat x4.2.1) true),())))
           else some (0,((),(s3.2.1,())))
          else some (0,((),(s3.2.1,())))
         else bif zi s3.1.1 3 then bif !a2.2.2.2.1 then opt (atI s3.2.1 x4.1) fun x29=>
            opt (gl s3.2.1 (Int.toNat x4.1)) fun x30=>
            opt (atI s3.2.1 x4.2.1) fun x31=>
            opt (gl s3.2.1 (Int.toNat x4.2.1)) fun x32=>
            bif !(x30 == x32) then opt (atI s3.2.1 x4.1) fun x33=>
             opt (gl s3.2.1 (Int.toNat x4.1)) fun x34=>
             opt (atI (s3.2.1.set (Int.toNat x4.1) true) x4.2.1) fun x35=>
             opt (gl (s3.2.1.set (Int.toNat x4.1) true) (Int.toNat x4.2.1)) fun x36=>
             some (0,((),(((s3.2.1.set (Int.toNat x4.1) true).set (Int.toNat x4.2.1) true),())))
            else some (0,((),(s3.2.1,())))
           else some (0,((),(s3.2.1,())))
          else bif zi s3.1.1 4 then bif !a2.2.2.2.2.1 then opt (atI s3.2.1 x4.1) fun x37=>
             opt (gl s3.2.1 (Int.toNat x4.1)) fun x38=>
             opt (atI s3.2.1 x4.2.1) fun x39=>
             opt (gl s3.2.1 (Int.toNat x4.2.1)) fun x40=>
             bif !(x38 == x40) then opt (atI s3.2.1 x4.1) fun x41=>
              opt (gl s3.2.1 (Int.toNat x4.1)) fun x42=>
              opt (atI (s3.2.1.set (Int.toNat x4.1) true) x4.2.1) fun x43=>
              opt (gl (s3.2.1.set (Int.toNat x4.1) true) (Int.toNat x4.2.1)) fun x44=>
              some (0,((),(((s3.2.1.set (Int.toNat x4.1) true).set (Int.toNat x4.2.1) true),())))
             else some (0,((),(s3.2.1,())))
            else some (0,((),(s3.2.1,())))
           else bif zi s3.1.1 5 then bif !a2.2.2.2.2.2.1 then opt (atI s3.2.1 x4.1) fun x45=>
              opt (gl s3.2.1 (Int.toNat x4.1)) fun x46=>
              opt (atI s3.2.1 x4.2.1) fun x47=>
              opt (gl s3.2.1 (Int.toNat x4.2.1)) fun x48=>
              bif !(x46 == x48) then opt (atI s3.2.1 x4.1) fun x49=>
               opt (gl s3.2.1 (Int.toNat x4.1)) fun x50=>
               opt (atI (s3.2.1.set (Int.toNat x4.1) true) x4.2.1) fun x51=>
               opt (gl (s3.2.1.set (Int.toNat x4.1) true) (Int.toNat x4.2.1)) fun x52=>
               some (0,((),(((s3.2.1.set (Int.toNat x4.1) true).set (Int.toNat x4.2.1) true),())))
              else some (0,((),(s3.2.1,())))
             else some (0,((),(s3.2.1,())))
            else bif zi s3.1.1 6 then bif !a2.2.2.2.2.2.2.1 then opt (atI s3.2.1 x4.1) fun x53=>
               opt (gl s3.2.1 (Int.toNat x4.1)) fun x54=>
               opt (atI s3.2.1 x4.2.1) fun x55=>
               opt (gl s3.2.1 (Int.toNat x4.2.1)) fun x56=>
               bif !(x54 == x56) then opt (atI s3.2.1 x4.1) fun x57=>
                opt (gl s3.2.1 (Int.toNat x4.1)) fun x58=>
                opt (atI (s3.2.1.set (Int.toNat x4.1) true) x4.2.1) fun x59=>
                opt (gl (s3.2.1.set (Int.toNat x4.1) true) (Int.toNat x4.2.1)) fun x60=>
                some (0,((),(((s3.2.1.set (Int.toNat x4.1) true).set (Int.toNat x4.2.1) true),())))
               else some (0,((),(s3.2.1,())))
              else some (0,((),(s3.2.1,())))
             else bif zi s3.1.1 7 then bif !a2.2.2.2.2.2.2.2.1 then opt (atI s3.2.1 x4.1) fun x61=>
                opt (gl s3.2.1 (Int.toNat x4.1)) fun x62=>
                opt (atI s3.2.1 x4.2.1) fun x63=>
                opt (gl s3.2.1 (Int.toNat x4.2.1)) fun x64=>
                bif !(x62 == x64) then opt (atI s3.2.1 x4.1) fun x65=>
                 opt (gl s3.2.1 (Int.toNat x4.1)) fun x66=>
                 opt (atI (s3.2.1.set (Int.toNat x4.1) true) x4.2.1) fun x67=>
                 opt (gl (s3.2.1.set (Int.toNat x4.1) true) (Int.toNat x4.2.1)) fun x68=>
                 some (0,((),(((s3.2.1.set (Int.toNat x4.1) true).set (Int.toNat x4.2.1) true),())))
                else some (0,((),(s3.2.1,())))
               else some (0,((),(s3.2.1,())))
              else bif zi s3.1.1 8 then bif !a2.2.2.2.2.2.2.2.2.1 then opt (atI s3.2.1 x4.1) fun x69=>
                 opt (gl s3.2.1 (Int.toNat x4.1)) fun x70=>
                 opt (atI s3.2.1 x4.2.1) fun x71=>
                 opt (gl s3.2.1 (Int.toNat x4.2.1)) fun x72=>
                 bif !(x70 == x72) then opt (atI s3.2.1 x4.1) fun x73=>
                  opt (gl s3.2.1 (Int.toNat x4.1)) fun x74=>
                  opt (atI (s3.2.1.set (Int.toNat x4.1) true) x4.2.1) fun x75=>
                  opt (gl (s3.2.1.set (Int.toNat x4.1) true) (Int.toNat x4.2.1)) fun x76=>
                  some (0,((),(((s3.2.1.set (Int.toNat x4.1) true).set (Int.toNat x4.2.1) true),())))
                 else some (0,((),(s3.2.1,())))
                else some (0,((),(s3.2.1,())))
               else bif zi s3.1.1 9 then bif !a2.2.2.2.2.2.2.2.2.2.1 then opt (atI s3.2.1 x4.1) fun x77=>
                  opt (gl s3.2.1 (Int.toNat x4.1)) fun x78=>
                  opt (atI s3.2.1 x4.2.1) fun x79=>
                  opt (gl s3.2.1 (Int.toNat x4.2.1)) fun x80=>
                  bif !(x78 == x80) then opt (atI s3.2.1 x4.1) fun x81=>
                   opt (gl s3.2.1 (Int.toNat x4.1)) fun x82=>
                   opt (atI (s3.2.1.set (Int.toNat x4.1) true) x4.2.1) fun x83=>
                   opt (gl (s3.2.1.set (Int.toNat x4.1) true) (Int.toNat x4.2.1)) fun x84=>
                   some (0,((),(((s3.2.1.set (Int.toNat x4.1) true).set (Int.toNat x4.2.1) true),())))
                  else some (0,((),(s3.2.1,())))
                 else some (0,((),(s3.2.1,())))
                else bif zi s3.1.1 10 then bif !a2.2.2.2.2.2.2.2.2.2.2.1 then opt (atI s3.2.1 x4.1) fun x85=>
                   opt (gl s3.2.1 (Int.toNat x4.1)) fun x86=>
                   opt (atI s3.2.1 x4.2.1) fun x87=>
                   opt (gl s3.2.1 (Int.toNat x4.2.1)) fun x88=>
                   bif !(x86 == x88) then opt (atI s3.2.1 x4.1) fun x89=>
                    opt (gl s3.2.1 (Int.toNat x4.1)) fun x90=>
                    opt (atI (s3.2.1.set (Int.toNat x4.1) true) x4.2.1) fun x91=>
                    opt (gl (s3.2.1.set (Int.toNat x4.1) true) (Int.toNat x4.2.1)) fun x92=>
                    some (0,((),(((s3.2.1.set (Int.toNat x4.1) true).set (Int.toNat x4.2.1) true),())))
                   else some (0,((),(s3.2.1,())))
                  else some (0,((),(s3.2.1,())))
                 else bif zi s3.1.1 11 then bif !a2.2.2.2.2.2.2.2.2.2.2.2.1 then opt (atI s3.2.1 x4.1) fun x93=>
                    opt (gl s3.2.1 (Int.toNat x4.1)) fun x94=>
                    opt (atI s3.2.1 x4.2.1) fun x95=>
                    opt (gl s3.2.1 (Int.toNat x4.2.1)) fun x96=>
                    bif !(x94 == x96) then opt (atI s3.2.1 x4.1) fun x97=>
                     opt (gl s3.2.1 (Int.toNat x4.1)) fun x98=>
                     opt (atI (s3.2.1.set (Int.toNat x4.1) true) x4.2.1) fun x99=>
                     opt (gl (s3.2.1.set (Int.toNat x4.1) true) (Int.toNat x4.2.1)) fun x100=>
                     some (0,((),(((s3.2.1.set (Int.toNat x4.1) true).set (Int.toNat x4.2.1) true),())))
                    else some (0,((),(s3.2.1,())))
                   else some (0,((),(s3.2.1,())))
                  else bif zi s3.1.1 12 then bif !a2.2.2.2.2.2.2.2.2.2.2.2.2.1 then opt (atI s3.2.1 x4.1) fun x101=>
                     opt (gl s3.2.1 (Int.toNat x4.1)) fun x102=>
                     opt (atI s3.2.1 x4.2.1) fun x103=>
                     opt (gl s3.2.1 (Int.toNat x4.2.1)) fun x104=>
                     bif !(x102 == x104) then opt (atI s3.2.1 x4.1) fun x105=>
                      opt (gl s3.2.1 (Int.toNat x4.1)) fun x106=>
                      opt (atI (s3.2.1.set (Int.toNat x4.1) true) x4.2.1) fun x107=>
                      opt (gl (s3.2.1.set (Int.toNat x4.1) true) (Int.toNat x4.2.1)) fun x108=>
                      some (0,((),(((s3.2.1.set (Int.toNat x4.1) true).set (Int.toNat x4.2.1) true),())))
                     else some (0,((),(s3.2.1,())))
                    else some (0,((),(s3.2.1,())))
                   else bif zi s3.1.1 13 then bif !a2.2.2.2.2.2.2.2.2.2.2.2.2.2.1 then opt (atI s3.2.1 x4.1) fun x109=>
                      opt (gl s3.2.1 (Int.toNat x4.1)) fun x110=>
                      opt (atI s3.2.1 x4.2.1) fun x111=>
                      opt (gl s3.2.1 (Int.toNat x4.2.1)) fun x112=>
                      bif !(x110 == x112) then opt (atI s3.2.1 x4.1) fun x113=>
                       opt (gl s3.2.1 (Int.toNat x4.1)) fun x114=>
                       opt (atI (s3.2.1.set (Int.toNat x4.1) true) x4.2.1) fun x115=>
                       opt (gl (s3.2.1.set (Int.toNat x4.1) true) (Int.toNat x4.2.1)) fun x116=>
                       some (0,((),(((s3.2.1.set (Int.toNat x4.1) true).set (Int.toNat x4.2.1) true),())))
                      else some (0,((),(s3.2.1,())))
                     else some (0,((),(s3.2.1,())))
                    else bif zi s3.1.1 14 then bif !a2.2.2.2.2.2.2.2.2.2.2.2.2.2.2.1 then opt (atI s3.2.1 x4.1) fun x117=>
                       opt (gl s3.2.1 (Int.toNat x4.1)) fun x118=>
                       opt (atI s3.2.1 x4.2.1) fun x119=>
                       opt (gl s3.2.1 (Int.toNat x4.2.1)) fun x120=>
                       bif !(x118 == x120) then opt (atI s3.2.1 x4.1) fun x121=>
                        opt (gl s3.2.1 (Int.toNat x4.1)) fun x122=>
                        opt (atI (s3.2.1.set (Int.toNat x4.1) true) x4.2.1) fun x123=>
                        opt (gl (s3.2.1.set (Int.toNat x4.1) true) (Int.toNat x4.2.1)) fun x124=>
                        some (0,((),(((s3.2.1.set (Int.toNat x4.1) true).set (Int.toNat x4.2.1) true),())))
                       else some (0,((),(s3.2.1,())))
                      else some (0,((),(s3.2.1,())))
                     else bif zi s3.1.1 15 then bif !a2.2.2.2.2.2.2.2.2.2.2.2.2.2.2.2.1 then opt (atI s3.2.1 x4.1) fun x125=>
                        opt (gl s3.2.1 (Int.toNat x4.1)) fun x126=>
                        opt (atI s3.2.1 x4.2.1) fun x127=>
                        opt (gl s3.2.1 (Int.toNat x4.2.1)) fun x128=>
                        bif !(x126 == x128) then opt (atI s3.2.1 x4.1) fun x129=>
                         opt (gl s3.2.1 (Int.toNat x4.1)) fun x130=>
                         opt (atI (s3.2.1.set (Int.toNat x4.1) true) x4.2.1) fun x131=>
                         opt (gl (s3.2.1.set (Int.toNat x4.1) true) (Int.toNat x4.2.1)) fun x132=>
                         some (0,((),(((s3.2.1.set (Int.toNat x4.1) true).set (Int.toNat x4.2.1) true),())))
                        else some (0,((),(s3.2.1,())))
                       else some (0,((),(s3.2.1,())))
                      else bif zi s3.1.1 16 then bif !a2.2.2.2.2.2.2.2.2.2.2.2.2.2.2.2.2.1 then opt (atI s3.2.1 x4.1) fun x133=>
                         opt (gl s3.2.1 (Int.toNat x4.1)) fun x134=>
                         opt (atI s3.2.1 x4.2.1) fun x135=>
                         opt (gl s3.2.1 (Int.toNat x4.2.1)) fun x136=>
                         bif !(x134 == x136) then opt (atI s3.2.1 x4.1) fun x137=>
                          opt (gl s3.2.1 (Int.toNat x4.1)) fun x138=>
                          opt (atI (s3.2.1.set (Int.toNat x4.1) true) x4.2.1) fun x139=>
                          opt (gl (s3.2.1.set (Int.toNat x4.1) true) (Int.toNat x4.2.1)) fun x140=>
                          some (0,((),(((s3.2.1.set (Int.toNat x4.1) true).set (Int.toNat x4.2.1) true),())))
                         else some (0,((),(s3.2.1,())))
                        else some (0,((),(s3.2.1,())))
                       else bif zi s3.1.1 17 then bif !a2.2.2.2.2.2.2.2.2.2.2.2.2.2.2.2.2.2.1 then opt (atI s3.2.1 x4.1) fun x141=>
                          opt (gl s3.2.1 (Int.toNat x4.1)) fun x142=>
                          opt (atI s3.2.1 x4.2.1) fun x143=>
                          opt (gl s3.2.1 (Int.toNat x4.2.1)) fun x144=>
                          bif !(x142 == x144) then opt (atI s3.2.1 x4.1) fun x145=>
                           opt (gl s3.2.1 (Int.toNat x4.1)) fun x146=>
                           opt (atI (s3.2.1.set (Int.toNat x4.1) true) x4.2.1) fun x147=>
                           opt (gl (s3.2.1.set (Int.toNat x4.1) true) (Int.toNat x4.2.1)) fun x148=>
                           some (0,((),(((s3.2.1.set (Int.toNat x4.1) true).set (Int.toNat x4.2.1) true),())))
                          else some (0,((),(s3.2.1,())))
                         else some (0,((),(s3.2.1,())))
                        else bif zi s3.1.1 18 then bif !a2.2.2.2.2.2.2.2.2.2.2.2.2.2.2.2.2.2.2.1 then opt (atI s3.2.1 x4.1) fun x149=>
                           opt (gl s3.2.1 (Int.toNat x4.1)) fun x150=>
                           opt (atI s3.2.1 x4.2.1) fun x151=>
                           opt (gl s3.2.1 (Int.toNat x4.2.1)) fun x152=>
                           bif !(x150 == x152) then opt (atI s3.2.1 x4.1) fun x153=>
                            opt (gl s3.2.1 (Int.toNat x4.1)) fun x154=>
                            opt (atI (s3.2.1.set (Int.toNat x4.1) true) x4.2.1) fun x155=>
                            opt (gl (s3.2.1.set (Int.toNat x4.1) true) (Int.toNat x4.2.1)) fun x156=>
                            some (0,((),(((s3.2.1.set (Int.toNat x4.1) true).set (Int.toNat x4.2.1) true),())))
                           else some (0,((),(s3.2.1,())))
                          else some (0,((),(s3.2.1,())))
                         else bif zi s3.1.1 19 then bif !a2.2.2.2.2.2.2.2.2.2.2.2.2.2.2.2.2.2.2.2.1 then opt (atI s3.2.1 x4.1) fun x157=>
                            opt (gl s3.2.1 (Int.toNat x4.1)) fun x158=>
                            opt (atI s3.2.1 x4.2.1) fun x159=>
                            opt (gl s3.2.1 (Int.toNat x4.2.1)) fun x160=>
                            bif !(x158 == x160) then opt (atI s3.2.1 x4.1) fun x161=>
                             opt (gl s3.2.1 (Int.toNat x4.1)) fun x162=>
                             opt (atI (s3.2.1.set (Int.toNat x4.1) true) x4.2.1) fun x163=>
                             opt (gl (s3.2.1.set (Int.toNat x4.1) true) (Int.toNat x4.2.1)) fun x164=>
                             some (0,((),(((s3.2.1.set (Int.toNat x4.1) true).set (Int.toNat x4.2.1) true),())))
                            else some (0,((),(s3.2.1,())))
                           else some (0,((),(s3.2.1,())))
                          else bif zi s3.1.1 20 then bif !a2.2.2.2.2.2.2.2.2.2.2.2.2.2.2.2.2.2.2.2.2.1 then opt (atI s3.2.1 x4.1) fun x165=>
                             opt (gl s3.2.1 (Int.toNat x4.1)) fun x166=>
                             opt (atI s3.2.1 x4.2.1) fun x167=>
                             opt (gl s3.2.1 (Int.toNat x4.2.1)) fun x168=>
                             bif !(x166 == x168) then opt (atI s3.2.1 x4.1) fun x169=>
                              opt (gl s3.2.1 (Int.toNat x4.1)) fun x170=>
                              opt (atI (s3.2.1.set (Int.toNat x4.1) true) x4.2.1) fun x171=>
                              opt (gl (s3.2.1.set (Int.toNat x4.1) true) (Int.toNat x4.2.1)) fun x172=>
                              some (0,((),(((s3.2.1.set (Int.toNat x4.1) true).set (Int.toNat x4.2.1) true),())))
                             else some (0,((),(s3.2.1,())))
                            else some (0,((),(s3.2.1,())))
                           else bif zi s3.1.1 21 then bif !a2.2.2.2.2.2.2.2.2.2.2.2.2.2.2.2.2.2.2.2.2.2.1 then opt (atI s3.2.1 x4.1) fun x173=>
                              opt (gl s3.2.1 (Int.toNat x4.1)) fun x174=>
                              opt (atI s3.2.1 x4.2.1) fun x175=>
                              opt (gl s3.2.1 (Int.toNat x4.2.1)) fun x176=>
                              bif !(x174 == x176) then opt (atI s3.2.1 x4.1) fun x177=>
                               opt (gl s3.2.1 (Int.toNat x4.1)) fun x178=>
                               opt (atI (s3.2.1.set (Int.toNat x4.1) true) x4.2.1) fun x179=>
                               opt (gl (s3.2.1.set (Int.toNat x4.1) true) (Int.toNat x4.2.1)) fun x180=>
                               some (0,((),(((s3.2.1.set (Int.toNat x4.1) true).set (Int.toNat x4.2.1) true),())))
                              else some (0,((),(s3.2.1,())))
                             else some (0,((),(s3.2.1,())))
                            else bif zi s3.1.1 22 then bif !a2.2.2.2.2.2.2.2.2.2.2.2.2.2.2.2.2.2.2.2.2.2.2.1 then opt (atI s3.2.1 x4.1) fun x181=>
                               opt (gl s3.2.1 (Int.toNat x4.1)) fun x182=>
                               opt (atI s3.2.1 x4.2.1) fun x183=>
                               opt (gl s3.2.1 (Int.toNat x4.2.1)) fun x184=>
                               bif !(x182 == x184) then opt (atI s3.2.1 x4.1) fun x185=>
                                opt (gl s3.2.1 (Int.toNat x4.1)) fun x186=>
                                opt (atI (s3.2.1.set (Int.toNat x4.1) true) x4.2.1) fun x187=>
                                opt (gl (s3.2.1.set (Int.toNat x4.1) true) (Int.toNat x4.2.1)) fun x188=>
                                some (0,((),(((s3.2.1.set (Int.toNat x4.1) true).set (Int.toNat x4.2.1) true),())))
                               else some (0,((),(s3.2.1,())))
                              else some (0,((),(s3.2.1,())))
                             else bif zi s3.1.1 23 then bif !a2.2.2.2.2.2.2.2.2.2.2.2.2.2.2.2.2.2.2.2.2.2.2.2 then opt (atI s3.2.1 x4.1) fun x189=>
                                opt (gl s3.2.1 (Int.toNat x4.1)) fun x190=>
                                opt (atI s3.2.1 x4.2.1) fun x191=>
                                opt (gl s3.2.1 (Int.toNat x4.2.1)) fun x192=>
                                bif !(x190 == x192) then opt (atI s3.2.1 x4.1) fun x193=>
                                 opt (gl s3.2.1 (Int.toNat x4.1)) fun x194=>
                                 opt (atI (s3.2.1.set (Int.toNat x4.1) true) x4.2.1) fun x195=>
                                 opt (gl (s3.2.1.set (Int.toNat x4.1) true) (Int.toNat x4.2.1)) fun x196=>
                                 some (0,((),(((s3.2.1.set (Int.toNat x4.1) true).set (Int.toNat x4.2.1) true),())))
                                else some (0,((),(s3.2.1,())))
                               else some (0,((),(s3.2.1,())))
                              else none) fun x197=>
      some (.inr (((wrF .i64 (s3.1.1+1)),()),(x197.2.2.1,())))
     else some (.inl (0,((s3.1.1,()),(s3.2.1,()))))) zK ((0,()),(s2.2.1,()))) fun x198=>
    some (.inr (((wrF .i64 (s2.1.1+1)),()),(x198.2.2.1,())))
   else some (.inl (0,((s2.1.1,()),(s2.2.1,()))))) zK ((0,()),(((List.replicate (Int.toNat a0.1) false).set (Int.toNat a1) true),()))) fun x199=>
  some (x199.2.2.1,())
 else none
abbrev zaN:Type:=(zJ×Int×(Bool×(Bool×(Bool×(Bool×(Bool×(Bool×(Bool×(Bool×(Bool×(Bool×(Bool×(Bool×(Bool×(Bool×(Bool×(Bool×(Bool×(Bool×(Bool×(Bool×(Bool×(Bool×(Bool×Bool)))))))))))))))))))))))×Unit)→Option ((List Bool)×Unit)
def zmj:zaN:=sF Tryz.prog [] zvO (zL []) 30 66 QL QM
theorem zyq (a0) (a1) (a2):zmj (a0,a1,a2,())=zfn a0 a1 a2:=by kernel_rfl
def QN:zaN:=zmj
theorem zrK:Con.Ok Tryz.prog 66 ⟨QL,QM,QN⟩:=zA zn zt (by kernel_rfl)
theorem zrL (a0) (a1) (a2):QN (a0,a1,a2,())=zfn  a0 a1 a2:=zyq  a0 a1 a2
abbrev wB:List VT:=[⟨false,(.list .bool)⟩,⟨false,.bool⟩]
abbrev wC:List VT:=[⟨false,I⟩]
def zcR:zT:=zM [] [] [] [] []
def ZS (a0:(List Bool)) (a1:Bool):Option (Int×Unit):=
 opt (zC (fun s0:((Int×(Int×Unit))×Unit)=>
  bif (zh s0.1.2.1 ((a0.length:Nat):Int)) then opt (atI a0 s0.1.2.1) fun x1=>
   bif a1 == x1 then some (.inl (1,((s0.1.2.1,(s0.1.2.1,())),())))
   else some (.inr ((s0.1.1,((wrF .i64 (s0.1.2.1+1)),())),()))
  else some (.inl (0,((s0.1.1,(s0.1.2.1,())),())))) zK ((0,(0,())),())) fun x2=>
 bif Nat.beq x2.1 0 then some ((-1),())
 else some (x2.2.1.1,())
abbrev uG:Type:=((List Bool)×Bool×Unit)→Option (Int×Unit)
def XO:uG:=sF Tryz.prog [] zcR (zL []) 30 96 wB wC
theorem zdl (a0) (a1):XO (a0,a1,())=ZS a0 a1:=by kernel_rfl
def yw:uG:=XO
theorem zbo:Con.Ok Tryz.prog 96 ⟨wB,wC,yw⟩:=zA zn zt (by kernel_rfl)
theorem zbp (a0) (a1):yw (a0,a1,())=ZS  a0 a1:=zdl  a0 a1
abbrev jC:List VT:=[⟨false,(.list .bool)⟩,⟨false,.bool⟩]
abbrev jD:List VT:=[⟨false,.bool⟩]
def zaO:zT:=zM [] [] [] [] [96]
def gC (yz:uG) (a0:(List Bool)) (a1:Bool):Option (Bool×Unit):=
 opt (yz (a0,(a1,()))) fun x0=>
 some ((!(zh x0.1 0)),())
abbrev vi:Type:=((List Bool)×Bool×Unit)→Option (Bool×Unit)
def WR:uG→vi:=fun yz=>sF Tryz.prog [(96,⟨wB,wC,yz⟩)] zaO (zL []) 30 65 jC jD
theorem zbq (yz) (a0) (a1):WR yz (a0,a1,())=gC yz a0 a1:=by kernel_rfl
def wL:vi:=WR yw
theorem Gi:Con.Ok Tryz.prog 65 ⟨jC,jD,wL⟩:=zA (zf zbo zn) zt (by kernel_rfl)
theorem Gj (a0) (a1):wL (a0,a1,())=gC yw a0 a1:=zbq yw a0 a1
abbrev jI:List VT:=[⟨true,zv⟩]
abbrev jJ:List VT:=[⟨false,I⟩]
def zvP:zT:=zM [⟨(.pair .bool (.pair .bool (.pair .bool (.pair .bool (.pair .bool (.pair .bool (.pair .bool (.pair .bool (.pair .bool (.pair .bool (.pair .bool (.pair .bool (.pair .bool (.pair .bool (.pair .bool (.pair .bool (.pair .bool (.pair .bool (.pair .bool (.pair .bool (.pair .bool (.pair .bool (.pair .bool .bool))))))))))))))))))))))),Yn (.pair .bool (.pair .bool (.pair .bool (.pair .bool (.pair .bool (.pair .bool (.pair .bool (.pair .bool (.pair .bool (.pair .bool (.pair .bool (.pair .bool (.pair .bool (.pair .bool (.pair .bool (.pair .bool (.pair .bool (.pair .bool (.pair .bool (.pair .bool (.pair .bool (.pair .bool (.pair .bool .bool))))))))))))))))))))))),[]⟩,cdF zv,cdF zO] [] [] [] [64,65]
def zfo (YR:zaM) (YS:zaN) (wM:vi) (a0:zJ):Option (Int×Unit):=
 opt (bif zh a0.1 2 then some (1,((260,()),()))
  else bif zh 12 a0.1 then some (1,((260,()),()))
   else bif (!(zi ((a0.2.1.length:Nat):Int) a0.1)) then some (1,((260,()),()))
    else some (0,((0,()),()))) fun x0=>
 bif Nat.beq x0.1 0 then opt (bif (zh 24 ((a0.2.2.length:Nat):Int)) then some (1,((260,()),()))
   else opt (YR (a0,())) fun x1=>
    bif !x1.1 then some (1,((260,()),()))
    else some (0,((x0.2.1.1,()),()))) fun x2=>
  bif Nat.beq x2.1 0 then bif zg5 a0.1 a0.1 8 then opt (zC (fun s3:((Int×Unit)×((List Int)×Unit))=>
     bif (zh s3.1.1 ((a0.2.2.length:Nat):Int)) then opt (atI a0.2.2 s3.1.1) fun x4=>
      opt (atI s3.2.1 x4.1) fun x5=>
      opt (gl s3.2.1 (Int.toNat x4.1)) fun x6=>
      opt (atI s3.2.1 x4.1) fun x7=>
      opt (gl s3.2.1 (Int.toNat x4.1)) fun x8=>
      opt (atI (s3.2.1.set (Int.toNat x4.1) (wrF .i64 (x6+1))) x4.2.1) fun x9=>
      opt (gl (s3.2.1.set (Int.toNat x4.1) (wrF .i64 (x6+1))) (Int.toNat x4.2.1)) fun x10=>
      opt (atI (s3.2.1.set (Int.toNat x4.1) (wrF .i64 (x6+1))) x4.2.1) fun x11=>
      opt (gl (s3.2.1.set (Int.toNat x4.1) (wrF .i64 (x6+1))) (Int.toNat x4.2.1)) fun x12=>
      some (.inr (((wrF .i64 (s3.1.1+1)),()),(((s3.2.1.set (Int.toNat x4.1) (wrF .i64 (x6+1))).set (Int.toNat x4.2.1) (wrF .i64 (x10+1))),())))
     else some (.inl (0,((s3.1.1,()),(s3.2.1,()))))) zK ((0,()),((List.replicate (Int.toNat a0.1) 0),()))) fun x13=>
    opt (zC (fun s14:((Int×(Int×Unit))×Unit)=>
     bif (zh s14.1.2.1 ((a0.2.1.length:Nat):Int)) then opt (atI a0.2.1 s14.1.2.1) fun x15=>
      opt (bif x15 then opt (atI x13.2.2.1 s14.1.2.1) fun x16=>
        opt (gl x13.2.2.1 (Int.toNat s14.1.2.1)) fun x17=>
        bif zh x17 1 then some (1,((260,()),()))
        else opt (atI x13.2.2.1 s14.1.2.1) fun x18=>
         opt (gl x13.2.2.1 (Int.toNat s14.1.2.1)) fun x19=>
         bif zh 2 x19 then some (1,((260,()),()))
         else some (0,((s14.1.1,()),()))
       else some (0,((s14.1.1,()),()))) fun x20=>
      bif Nat.beq x20.1 0 then some (.inr ((x20.2.1.1,((wrF .i64 (s14.1.2.1+1)),())),()))
      else some (.inl (1,((x20.2.1.1,(s14.1.2.1,())),())))
     else some (.inl (0,((s14.1.1,(s14.1.2.1,())),())))) zK ((x2.2.1.1,(0,())),())) fun x21=>
    bif Nat.beq x21.1 0 then opt (YS (a0,(0,((false,(false,(false,(false,(false,(false,(false,(false,(false,(false,(false,(false,(false,(false,(false,(false,(false,(false,(false,(false,(false,(false,(false,false))))))))))))))))))))))),())))) fun x22=>
     opt (wM (x22.1,(false,()))) fun x23=>
     bif x23.1 then some (260,())
     else some (0,())
    else some (x21.2.1.1,())
   else none
  else some (x2.2.1.1,())
 else some (x0.2.1.1,())
abbrev xF:Type:=(zJ×Unit)→Option (Int×Unit)
def zmk:zaM→zaN→vi→xF:=fun YR YS wM=>sF Tryz.prog [(64,⟨QJ,QK,YR⟩),(66,⟨QL,QM,YS⟩),(65,⟨jC,jD,wM⟩)] zvP (zL []) 30 37 jI jJ
theorem zyr (YR) (YS) (wM) (a0):zmk YR YS wM (a0,())=zfo YR YS wM a0:=by kernel_rfl
def jK:xF:=zmk Yu QN wL
theorem Ww:Con.Ok Tryz.prog 37 ⟨jI,jJ,jK⟩:=zA (zf zrI (zf zrK (zf Gi zn))) zt (by kernel_rfl)
theorem zrM (a0):jK (a0,())=zfo Yu QN wL a0:=zyr Yu QN wL a0
abbrev yd:List VT:=[⟨false,I⟩,⟨false,I⟩,⟨false,I⟩]
abbrev ye:List VT:=[⟨false,.bool⟩]
def znV:zT:=zM [] [] [] [] []
def Gk (a0:Int) (a1:Int) (a2:Int):Option (Bool×Unit):=
 bif !(zh a0 a1) then some ((!(zh a2 a0)),())
 else some (false,())
abbrev vq:Type:=(Int×Int×Int×Unit)→Option (Bool×Unit)
def zfp:vq:=sF Tryz.prog [] znV (zL []) 30 67 yd ye
theorem zpM (a0) (a1) (a2):zfp (a0,a1,a2,())=Gk a0 a1 a2:=by kernel_rfl
def wD:vq:=zfp
theorem Vm:Con.Ok Tryz.prog 67 ⟨yd,ye,wD⟩:=zA zn zt (by kernel_rfl)
theorem zkL (a0) (a1) (a2):wD (a0,a1,a2,())=Gk  a0 a1 a2:=zpM  a0 a1 a2
abbrev xT:List VT:=[⟨true,WK⟩]
abbrev xU:List VT:=[⟨false,I⟩]
def zjk:zT:=zM [cdF WK] [] [] [] [67]
def Vn (qb:vq) (a0:Xq):Option (Int×Unit):=
 opt (opt (qb (a0.1,(1,(10000,())))) fun x0=>
  bif !x0.1 then some (1,((320,()),()))
  else opt (qb (a0.2.1,(0,(1000,())))) fun x1=>
   bif !x1.1 then some (1,((320,()),()))
   else some (0,((0,()),()))) fun x2=>
 bif Nat.beq x2.1 0 then opt (opt (qb (a0.2.2.1,(0,(10000,())))) fun x3=>
   bif !x3.1 then some (1,((320,()),()))
   else opt (qb (a0.2.2.2,(1542,(65536,())))) fun x4=>
    bif !x4.1 then some (1,((320,()),()))
    else some (0,((x2.2.1.1,()),()))) fun x5=>
  bif Nat.beq x5.1 0 then some (0,())
  else some (x5.2.1.1,())
 else some (x2.2.1.1,())
abbrev Jo:Type:=(Xq×Unit)→Option (Int×Unit)
def zbx:vq→Jo:=fun qb=>sF Tryz.prog [(67,⟨yd,ye,qb⟩)] zjk (zL []) 30 38 xT xU
theorem zkM (qb) (a0):zbx qb (a0,())=Vn qb a0:=by kernel_rfl
def uj:Jo:=zbx wD
theorem zhe:Con.Ok Tryz.prog 38 ⟨xT,xU,uj⟩:=zA (zf Vm zn) zt (by kernel_rfl)
theorem zhf (a0):uj (a0,())=Vn wD a0:=zkM wD a0
abbrev xG:List VT:=[⟨true,zN⟩]
abbrev xH:List VT:=[⟨false,I⟩]
def ztF:zT:=zM [cdF zN,cdF qh] [] [] [] []
def zdm (a0:qo):Option (Int×Unit):=
 opt (bif (zh ((a0.1.length:Nat):Int) 1) then some (1,((370,()),()))
  else bif (zh 128 ((a0.1.length:Nat):Int)) then some (1,((370,()),()))
   else some (0,((0,()),()))) fun x0=>
 bif Nat.beq x0.1 0 then opt (zC (fun s1:((Int×(Int×(Int×Unit)))×Unit)=>
   bif (zh s1.1.2.2.1 ((a0.1.length:Nat):Int)) then opt (atI a0.1 s1.1.2.2.1) fun x2=>
    opt (bif zh x2.1 0 then some (1,((370,()),()))
     else bif zh 255 x2.1 then some (1,((370,()),()))
      else bif zh x2.2 1 then some (1,((370,()),()))
       else bif zh 9600000 x2.2 then some (1,((370,()),()))
        else some (0,((s1.1.1,()),()))) fun x3=>
    bif Nat.beq x3.1 0 then some (.inr ((x3.2.1.1,((wrF .i64 (s1.1.2.1+x2.2)),((wrF .i64 (s1.1.2.2.1+1)),()))),()))
    else some (.inl (1,((x3.2.1.1,(s1.1.2.1,(s1.1.2.2.1,()))),())))
   else some (.inl (0,((s1.1.1,(s1.1.2.1,(s1.1.2.2.1,()))),())))) zK ((x0.2.1.1,(0,(0,()))),())) fun x4=>
  bif Nat.beq x4.1 0 then opt (bif !(zi x4.2.1.2.1 a0.2) then some (1,((370,()),()))
    else bif zh 9600000 x4.2.1.2.1 then some (1,((370,()),()))
     else some (0,((x4.2.1.1,()),()))) fun x5=>
   bif Nat.beq x5.1 0 then some (0,())
   else some (x5.2.1.1,())
  else some (x4.2.1.1,())
 else some (x0.2.1.1,())
abbrev gr:Type:=(qo×Unit)→Option (Int×Unit)
def zjX:gr:=sF Tryz.prog [] ztF (zL []) 30 39 xG xH
theorem zvQ (a0):zjX (a0,())=zdm a0:=by kernel_rfl
def yY:gr:=zjX
theorem Gl:Con.Ok Tryz.prog 39 ⟨xG,xH,yY⟩:=zA zn zt (by kernel_rfl)
theorem zpN (a0):yY (a0,())=zdm  a0:=zvQ  a0
abbrev jm:List VT:=[⟨true,qM⟩]
abbrev jn:List VT:=[⟨false,I⟩]
def zjl:zT:=zM [cdF qM,cdF zv,cdF zO,cdF zN,cdF qh] [] [] [] [37,38,39]
def Vo (qg:xF) (uo:Jo) (qW:gr) (a0:js):Option (Int×Unit):=
 opt (qg (a0.1,())) fun x0=>
 bif !(zi x0.1 0) then some (x0.1,())
 else opt (uo (a0.2.1,())) fun x1=>
  bif !(zi x1.1 0) then some (x1.1,())
  else opt (zC (fun s2:((Int×(Int×Unit))×Unit)=>
    bif (zh s2.1.2.1 ((a0.2.2.1.length:Nat):Int)) then opt (atI a0.2.2.1 s2.1.2.1) fun x3=>
     opt (qW (x3,())) fun x4=>
     bif !(zi x4.1 0) then some (.inl (1,((x4.1,(s2.1.2.1,())),())))
     else some (.inr ((s2.1.1,((wrF .i64 (s2.1.2.1+1)),())),()))
    else some (.inl (0,((s2.1.1,(s2.1.2.1,())),())))) zK ((0,(0,())),())) fun x5=>
   bif Nat.beq x5.1 0 then opt (bif (!(zi ((a0.2.2.1.length:Nat):Int) (wrF .i64 (2*((a0.1.2.2.length:Nat):Int))))) then some (1,((410,()),()))
     else bif zh a0.2.2.2 84 then some (1,((410,()),()))
      else bif zh 1542 a0.2.2.2 then some (1,((410,()),()))
       else some (0,((x5.2.1.1,()),()))) fun x6=>
    bif Nat.beq x6.1 0 then some (0,())
    else some (x6.2.1.1,())
   else some (x5.2.1.1,())
abbrev uk:Type:=(js×Unit)→Option (Int×Unit)
def zby:xF→Jo→gr→uk:=fun qg uo qW=>sF Tryz.prog [(37,⟨jI,jJ,qg⟩),(38,⟨xT,xU,uo⟩),(39,⟨xG,xH,qW⟩)] zjl (zL []) 30 13 jm jn
theorem zkN (qg) (uo) (qW) (a0):zby qg uo qW (a0,())=Vo qg uo qW a0:=by kernel_rfl
def yk:uk:=zby jK uj yY
theorem Uo:Con.Ok Tryz.prog 13 ⟨jm,jn,yk⟩:=zA (zf Ww (zf zhe (zf Gl zn))) zt (by kernel_rfl)
theorem zhg (a0):yk (a0,())=Vo jK uj yY a0:=zkN jK uj yY a0
abbrev zjY:List VT:=[⟨true,zv⟩,⟨false,I⟩,⟨false,(.list I)⟩]
abbrev zjZ:List VT:=[⟨false,(.list .bool)⟩]
def ztG:zT:=zM [cdF zv,cdF zO] [] [⟨4,62,some 6,.bool,false⟩,⟨7,62,some 6,.bool,false⟩,⟨10,62,some 6,.bool,false⟩] [] [98]
def zdn (qJ:Zn) (a0:zJ) (a1:Int) (a2:(List Int)):Option ((List Bool)×Unit):=
 bif zg5 a0.1 a0.1 1 then opt (atI (List.replicate (Int.toNat a0.1) false) a1) fun x0=>
  opt (gl (List.replicate (Int.toNat a0.1) false) (Int.toNat a1)) fun x1=>
  opt (zC (fun s2:((Int×Unit)×((List Bool)×Unit))=>
   bif zh s2.1.1 a0.1 then opt (zC (fun s3:((Int×Unit)×((List Bool)×Unit))=>
     bif (zh s3.1.1 ((a0.2.2.length:Nat):Int)) then opt (atI a0.2.2 s3.1.1) fun x4=>
      opt (opt (qJ (a2,(s3.1.1,()))) fun x5=>
       bif !x5.1 then opt (atI s3.2.1 x4.1) fun x6=>
        opt (gl s3.2.1 (Int.toNat x4.1)) fun x7=>
        bif x7 then opt (atI s3.2.1 x4.1) fun x8=>
         opt (gl s3.2.1 (Int.toNat x4.1)) fun x9=>
         opt (atI (s3.2.1.set (Int.toNat x4.1) true) x4.2.1) fun x10=>
         opt (gl (s3.2.1.set (Int.toNat x4.1) true) (Int.toNat x4.2.1)) fun x11=>
         some (0,((),(((s3.2.1.set (Int.toNat x4.1) true).set (Int.toNat x4.2.1) true),())))
        else opt (atI s3.2.1 x4.2.1) fun x12=>
         opt (gl s3.2.1 (Int.toNat x4.2.1)) fun x13=>
         bif x13 then opt (atI s3.2.1 x4.1) fun x14=>
          opt (gl s3.2.1 (Int.toNat x4.1)) fun x15=>
          opt (atI (s3.2.1.set (Int.toNat x4.1) true) x4.2.1) fun x16=>
          opt (gl (s3.2.1.set (Int.toNat x4.1) true) (Int.toNat x4.2.1)) fun x17=>
          some (0,((),(((s3.2.1.set (Int.toNat x4.1) true).set (Int.toNat x4.2.1) true),())))
         else some (0,((),(s3.2.1,())))
       else some (0,((),(s3.2.1,())))) fun x18=>
      some (.inr (((wrF .i64 (s3.1.1+1)),()),(x18.2.2.1,())))
     else some (.inl (0,((s3.1.1,()),(s3.2.1,()))))) zK ((0,()),(s2.2.1,()))) fun x19=>
    some (.inr (((wrF .i64 (s2.1.1+1)),()),(x19.2.2.1,())))
   else some (.inl (0,((s2.1.1,()),(s2.2.1,()))))) zK ((0,()),(((List.replicate (Int.toNat a0.1) false).set (Int.toNat a1) true),()))) fun x20=>
  some (x20.2.2.1,())
 else none
abbrev UI:Type:=(zJ×Int×(List Int)×Unit)→Option ((List Bool)×Unit)
def zj0:Zn→UI:=fun qJ=>sF Tryz.prog [(98,⟨KB,KD,qJ⟩)] ztG (zL []) 30 70 zjY zjZ
theorem zvR (qJ) (a0) (a1) (a2):zj0 qJ (a0,a1,a2,())=zdn qJ a0 a1 a2:=by kernel_rfl
def XP:UI:=zj0 yW
theorem zpO (a0) (a1) (a2):XP (a0,a1,a2,())=zdn yW a0 a1 a2:=zvR yW a0 a1 a2
abbrev zdo:List VT:=[⟨true,zv⟩]
abbrev zdp:List VT:=[⟨false,.bool⟩]
def ztH:zT:=zM [cdF zv,cdF zO] [] [] [] [68,69]
def zdq (wi:Yq) (qN:JC) (JZ:UI) (a0:zJ):Option (Bool×Unit):=
 opt (bif zh a0.1 2 then some (1,((false,()),()))
  else bif zh 12 a0.1 then some (1,((false,()),()))
   else bif (!(zi ((a0.2.1.length:Nat):Int) a0.1)) then some (1,((false,()),()))
    else bif (zh 24 ((a0.2.2.length:Nat):Int)) then some (1,((false,()),()))
     else some (0,((false,()),()))) fun x0=>
 bif Nat.beq x0.1 0 then bif zg5 a0.1 a0.1 8 then opt (zC (fun s1:((Bool×(Int×Unit))×((List Int)×Unit))=>
    bif (zh s1.1.2.1 ((a0.2.2.length:Nat):Int)) then opt (atI a0.2.2 s1.1.2.1) fun x2=>
     opt (wi (a0,(x2,()))) fun x3=>
     bif !x3.1 then some (.inl (1,((false,(s1.1.2.1,())),(s1.2.1,()))))
     else opt (zC (fun s4:((Bool×(Int×Unit))×Unit)=>
       bif zh s4.1.2.1 s1.1.2.1 then opt (atI a0.2.2 s4.1.2.1) fun x5=>
        opt (qN (x5,(x2.1,(x2.2.1,())))) fun x6=>
        bif x6.1 then some (.inl (1,((false,(s4.1.2.1,())),())))
        else some (.inr ((s4.1.1,((wrF .i64 (s4.1.2.1+1)),())),()))
       else some (.inl (0,((s4.1.1,(s4.1.2.1,())),())))) zK ((s1.1.1,(0,())),())) fun x7=>
      bif Nat.beq x7.1 0 then opt (atI s1.2.1 x2.1) fun x8=>
       opt (gl s1.2.1 (Int.toNat x2.1)) fun x9=>
       opt (atI s1.2.1 x2.1) fun x10=>
       opt (gl s1.2.1 (Int.toNat x2.1)) fun x11=>
       opt (atI (s1.2.1.set (Int.toNat x2.1) (wrF .i64 (x9+1))) x2.2.1) fun x12=>
       opt (gl (s1.2.1.set (Int.toNat x2.1) (wrF .i64 (x9+1))) (Int.toNat x2.2.1)) fun x13=>
       opt (atI (s1.2.1.set (Int.toNat x2.1) (wrF .i64 (x9+1))) x2.2.1) fun x14=>
       opt (gl (s1.2.1.set (Int.toNat x2.1) (wrF .i64 (x9+1))) (Int.toNat x2.2.1)) fun x15=>
       some (.inr ((x7.2.1.1,((wrF .i64 (s1.1.2.1+1)),())),(((s1.2.1.set (Int.toNat x2.1) (wrF .i64 (x9+1))).set (Int.toNat x2.2.1) (wrF .i64 (x13+1))),())))
      else some (.inl (1,((x7.2.1.1,(s1.1.2.1,())),(s1.2.1,()))))
    else some (.inl (0,((s1.1.1,(s1.1.2.1,())),(s1.2.1,()))))) zK ((x0.2.1.1,(0,())),((List.replicate (Int.toNat a0.1) 0),()))) fun x16=>
   bif Nat.beq x16.1 0 then opt (JZ (a0,(0,([],())))) fun x17=>
    opt (zC (fun s18:((Bool×(Int×Unit))×Unit)=>
     bif zh s18.1.2.1 a0.1 then opt (opt (atI x17.1 s18.1.2.1) fun x19=>
       bif !x19 then some (1,((false,()),()))
       else opt (atI a0.2.1 s18.1.2.1) fun x20=>
        bif x20 then opt (atI x16.2.2.1 s18.1.2.1) fun x21=>
         opt (gl x16.2.2.1 (Int.toNat s18.1.2.1)) fun x22=>
         bif zh x22 1 then some (1,((false,()),()))
         else opt (atI x16.2.2.1 s18.1.2.1) fun x23=>
          opt (gl x16.2.2.1 (Int.toNat s18.1.2.1)) fun x24=>
          bif zh 2 x24 then some (1,((false,()),()))
          else some (0,((s18.1.1,()),()))
        else some (0,((s18.1.1,()),()))) fun x25=>
      bif Nat.beq x25.1 0 then some (.inr ((x25.2.1.1,((wrF .i64 (s18.1.2.1+1)),())),()))
      else some (.inl (1,((x25.2.1.1,(s18.1.2.1,())),())))
     else some (.inl (0,((s18.1.1,(s18.1.2.1,())),())))) zK ((x16.2.1.1,(0,())),())) fun x26=>
    bif Nat.beq x26.1 0 then some (true,())
    else some (x26.2.1.1,())
   else some (x16.2.1.1,())
  else none
 else some (x0.2.1.1,())
abbrev JI:Type:=(zJ×Unit)→Option (Bool×Unit)
def zj1:Yq→JC→UI→JI:=fun wi qN JZ=>sF Tryz.prog [(68,⟨zaw,zax,wi⟩),(69,⟨Uw,Ux,qN⟩),(70,⟨zjY,zjZ,JZ⟩)] ztH (zL []) 30 40 zdo zdp
theorem zvS (wi) (qN) (JZ) (a0):zj1 wi qN JZ (a0,())=zdq wi qN JZ a0:=by kernel_rfl
def gu:JI:=zj1 uv xD XP
theorem zpP (a0):gu (a0,())=zdq uv xD XP a0:=zvS uv xD XP a0
abbrev zj2:List VT:=[⟨true,WK⟩]
abbrev zj3:List VT:=[⟨false,.bool⟩]
def ztI:zT:=zM [cdF WK] [] [] [] [71]
def zdr (qR:Wv) (a0:Xq):Option (Bool×Unit):=
 opt (qR (a0.1,(1,(10000,())))) fun x0=>
 bif x0.1 then opt (qR (a0.2.1,(0,(1000,())))) fun x1=>
  bif x1.1 then opt (qR (a0.2.2.1,(0,(10000,())))) fun x2=>
   bif x2.1 then opt (qR (a0.2.2.2,(1542,(65536,())))) fun x3=>
    some (x3.1,())
   else some (false,())
  else some (false,())
 else some (false,())
abbrev UJ:Type:=(Xq×Unit)→Option (Bool×Unit)
def zj4:Wv→UJ:=fun qR=>sF Tryz.prog [(71,⟨zaG,zaH,qR⟩)] ztI (zL []) 30 41 zj2 zj3
theorem zvT (qR) (a0):zj4 qR (a0,())=zdr qR a0:=by kernel_rfl
def XQ:UJ:=zj4 uE
theorem zpQ (a0):XQ (a0,())=zdr uE a0:=zvT uE a0
abbrev zds:List VT:=[⟨true,zN⟩]
abbrev zdt:List VT:=[⟨false,.bool⟩]
def ztJ:zT:=zM [cdF zN,cdF qh] [] [] [] []
def zdu (a0:qo):Option (Bool×Unit):=
 opt (bif (zh ((a0.1.length:Nat):Int) 1) then some (1,((false,()),()))
  else bif (zh 128 ((a0.1.length:Nat):Int)) then some (1,((false,()),()))
   else some (0,((false,()),()))) fun x0=>
 bif Nat.beq x0.1 0 then opt (zC (fun s1:((Bool×(Int×(Int×Unit)))×Unit)=>
   bif (zh s1.1.2.2.1 ((a0.1.length:Nat):Int)) then opt (atI a0.1 s1.1.2.2.1) fun x2=>
    opt (bif zh x2.1 0 then some (1,((false,()),()))
     else bif zh 255 x2.1 then some (1,((false,()),()))
      else bif zh x2.2 1 then some (1,((false,()),()))
       else bif zh 9600000 x2.2 then some (1,((false,()),()))
        else some (0,((s1.1.1,()),()))) fun x3=>
    bif Nat.beq x3.1 0 then some (.inr ((x3.2.1.1,((wrF .i64 (s1.1.2.1+x2.2)),((wrF .i64 (s1.1.2.2.1+1)),()))),()))
    else some (.inl (1,((x3.2.1.1,(s1.1.2.1,(s1.1.2.2.1,()))),())))
   else some (.inl (0,((s1.1.1,(s1.1.2.1,(s1.1.2.2.1,()))),())))) zK ((x0.2.1.1,(0,(0,()))),())) fun x4=>
  bif Nat.beq x4.1 0 then bif zi x4.2.1.2.1 a0.2 then some ((!(zh 9600000 x4.2.1.2.1)),())
   else some (false,())
  else some (x4.2.1.1,())
 else some (x0.2.1.1,())
abbrev JJ:Type:=(qo×Unit)→Option (Bool×Unit)
def zj5:JJ:=sF Tryz.prog [] ztJ (zL []) 30 42 zds zdt
theorem zvU (a0):zj5 (a0,())=zdu a0:=by kernel_rfl
def gv:JJ:=zj5
theorem zpR (a0):gv (a0,())=zdu  a0:=zvU  a0
abbrev zbz:List VT:=[⟨true,qM⟩]
abbrev zbA:List VT:=[⟨false,I⟩]
def zjm:zT:=zM [cdF qM,cdF zv,cdF zO,cdF zN,cdF qh] [] [] [] [40,41,42]
def Vp (yA:JI) (Wa:UJ) (yB:JJ) (a0:js):Option (Int×Unit):=
 opt (yA (a0.1,())) fun x0=>
 bif !x0.1 then some (260,())
 else opt (Wa (a0.2.1,())) fun x1=>
  bif !x1.1 then some (320,())
  else opt (zC (fun s2:((Int×(Int×Unit))×Unit)=>
    bif (zh s2.1.2.1 ((a0.2.2.1.length:Nat):Int)) then opt (atI a0.2.2.1 s2.1.2.1) fun x3=>
     opt (yB (x3,())) fun x4=>
     bif !x4.1 then some (.inl (1,((370,(s2.1.2.1,())),())))
     else some (.inr ((s2.1.1,((wrF .i64 (s2.1.2.1+1)),())),()))
    else some (.inl (0,((s2.1.1,(s2.1.2.1,())),())))) zK ((0,(0,())),())) fun x5=>
   bif Nat.beq x5.1 0 then opt (bif (!(zi ((a0.2.2.1.length:Nat):Int) (wrF .i64 (2*((a0.1.2.2.length:Nat):Int))))) then some (1,((410,()),()))
     else bif zh a0.2.2.2 84 then some (1,((410,()),()))
      else bif zh 1542 a0.2.2.2 then some (1,((410,()),()))
       else some (0,((x5.2.1.1,()),()))) fun x6=>
    bif Nat.beq x6.1 0 then some (0,())
    else some (x6.2.1.1,())
   else some (x5.2.1.1,())
abbrev Jp:Type:=(js×Unit)→Option (Int×Unit)
def zbB:JI→UJ→JJ→Jp:=fun yA Wa yB=>sF Tryz.prog [(40,⟨zdo,zdp,yA⟩),(41,⟨zj2,zj3,Wa⟩),(42,⟨zds,zdt,yB⟩)] zjm (zL []) 30 14 zbz zbA
theorem zkO (yA) (Wa) (yB) (a0):zbB yA Wa yB (a0,())=Vp yA Wa yB a0:=by kernel_rfl
def gK:Jp:=zbB gu XQ gv
theorem zhh (a0):gK (a0,())=Vp gu XQ gv a0:=zkO gu XQ gv a0
abbrev uX:List VT:=[⟨true,zv⟩,⟨false,I⟩]
abbrev uY:List VT:=[⟨false,.bool⟩]
def znW:zT:=zM [cdF zv,cdF zO] [] [] [] [67]
def Gm (qb:vq) (a0:zJ) (a1:Int):Option (Bool×Unit):=
 opt (qb (a1,(0,((wrF .i64 (a0.1 - 1)),())))) fun x0=>
 bif x0.1 then opt (atI a0.2.1 a1) fun x1=>
  some (x1,())
 else some (false,())
abbrev Xw:Type:=(zJ×Int×Unit)→Option (Bool×Unit)
def zfq:vq→Xw:=fun qb=>sF Tryz.prog [(67,⟨yd,ye,qb⟩)] znW (zL []) 30 119 uX uY
theorem zpS (qb) (a0) (a1):zfq qb (a0,a1,())=Gm qb a0 a1:=by kernel_rfl
def gP:Xw:=zfq wD
theorem zkP:Con.Ok Tryz.prog 119 ⟨uX,uY,gP⟩:=zA (zf Vm zn) zt (by kernel_rfl)
theorem zkQ (a0) (a1):gP (a0,a1,())=Gm wD a0 a1:=zpS wD a0 a1
abbrev xV:List VT:=[⟨false,I⟩,⟨false,I⟩,⟨false,I⟩]
abbrev xW:List VT:=[⟨false,.bool⟩]
def zjn:zT:=zM [] [] [] [] []
def Vq (a0:Int) (a1:Int) (a2:Int):Option (Bool×Unit):=
 bif !(zh a0 a1) then some ((!(zh a2 a0)),())
 else some (false,())
abbrev Jq:Type:=(Int×Int×Int×Unit)→Option (Bool×Unit)
def zbC:Jq:=sF Tryz.prog [] zjn (zL []) 30 86 xV xW
theorem zkR (a0) (a1) (a2):zbC (a0,a1,a2,())=Vq a0 a1 a2:=by kernel_rfl
def um:Jq:=zbC
theorem zhi:Con.Ok Tryz.prog 86 ⟨xV,xW,um⟩:=zA zn zt (by kernel_rfl)
theorem zhj (a0) (a1) (a2):um (a0,a1,a2,())=Vq  a0 a1 a2:=zkR  a0 a1 a2
abbrev wS:List VT:=[⟨true,zp⟩]
abbrev wT:List VT:=[⟨false,I⟩]
def zrN:zT:=zM [cdF zp] [] [] [] [86]
def zca (xX:Jq) (a0:qy):Option (Int×Unit):=
 opt (opt (xX (a0.1,(1,(1048576,())))) fun x0=>
  bif !x0.1 then some (1,((130,()),()))
  else opt (xX (a0.2,(1,(2097152,())))) fun x1=>
   bif !x1.1 then some (1,((130,()),()))
   else some (0,((0,()),()))) fun x2=>
 bif Nat.beq x2.1 0 then some (0,())
 else some (x2.2.1.1,())
abbrev xQ:Type:=(qy×Unit)→Option (Int×Unit)
def zh2:Jq→xQ:=fun xX=>sF Tryz.prog [(86,⟨xV,xW,xX⟩)] zrN (zL []) 30 84 wS wT
theorem ztK (xX) (a0):zh2 xX (a0,())=zca xX a0:=by kernel_rfl
def jS:xQ:=zh2 um
theorem WV:Con.Ok Tryz.prog 84 ⟨wS,wT,jS⟩:=zA (zf zhi zn) zt (by kernel_rfl)
theorem znX (a0):jS (a0,())=zca um a0:=ztK um a0
abbrev yJ:List VT:=[⟨true,Yo⟩,⟨false,(.list I)⟩]
abbrev yK:List VT:=[⟨false,(.list I)⟩]
def zkS:zT:=zM [cdF Yo,cdF zO,cdF zoL] [] [⟨5,30,some 4,I,false⟩,⟨5,30,none,I,true⟩,⟨5,30,some 5,I,true⟩,⟨1,54,none,I,true⟩,⟨3,54,none,I,true⟩,⟨6,54,none,I,true⟩,⟨8,54,none,I,true⟩,⟨0,54,none,I,true⟩] [(5,30,5,[0])] []
def VV (a0:XZ) (a1:(List Int)):Option ((List Int)×Unit):=
 bif (zg5 0 (wrF .i64 (((a1.length:Nat):Int)+1)) 8) then opt (zC (fun s0:((Int×Unit)×(((List Int)×Unit)×(Unit×(Unit×Unit))))=>
   bif (zh s0.1.1 ((a1.length:Nat):Int)) then opt (atI a1 s0.1.1) fun x1=>
    bif zh x1 0 then some (.inl (0,((s0.1.1,()),((s0.2.1.1,()),((),((),()))))))
    else bif (!(zh x1 (wrF .i64 (2*((a0.2.2.length:Nat):Int))))) then some (.inl (0,((s0.1.1,()),((s0.2.1.1,()),((),((),()))))))
     else opt (atI a0.2.2 (wrF .i64 (Int.tdiv x1 2))) fun x2=>
      opt (bif zi (Int.tmod x1 2) 1 then some (0,(((x1,(x2.2.1,x2.1)),()),((),((),()))))
       else some (0,(((x1,(x2.1,x2.2.1)),()),((),((),()))))) fun x3=>
      opt (bif zi s0.1.1 0 then bif (qT s0.2.1.1.length ((x3.2.1.1.2.1::[]).length) 8) then some (0,((),(((s0.2.1.1++(x3.2.1.1.2.1::[])),()),((),()))))
        else none
       else some (0,((),((s0.2.1.1,()),((),()))))) fun x4=>
      bif (qT x4.2.2.1.1.length ((x3.2.1.1.2.2::[]).length) 8) then some (.inr (((wrF .i64 (s0.1.1+1)),()),(((x4.2.2.1.1++(x3.2.1.1.2.2::[])),()),((),((),())))))
      else none
   else some (.inl (0,((s0.1.1,()),((s0.2.1.1,()),((),((),()))))))) zK ((0,()),(((List.replicate (Int.toNat 0) 0),()),((),((),()))))) fun x5=>
  some (x5.2.2.1.1,())
 else none
abbrev kp:Type:=(XZ×(List Int)×Unit)→Option ((List Int)×Unit)
def zcS:kp:=sF Tryz.prog [] zkS (zL []) 30 176 yJ yK
theorem zml (a0) (a1):zcS (a0,a1,())=VV a0 a1:=by kernel_rfl
def yL:kp:=zcS
theorem GR:Con.Ok Tryz.prog 176 ⟨yJ,yK,yL⟩:=zA zn zt (by kernel_rfl)
theorem zh3 (a0) (a1):yL (a0,a1,())=VV  a0 a1:=zml  a0 a1
abbrev yM:List VT:=[⟨true,Yo⟩,⟨false,(.list I)⟩]
abbrev yN:List VT:=[⟨false,.bool⟩]
def zkT:zT:=zM [⟨(.pair .bool (.pair .bool (.pair .bool (.pair .bool (.pair .bool (.pair .bool (.pair .bool (.pair .bool (.pair .bool (.pair .bool (.pair .bool .bool))))))))))),Yn (.pair .bool (.pair .bool (.pair .bool (.pair .bool (.pair .bool (.pair .bool (.pair .bool (.pair .bool (.pair .bool (.pair .bool (.pair .bool .bool))))))))))),[]⟩,cdF Yo,cdF zO,cdF zoL] [] [] [] []
def VW (a0:XZ) (a1:(List Int)):Option (Bool×Unit):=
 opt (bif (zh ((a1.length:Nat):Int) 1) then some (1,((false,()),()))
  else bif (zh 8 ((a1.length:Nat):Int)) then some (1,((false,()),()))
   else some (0,((false,()),()))) fun x0=>
 bif Nat.beq x0.1 0 then opt (zC (fun s1:((Int×(Int×(Int×Unit)))×((List Bool)×(Unit×(Unit×Unit))))=>
   bif (zh s1.1.2.2.1 ((a1.length:Nat):Int)) then opt (atI a1 s1.1.2.2.1) fun x2=>
    bif zh x2 0 then some (.inl (0,((s1.1.1,(s1.1.2.1,(s1.1.2.2.1,()))),(s1.2.1,((),((),()))))))
    else bif (!(zh x2 (wrF .i64 (2*((a0.2.2.length:Nat):Int))))) then some (.inl (0,((s1.1.1,(s1.1.2.1,(s1.1.2.2.1,()))),(s1.2.1,((),((),()))))))
     else opt (atI a0.2.2 (wrF .i64 (Int.tdiv x2 2))) fun x3=>
      opt (bif zi (Int.tmod x2 2) 1 then some (0,(((x2,(x3.2.1,x3.1)),()),((),((),()))))
       else some (0,(((x2,(x3.1,x3.2.1)),()),((),((),()))))) fun x4=>
      bif Nat.beq x4.1 0 then opt (bif zi s1.1.2.2.1 0 then bif zh x4.2.1.1.2.1 12 then opt (atI s1.2.1 x4.2.1.1.2.1) fun x5=>
          opt (gl s1.2.1 (Int.toNat x4.2.1.1.2.1)) fun x6=>
          some (0,((),((s1.2.1.set (Int.toNat x4.2.1.1.2.1) true),((),()))))
         else none
        else bif !(zi x4.2.1.1.2.1 s1.1.1) then some (1,((),(s1.2.1,((),()))))
         else opt (atI a0.2.1 s1.1.1) fun x7=>
          bif x7 then some (1,((),(s1.2.1,((),()))))
          else some (0,((),(s1.2.1,((),()))))) fun x8=>
       bif Nat.beq x8.1 0 then bif zh x4.2.1.1.2.2 12 then opt (atI x8.2.2.1 x4.2.1.1.2.2) fun x9=>
         opt (gl x8.2.2.1 (Int.toNat x4.2.1.1.2.2)) fun x10=>
         bif x10 then some (.inl (1,((s1.1.1,(s1.1.2.1,(s1.1.2.2.1,()))),(x8.2.2.1,((),((),()))))))
         else bif zh x4.2.1.1.2.2 12 then opt (atI x8.2.2.1 x4.2.1.1.2.2) fun x11=>
           opt (gl x8.2.2.1 (Int.toNat x4.2.1.1.2.2)) fun x12=>
           some (.inr ((x4.2.1.1.2.2,((wrF .i64 (s1.1.2.1+1)),((wrF .i64 (s1.1.2.2.1+1)),()))),((x8.2.2.1.set (Int.toNat x4.2.1.1.2.2) true),((),((),())))))
          else none
        else none
       else some (.inl (1,((s1.1.1,(s1.1.2.1,(s1.1.2.2.1,()))),(x8.2.2.1,((),((),()))))))
      else none
   else some (.inl (0,((s1.1.1,(s1.1.2.1,(s1.1.2.2.1,()))),(s1.2.1,((),((),()))))))) zK ((0,(0,(0,()))),((List.replicate 12 false),((),((),()))))) fun x13=>
  bif Nat.beq x13.1 0 then some ((zi x13.2.1.2.1 ((a1.length:Nat):Int)),())
  else some ((zi x13.2.1.2.1 ((a1.length:Nat):Int)),())
 else some (x0.2.1.1,())
abbrev kq:Type:=(XZ×(List Int)×Unit)→Option (Bool×Unit)
def zcT:kq:=sF Tryz.prog [] zkT (zL []) 30 157 yM yN
theorem zmm (a0) (a1):zcT (a0,a1,())=VW a0 a1:=by kernel_rfl
def yO:kq:=zcT
theorem GS:Con.Ok Tryz.prog 157 ⟨yM,yN,yO⟩:=zA zn zt (by kernel_rfl)
theorem zh4 (a0) (a1):yO (a0,a1,())=VW  a0 a1:=zmm  a0 a1
abbrev uH:List VT:=[⟨true,zv⟩,⟨false,(.list I)⟩]
abbrev uI:List VT:=[⟨false,I⟩]
def ztL:zT:=zM [cdF zv,cdF zO] [] [] [] [37,157]
def zdv (qg:xF) (jl:kq) (a0:zJ) (a1:(List Int)):Option (Int×Unit):=
 opt (qg (a0,())) fun x0=>
 bif !(zi x0.1 0) then some (x0.1,())
 else opt (jl (a0,(a1,()))) fun x1=>
  bif !x1.1 then some (310,())
  else some (0,())
abbrev JK:Type:=(zJ×(List Int)×Unit)→Option (Int×Unit)
def zj6:xF→kq→JK:=fun qg jl=>sF Tryz.prog [(37,⟨jI,jJ,qg⟩),(157,⟨yM,yN,jl⟩)] ztL (zL []) 30 174 uH uI
theorem zvV (qg) (jl) (a0) (a1):zj6 qg jl (a0,a1,())=zdv qg jl a0 a1:=by kernel_rfl
def uJ:JK:=zj6 jK yO
theorem zfr:Con.Ok Tryz.prog 174 ⟨uH,uI,uJ⟩:=zA (zf Ww (zf GS zn)) zt (by kernel_rfl)
theorem zpT (a0) (a1):uJ (a0,a1,())=zdv jK yO a0 a1:=zvV jK yO a0 a1
abbrev ZT:List VT:=[⟨true,zv⟩,⟨false,(.list I)⟩]
abbrev ZU:List VT:=[⟨false,(.list I)⟩,⟨false,I⟩]
def ztM:zT:=zM [cdF zv,cdF zO] [] [⟨3,23,some 6,I,false⟩,⟨3,23,some 8,I,false⟩] [] [174]
def zdw (qY:kp) (yC:JK) (a0:zJ) (a1:(List Int)):Option ((List Int)×Int×Unit):=
 opt (yC (a0,(a1,()))) fun x0=>
 bif !(zi x0.1 0) then some ([],(x0.1,()))
 else opt (qY (a0,(a1,()))) fun x1=>
  some (x1.1,(0,()))
abbrev UK:Type:=(zJ×(List Int)×Unit)→Option ((List Int)×Int×Unit)
def zj7:kp→JK→UK:=fun qY yC=>sF Tryz.prog [(176,⟨yJ,yK,qY⟩),(174,⟨uH,uI,yC⟩)] ztM (zL []) 30 173 ZT ZU
theorem zvW (qY) (yC) (a0) (a1):zj7 qY yC (a0,a1,())=zdw qY yC a0 a1:=by kernel_rfl
def JL:UK:=zj7 yL uJ
theorem zpU:Con.Ok Tryz.prog 173 ⟨ZT,ZU,JL⟩:=zA (zf GR (zf zfr zn)) zt (by kernel_rfl)
theorem zpV (a0) (a1):JL (a0,a1,())=zdw yL uJ a0 a1:=zvW yL uJ a0 a1
abbrev QO:List VT:=[⟨true,zv⟩,⟨false,(.list I)⟩]
abbrev QP:List VT:=[⟨false,I⟩,⟨false,I⟩,⟨false,I⟩]
def zvX:zT:=zM [cdF zv,cdF zO] [] [] [] []
def zfs (Wb:UK) (a0:zJ) (a1:(List Int)):Option (Int×Int×Int×Unit):=
 opt (Wb (a0,(a1,()))) fun x0=>
 bif !(zi x0.2.1 0) then some (0,(0,(x0.2.1,())))
 else opt (atI x0.1 0) fun x1=>
  opt (atI x0.1 (wrF .i64 (((x0.1.length:Nat):Int) - 1))) fun x2=>
  some (x1,(x2,(0,())))
abbrev zaP:Type:=(zJ×(List Int)×Unit)→Option (Int×Int×Int×Unit)
def zmn:UK→zaP:=fun Wb=>sF Tryz.prog [(173,⟨ZT,ZU,Wb⟩)] zvX (zL []) 30 154 QO QP
theorem zys (Wb) (a0) (a1):zmn Wb (a0,a1,())=zfs Wb a0 a1:=by kernel_rfl
def Yv:zaP:=zmn JL
theorem zrO:Con.Ok Tryz.prog 154 ⟨QO,QP,Yv⟩:=zA (zf zpU zn) zt (by kernel_rfl)
theorem zrP (a0) (a1):Yv (a0,a1,())=zfs JL a0 a1:=zys JL a0 a1
abbrev gQ:List VT:=[⟨true,zv⟩,⟨false,(.list I)⟩,⟨false,I⟩,⟨false,I⟩]
abbrev gR:List VT:=[⟨false,.bool⟩]
def zrQ:zT:=zM [cdF zv,cdF zO] [] [] [] [154]
def zcb (YT:zaP) (a0:zJ) (a1:(List Int)) (a2:Int) (a3:Int):Option (Bool×Unit):=
 opt (YT (a0,(a1,()))) fun x0=>
 bif zi x0.2.2.1 0 then bif zi x0.1 a2 then some ((zi x0.2.1 a3),())
  else some (false,())
 else some (false,())
abbrev KE:Type:=(zJ×(List Int)×Int×Int×Unit)→Option (Bool×Unit)
def zh5:zaP→KE:=fun YT=>sF Tryz.prog [(154,⟨QO,QP,YT⟩)] zrQ (zL []) 30 125 gQ gR
theorem ztN (YT) (a0) (a1) (a2) (a3):zh5 YT (a0,a1,a2,a3,())=zcb YT a0 a1 a2 a3:=by kernel_rfl
def gS:KE:=zh5 Yv
theorem znY:Con.Ok Tryz.prog 125 ⟨gQ,gR,gS⟩:=zA (zf zrO zn) zt (by kernel_rfl)
theorem znZ (a0) (a1) (a2) (a3):gS (a0,a1,a2,a3,())=zcb Yv a0 a1 a2 a3:=ztN Yv a0 a1 a2 a3
abbrev gT:List VT:=[⟨false,(.list I)⟩,⟨false,(.list I)⟩]
abbrev gU:List VT:=[⟨false,.bool⟩]
def zrR:zT:=zM [] [] [] [] []
def zcc (a0:(List Int)) (a1:(List Int)):Option (Bool×Unit):=
 opt (zC (fun s0:((Bool×(Int×Unit))×Unit)=>
  bif (zh s0.1.2.1 ((a0.length:Nat):Int)) then opt (atI a0 s0.1.2.1) fun x1=>
   opt (zC (fun s2:((Bool×(Int×Unit))×Unit)=>
    bif (zh s2.1.2.1 ((a1.length:Nat):Int)) then opt (atI a1 s2.1.2.1) fun x3=>
     bif (zi (wrF .i64 (Int.tdiv x1 2)) (wrF .i64 (Int.tdiv x3 2))) then some (.inl (1,((true,(s2.1.2.1,())),())))
     else some (.inr ((s2.1.1,((wrF .i64 (s2.1.2.1+1)),())),()))
    else some (.inl (0,((s2.1.1,(s2.1.2.1,())),())))) zK ((s0.1.1,(0,())),())) fun x4=>
   bif Nat.beq x4.1 0 then some (.inr ((x4.2.1.1,((wrF .i64 (s0.1.2.1+1)),())),()))
   else some (.inl (1,((x4.2.1.1,(s0.1.2.1,())),())))
  else some (.inl (0,((s0.1.1,(s0.1.2.1,())),())))) zK ((false,(0,())),())) fun x5=>
 bif Nat.beq x5.1 0 then some (false,())
 else some (x5.2.1.1,())
abbrev KF:Type:=((List Int)×(List Int)×Unit)→Option (Bool×Unit)
def zh6:KF:=sF Tryz.prog [] zrR (zL []) 30 158 gT gU
theorem ztO (a0) (a1):zh6 (a0,a1,())=zcc a0 a1:=by kernel_rfl
def Qq:KF:=zh6
theorem zn0:Con.Ok Tryz.prog 158 ⟨gT,gU,Qq⟩:=zA zn zt (by kernel_rfl)
theorem zn1 (a0) (a1):Qq (a0,a1,())=zcc  a0 a1:=ztO  a0 a1
abbrev yf:List VT:=[⟨false,(.list I)⟩,⟨false,I⟩]
abbrev yg:List VT:=[⟨false,I⟩]
def zey:zT:=zM [] [] [] [] []
def QQ (a0:(List Int)) (a1:Int):Option (Int×Unit):=
 opt (zC (fun s0:((Int×(Int×Unit))×Unit)=>
  bif (zh s0.1.2.1 ((a0.length:Nat):Int)) then opt (atI a0 s0.1.2.1) fun x1=>
   bif zi a1 x1 then some (.inl (1,((s0.1.2.1,(s0.1.2.1,())),())))
   else some (.inr ((s0.1.1,((wrF .i64 (s0.1.2.1+1)),())),()))
  else some (.inl (0,((s0.1.1,(s0.1.2.1,())),())))) zK ((0,(0,())),())) fun x2=>
 bif Nat.beq x2.1 0 then some ((-1),())
 else some (x2.2.1.1,())
abbrev kM:Type:=((List Int)×Int×Unit)→Option (Int×Unit)
def VX:kM:=sF Tryz.prog [] zey (zL []) 30 190 yf yg
theorem zft (a0) (a1):VX (a0,a1,())=QQ a0 a1:=by kernel_rfl
def xf:kM:=VX
theorem zcU:Con.Ok Tryz.prog 190 ⟨yf,yg,xf⟩:=zA zn zt (by kernel_rfl)
theorem zcV (a0) (a1):xf (a0,a1,())=QQ  a0 a1:=zft  a0 a1
abbrev we:List VT:=[⟨false,(.list I)⟩,⟨false,I⟩]
abbrev wh:List VT:=[⟨false,.bool⟩]
def zcd:zT:=zM [] [] [] [] [190]
def Zt (xh:kM) (a0:(List Int)) (a1:Int):Option (Bool×Unit):=
 opt (xh (a0,(a1,()))) fun x0=>
 some ((!(zh x0.1 0)),())
abbrev ui:Type:=((List Int)×Int×Unit)→Option (Bool×Unit)
def Xf:kM→ui:=fun xh=>sF Tryz.prog [(190,⟨yf,yg,xh⟩)] zcd (zL []) 30 177 we wh
theorem zcW (xh) (a0) (a1):Xf xh (a0,a1,())=Zt xh a0 a1:=by kernel_rfl
def yn:ui:=Xf xf
theorem zaQ:Con.Ok Tryz.prog 177 ⟨we,wh,yn⟩:=zA (zf zcU zn) zt (by kernel_rfl)
theorem zaR (a0) (a1):yn (a0,a1,())=Zt xf a0 a1:=zcW xf a0 a1
abbrev vr:List VT:=[⟨true,Yo⟩,⟨false,(.list I)⟩,⟨false,(.list I)⟩]
abbrev vu:List VT:=[⟨false,.bool⟩]
def zkU:zT:=zM [cdF Yo] [] [] [] [177]
def VY (qY:kp) (yp:ui) (a0:XZ) (a1:(List Int)) (a2:(List Int)):Option (Bool×Unit):=
 opt (qY (a0,(a1,()))) fun x0=>
 opt (qY (a0,(a2,()))) fun x1=>
 opt (Vj x0.1 (some 1) (some (wrF .i64 (((x0.1.length:Nat):Int) - 1))) (some (wrF .i64 (((x0.1.length:Nat):Int) - 1)))) fun x2=>
 opt (zC (fun s3:((Bool×(Int×Unit))×Unit)=>
  bif (zh s3.1.2.1 ((x2.length:Nat):Int)) then opt (atI x2 s3.1.2.1) fun x4=>
   opt (yp (x1.1,(x4,()))) fun x5=>
   bif x5.1 then some (.inl (1,((true,(s3.1.2.1,())),())))
   else some (.inr ((s3.1.1,((wrF .i64 (s3.1.2.1+1)),())),()))
  else some (.inl (0,((s3.1.1,(s3.1.2.1,())),())))) zK ((false,(0,())),())) fun x6=>
 bif Nat.beq x6.1 0 then some (false,())
 else some (x6.2.1.1,())
abbrev Wx:Type:=(XZ×(List Int)×(List Int)×Unit)→Option (Bool×Unit)
def zcX:kp→ui→Wx:=fun qY yp=>sF Tryz.prog [(176,⟨yJ,yK,qY⟩),(177,⟨we,wh,yp⟩)] zkU (zL []) 30 159 vr vu
theorem zmo (qY) (yp) (a0) (a1) (a2):zcX qY yp (a0,a1,a2,())=VY qY yp a0 a1 a2:=by kernel_rfl
def kr:Wx:=zcX yL yn
theorem zh7:Con.Ok Tryz.prog 159 ⟨vr,vu,kr⟩:=zA (zf GR (zf zaQ zn)) zt (by kernel_rfl)
theorem zh8 (a0) (a1) (a2):kr (a0,a1,a2,())=VY yL yn a0 a1 a2:=zmo yL yn a0 a1 a2
abbrev ZV:List VT:=[⟨true,zv⟩,⟨false,(.list I)⟩,⟨false,(.list I)⟩]
abbrev ZW:List VT:=[⟨false,.bool⟩,⟨false,I⟩]
def ztP:zT:=zM [cdF zv,cdF zO] [] [] [] [157,158,159,174]
def zdx (jl:kq) (Qx:KF) (vA:Wx) (yC:JK) (a0:zJ) (a1:(List Int)) (a2:(List Int)):Option (Bool×Int×Unit):=
 opt (yC (a0,(a1,()))) fun x0=>
 bif !(zi x0.1 0) then some (false,(x0.1,()))
 else opt (jl (a0,(a2,()))) fun x1=>
  bif !x1.1 then some (false,(310,()))
  else opt (Qx (a1,(a2,()))) fun x2=>
   bif !x2.1 then opt (vA (a0,(a1,(a2,())))) fun x3=>
    bif !x3.1 then opt (vA (a0,(a2,(a1,())))) fun x4=>
     some ((!x4.1),(0,()))
    else some (false,(0,()))
   else some (false,(0,()))
abbrev UL:Type:=(zJ×(List Int)×(List Int)×Unit)→Option (Bool×Int×Unit)
def zj8:kq→KF→Wx→JK→UL:=fun jl Qx vA yC=>sF Tryz.prog [(157,⟨yM,yN,jl⟩),(158,⟨gT,gU,Qx⟩),(159,⟨vr,vu,vA⟩),(174,⟨uH,uI,yC⟩)] ztP (zL []) 30 127 ZV ZW
theorem zvY (jl) (Qx) (vA) (yC) (a0) (a1) (a2):zj8 jl Qx vA yC (a0,a1,a2,())=zdx jl Qx vA yC a0 a1 a2:=by kernel_rfl
def gw:UL:=zj8 yO Qq kr uJ
theorem zpW:Con.Ok Tryz.prog 127 ⟨ZV,ZW,gw⟩:=zA (zf GS (zf zn0 (zf zh7 (zf zfr zn)))) zt (by kernel_rfl)
theorem zpX (a0) (a1) (a2):gw (a0,a1,a2,())=zdx yO Qq kr uJ a0 a1 a2:=zvY yO Qq kr uJ a0 a1 a2
abbrev ku:List VT:=[⟨true,zv⟩,⟨true,zU⟩]
abbrev kx:List VT:=[⟨false,.bool⟩]
def zrS:zT:=zM [cdF zU,cdF zv,cdF zO,cdF zp] [] [] [] [67,119,84,125,127]
def zce (qb:vq) (kj:Xw) (qk:xQ) (Ze:KE) (uT:UL) (a0:zJ) (a1:qE):Option (Bool×Unit):=
 opt (qb (a1.1,(1,(4095,())))) fun x0=>
 bif !x0.1 then some (false,())
 else opt (kj (a0,(a1.2.1,()))) fun x1=>
  bif x1.1 then opt (kj (a0,(a1.2.2.1,()))) fun x2=>
   bif x2.1 then bif (!(!(zi a1.2.1 a1.2.2.1))) then some (false,())
    else opt (qb (a1.2.2.2.2.1,(84,(1542,())))) fun x3=>
     bif !x3.1 then some (false,())
     else opt (qb (a1.2.2.2.2.2.2.2.1,(1,(1099511627776,())))) fun x4=>
      bif !x4.1 then some (false,())
      else bif zi a1.2.2.2.1 7 then opt (qb (a1.2.2.2.2.2.1,(1,(240,())))) fun x5=>
        bif x5.1 then bif (!((zi a1.2.2.2.2.2.2.1.1 0)&&((zi a1.2.2.2.2.2.2.1.2 0)&&true))) then some (false,())
         else opt (qb (((a1.2.2.2.2.2.2.2.2.length:Nat):Int),(1,(2,())))) fun x6=>
          bif !x6.1 then some (false,())
          else opt (zC (fun s7:((Bool×(Int×Unit))×Unit)=>
            bif (zh s7.1.2.1 ((a1.2.2.2.2.2.2.2.2.length:Nat):Int)) then opt (atI a1.2.2.2.2.2.2.2.2 s7.1.2.1) fun x8=>
             opt (Ze (a0,(x8,(a1.2.1,(a1.2.2.1,()))))) fun x9=>
             bif !x9.1 then some (.inl (1,((false,(s7.1.2.1,())),())))
             else some (.inr ((s7.1.1,((wrF .i64 (s7.1.2.1+1)),())),()))
            else some (.inl (0,((s7.1.1,(s7.1.2.1,())),())))) zK ((false,(0,())),())) fun x10=>
           bif Nat.beq x10.1 0 then bif (zh ((a1.2.2.2.2.2.2.2.2.length:Nat):Int) 2) then some (true,())
            else opt (atI a1.2.2.2.2.2.2.2.2 0) fun x11=>
             opt (atI a1.2.2.2.2.2.2.2.2 1) fun x12=>
             opt (uT (a0,(x11,(x12,())))) fun x13=>
             bif zi x13.2.1 0 then bif !x13.1 then some (false,())
              else some (true,())
             else some (false,())
           else bif !x10.2.1.1 then some (false,())
            else bif (zh ((a1.2.2.2.2.2.2.2.2.length:Nat):Int) 2) then some (true,())
             else opt (atI a1.2.2.2.2.2.2.2.2 0) fun x14=>
              opt (atI a1.2.2.2.2.2.2.2.2 1) fun x15=>
              opt (uT (a0,(x14,(x15,())))) fun x16=>
              bif zi x16.2.1 0 then bif !x16.1 then some (false,())
               else some (true,())
              else some (false,())
        else some (false,())
       else bif zi a1.2.2.2.1 6 then bif zi a1.2.2.2.2.2.1 0 then opt (qk (a1.2.2.2.2.2.2.1,())) fun x17=>
          bif zi x17.1 0 then bif (!(!(zh a1.2.2.2.2.2.2.1.1 a1.2.2.2.2.1))) then some (false,())
           else opt (qb (((a1.2.2.2.2.2.2.2.2.length:Nat):Int),(1,(2,())))) fun x18=>
            bif !x18.1 then some (false,())
            else opt (zC (fun s19:((Bool×(Int×Unit))×Unit)=>
              bif (zh s19.1.2.1 ((a1.2.2.2.2.2.2.2.2.length:Nat):Int)) then opt (atI a1.2.2.2.2.2.2.2.2 s19.1.2.1) fun x20=>
               opt (Ze (a0,(x20,(a1.2.1,(a1.2.2.1,()))))) fun x21=>
               bif !x21.1 then some (.inl (1,((false,(s19.1.2.1,())),())))
               else some (.inr ((s19.1.1,((wrF .i64 (s19.1.2.1+1)),())),()))
              else some (.inl (0,((s19.1.1,(s19.1.2.1,())),())))) zK ((false,(0,())),())) fun x22=>
             bif Nat.beq x22.1 0 then bif (zh ((a1.2.2.2.2.2.2.2.2.length:Nat):Int) 2) then some (true,())
              else opt (atI a1.2.2.2.2.2.2.2.2 0) fun x23=>
               opt (atI a1.2.2.2.2.2.2.2.2 1) fun x24=>
               opt (uT (a0,(x23,(x24,())))) fun x25=>
               bif zi x25.2.1 0 then bif !x25.1 then some (false,())
                else some (true,())
               else some (false,())
             else bif !x22.2.1.1 then some (false,())
              else bif (zh ((a1.2.2.2.2.2.2.2.2.length:Nat):Int) 2) then some (true,())
               else opt (atI a1.2.2.2.2.2.2.2.2 0) fun x26=>
                opt (atI a1.2.2.2.2.2.2.2.2 1) fun x27=>
                opt (uT (a0,(x26,(x27,())))) fun x28=>
                bif zi x28.2.1 0 then bif !x28.1 then some (false,())
                 else some (true,())
                else some (false,())
          else some (false,())
         else some (false,())
        else some (false,())
   else some (false,())
  else some (false,())
abbrev KG:Type:=(zJ×qE×Unit)→Option (Bool×Unit)
def zh9:vq→Xw→xQ→KE→UL→KG:=fun qb kj qk Ze uT=>sF Tryz.prog [(67,⟨yd,ye,qb⟩),(119,⟨uX,uY,kj⟩),(84,⟨wS,wT,qk⟩),(125,⟨gQ,gR,Ze⟩),(127,⟨ZV,ZW,uT⟩)] zrS (zL []) 30 82 ku kx
theorem ztQ (qb) (kj) (qk) (Ze) (uT) (a0) (a1):zh9 qb kj qk Ze uT (a0,a1,())=zce qb kj qk Ze uT a0 a1:=by kernel_rfl
def Qr:KG:=zh9 wD gP jS gS gw
theorem zn2:Con.Ok Tryz.prog 82 ⟨ku,kx,Qr⟩:=zA (zf Vm (zf zkP (zf WV (zf znY (zf zpW zn))))) zt (by kernel_rfl)
theorem zn3 (a0) (a1):Qr (a0,a1,())=zce wD gP jS gS gw a0 a1:=ztQ wD gP jS gS gw a0 a1
abbrev yq:List VT:=[⟨true,zv⟩,⟨false,(.list zU)⟩]
abbrev yr:List VT:=[⟨false,I⟩]
def zmp:zT:=zM [cdF zU,cdF zv,cdF zO,cdF zp] [] [] [] [37,82]
def KZ (qg:xF) (Qy:KG) (a0:zJ) (a1:(List qE)):Option (Int×Unit):=
 opt (qg (a0,())) fun x0=>
 bif !(zi x0.1 0) then some (x0.1,())
 else bif (zh 12 ((a1.length:Nat):Int)) then some (3,())
  else opt (zC (fun s1:((Int×(Int×Unit))×Unit)=>
    bif (zh s1.1.2.1 ((a1.length:Nat):Int)) then opt (atI a1 s1.1.2.1) fun x2=>
     opt (Qy (a0,(x2,()))) fun x3=>
     bif !x3.1 then some (.inl (1,((321,(s1.1.2.1,())),())))
     else some (.inr ((s1.1.1,((wrF .i64 (s1.1.2.1+1)),())),()))
    else some (.inl (0,((s1.1.1,(s1.1.2.1,())),())))) zK ((0,(0,())),())) fun x4=>
   bif Nat.beq x4.1 0 then opt (zC (fun s5:((Int×(Int×Unit))×((List (Int×Bool))×Unit))=>
     bif (zh s5.1.2.1 ((a1.length:Nat):Int)) then opt (atI a1 s5.1.2.1) fun x6=>
      bif mpD (α:=Bool) s5.2.1 x6.1 false then some (.inl (1,((322,(s5.1.2.1,())),(s5.2.1,()))))
      else some (.inr ((s5.1.1,((wrF .i64 (s5.1.2.1+1)),())),((mpP (α:=Bool) s5.2.1 x6.1 true),())))
     else some (.inl (0,((s5.1.1,(s5.1.2.1,())),(s5.2.1,()))))) zK ((x4.2.1.1,(0,())),([],()))) fun x7=>
    bif Nat.beq x7.1 0 then some (0,())
    else some (x7.2.1.1,())
   else some (x4.2.1.1,())
abbrev kZ:Type:=(zJ×(List qE)×Unit)→Option (Int×Unit)
def zd3:xF→KG→kZ:=fun qg Qy=>sF Tryz.prog [(37,⟨jI,jJ,qg⟩),(82,⟨ku,kx,Qy⟩)] zmp (zL []) 30 72 yq yr
theorem zn4 (qg) (Qy) (a0) (a1):zd3 qg Qy (a0,a1,())=KZ qg Qy a0 a1:=by kernel_rfl
def yX:kZ:=zd3 jK Qr
theorem zaS:Con.Ok Tryz.prog 72 ⟨yq,yr,yX⟩:=zA (zf Ww (zf zn2 zn)) zt (by kernel_rfl)
theorem zjo (a0) (a1):yX (a0,a1,())=KZ jK Qr a0 a1:=zn4 jK Qr a0 a1
abbrev jT:List VT:=[⟨false,(.list I)⟩,⟨false,I⟩]
abbrev jU:List VT:=[⟨false,I⟩]
def zbr:zT:=zM [] [] [] [] []
def gV (a0:(List Int)) (a1:Int):Option (Int×Unit):=
 opt (zC (fun s0:((Int×(Int×Unit))×Unit)=>
  bif (zh s0.1.2.1 ((a0.length:Nat):Int)) then opt (atI a0 s0.1.2.1) fun x1=>
   bif zi a1 x1 then some (.inl (1,((s0.1.2.1,(s0.1.2.1,())),())))
   else some (.inr ((s0.1.1,((wrF .i64 (s0.1.2.1+1)),())),()))
  else some (.inl (0,((s0.1.1,(s0.1.2.1,())),())))) zK ((0,(0,())),())) fun x2=>
 bif Nat.beq x2.1 0 then some ((-1),())
 else some (x2.2.1.1,())
abbrev vI:Type:=((List Int)×Int×Unit)→Option (Int×Unit)
def Yw:vI:=sF Tryz.prog [] zbr (zL []) 30 162 jT jU
theorem zcf (a0) (a1):Yw (a0,a1,())=gV a0 a1:=by kernel_rfl
def wU:vI:=Yw
theorem GZ:Con.Ok Tryz.prog 162 ⟨jT,jU,wU⟩:=zA zn zt (by kernel_rfl)
theorem zaa (a0) (a1):wU (a0,a1,())=gV  a0 a1:=zcf  a0 a1
abbrev qz:List VT:=[⟨false,(.list I)⟩,⟨false,I⟩]
abbrev qA:List VT:=[⟨false,.bool⟩]
def Gn:zT:=zM [] [] [] [] [162]
def kA (wW:vI) (a0:(List Int)) (a1:Int):Option (Bool×Unit):=
 opt (wW (a0,(a1,()))) fun x0=>
 some ((!(zh x0.1 0)),())
abbrev wb:Type:=((List Int)×Int×Unit)→Option (Bool×Unit)
def Ju:vI→wb:=fun wW=>sF Tryz.prog [(162,⟨jT,jU,wW⟩)] Gn (zL []) 30 136 qz qA
theorem zab (wW) (a0) (a1):Ju wW (a0,a1,())=kA wW a0 a1:=by kernel_rfl
def qt:wb:=Ju wU
theorem Qh:Con.Ok Tryz.prog 136 ⟨qz,qA,qt⟩:=zA (zf GZ zn) zt (by kernel_rfl)
theorem Ua (a0) (a1):qt (a0,a1,())=kA wU a0 a1:=zab wU a0 a1
abbrev gW:List VT:=[⟨true,Kx⟩]
abbrev gX:List VT:=[⟨false,I⟩]
def zrT:zT:=zM [cdF Kx,cdF zO] [] [] [] []
def zcg (a0:zgA):Option (Int×Unit):=
 some (a0.1.2.2.1,())
abbrev KH:Type:=(zgA×Unit)→Option (Int×Unit)
def zia:KH:=sF Tryz.prog [] zrT (zL []) 30 138 gW gX
theorem ztR (a0):zia (a0,())=zcg a0:=by kernel_rfl
def Yx:KH:=zia
theorem zn5:Con.Ok Tryz.prog 138 ⟨gW,gX,Yx⟩:=zA zn zt (by kernel_rfl)
theorem zn6 (a0):Yx (a0,())=zcg  a0:=ztR  a0
abbrev Zo:List VT:=[⟨true,zv⟩,⟨false,I⟩]
abbrev Zp:List VT:=[⟨false,I⟩,⟨false,I⟩]
def zzx:zT:=zM [cdF zv,cdF Kx,cdF zO] [] [] [] [37,138]
def zjp (qg:xF) (Qz:KH) (a0:zJ) (a1:Int):Option (Int×Int×Unit):=
 opt (qg (a0,())) fun x0=>
 bif !(zi x0.1 0) then some (0,(x0.1,()))
 else opt (bif zh a1 0 then some (1,((0,(2,())),()))
   else bif (!(zh a1 (wrF .i64 (2*((a0.2.2.length:Nat):Int))))) then some (1,((0,(2,())),()))
    else some (0,((0,(0,())),()))) fun x1=>
  bif Nat.beq x1.1 0 then opt (atI a0.2.2 (wrF .i64 (Int.tdiv a1 2))) fun x2=>
   opt (Qz ((x2,a1),())) fun x3=>
   some (x3.1,(0,()))
  else some (x1.2.1.1,(x1.2.1.2.1,()))
abbrev KI:Type:=(zJ×Int×Unit)→Option (Int×Int×Unit)
def zrU:xF→KH→KI:=fun qg Qz=>sF Tryz.prog [(37,⟨jI,jJ,qg⟩),(138,⟨gW,gX,Qz⟩)] zzx (zL []) 30 100 Zo Zp
theorem zBt (qg) (Qz) (a0) (a1):zrU qg Qz (a0,a1,())=zjp qg Qz a0 a1:=by kernel_rfl
def xY:KI:=zrU jK Yx
theorem zj9:Con.Ok Tryz.prog 100 ⟨Zo,Zp,xY⟩:=zA (zf Ww (zf zn5 zn)) zt (by kernel_rfl)
theorem zvZ (a0) (a1):xY (a0,a1,())=zjp jK Yx a0 a1:=zBt jK Yx a0 a1
abbrev kN:List VT:=[⟨true,zN⟩,⟨false,I⟩,⟨false,I⟩]
abbrev kO:List VT:=[⟨false,I⟩]
def zpY:zT:=zM [cdF zN,cdF qh] [] [] [] [39]
def zaT (qW:gr) (a0:qo) (a1:Int) (a2:Int):Option (Int×Unit):=
 opt (qW (a0,())) fun x0=>
 bif !(zi x0.1 0) then some (x0.1,())
 else opt (bif zh a1 1 then some (1,((2,()),()))
   else bif zh 1000 a1 then some (1,((2,()),()))
    else bif zh a2 84 then some (1,((2,()),()))
     else bif zh 1542 a2 then some (1,((2,()),()))
      else some (0,((0,()),()))) fun x1=>
  bif Nat.beq x1.1 0 then some (0,())
  else some (x1.2.1.1,())
abbrev Vw:Type:=(qo×Int×Int×Unit)→Option (Int×Unit)
def zgE:gr→Vw:=fun qW=>sF Tryz.prog [(39,⟨xG,xH,qW⟩)] zpY (zL []) 30 139 kN kO
theorem zrV (qW) (a0) (a1) (a2):zgE qW (a0,a1,a2,())=zaT qW a0 a1 a2:=by kernel_rfl
def ZH:Vw:=zgE yY
theorem zmq:Con.Ok Tryz.prog 139 ⟨kN,kO,ZH⟩:=zA (zf Gl zn) zt (by kernel_rfl)
theorem zmr (a0) (a1) (a2):ZH (a0,a1,a2,())=zaT yY a0 a1 a2:=zrV yY a0 a1 a2
abbrev ZX:List VT:=[⟨true,zN⟩,⟨false,I⟩,⟨false,I⟩,⟨false,I⟩]
abbrev ZY:List VT:=[⟨false,I⟩]
def ztS:zT:=zM [cdF zN,cdF qh] [] [] [] [39]
def zdy (qW:gr) (a0:qo) (a1:Int) (a2:Int) (a3:Int):Option (Int×Unit):=
 opt (qW (a0,())) fun x0=>
 bif !(zi x0.1 0) then some (x0.1,())
 else opt (bif zh a1 0 then some (1,((2,()),()))
   else bif !(zh a1 8) then some (1,((2,()),()))
    else bif zh a2 (-1099511627776) then some (1,((2,()),()))
     else bif zh 1099511627776 a2 then some (1,((2,()),()))
      else bif zh a3 0 then some (1,((2,()),()))
       else bif zh 1099511627776 a3 then some (1,((2,()),()))
        else some (0,((0,()),()))) fun x1=>
  bif Nat.beq x1.1 0 then some (0,())
  else some (x1.2.1.1,())
abbrev UM:Type:=(qo×Int×Int×Int×Unit)→Option (Int×Unit)
def zka:gr→UM:=fun qW=>sF Tryz.prog [(39,⟨xG,xH,qW⟩)] ztS (zL []) 30 191 ZX ZY
theorem zv0 (qW) (a0) (a1) (a2) (a3):zka qW (a0,a1,a2,a3,())=zdy qW a0 a1 a2 a3:=by kernel_rfl
def JM:UM:=zka yY
theorem zpZ:Con.Ok Tryz.prog 191 ⟨ZX,ZY,JM⟩:=zA (zf Gl zn) zt (by kernel_rfl)
theorem zp0 (a0) (a1) (a2) (a3):JM (a0,a1,a2,a3,())=zdy yY a0 a1 a2 a3:=zv0 yY a0 a1 a2 a3
abbrev QR:List VT:=[⟨true,zN⟩,⟨false,I⟩]
abbrev QS:List VT:=[⟨false,I⟩,⟨false,I⟩]
def zv1:zT:=zM [cdF zN,cdF qh] [] [] [] []
def zfu (a0:qo) (a1:Int):Option (Int×Int×Unit):=
 bif zi a0.2 0 then none
 else bif zi a0.2 0 then none
  else opt (atI a0.1 0) fun x0=>
   bif (!(zh (Int.tmod (wrF .i64 ((Int.tmod a1 a0.2)+a0.2)) a0.2) x0.2)) then opt (atI a0.1 0) fun x1=>
    opt (zC (fun s2:((Int×(Int×(Int×Unit)))×Unit)=>
     opt (atI a0.1 s2.1.2.1) fun x3=>
     bif !(zh s2.1.1 x3.2) then opt (atI a0.1 s2.1.2.1) fun x4=>
      some (.inr (((wrF .i64 (s2.1.1 - x4.2)),((wrF .i64 (s2.1.2.1+1)),(s2.1.2.2.1,()))),()))
     else opt (atI a0.1 s2.1.2.1) fun x5=>
      some (.inl (0,((s2.1.1,(s2.1.2.1,((wrF .i64 (x5.2 - s2.1.1)),()))),())))) zK (((wrF .i64 ((Int.tmod (wrF .i64 ((Int.tmod a1 a0.2)+a0.2)) a0.2) - x1.2)),(1,(0,()))),())) fun x6=>
    some (x6.2.1.2.1,(x6.2.1.2.2.1,()))
   else opt (atI a0.1 0) fun x7=>
    some (0,((wrF .i64 (x7.2 - (Int.tmod (wrF .i64 ((Int.tmod a1 a0.2)+a0.2)) a0.2))),()))
abbrev zaU:Type:=(qo×Int×Unit)→Option (Int×Int×Unit)
def zms:zaU:=sF Tryz.prog [] zv1 (zL []) 30 197 QR QS
theorem zyt (a0) (a1):zms (a0,a1,())=zfu a0 a1:=by kernel_rfl
def Yy:zaU:=zms
theorem zrW:Con.Ok Tryz.prog 197 ⟨QR,QS,Yy⟩:=zA zn zt (by kernel_rfl)
theorem zrX (a0) (a1):Yy (a0,a1,())=zfu  a0 a1:=zyt  a0 a1
abbrev QT:List VT:=[⟨true,zN⟩,⟨false,I⟩,⟨false,I⟩]
abbrev QU:List VT:=[⟨false,I⟩]
def zv2:zT:=zM [cdF zN,cdF qh] [] [] [] [197]
def zfv (YU:zaU) (a0:qo) (a1:Int) (a2:Int):Option (Int×Unit):=
 opt (YU (a0,(a2,()))) fun x0=>
 opt (zC (fun s1:((Int×(((List (Int×Int))×Int)×(Int×(Int×(Int×(Int×(Int×Unit)))))))×Unit)=>
  bif (zh s1.1.2.2.2.2.2.2.1 (wrF .i64 (((a0.1.length:Nat):Int)+1))) then opt (atI s1.1.2.1.1 s1.1.2.2.2.2.1) fun x2=>
   bif zh s1.1.1 0 then none
   else bif (!(zi (kJ .and .i64 (wo .i64 x2.1 s1.1.1) 1) 1)) then some (.inl (1,((s1.1.1,(s1.1.2.1,(s1.1.2.2.2.1,(s1.1.2.2.2.1,(s1.1.2.2.2.2.1,(s1.1.2.2.2.2.2.1,(s1.1.2.2.2.2.2.2.1,()))))))),())))
    else bif (zi ((s1.1.2.1.1.length:Nat):Int) 0) then none
     else opt (atI s1.1.2.1.1 (Int.tmod (wrF .i64 (s1.1.2.2.2.2.1+1)) ((s1.1.2.1.1.length:Nat):Int))) fun x3=>
      some (.inr ((s1.1.1,(s1.1.2.1,(s1.1.2.2.1,((wrF .i64 (s1.1.2.2.2.1+s1.1.2.2.2.2.2.1)),((Int.tmod (wrF .i64 (s1.1.2.2.2.2.1+1)) ((s1.1.2.1.1.length:Nat):Int)),(x3.2,((wrF .i64 (s1.1.2.2.2.2.2.2.1+1)),()))))))),()))
  else some (.inl (0,((s1.1.1,(s1.1.2.1,(s1.1.2.2.1,(s1.1.2.2.2.1,(s1.1.2.2.2.2.1,(s1.1.2.2.2.2.2.1,(s1.1.2.2.2.2.2.2.1,()))))))),())))) zK ((a1,(a0,(0,(0,(x0.1,(x0.2.1,(0,()))))))),())) fun x4=>
 bif Nat.beq x4.1 0 then bif zi x4.2.1.2.1.2 a0.2 then some (1099511627776,())
  else some (x4.2.1.2.1.2,())
 else bif zi x4.2.1.2.2.1 a0.2 then some (1099511627776,())
  else some (x4.2.1.2.2.1,())
abbrev zaV:Type:=(qo×Int×Int×Unit)→Option (Int×Unit)
def zmt:zaU→zaV:=fun YU=>sF Tryz.prog [(197,⟨QR,QS,YU⟩)] zv2 (zL []) 30 192 QT QU
theorem zyu (YU) (a0) (a1) (a2):zmt YU (a0,a1,a2,())=zfv YU a0 a1 a2:=by kernel_rfl
def Yz:zaV:=zmt Yy
theorem zrY:Con.Ok Tryz.prog 192 ⟨QT,QU,Yz⟩:=zA (zf zrW zn) zt (by kernel_rfl)
theorem zrZ (a0) (a1) (a2):Yz (a0,a1,a2,())=zfv Yy a0 a1 a2:=zyu Yy a0 a1 a2
abbrev QV:List VT:=[⟨true,zN⟩,⟨false,I⟩,⟨false,I⟩]
abbrev QW:List VT:=[⟨false,I⟩,⟨false,I⟩]
def zv3:zT:=zM [cdF zN,cdF qh] [] [] [] [191,192]
def zfw (Wc:UM) (YV:zaV) (a0:qo) (a1:Int) (a2:Int):Option (Int×Int×Unit):=
 opt (Wc (a0,(a1,(a2,(0,()))))) fun x0=>
 bif !(zi x0.1 0) then some (0,(x0.1,()))
 else opt (YV (a0,(a1,(a2,())))) fun x1=>
  some (x1.1,(0,()))
abbrev zaW:Type:=(qo×Int×Int×Unit)→Option (Int×Int×Unit)
def zmu:UM→zaV→zaW:=fun Wc YV=>sF Tryz.prog [(191,⟨ZX,ZY,Wc⟩),(192,⟨QT,QU,YV⟩)] zv3 (zL []) 30 178 QV QW
theorem zyv (Wc) (YV) (a0) (a1) (a2):zmu Wc YV (a0,a1,a2,())=zfw Wc YV a0 a1 a2:=by kernel_rfl
def YA:zaW:=zmu JM Yz
theorem zr0:Con.Ok Tryz.prog 178 ⟨QV,QW,YA⟩:=zA (zf zpZ (zf zrY zn)) zt (by kernel_rfl)
theorem zr1 (a0) (a1) (a2):YA (a0,a1,a2,())=zfw JM Yz a0 a1 a2:=zyv JM Yz a0 a1 a2
abbrev uZ:List VT:=[⟨true,zN⟩]
abbrev ka:List VT:=[⟨false,.bool⟩]
def zn7:zT:=zM [cdF zN,cdF qh] [] [] [] [178]
def Gp (YW:zaW) (a0:qo):Option (Bool×Unit):=
 opt (YW (a0,(6,(0,())))) fun x0=>
 bif zi x0.2.1 0 then some ((zi x0.1 1099511627776),())
 else some (false,())
abbrev Xx:Type:=(qo×Unit)→Option (Bool×Unit)
def zfx:zaW→Xx:=fun YW=>sF Tryz.prog [(178,⟨QV,QW,YW⟩)] zn7 (zL []) 30 164 uZ ka
theorem zp1 (YW) (a0):zfx YW (a0,())=Gp YW a0:=by kernel_rfl
def gY:Xx:=zfx YA
theorem zkV:Con.Ok Tryz.prog 164 ⟨uZ,ka,gY⟩:=zA (zf zr0 zn) zt (by kernel_rfl)
theorem zkW (a0):gY (a0,())=Gp YA a0:=zp1 YA a0
abbrev xz:List VT:=[⟨true,qh⟩]
abbrev xA:List VT:=[⟨false,.bool⟩]
def zn8:zT:=zM [cdF qh] [] [] [] []
def Xy (a0:zjd):Option (Bool×Unit):=
 some ((zi (kJ .and .i64 (wo .i64 a0.1 6) 1) 1),())
abbrev gZ:Type:=(zjd×Unit)→Option (Bool×Unit)
def zfy:gZ:=sF Tryz.prog [] zn8 (zL []) 30 180 xz xA
theorem zp2 (a0):zfy (a0,())=Xy a0:=by kernel_rfl
def xB:gZ:=zfy
theorem zbD:Con.Ok Tryz.prog 180 ⟨xz,xA,xB⟩:=zA zn zt (by kernel_rfl)
theorem zbE (a0):xB (a0,())=Xy  a0:=zp2  a0
abbrev vO:List VT:=[⟨true,zN⟩,⟨false,I⟩]
abbrev vP:List VT:=[⟨false,I⟩]
def zmv:zT:=zM [cdF zN,cdF qh] [] [] [] [164,180]
def WW (Zf:Xx) (ji:gZ) (a0:qo) (a1:Int):Option (Int×Unit):=
 opt (Zf (a0,())) fun x0=>
 bif x0.1 then some (a0.2,())
 else opt (zC (fun s1:((Int×(Int×(Int×Unit)))×(Unit×(Unit×Unit)))=>
   bif (zh s1.1.2.2.1 ((a0.1.length:Nat):Int)) then opt (atI a0.1 s1.1.2.2.1) fun x2=>
    opt (ji (x2,())) fun x3=>
    bif x3.1 then opt (atI a0.1 s1.1.2.2.1) fun x4=>
     some (.inr ((s1.1.1,((wrF .i64 (s1.1.2.1+x4.2)),((wrF .i64 (s1.1.2.2.1+1)),()))),((),((),()))))
    else some (.inl (0,((s1.1.1,(s1.1.2.1,(s1.1.2.2.1,()))),((),((),())))))
   else some (.inl (0,((s1.1.1,(s1.1.2.1,(s1.1.2.2.1,()))),((),((),())))))) zK ((0,(0,(0,()))),((),((),())))) fun x5=>
  bif (zi x5.2.1.2.2.1 ((a0.1.length:Nat):Int)) then some (x5.2.1.1,())
  else opt (atI a0.1 x5.2.1.2.2.1) fun x6=>
   opt (zC (fun s7:(((Int×Int)×(Int×(Int×(Int×Unit))))×(Unit×(Unit×Unit)))=>
    bif (zh s7.1.2.2.2.1 ((a0.1.length:Nat):Int)) then bif (zi ((a0.1.length:Nat):Int) 0) then none
     else opt (atI a0.1 (Int.tmod (wrF .i64 ((wrF .i64 (x5.2.1.2.2.1+1))+s7.1.2.2.2.1)) ((a0.1.length:Nat):Int))) fun x8=>
      opt (ji (x8,())) fun x9=>
      bif x9.1 then opt (bif zi s7.1.1.2 0 then some (0,(((s7.1.2.2.1,s7.1.1.2),()),((),((),()))))
        else some (0,((s7.1.1,()),((),((),()))))) fun x10=>
       some (.inr (((x10.2.1.1.1,(wrF .i64 (x10.2.1.1.2+x8.2))),(s7.1.2.1,((wrF .i64 (s7.1.2.2.1+x8.2)),((wrF .i64 (s7.1.2.2.2.1+1)),())))),((),((),()))))
      else bif zh 0 s7.1.1.2 then some (.inr (((0,0),((wrF .i64 (s7.1.2.1+(ur 0 (wrF .i64 (s7.1.1.2 - a1))))),((wrF .i64 (s7.1.2.2.1+x8.2)),((wrF .i64 (s7.1.2.2.2.1+1)),())))),((),((),()))))
       else some (.inr (((0,0),(s7.1.2.1,((wrF .i64 (s7.1.2.2.1+x8.2)),((wrF .i64 (s7.1.2.2.2.1+1)),())))),((),((),()))))
    else some (.inl (0,((s7.1.1,(s7.1.2.1,(s7.1.2.2.1,(s7.1.2.2.2.1,())))),((),((),())))))) zK (((0,0),(x5.2.1.1,((wrF .i64 (x5.2.1.2.1+x6.2)),(0,())))),((),((),())))) fun x11=>
   bif Nat.beq x11.1 0 then some (x11.2.1.2.1,())
   else some (x11.2.1.2.1,())
abbrev WX:Type:=(qo×Int×Unit)→Option (Int×Unit)
def zd4:Xx→gZ→WX:=fun Zf ji=>sF Tryz.prog [(164,⟨uZ,ka,Zf⟩),(180,⟨xz,xA,ji⟩)] zmv (zL []) 30 140 vO vP
theorem zn9 (Zf) (ji) (a0) (a1):zd4 Zf ji (a0,a1,())=WW Zf ji a0 a1:=by kernel_rfl
def vQ:WX:=zd4 gY xB
theorem zjq:Con.Ok Tryz.prog 140 ⟨vO,vP,vQ⟩:=zA (zf zkV (zf zbD zn)) zt (by kernel_rfl)
theorem zaX (a0) (a1):vQ (a0,a1,())=WW gY xB a0 a1:=zn9 gY xB a0 a1
abbrev ZZ:List VT:=[⟨false,I⟩,⟨false,I⟩]
abbrev Qa:List VT:=[⟨false,I⟩]
def ztT:zT:=zM [] [] [] [] []
def zdz (a0:Int) (a1:Int):Option (Int×Unit):=
 bif zi a1 0 then none
 else bif zi a1 0 then none
  else some ((Int.tmod (wrF .i64 ((Int.tmod a0 a1)+a1)) a1),())
abbrev UN:Type:=(Int×Int×Unit)→Option (Int×Unit)
def zkb:UN:=sF Tryz.prog [] ztT (zL []) 30 166 ZZ Qa
theorem zv4 (a0) (a1):zkb (a0,a1,())=zdz a0 a1:=by kernel_rfl
def JN:UN:=zkb
theorem zp3:Con.Ok Tryz.prog 166 ⟨ZZ,Qa,JN⟩:=zA zn zt (by kernel_rfl)
theorem zp4 (a0) (a1):JN (a0,a1,())=zdz  a0 a1:=zv4  a0 a1
abbrev vv:List VT:=[⟨false,I⟩,⟨false,I⟩]
abbrev vy:List VT:=[⟨false,I⟩]
def zkX:zT:=zM [] [] [] [] [166]
def VZ (Wd:UN) (a0:Int) (a1:Int):Option (Int×Unit):=
 opt (Wd (a0,(a1,()))) fun x0=>
 bif zi a1 0 then none
 else some ((wrF .i64 (Int.tdiv (wrF .i64 (a0 - x0.1)) a1)),())
abbrev Wy:Type:=(Int×Int×Unit)→Option (Int×Unit)
def zcY:UN→Wy:=fun Wd=>sF Tryz.prog [(166,⟨ZZ,Qa,Wd⟩)] zkX (zL []) 30 142 vv vy
theorem zmw (Wd) (a0) (a1):zcY Wd (a0,a1,())=VZ Wd a0 a1:=by kernel_rfl
def vz:Wy:=zcY JN
theorem zib:Con.Ok Tryz.prog 142 ⟨vv,vy,vz⟩:=zA (zf zp3 zn) zt (by kernel_rfl)
theorem zic (a0) (a1):vz (a0,a1,())=VZ JN a0 a1:=zmw JN a0 a1
abbrev xI:List VT:=[⟨true,zN⟩,⟨false,I⟩,⟨false,I⟩]
abbrev xJ:List VT:=[⟨true,xl⟩,⟨false,I⟩]
def zv5:zT:=zM [cdF zN,cdF qh] [] [⟨7,87,none,jw,true⟩,⟨12,87,none,jw,true⟩,⟨7,87,some 6,jw,false⟩,⟨12,87,some 6,jw,false⟩,⟨2,48,none,jw,true⟩,⟨6,48,none,jw,true⟩,⟨2,90,none,jw,true⟩,⟨5,90,none,jw,true⟩,⟨9,90,none,jw,true⟩,⟨12,90,none,jw,true⟩,⟨13,90,none,jw,true⟩,⟨18,90,none,jw,true⟩,⟨8,90,none,jw,true⟩] [] [139,140,142,180]
def Ka (ZL:Vw) (gh:WX) (yQ:Wy) (ji:gZ) (a0:qo) (a1:Int) (a2:Int):Option (wO×Int×Unit):=
 opt (ZL (a0,(a1,(a2,())))) fun x0=>
 bif !(zi x0.1 0) then some ((0,0),(x0.1,()))
 else opt (gh (a0,((wrF .i64 (a2*a1)),()))) fun x1=>
  bif (zi (wrF .i64 (a0.2*a1)) 0) then none
  else bif (zh (wrF .i64 (Int.tdiv (wrF .i64 (x1.1*1048576)) (wrF .i64 (a0.2*a1)))) 1) then some ((0,0),(4,()))
   else opt (yQ ((wrF .i64 ((wrF .i64 ((-127)*a1))*1048576)),((wrF .i64 ((wrF .i64 (Int.tdiv (wrF .i64 (x1.1*1048576)) (wrF .i64 (a0.2*a1))))*a1)),()))) fun x2=>
    opt (zC (fun s3:((Int×(Int×Unit))×(((List (Int×Int))×Unit)×(Unit×(Unit×Unit))))=>
     bif (zh s3.1.2.1 ((a0.1.length:Nat):Int)) then opt (atI a0.1 s3.1.2.1) fun x4=>
      opt (ji (x4,())) fun x5=>
      bif x5.1 then opt (atI a0.1 s3.1.2.1) fun x6=>
       some (.inr (((wrF .i64 (s3.1.1+x6.2)),((wrF .i64 (s3.1.2.1+1)),())),((s3.2.1.1,()),((),((),())))))
      else some (.inl (0,((s3.1.1,(s3.1.2.1,())),((s3.2.1.1,()),((),((),()))))))
     else some (.inl (0,((s3.1.1,(s3.1.2.1,())),((s3.2.1.1,()),((),((),()))))))) zK ((0,(0,())),(([],()),((),((),()))))) fun x7=>
    bif (zi x7.2.1.2.1 ((a0.1.length:Nat):Int)) then opt (zC (fun s8:((Int×(Int×(Int×(Int×Unit))))×(Unit×Unit))=>
      bif (zh s8.1.2.2.2.1 ((x7.2.2.1.1.length:Nat):Int)) then opt (atI x7.2.2.1.1 s8.1.2.2.2.1) fun x9=>
       opt (gl x7.2.2.1.1 (Int.toNat s8.1.2.2.2.1)) fun x10=>
       opt (zC (fun s11:((Int×(Int×(Int×(Int×(Int×Unit)))))×(Unit×Unit))=>
        bif (zh s11.1.2.2.2.2.1 ((x7.2.2.1.1.length:Nat):Int)) then bif (zi ((x7.2.2.1.1.length:Nat):Int) 0) then none
         else opt (atI x7.2.2.1.1 (Int.tmod (wrF .i64 ((wrF .i64 (s8.1.2.2.2.1+1))+s11.1.2.2.2.2.1)) ((x7.2.2.1.1.length:Nat):Int))) fun x12=>
          opt (gl x7.2.2.1.1 (Int.toNat (Int.tmod (wrF .i64 ((wrF .i64 (s8.1.2.2.2.1+1))+s11.1.2.2.2.2.1)) ((x7.2.2.1.1.length:Nat):Int)))) fun x13=>
          bif (zi ((x7.2.2.1.1.length:Nat):Int) 0) then none
          else opt (yQ ((wrF .i64 ((wrF .i64 (s11.1.2.2.2.1 - (wrF .i64 (127*s11.1.2.2.1))))*1048576)),((wrF .i64 (s11.1.2.1*s11.1.2.2.1)),()))) fun x14=>
           some (.inr (((ur s11.1.1 (wrF .i64 ((wrF .i64 ((wrF .i64 ((wrF .i64 (x13.1+(wrF .i64 ((wrF .i64 (Int.tdiv (wrF .i64 ((wrF .i64 (s8.1.2.2.2.1+1))+s11.1.2.2.2.2.1)) ((x7.2.2.1.1.length:Nat):Int)))*a0.2))))+(jB (wrF .i64 (a2*a1)) x13.2))) - (wrF .i64 ((wrF .i64 (x10.1+x10.2)) - (jB (wrF .i64 (a2*a1)) x10.2))))) - x14.1))),(s11.1.2.1,(s11.1.2.2.1,((wrF .i64 (s11.1.2.2.2.1+(ur 0 (wrF .i64 (x13.2 - (wrF .i64 (a2*a1))))))),((wrF .i64 (s11.1.2.2.2.2.1+1)),()))))),((),())))
        else some (.inl (0,((s11.1.1,(s11.1.2.1,(s11.1.2.2.1,(s11.1.2.2.2.1,(s11.1.2.2.2.2.1,()))))),((),()))))) zK ((s8.1.1,(s8.1.2.1,(s8.1.2.2.1,(0,(0,()))))),((),()))) fun x15=>
       some (.inr ((x15.2.1.1,(x15.2.1.2.1,(x15.2.1.2.2.1,((wrF .i64 (s8.1.2.2.2.1+1)),())))),((),())))
      else some (.inl (0,((s8.1.1,(s8.1.2.1,(s8.1.2.2.1,(s8.1.2.2.2.1,())))),((),()))))) zK (((ur 0 (wrF .i64 (0 - x2.1))),((wrF .i64 (Int.tdiv (wrF .i64 (x1.1*1048576)) (wrF .i64 (a0.2*a1)))),(a1,(0,())))),((),()))) fun x16=>
     some ((x16.2.1.2.1,x16.2.1.1),(0,()))
    else opt (atI a0.1 x7.2.1.2.1) fun x17=>
     opt (zC (fun s18:(((Int×Int)×(Int×(Int×Unit)))×(((List (Int×Int))×Unit)×(Unit×(Unit×Unit))))=>
      bif (zh s18.1.2.2.1 ((a0.1.length:Nat):Int)) then bif (zi ((a0.1.length:Nat):Int) 0) then none
       else opt (atI a0.1 (Int.tmod (wrF .i64 ((wrF .i64 (x7.2.1.2.1+1))+s18.1.2.2.1)) ((a0.1.length:Nat):Int))) fun x19=>
        opt (ji (x19,())) fun x20=>
        bif x20.1 then opt (bif zi s18.1.1.2 0 then some (0,(((s18.1.2.1,s18.1.1.2),()),((),((),()))))
          else some (0,((s18.1.1,()),((),((),()))))) fun x21=>
         some (.inr (((x21.2.1.1.1,(wrF .i64 (x21.2.1.1.2+x19.2))),((wrF .i64 (s18.1.2.1+x19.2)),((wrF .i64 (s18.1.2.2.1+1)),()))),((s18.2.1.1,()),((),((),())))))
        else bif zh 0 s18.1.1.2 then bif (qT s18.2.1.1.length ((s18.1.1::[]).length) 16) then some (.inr (((0,0),((wrF .i64 (s18.1.2.1+x19.2)),((wrF .i64 (s18.1.2.2.1+1)),()))),(((s18.2.1.1++(s18.1.1::[])),()),((),((),())))))
          else none
         else some (.inr (((0,0),((wrF .i64 (s18.1.2.1+x19.2)),((wrF .i64 (s18.1.2.2.1+1)),()))),((s18.2.1.1,()),((),((),())))))
      else some (.inl (0,((s18.1.1,(s18.1.2.1,(s18.1.2.2.1,()))),((s18.2.1.1,()),((),((),()))))))) zK (((0,0),((wrF .i64 (x7.2.1.1+x17.2)),(0,()))),((x7.2.2.1.1,()),((),((),()))))) fun x22=>
     bif Nat.beq x22.1 0 then opt (zC (fun s23:((Int×(Int×(Int×(Int×Unit))))×(Unit×Unit))=>
       bif (zh s23.1.2.2.2.1 ((x22.2.2.1.1.length:Nat):Int)) then opt (atI x22.2.2.1.1 s23.1.2.2.2.1) fun x24=>
        opt (gl x22.2.2.1.1 (Int.toNat s23.1.2.2.2.1)) fun x25=>
        opt (zC (fun s26:((Int×(Int×(Int×(Int×(Int×Unit)))))×(Unit×Unit))=>
         bif (zh s26.1.2.2.2.2.1 ((x22.2.2.1.1.length:Nat):Int)) then bif (zi ((x22.2.2.1.1.length:Nat):Int) 0) then none
          else opt (atI x22.2.2.1.1 (Int.tmod (wrF .i64 ((wrF .i64 (s23.1.2.2.2.1+1))+s26.1.2.2.2.2.1)) ((x22.2.2.1.1.length:Nat):Int))) fun x27=>
           opt (gl x22.2.2.1.1 (Int.toNat (Int.tmod (wrF .i64 ((wrF .i64 (s23.1.2.2.2.1+1))+s26.1.2.2.2.2.1)) ((x22.2.2.1.1.length:Nat):Int)))) fun x28=>
           bif (zi ((x22.2.2.1.1.length:Nat):Int) 0) then none
           else opt (yQ ((wrF .i64 ((wrF .i64 (s26.1.2.2.2.1 - (wrF .i64 (127*s26.1.2.2.1))))*1048576)),((wrF .i64 (s26.1.2.1*s26.1.2.2.1)),()))) fun x29=>
            some (.inr (((ur s26.1.1 (wrF .i64 ((wrF .i64 ((wrF .i64 ((wrF .i64 (x28.1+(wrF .i64 ((wrF .i64 (Int.tdiv (wrF .i64 ((wrF .i64 (s23.1.2.2.2.1+1))+s26.1.2.2.2.2.1)) ((x22.2.2.1.1.length:Nat):Int)))*a0.2))))+(jB (wrF .i64 (a2*a1)) x28.2))) - (wrF .i64 ((wrF .i64 (x25.1+x25.2)) - (jB (wrF .i64 (a2*a1)) x25.2))))) - x29.1))),(s26.1.2.1,(s26.1.2.2.1,((wrF .i64 (s26.1.2.2.2.1+(ur 0 (wrF .i64 (x28.2 - (wrF .i64 (a2*a1))))))),((wrF .i64 (s26.1.2.2.2.2.1+1)),()))))),((),())))
         else some (.inl (0,((s26.1.1,(s26.1.2.1,(s26.1.2.2.1,(s26.1.2.2.2.1,(s26.1.2.2.2.2.1,()))))),((),()))))) zK ((s23.1.1,(s23.1.2.1,(s23.1.2.2.1,(0,(0,()))))),((),()))) fun x30=>
        some (.inr ((x30.2.1.1,(x30.2.1.2.1,(x30.2.1.2.2.1,((wrF .i64 (s23.1.2.2.2.1+1)),())))),((),())))
       else some (.inl (0,((s23.1.1,(s23.1.2.1,(s23.1.2.2.1,(s23.1.2.2.2.1,())))),((),()))))) zK (((ur 0 (wrF .i64 (0 - x2.1))),((wrF .i64 (Int.tdiv (wrF .i64 (x1.1*1048576)) (wrF .i64 (a0.2*a1)))),(a1,(0,())))),((),()))) fun x31=>
      some ((x31.2.1.2.1,x31.2.1.1),(0,()))
     else opt (zC (fun s32:((Int×(Int×(Int×(Int×Unit))))×(Unit×Unit))=>
       bif (zh s32.1.2.2.2.1 ((x22.2.2.1.1.length:Nat):Int)) then opt (atI x22.2.2.1.1 s32.1.2.2.2.1) fun x33=>
        opt (gl x22.2.2.1.1 (Int.toNat s32.1.2.2.2.1)) fun x34=>
        opt (zC (fun s35:((Int×(Int×(Int×(Int×(Int×Unit)))))×(Unit×Unit))=>
         bif (zh s35.1.2.2.2.2.1 ((x22.2.2.1.1.length:Nat):Int)) then bif (zi ((x22.2.2.1.1.length:Nat):Int) 0) then none
          else opt (atI x22.2.2.1.1 (Int.tmod (wrF .i64 ((wrF .i64 (s32.1.2.2.2.1+1))+s35.1.2.2.2.2.1)) ((x22.2.2.1.1.length:Nat):Int))) fun x36=>
           opt (gl x22.2.2.1.1 (Int.toNat (Int.tmod (wrF .i64 ((wrF .i64 (s32.1.2.2.2.1+1))+s35.1.2.2.2.2.1)) ((x22.2.2.1.1.length:Nat):Int)))) fun x37=>
           bif (zi ((x22.2.2.1.1.length:Nat):Int) 0) then none
           else opt (yQ ((wrF .i64 ((wrF .i64 (s35.1.2.2.2.1 - (wrF .i64 (127*s35.1.2.2.1))))*1048576)),((wrF .i64 (s35.1.2.1*s35.1.2.2.1)),()))) fun x38=>
            some (.inr (((ur s35.1.1 (wrF .i64 ((wrF .i64 ((wrF .i64 ((wrF .i64 (x37.1+(wrF .i64 ((wrF .i64 (Int.tdiv (wrF .i64 ((wrF .i64 (s32.1.2.2.2.1+1))+s35.1.2.2.2.2.1)) ((x22.2.2.1.1.length:Nat):Int)))*a0.2))))+(jB (wrF .i64 (a2*a1)) x37.2))) - (wrF .i64 ((wrF .i64 (x34.1+x34.2)) - (jB (wrF .i64 (a2*a1)) x34.2))))) - x38.1))),(s35.1.2.1,(s35.1.2.2.1,((wrF .i64 (s35.1.2.2.2.1+(ur 0 (wrF .i64 (x37.2 - (wrF .i64 (a2*a1))))))),((wrF .i64 (s35.1.2.2.2.2.1+1)),()))))),((),())))
         else some (.inl (0,((s35.1.1,(s35.1.2.1,(s35.1.2.2.1,(s35.1.2.2.2.1,(s35.1.2.2.2.2.1,()))))),((),()))))) zK ((s32.1.1,(s32.1.2.1,(s32.1.2.2.1,(0,(0,()))))),((),()))) fun x39=>
        some (.inr ((x39.2.1.1,(x39.2.1.2.1,(x39.2.1.2.2.1,((wrF .i64 (s32.1.2.2.2.1+1)),())))),((),())))
       else some (.inl (0,((s32.1.1,(s32.1.2.1,(s32.1.2.2.1,(s32.1.2.2.2.1,())))),((),()))))) zK (((ur 0 (wrF .i64 (0 - x2.1))),((wrF .i64 (Int.tdiv (wrF .i64 (x1.1*1048576)) (wrF .i64 (a0.2*a1)))),(a1,(0,())))),((),()))) fun x40=>
      some ((x40.2.1.2.1,x40.2.1.1),(0,()))
abbrev YB:Type:=(qo×Int×Int×Unit)→Option (wO×Int×Unit)
def zmx:Vw→WX→Wy→gZ→YB:=fun ZL gh yQ ji=>sF Tryz.prog [(139,⟨kN,kO,ZL⟩),(140,⟨vO,vP,gh⟩),(142,⟨vv,vy,yQ⟩),(180,⟨xz,xA,ji⟩)] zv5 (zL []) 30 101 xI xJ
theorem zyw (ZL) (gh) (yQ) (ji) (a0) (a1) (a2):zmx ZL gh yQ ji (a0,a1,a2,())=Ka ZL gh yQ ji a0 a1 a2:=by kernel_rfl
def wK:YB:=zmx ZH vQ vz xB
theorem zgF:Con.Ok Tryz.prog 101 ⟨xI,xJ,wK⟩:=zA (zf zmq (zf zjq (zf zib (zf zbD zn)))) zt (by kernel_rfl)
theorem zaY (a0) (a1) (a2):wK (a0,a1,a2,())=Ka ZH vQ vz xB a0 a1 a2:=zyw ZH vQ vz xB a0 a1 a2
abbrev uw:List VT:=[⟨false,(.list zp)⟩]
abbrev ux:List VT:=[⟨true,zp⟩,⟨false,I⟩]
def zv6:zT:=zM [cdF zp] [] [] [] [84]
def zfz (qk:xQ) (a0:(List qy)):Option (qy×Int×Unit):=
 bif (zi ((a0.length:Nat):Int) 0) then some ((0,0),(2,()))
 else bif (zh 12 ((a0.length:Nat):Int)) then some ((0,0),(3,()))
  else opt (zC (fun s0:(((Int×Int)×((Int×Int)×(Int×(Int×Unit))))×Unit)=>
    bif (zh s0.1.2.2.2.1 ((a0.length:Nat):Int)) then opt (atI a0 s0.1.2.2.2.1) fun x1=>
     opt (qk (x1,())) fun x2=>
     bif !(zi x2.1 0) then some (.inl (1,(((0,0),(s0.1.2.1,(x2.1,(s0.1.2.2.2.1,())))),())))
     else some (.inr ((s0.1.1,(((wrF .i64 (s0.1.2.1.1+x1.1)),(wrF .i64 (s0.1.2.1.2+x1.2))),(s0.1.2.2.1,((wrF .i64 (s0.1.2.2.2.1+1)),())))),()))
    else some (.inl (0,((s0.1.1,(s0.1.2.1,(s0.1.2.2.1,(s0.1.2.2.2.1,())))),())))) zK (((0,0),((0,0),(0,(0,())))),())) fun x3=>
   bif Nat.beq x3.1 0 then opt (qk (x3.2.1.2.1,())) fun x4=>
    bif !(zi x4.1 0) then some ((0,0),(6,()))
    else some (x3.2.1.2.1,(0,()))
   else some (x3.2.1.1,(x3.2.1.2.2.1,()))
abbrev YC:Type:=((List qy)×Unit)→Option (qy×Int×Unit)
def zmy:xQ→YC:=fun qk=>sF Tryz.prog [(84,⟨wS,wT,qk⟩)] zv6 (zL []) 30 102 uw ux
theorem zyx (qk) (a0):zmy qk (a0,())=zfz qk a0:=by kernel_rfl
def yP:YC:=zmy jS
theorem zgG:Con.Ok Tryz.prog 102 ⟨uw,ux,yP⟩:=zA (zf WV zn) zt (by kernel_rfl)
theorem zr2 (a0):yP (a0,())=zfz jS a0:=zyx jS a0
abbrev uK:List VT:=[⟨true,xl⟩]
abbrev uL:List VT:=[⟨false,I⟩]
def ztU:zT:=zM [cdF xl] [] [] [] []
def zdA (a0:wO):Option (Int×Unit):=
 opt (bif zh a0.1 1 then some (1,((140,()),()))
  else bif zh 2097152 a0.1 then some (1,((140,()),()))
   else bif zh a0.2 0 then some (1,((140,()),()))
    else bif zh 268435456 a0.2 then some (1,((140,()),()))
     else some (0,((0,()),()))) fun x0=>
 bif Nat.beq x0.1 0 then some (0,())
 else some (x0.2.1.1,())
abbrev JO:Type:=(wO×Unit)→Option (Int×Unit)
def zkc:JO:=sF Tryz.prog [] ztU (zL []) 30 59 uK uL
theorem zv7 (a0):zkc (a0,())=zdA a0:=by kernel_rfl
def uM:JO:=zkc
theorem zfA:Con.Ok Tryz.prog 59 ⟨uK,uL,uM⟩:=zA zn zt (by kernel_rfl)
theorem zp5 (a0):uM (a0,())=zdA  a0:=zv7  a0
abbrev uN:List VT:=[⟨false,(.list I)⟩]
abbrev uO:List VT:=[⟨false,.bool⟩]
def ztV:zT:=zM [] [] [] [] []
def zdB (a0:(List Int)):Option (Bool×Unit):=
 opt (zC (fun s0:((Bool×(Int×Unit))×Unit)=>
  bif (zh s0.1.2.1 ((a0.length:Nat):Int)) then opt (atI a0 s0.1.2.1) fun x1=>
   opt (bif zh x1 (-1125899906842624) then some (1,((false,()),()))
    else bif zh 1125899906842624 x1 then some (1,((false,()),()))
     else some (0,((s0.1.1,()),()))) fun x2=>
   bif Nat.beq x2.1 0 then some (.inr ((x2.2.1.1,((wrF .i64 (s0.1.2.1+1)),())),()))
   else some (.inl (1,((x2.2.1.1,(s0.1.2.1,())),())))
  else some (.inl (0,((s0.1.1,(s0.1.2.1,())),())))) zK ((false,(0,())),())) fun x3=>
 bif Nat.beq x3.1 0 then some (true,())
 else some (x3.2.1.1,())
abbrev JP:Type:=((List Int)×Unit)→Option (Bool×Unit)
def zkd:JP:=sF Tryz.prog [] ztV (zL []) 30 182 uN uO
theorem zv8 (a0):zkd (a0,())=zdB a0:=by kernel_rfl
def uP:JP:=zkd
theorem zfB:Con.Ok Tryz.prog 182 ⟨uN,uO,uP⟩:=zA zn zt (by kernel_rfl)
theorem zp6 (a0):uP (a0,())=zdB  a0:=zv8  a0
abbrev kP:List VT:=[⟨false,I⟩]
abbrev kQ:List VT:=[⟨false,(.int .u64)⟩]
def zp7:zT:=zM [] [] [] [] []
def Vx (a0:Int):Option (Int×Unit):=
 bif zh a0 0 then some ((wrF .u64 (wrF .i64 (0 - a0))),())
 else some ((wrF .u64 a0),())
abbrev Vy:Type:=(Int×Unit)→Option (Int×Unit)
def zgH:Vy:=sF Tryz.prog [] zp7 (zL []) 30 184 kP kQ
theorem zr3 (a0):zgH (a0,())=Vx a0:=by kernel_rfl
def kR:Vy:=zgH
theorem zmz:Con.Ok Tryz.prog 184 ⟨kP,kQ,kR⟩:=zA zn zt (by kernel_rfl)
theorem zcZ (a0):kR (a0,())=Vx  a0:=zr3  a0
abbrev vR:List VT:=[⟨false,(.int .u64)⟩,⟨false,(.int .u64)⟩]
abbrev vS:List VT:=[⟨false,(.int .u64)⟩,⟨false,(.int .u64)⟩]
def zmA:zT:=zM [] [] [] [] []
def Ub (a0:Int) (a1:Int):Option (Int×Int×Unit):=
 some ((wrF .u64 ((wrF .u64 ((wrF .u64 ((wo .u64 a0 32)*(wo .u64 a1 32)))+(wo .u64 (wrF .u64 ((wrF .u64 ((wo .u64 a0 32)*(kJ .and .u64 a1 4294967295)))+(wo .u64 (wrF .u64 ((kJ .and .u64 a0 4294967295)*(kJ .and .u64 a1 4294967295))) 32))) 32)))+(wo .u64 (wrF .u64 ((kJ .and .u64 (wrF .u64 ((wrF .u64 ((wo .u64 a0 32)*(kJ .and .u64 a1 4294967295)))+(wo .u64 (wrF .u64 ((kJ .and .u64 a0 4294967295)*(kJ .and .u64 a1 4294967295))) 32))) 4294967295)+(wrF .u64 ((kJ .and .u64 a0 4294967295)*(wo .u64 a1 32))))) 32))),((wrF .u64 (a0*a1)),()))
abbrev WY:Type:=(Int×Int×Unit)→Option (Int×Int×Unit)
def zd5:WY:=sF Tryz.prog [] zmA (zL []) 30 183 vR vS
theorem zoa (a0) (a1):zd5 (a0,a1,())=Ub a0 a1:=by kernel_rfl
def ga:WY:=zd5
theorem zjr:Con.Ok Tryz.prog 183 ⟨vR,vS,ga⟩:=zA zn zt (by kernel_rfl)
theorem zjs (a0) (a1):ga (a0,a1,())=Ub  a0 a1:=zoa  a0 a1
abbrev vT:List VT:=[⟨false,(.int .u64)⟩]
abbrev vU:List VT:=[⟨false,I⟩]
def zmB:zT:=zM [] [] [] [] []
def zd6:(Int×Unit)→Option (Int×Unit):=sF Tryz.prog [] zmB (zL []) 30 196 vT vU
theorem zjt:Con.Ok Tryz.prog 196 ⟨vT,vU,zd6⟩:=zA zn zt (by kernel_rfl)
abbrev wF:List VT:=[⟨false,(.int .u64)⟩]
abbrev wG:List VT:=[⟨false,I⟩]
def zc0:zT:=zM [] [] [] [] [196]
def uQ:(Int×Unit)→Option (Int×Unit):=sF Tryz.prog [(196,⟨vT,vU,zd6⟩)] zc0 (zL []) 30 193 wF wG
theorem zbt:Con.Ok Tryz.prog 193 ⟨wF,wG,uQ⟩:=zA (zf zjt zn) zt (by kernel_rfl)
abbrev vW:List VT:=[⟨false,(.int .u64)⟩,⟨false,(.int .u64)⟩,⟨false,(.int .u64)⟩]
abbrev vX:List VT:=[⟨false,(.int .u64)⟩,⟨false,(.int .u64)⟩]
def zmC:zT:=zM [] [] [] [] [193]
def Uc (yD:(Int×Unit)→Option (Int×Unit)) (a0:Int) (a1:Int) (a2:Int):Option (Int×Int×Unit):=
 opt (bif zi a2 0 then none
  else some (0,((),()))) fun x0=>
 opt (bif !(zh a0 a2) then none
  else some (0,((),()))) fun x1=>
 bif zi a0 0 then bif zi a2 0 then none
  else bif zi a2 0 then none
   else some ((wrF .u64 (Int.tdiv a1 a2)),((Int.tmod a1 a2),()))
 else opt (yD (a2,())) fun x2=>
  bif zh (wrF .u64 x2.1) 0 then none
  else bif zh (wrF .u64 x2.1) 0 then none
   else bif (zh (wrF .u64 (64 - (wrF .u64 x2.1))) 0) then none
    else bif zh (wrF .u64 x2.1) 0 then none
     else bif (zi (wo .u64 (yU .u64 a2 (wrF .u64 x2.1)) 32) 0) then none
      else opt (zC (fun s3:((Int×(Int×Unit))×Unit)=>
        bif !(zh s3.1.1 4294967296) then bif (!(zh (wrF .u64 (s3.1.2.1+(wo .u64 (yU .u64 a2 (wrF .u64 x2.1)) 32))) 4294967296)) then some (.inl (0,(((wrF .u64 (s3.1.1 - 1)),((wrF .u64 (s3.1.2.1+(wo .u64 (yU .u64 a2 (wrF .u64 x2.1)) 32))),())),())))
         else some (.inr (((wrF .u64 (s3.1.1 - 1)),((wrF .u64 (s3.1.2.1+(wo .u64 (yU .u64 a2 (wrF .u64 x2.1)) 32))),())),()))
        else bif (zh (wrF .u64 ((wrF .u64 (4294967296*s3.1.2.1))+(wo .u64 (yU .u64 a1 (wrF .u64 x2.1)) 32))) (wrF .u64 (s3.1.1*(kJ .and .u64 (yU .u64 a2 (wrF .u64 x2.1)) 4294967295)))) then bif (!(zh (wrF .u64 (s3.1.2.1+(wo .u64 (yU .u64 a2 (wrF .u64 x2.1)) 32))) 4294967296)) then some (.inl (0,(((wrF .u64 (s3.1.1 - 1)),((wrF .u64 (s3.1.2.1+(wo .u64 (yU .u64 a2 (wrF .u64 x2.1)) 32))),())),())))
          else some (.inr (((wrF .u64 (s3.1.1 - 1)),((wrF .u64 (s3.1.2.1+(wo .u64 (yU .u64 a2 (wrF .u64 x2.1)) 32))),())),()))
         else some (.inl (0,((s3.1.1,(s3.1.2.1,())),())))) zK (((wrF .u64 (Int.tdiv (kJ .or .u64 (yU .u64 a0 (wrF .u64 x2.1)) (wo .u64 a1 (wrF .u64 (64 - (wrF .u64 x2.1))))) (wo .u64 (yU .u64 a2 (wrF .u64 x2.1)) 32))),((wrF .u64 ((kJ .or .u64 (yU .u64 a0 (wrF .u64 x2.1)) (wo .u64 a1 (wrF .u64 (64 - (wrF .u64 x2.1))))) - (wrF .u64 ((wrF .u64 (Int.tdiv (kJ .or .u64 (yU .u64 a0 (wrF .u64 x2.1)) (wo .u64 a1 (wrF .u64 (64 - (wrF .u64 x2.1))))) (wo .u64 (yU .u64 a2 (wrF .u64 x2.1)) 32)))*(wo .u64 (yU .u64 a2 (wrF .u64 x2.1)) 32))))),())),())) fun x4=>
       bif (zi (wo .u64 (yU .u64 a2 (wrF .u64 x2.1)) 32) 0) then none
       else opt (zC (fun s5:((Int×(Int×Unit))×Unit)=>
         bif !(zh s5.1.1 4294967296) then bif (!(zh (wrF .u64 (s5.1.2.1+(wo .u64 (yU .u64 a2 (wrF .u64 x2.1)) 32))) 4294967296)) then some (.inl (0,(((wrF .u64 (s5.1.1 - 1)),((wrF .u64 (s5.1.2.1+(wo .u64 (yU .u64 a2 (wrF .u64 x2.1)) 32))),())),())))
          else some (.inr (((wrF .u64 (s5.1.1 - 1)),((wrF .u64 (s5.1.2.1+(wo .u64 (yU .u64 a2 (wrF .u64 x2.1)) 32))),())),()))
         else bif (zh (wrF .u64 ((wrF .u64 (4294967296*s5.1.2.1))+(kJ .and .u64 (yU .u64 a1 (wrF .u64 x2.1)) 4294967295))) (wrF .u64 (s5.1.1*(kJ .and .u64 (yU .u64 a2 (wrF .u64 x2.1)) 4294967295)))) then bif (!(zh (wrF .u64 (s5.1.2.1+(wo .u64 (yU .u64 a2 (wrF .u64 x2.1)) 32))) 4294967296)) then some (.inl (0,(((wrF .u64 (s5.1.1 - 1)),((wrF .u64 (s5.1.2.1+(wo .u64 (yU .u64 a2 (wrF .u64 x2.1)) 32))),())),())))
           else some (.inr (((wrF .u64 (s5.1.1 - 1)),((wrF .u64 (s5.1.2.1+(wo .u64 (yU .u64 a2 (wrF .u64 x2.1)) 32))),())),()))
          else some (.inl (0,((s5.1.1,(s5.1.2.1,())),())))) zK (((wrF .u64 (Int.tdiv (wrF .u64 ((wrF .u64 ((wrF .u64 ((kJ .or .u64 (yU .u64 a0 (wrF .u64 x2.1)) (wo .u64 a1 (wrF .u64 (64 - (wrF .u64 x2.1)))))*4294967296))+(wo .u64 (yU .u64 a1 (wrF .u64 x2.1)) 32))) - (wrF .u64 (x4.2.1.1*(yU .u64 a2 (wrF .u64 x2.1)))))) (wo .u64 (yU .u64 a2 (wrF .u64 x2.1)) 32))),((wrF .u64 ((wrF .u64 ((wrF .u64 ((wrF .u64 ((kJ .or .u64 (yU .u64 a0 (wrF .u64 x2.1)) (wo .u64 a1 (wrF .u64 (64 - (wrF .u64 x2.1)))))*4294967296))+(wo .u64 (yU .u64 a1 (wrF .u64 x2.1)) 32))) - (wrF .u64 (x4.2.1.1*(yU .u64 a2 (wrF .u64 x2.1)))))) - (wrF .u64 ((wrF .u64 (Int.tdiv (wrF .u64 ((wrF .u64 ((wrF .u64 ((kJ .or .u64 (yU .u64 a0 (wrF .u64 x2.1)) (wo .u64 a1 (wrF .u64 (64 - (wrF .u64 x2.1)))))*4294967296))+(wo .u64 (yU .u64 a1 (wrF .u64 x2.1)) 32))) - (wrF .u64 (x4.2.1.1*(yU .u64 a2 (wrF .u64 x2.1)))))) (wo .u64 (yU .u64 a2 (wrF .u64 x2.1)) 32)))*(wo .u64 (yU .u64 a2 (wrF .u64 x2.1)) 32))))),())),())) fun x6=>
        bif zh (wrF .u64 x2.1) 0 then none
        else some ((wrF .u64 ((wrF .u64 (x4.2.1.1*4294967296))+x6.2.1.1)),((wo .u64 (wrF .u64 ((wrF .u64 ((wrF .u64 ((wrF .u64 ((wrF .u64 ((wrF .u64 ((kJ .or .u64 (yU .u64 a0 (wrF .u64 x2.1)) (wo .u64 a1 (wrF .u64 (64 - (wrF .u64 x2.1)))))*4294967296))+(wo .u64 (yU .u64 a1 (wrF .u64 x2.1)) 32))) - (wrF .u64 (x4.2.1.1*(yU .u64 a2 (wrF .u64 x2.1))))))*4294967296))+(kJ .and .u64 (yU .u64 a1 (wrF .u64 x2.1)) 4294967295))) - (wrF .u64 (x6.2.1.1*(yU .u64 a2 (wrF .u64 x2.1)))))) (wrF .u64 x2.1)),()))
abbrev WZ:Type:=(Int×Int×Int×Unit)→Option (Int×Int×Unit)
def zd7:((Int×Unit)→Option (Int×Unit))→WZ:=fun yD=>sF Tryz.prog [(193,⟨wF,wG,yD⟩)] zmC (zL []) 30 185 vW vX
theorem zob (yD) (a0) (a1) (a2):zd7 yD (a0,a1,a2,())=Uc yD a0 a1 a2:=by kernel_rfl
def gb:WZ:=zd7 uQ
theorem zju:Con.Ok Tryz.prog 185 ⟨vW,vX,gb⟩:=zA (zf zbt zn) zt (by kernel_rfl)
theorem zjv (a0) (a1) (a2):gb (a0,a1,a2,())=Uc uQ a0 a1 a2:=zob uQ a0 a1 a2
abbrev Qb:List VT:=[⟨false,I⟩]
abbrev Qc:List VT:=[⟨false,I⟩,⟨false,.bool⟩]
def ztW:zT:=zM [] [] [] [] [182]
def zdC (yE:JP) (a0:Int):Option (Int×Bool×Unit):=
 opt (yE ((a0::[]),())) fun x0=>
 bif !x0.1 then some (0,(false,()))
 else some (a0,(true,()))
abbrev UO:Type:=(Int×Unit)→Option (Int×Bool×Unit)
def zke:JP→UO:=fun yE=>sF Tryz.prog [(182,⟨uN,uO,yE⟩)] ztW (zL []) 30 186 Qb Qc
theorem zv9 (yE) (a0):zke yE (a0,())=zdC yE a0:=by kernel_rfl
def JQ:UO:=zke uP
theorem zp8:Con.Ok Tryz.prog 186 ⟨Qb,Qc,JQ⟩:=zA (zf zfB zn) zt (by kernel_rfl)
theorem zp9 (a0):JQ (a0,())=zdC uP a0:=zv9 uP a0
abbrev QX:List VT:=[⟨false,I⟩,⟨false,I⟩,⟨false,I⟩]
abbrev QY:List VT:=[⟨false,I⟩,⟨false,.bool⟩]
def zwa:zT:=zM [] [] [] [] [182,184,183,185,186]
def zfC (yE:JP) (kY:Vy) (gi:WY) (gk:WZ) (We:UO) (a0:Int) (a1:Int) (a2:Int):Option (Int×Bool×Unit):=
 opt (opt (yE ((a0::(a1::(a2::[]))),())) fun x0=>
  bif !x0.1 then some (1,((0,(false,())),()))
  else bif zh a2 1 then some (1,((0,(false,())),()))
   else some (0,((0,(false,())),()))) fun x1=>
 bif Nat.beq x1.1 0 then opt (kY (a0,())) fun x2=>
  opt (kY (a1,())) fun x3=>
  opt (gi (x2.1,(x3.1,()))) fun x4=>
  bif (!(zh x4.1 (wrF .u64 a2))) then some (0,(false,()))
  else opt (gk (x4.1,(x4.2.1,((wrF .u64 a2),())))) fun x5=>
   bif zh 1125899906842624 x5.1 then some (0,(false,()))
   else opt (bif (!((zh a0 0) == (zh a1 0))) then opt (bif !(zi x5.2.1 0) then some (0,(((wrF .i64 ((wrF .i64 (0 - (wrF .i64 x5.1))) - 1)),()),()))
       else some (0,(((wrF .i64 (0 - (wrF .i64 x5.1))),()),()))) fun x6=>
      some (0,((x6.2.1.1,()),()))
     else some (0,(((wrF .i64 x5.1),()),()))) fun x7=>
    opt (We (x7.2.1.1,())) fun x8=>
    some (x8.1,(x8.2.1,()))
 else some (x1.2.1.1,(x1.2.1.2.1,()))
abbrev zaZ:Type:=(Int×Int×Int×Unit)→Option (Int×Bool×Unit)
def zmD:JP→Vy→WY→WZ→UO→zaZ:=fun yE kY gi gk We=>sF Tryz.prog [(182,⟨uN,uO,yE⟩),(184,⟨kP,kQ,kY⟩),(183,⟨vR,vS,gi⟩),(185,⟨vW,vX,gk⟩),(186,⟨Qb,Qc,We⟩)] zwa (zL []) 30 171 QX QY
theorem zyy (yE) (kY) (gi) (gk) (We) (a0) (a1) (a2):zmD yE kY gi gk We (a0,a1,a2,())=zfC yE kY gi gk We a0 a1 a2:=by kernel_rfl
def YD:zaZ:=zmD uP kR ga gb JQ
theorem zr4:Con.Ok Tryz.prog 171 ⟨QX,QY,YD⟩:=zA (zf zfB (zf zmz (zf zjr (zf zju (zf zp8 zn))))) zt (by kernel_rfl)
theorem zr5 (a0) (a1) (a2):YD (a0,a1,a2,())=zfC uP kR ga gb JQ a0 a1 a2:=zyy uP kR ga gb JQ a0 a1 a2
abbrev kT:List VT:=[⟨false,I⟩,⟨false,I⟩,⟨false,I⟩]
abbrev kU:List VT:=[⟨false,I⟩]
def zwb:zT:=zM [] [] [] [] [171]
def zfD (YX:zaZ) (a0:Int) (a1:Int) (a2:Int):Option (Int×Unit):=
 opt (YX ((wrF .i64 (0 - a0)),(a1,(a2,())))) fun x0=>
 some ((wrF .i64 (0 - x0.1)),())
abbrev YE:Type:=(Int×Int×Int×Unit)→Option (Int×Unit)
def zmE:zaZ→YE:=fun YX=>sF Tryz.prog [(171,⟨QX,QY,YX⟩)] zwb (zL []) 30 150 kT kU
theorem zyz (YX) (a0) (a1) (a2):zmE YX (a0,a1,a2,())=zfD YX a0 a1 a2:=by kernel_rfl
def uz:YE:=zmE YD
theorem zgI:Con.Ok Tryz.prog 150 ⟨kT,kU,uz⟩:=zA (zf zr4 zn) zt (by kernel_rfl)
theorem zr6 (a0) (a1) (a2):uz (a0,a1,a2,())=zfD YD a0 a1 a2:=zyz YD a0 a1 a2
abbrev ke:List VT:=[⟨false,(.list zp)⟩,⟨false,I⟩]
abbrev kf:List VT:=[⟨false,I⟩,⟨false,.bool⟩]
def zoc:zT:=zM [cdF zp] [] [] [] [150]
def Gq (yR:YE) (a0:(List qy)) (a1:Int):Option (Int×Bool×Unit):=
 opt (zC (fun s0:((Int×(Bool×(Int×Unit)))×(Unit×(Unit×Unit)))=>
  bif (zh s0.1.2.2.1 ((a0.length:Nat):Int)) then opt (atI a0 s0.1.2.2.1) fun x1=>
   bif zh a1 x1.2 then some (.inr ((s0.1.1,(s0.1.2.1,((wrF .i64 (s0.1.2.2.1+1)),()))),((),((),()))))
   else opt (yR (x1.1,(1048576,(a1,())))) fun x2=>
    opt (bif !s0.1.2.1 then some (0,((x2.1,(true,())),((),())))
     else bif zh x2.1 s0.1.1 then some (0,((x2.1,(true,())),((),())))
      else some (0,((s0.1.1,(s0.1.2.1,())),((),())))) fun x3=>
    opt (zC (fun s4:((Int×(Bool×(Int×Unit)))×(Unit×(Unit×Unit)))=>
     bif (zh s4.1.2.2.1 ((a0.length:Nat):Int)) then opt (atI a0 s4.1.2.2.1) fun x5=>
      bif !(zh a1 x5.2) then some (.inr ((s4.1.1,(s4.1.2.1,((wrF .i64 (s4.1.2.2.1+1)),()))),((),((),()))))
      else bif !(zh x5.1 x1.1) then some (.inr ((s4.1.1,(s4.1.2.1,((wrF .i64 (s4.1.2.2.1+1)),()))),((),((),()))))
       else opt (yR ((wrF .i64 ((wrF .i64 ((wrF .i64 (x5.2 - a1))*x1.1))+(wrF .i64 ((wrF .i64 (a1 - x1.2))*x5.1)))),(1048576,((wrF .i64 (a1*(wrF .i64 (x5.2 - x1.2)))),())))) fun x6=>
        opt (bif !s4.1.2.1 then some (0,((x6.1,(true,())),((),())))
         else bif zh x6.1 s4.1.1 then some (0,((x6.1,(true,())),((),())))
          else some (0,((s4.1.1,(s4.1.2.1,())),((),())))) fun x7=>
        some (.inr ((x7.2.1.1,(x7.2.1.2.1,((wrF .i64 (s4.1.2.2.1+1)),()))),((),((),()))))
     else some (.inl (0,((s4.1.1,(s4.1.2.1,(s4.1.2.2.1,()))),((),((),())))))) zK ((x3.2.1.1,(x3.2.1.2.1,(0,()))),((),((),())))) fun x8=>
    bif Nat.beq x8.1 0 then some (.inr ((x8.2.1.1,(x8.2.1.2.1,((wrF .i64 (s0.1.2.2.1+1)),()))),((),((),()))))
    else some (.inl (1,((x8.2.1.1,(x8.2.1.2.1,(s0.1.2.2.1,()))),((),((),())))))
  else some (.inl (0,((s0.1.1,(s0.1.2.1,(s0.1.2.2.1,()))),((),((),())))))) zK ((0,(false,(0,()))),((),((),())))) fun x9=>
 bif Nat.beq x9.1 0 then some (x9.2.1.1,(x9.2.1.2.1,()))
 else some (x9.2.1.1,(x9.2.1.2.1,()))
abbrev Xz:Type:=((List qy)×Int×Unit)→Option (Int×Bool×Unit)
def zfE:YE→Xz:=fun yR=>sF Tryz.prog [(150,⟨kT,kU,yR⟩)] zoc (zL []) 30 148 ke kf
theorem zqa (yR) (a0) (a1):zfE yR (a0,a1,())=Gq yR a0 a1:=by kernel_rfl
def Za:Xz:=zfE uz
theorem zkY:Con.Ok Tryz.prog 148 ⟨ke,kf,Za⟩:=zA (zf zgI zn) zt (by kernel_rfl)
theorem zkZ (a0) (a1):Za (a0,a1,())=Gq uz a0 a1:=zqa uz a0 a1
abbrev vC:List VT:=[⟨false,(.list zp)⟩,⟨true,xl⟩]
abbrev vD:List VT:=[⟨false,I⟩,⟨false,I⟩]
def ztX:zT:=zM [cdF xl] [] [⟨2,30,some 2,zp,false⟩,⟨5,30,some 2,zp,false⟩] [] [84,59,148]
def zdD (qk:xQ) (wZ:JO) (yV:Xz) (a0:(List qy)) (a1:wO):Option (Int×Int×Unit):=
 bif (zi ((a0.length:Nat):Int) 0) then some (0,(2,()))
 else bif (zh 12 ((a0.length:Nat):Int)) then some (0,(3,()))
  else opt (zC (fun s0:((Int×(Int×Unit))×Unit)=>
    bif (zh s0.1.2.1 ((a0.length:Nat):Int)) then opt (atI a0 s0.1.2.1) fun x1=>
     opt (qk (x1,())) fun x2=>
     bif !(zi x2.1 0) then some (.inl (1,((x2.1,(s0.1.2.1,())),())))
     else some (.inr ((s0.1.1,((wrF .i64 (s0.1.2.1+1)),())),()))
    else some (.inl (0,((s0.1.1,(s0.1.2.1,())),())))) zK ((0,(0,())),())) fun x3=>
   bif Nat.beq x3.1 0 then opt (wZ (a1,())) fun x4=>
    bif !(zi x4.1 0) then bif !(zi x4.1 0) then some (0,(x4.1,()))
     else opt (yV (a0,(a1.1,()))) fun x5=>
      bif !x5.2.1 then some (0,(141,()))
      else some ((wrF .i64 (a1.2+x5.1)),(0,()))
    else opt (yV (a0,(a1.1,()))) fun x6=>
     bif !x6.2.1 then some (0,(141,()))
     else some ((wrF .i64 (a1.2+x6.1)),(0,()))
   else bif !(zi x3.2.1.1 0) then bif !(zi x3.2.1.1 0) then some (0,(x3.2.1.1,()))
     else opt (yV (a0,(a1.1,()))) fun x7=>
      bif !x7.2.1 then some (0,(141,()))
      else some ((wrF .i64 (a1.2+x7.1)),(0,()))
    else opt (wZ (a1,())) fun x8=>
     bif !(zi x8.1 0) then bif !(zi x8.1 0) then some (0,(x8.1,()))
      else opt (yV (a0,(a1.1,()))) fun x9=>
       bif !x9.2.1 then some (0,(141,()))
       else some ((wrF .i64 (a1.2+x9.1)),(0,()))
     else opt (yV (a0,(a1.1,()))) fun x10=>
      bif !x10.2.1 then some (0,(141,()))
      else some ((wrF .i64 (a1.2+x10.1)),(0,()))
abbrev JR:Type:=((List qy)×wO×Unit)→Option (Int×Int×Unit)
def zkf:xQ→JO→Xz→JR:=fun qk wZ yV=>sF Tryz.prog [(84,⟨wS,wT,qk⟩),(59,⟨uK,uL,wZ⟩),(148,⟨ke,kf,yV⟩)] ztX (zL []) 30 103 vC vD
theorem zwc (qk) (wZ) (yV) (a0) (a1):zkf qk wZ yV (a0,a1,())=zdD qk wZ yV a0 a1:=by kernel_rfl
def wX:JR:=zkf jS uM Za
theorem zfF:Con.Ok Tryz.prog 103 ⟨vC,vD,wX⟩:=zA (zf WV (zf zfA (zf zkY zn))) zt (by kernel_rfl)
theorem zqb (a0) (a1):wX (a0,a1,())=zdD jS uM Za a0 a1:=zwc jS uM Za a0 a1
abbrev vY:List VT:=[⟨true,zp⟩,⟨true,xl⟩]
abbrev vZ:List VT:=[⟨false,I⟩]
def zmF:zT:=zM [cdF zp] [] [] [] [84,59]
def Ud (qk:xQ) (wZ:JO) (a0:qy) (a1:wO):Option (Int×Unit):=
 opt (qk (a0,())) fun x0=>
 bif !(zi x0.1 0) then some (x0.1,())
 else opt (wZ (a1,())) fun x1=>
  bif !(zi x1.1 0) then some (x1.1,())
  else bif zh a1.1 a0.2 then some (141,())
   else some (0,())
abbrev Ya:Type:=(qy×wO×Unit)→Option (Int×Unit)
def zd8:xQ→JO→Ya:=fun qk wZ=>sF Tryz.prog [(84,⟨wS,wT,qk⟩),(59,⟨uK,uL,wZ⟩)] zmF (zL []) 30 149 vY vZ
theorem zod (qk) (wZ) (a0) (a1):zd8 qk wZ (a0,a1,())=Ud qk wZ a0 a1:=by kernel_rfl
def gf:Ya:=zd8 jS uM
theorem zjw:Con.Ok Tryz.prog 149 ⟨vY,vZ,gf⟩:=zA (zf WV (zf zfA zn)) zt (by kernel_rfl)
theorem zjx (a0) (a1):gf (a0,a1,())=Ud jS uM a0 a1:=zod jS uM a0 a1
abbrev xm:List VT:=[⟨true,zp⟩,⟨true,xl⟩]
abbrev xn:List VT:=[⟨false,I⟩,⟨false,I⟩]
def zqc:zT:=zM [cdF zp] [] [] [] [149,150]
def za0 (gm:Ya) (yR:YE) (a0:qy) (a1:wO):Option (Int×Int×Unit):=
 opt (gm (a0,(a1,()))) fun x0=>
 bif !(zi x0.1 0) then some (0,(x0.1,()))
 else opt (yR (a0.2,(a1.2,(1048576,())))) fun x1=>
  some ((wrF .i64 (a0.1+x1.1)),(0,()))
abbrev ZI:Type:=(qy×wO×Unit)→Option (Int×Int×Unit)
def zgJ:Ya→YE→ZI:=fun gm yR=>sF Tryz.prog [(149,⟨vY,vZ,gm⟩),(150,⟨kT,kU,yR⟩)] zqc (zL []) 30 104 xm xn
theorem zr7 (gm) (yR) (a0) (a1):zgJ gm yR (a0,a1,())=za0 gm yR a0 a1:=by kernel_rfl
def jM:ZI:=zgJ gf uz
theorem zc1:Con.Ok Tryz.prog 104 ⟨xm,xn,jM⟩:=zA (zf zjw (zf zgI zn)) zt (by kernel_rfl)
theorem zmG (a0) (a1):jM (a0,a1,())=za0 gf uz a0 a1:=zr7 gf uz a0 a1
end Go.Proofs.YtplhphmbkmpocaaGreat.ad
end
