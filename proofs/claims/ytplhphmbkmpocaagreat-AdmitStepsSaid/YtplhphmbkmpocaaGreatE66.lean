/- Parts of a proof, joined. -/
import Derived.Test.YtplhphmbkmpocaaGreatE65
set_option linter.unusedSectionVars false
set_option linter.unusedVariables false
set_option linter.unusedSimpArgs false
set_option maxHeartbeats 0
set_option maxRecDepth 100000
noncomputable section
namespace Go.Proofs.YtplhphmbkmpocaaGreat.ad
open Go Go.Fz Go.Fz.Sy
abbrev VG:List VT:=[⟨true,qf⟩,⟨false,(.list zr)⟩,⟨false,I⟩]
abbrev VH:List VT:=[⟨true,Yl⟩,⟨false,I⟩]
abbrev zat:List VT:=[⟨true,zx⟩,⟨false,(.list zr)⟩]
abbrev zau:List VT:=[⟨false,I⟩]
def zpI:zT:=zO [cdF zr,cdF zx,cdF zM,cdF zv] [] [] [] [40,83]
def zav (qX:gT) (qV:gR) (a0:zK) (a1:(List zA)):Option (Int×Unit):=
 opt (qX (a0,())) fun x0=>
 bif !x0.1 then some (260,())
 else bif (zj 12 ((a1.length:Nat):Int)) then some (3,())
  else opt (zD (fun s1:((Int×(Int×Unit))×Unit)=>
    bif (zj s1.1.2.1 ((a1.length:Nat):Int)) then opt (atI a1 s1.1.2.1) fun x2=>
     opt (qV (a0,(x2,()))) fun x3=>
     bif !x3.1 then some (.inl (1,((321,(s1.1.2.1,())),())))
     else some (.inr ((s1.1.1,((wrF .i64 (s1.1.2.1+1)),())),()))
    else some (.inl (0,((s1.1.1,(s1.1.2.1,())),())))) zL ((0,(0,())),())) fun x4=>
   bif Nat.beq x4.1 0 then opt (zD (fun s5:((Int×(Int×Unit))×Unit)=>
     bif (zj s5.1.2.1 ((a1.length:Nat):Int)) then opt (zD (fun s6:((Int×(Int×Unit))×Unit)=>
       bif zj s6.1.2.1 s5.1.2.1 then opt (atI a1 s6.1.2.1) fun x7=>
        opt (atI a1 s5.1.2.1) fun x8=>
        bif zh x7.1 x8.1 then some (.inl (1,((322,(s6.1.2.1,())),())))
        else some (.inr ((s6.1.1,((wrF .i64 (s6.1.2.1+1)),())),()))
       else some (.inl (0,((s6.1.1,(s6.1.2.1,())),())))) zL ((s5.1.1,(0,())),())) fun x9=>
      bif Nat.beq x9.1 0 then some (.inr ((x9.2.1.1,((wrF .i64 (s5.1.2.1+1)),())),()))
      else some (.inl (1,((x9.2.1.1,(s5.1.2.1,())),())))
     else some (.inl (0,((s5.1.1,(s5.1.2.1,())),())))) zL ((x4.2.1.1,(0,())),())) fun x10=>
    bif Nat.beq x10.1 0 then some (0,())
    else some (x10.2.1.1,())
   else some (x4.2.1.1,())
abbrev Ve:Type:=(zK×(List zA)×Unit)→Option (Int×Unit)
def zg3:gT→gR→Ve:=fun qX qV=>sF Tryz.prog [(40,⟨Vy,Vz,qX⟩),(83,⟨Vv,Vw,qV⟩)] zpI (zP []) 30 74 zat zau
theorem zrK (qX) (qV) (a0) (a1):zg3 qX qV (a0,a1,())=zav qX qV a0 a1:=by kernel_rfl
def Zw:Ve:=zg3 yS yQ
theorem zmp:Con.Ok Tryz.prog 74 ⟨zat,zau,Zw⟩:=zw (zd zao (zd zaj zi)) zo (by kernel_rfl)
theorem zmq (a0) (a1):Zw (a0,a1,())=zav yS yQ a0 a1:=zrK yS yQ a0 a1
abbrev zg4:List VT:=[⟨true,qf⟩,⟨false,(.list zr)⟩]
abbrev zg5:List VT:=[⟨false,I⟩]
def zyc:zT:=zO [cdF qf,cdF zr,cdF zx,cdF zM,cdF zN,cdF qe] [] [] [] [14,74]
def zg6 (uA:JP) (ZD:Ve) (a0:qo) (a1:(List zA)):Option (Int×Unit):=
 opt (uA (a0,())) fun x0=>
 opt (bif zh x0.1 0 then opt (ZD (a0.1,(a1,()))) fun x1=>
   some (0,((x1.1,()),()))
  else some (0,((x0.1,()),()))) fun x2=>
 bif !(zh x2.2.1.1 0) then some (x2.2.1.1,())
 else opt (zD (fun s3:((Int×(Int×Unit))×Unit)=>
   bif (zj s3.1.2.1 ((a1.length:Nat):Int)) then opt (opt (atI a1 s3.1.2.1) fun x4=>
     bif !(zh x4.2.2.2.1 6) then some (1,((2,()),()))
     else opt (atI a1 s3.1.2.1) fun x5=>
      bif zj a0.2.2.2 x5.2.2.2.2.1 then some (1,((2,()),()))
      else some (0,((s3.1.1,()),()))) fun x6=>
    bif Nat.beq x6.1 0 then some (.inr ((x6.2.1.1,((wrF .i64 (s3.1.2.1+1)),())),()))
    else some (.inl (1,((x6.2.1.1,(s3.1.2.1,())),())))
   else some (.inl (0,((s3.1.1,(s3.1.2.1,())),())))) zL ((0,(0,())),())) fun x7=>
  bif Nat.beq x7.1 0 then some (0,())
  else some (x7.2.1.1,())
abbrev zbW:Type:=(qo×(List zA)×Unit)→Option (Int×Unit)
def zod:JP→Ve→zbW:=fun uA ZD=>sF Tryz.prog [(14,⟨VX,VY,uA⟩),(74,⟨zat,zau,ZD⟩)] zyc (zP []) 30 45 zg4 zg5
theorem zAE (uA) (ZD) (a0) (a1):zod uA ZD (a0,a1,())=zg6 uA ZD a0 a1:=by kernel_rfl
def Xe:zbW:=zod uw Zw
theorem ztV:Con.Ok Tryz.prog 45 ⟨zg4,zg5,Xe⟩:=zw (zd ziN (zd zmp zi)) zo (by kernel_rfl)
theorem ztW (a0) (a1):Xe (a0,a1,())=zg6 uw Zw a0 a1:=zAE uw Zw a0 a1
abbrev zdj:List VT:=[⟨true,zr⟩,⟨false,I⟩]
abbrev zdk:List VT:=[⟨false,.bool⟩]
def ztX:zT:=zO [cdF zr,cdF zv] [] [] [] []
def zdl (a0:zA) (a1:Int):Option (Bool×Unit):=
 opt (zD (fun s0:((Bool×(Int×Unit))×Unit)=>
  bif (zj s0.1.2.1 ((a0.2.2.2.2.2.2.2.2.length:Nat):Int)) then opt (zD (fun s1:((Bool×(Int×Unit))×Unit)=>
    opt (atI a0.2.2.2.2.2.2.2.2 s0.1.2.1) fun x2=>
    bif (zj s1.1.2.1 ((x2.length:Nat):Int)) then opt (atI a0.2.2.2.2.2.2.2.2 s0.1.2.1) fun x3=>
     opt (atI x3 s1.1.2.1) fun x4=>
     bif zh x4 a1 then some (.inl (1,((true,(s1.1.2.1,())),())))
     else some (.inr ((s1.1.1,((wrF .i64 (s1.1.2.1+1)),())),()))
    else some (.inl (0,((s1.1.1,(s1.1.2.1,())),())))) zL ((s0.1.1,(0,())),())) fun x5=>
   bif Nat.beq x5.1 0 then some (.inr ((x5.2.1.1,((wrF .i64 (s0.1.2.1+1)),())),()))
   else some (.inl (1,((x5.2.1.1,(s0.1.2.1,())),())))
  else some (.inl (0,((s0.1.1,(s0.1.2.1,())),())))) zL ((false,(0,())),())) fun x6=>
 bif Nat.beq x6.1 0 then some (false,())
 else some (x6.2.1.1,())
abbrev Uw:Type:=(zA×Int×Unit)→Option (Bool×Unit)
def zjH:Uw:=sF Tryz.prog [] ztX (zP []) 30 27 zdj zdk
theorem zvT (a0) (a1):zjH (a0,a1,())=zdl a0 a1:=by kernel_rfl
def QS:Uw:=zjH
theorem zpJ:Con.Ok Tryz.prog 27 ⟨zdj,zdk,QS⟩:=zw zi zo (by kernel_rfl)
theorem zpK (a0) (a1):QS (a0,a1,())=zdl  a0 a1:=zvT  a0 a1
abbrev ziR:List VT:=[⟨true,zx⟩,⟨false,I⟩]
abbrev ziS:List VT:=[⟨false,I⟩]
def zAF:zT:=zO [cdF zx,cdF zM] [] [] [] []
def ziT (a0:zK) (a1:Int):Option (Int×Unit):=
 opt (atI a0.2.2 (wrF .i64 (Int.tdiv a1 2))) fun x0=>
 some (x0.2.2.1,())
abbrev zdH:Type:=(zK×Int×Unit)→Option (Int×Unit)
def zqn:zdH:=sF Tryz.prog [] zAF (zP []) 30 76 ziR ziS
theorem zBA (a0) (a1):zqn (a0,a1,())=ziT a0 a1:=by kernel_rfl
def VI:zdH:=zqn
theorem zvU:Con.Ok Tryz.prog 76 ⟨ziR,ziS,VI⟩:=zw zi zo (by kernel_rfl)
theorem zvV (a0) (a1):VI (a0,a1,())=ziT  a0 a1:=zBA  a0 a1
abbrev zg7:List VT:=[⟨true,zN⟩,⟨false,I⟩,⟨false,I⟩]
abbrev zg8:List VT:=[⟨false,I⟩]
def zyd:zT:=zO [cdF zN,cdF qe] [] [] [] [42]
def zg9 (yn:Wi) (a0:qp) (a1:Int) (a2:Int):Option (Int×Unit):=
 opt (yn (a0,())) fun x0=>
 bif !x0.1 then some (370,())
 else opt (bif zj a1 1 then some (1,((2,()),()))
   else bif zj 1000 a1 then some (1,((2,()),()))
    else bif zj a2 84 then some (1,((2,()),()))
     else bif zj 1542 a2 then some (1,((2,()),()))
      else some (0,((0,()),()))) fun x1=>
  bif Nat.beq x1.1 0 then some (0,())
  else some (x1.2.1.1,())
abbrev zbX:Type:=(qp×Int×Int×Unit)→Option (Int×Unit)
def zoe:Wi→zbX:=fun yn=>sF Tryz.prog [(42,⟨Gv,Gw,yn⟩)] zyd (zP []) 30 105 zg7 zg8
theorem zAG (yn) (a0) (a1) (a2):zoe yn (a0,a1,a2,())=zg9 yn a0 a1 a2:=by kernel_rfl
def Xf:zbX:=zoe uL
theorem ztY:Con.Ok Tryz.prog 105 ⟨zg7,zg8,Xf⟩:=zw (zd zgN zi) zo (by kernel_rfl)
theorem ztZ (a0) (a1) (a2):Xf (a0,a1,a2,())=zg9 uL a0 a1 a2:=zAG uL a0 a1 a2
abbrev Ga:List VT:=[⟨false,I⟩,⟨false,I⟩]
abbrev Gb:List VT:=[⟨false,.bool⟩]
def zAH:zT:=zO [] [] [] [] []
def ziU (a0:Int) (a1:Int):Option (Bool×Unit):=
 bif zj (wrF .u64 a1) 0 then none
 else some ((zh (Int.tmod (wa .i64 a0 (wrF .u64 a1)) 2) 1),())
abbrev QP:Type:=(Int×Int×Unit)→Option (Bool×Unit)
def zqo:QP:=sF Tryz.prog [] zAH (zP []) 30 152 Ga Gb
theorem zBB (a0) (a1):zqo (a0,a1,())=ziU a0 a1:=by kernel_rfl
def vE:QP:=zqo
theorem zdm:Con.Ok Tryz.prog 152 ⟨Ga,Gb,vE⟩:=zw zi zo (by kernel_rfl)
theorem zvW (a0) (a1):vE (a0,a1,())=ziU  a0 a1:=zBB  a0 a1
abbrev Xg:List VT:=[⟨true,zN⟩]
abbrev Xh:List VT:=[⟨false,.bool⟩]
def zt0:zT:=zO [cdF zN,cdF qe] [] [] [] [152]
def zdn (jH:QP) (a0:qp):Option (Bool×Unit):=
 opt (zD (fun s0:((Bool×(Int×Unit))×Unit)=>
  bif (zj s0.1.2.1 ((a0.1.length:Nat):Int)) then opt (atI a0.1 s0.1.2.1) fun x1=>
   opt (jH (x1.1,(6,()))) fun x2=>
   bif !x2.1 then some (.inl (1,((false,(s0.1.2.1,())),())))
   else some (.inr ((s0.1.1,((wrF .i64 (s0.1.2.1+1)),())),()))
  else some (.inl (0,((s0.1.1,(s0.1.2.1,())),())))) zL ((false,(0,())),())) fun x3=>
 bif Nat.beq x3.1 0 then some (true,())
 else some (x3.2.1.1,())
abbrev kM:Type:=(qp×Unit)→Option (Bool×Unit)
def zjI:QP→kM:=fun jH=>sF Tryz.prog [(152,⟨Ga,Gb,jH⟩)] zt0 (zP []) 30 107 Xg Xh
theorem zvX (jH) (a0):zjI jH (a0,())=zdn jH a0:=by kernel_rfl
def yk:kM:=zjI vE
theorem UN:Con.Ok Tryz.prog 107 ⟨Xg,Xh,yk⟩:=zw (zd zdm zi) zo (by kernel_rfl)
theorem zpL (a0):yk (a0,())=zdn vE a0:=zvX vE a0
abbrev zk5:List VT:=[⟨true,zN⟩,⟨false,I⟩]
abbrev zk6:List VT:=[⟨false,I⟩,⟨false,I⟩]
def zBC:zT:=zO [cdF zN,cdF qe] [] [] [] []
def zk7 (a0:qp) (a1:Int):Option (Int×Int×Unit):=
 bif zh a0.2 0 then none
 else opt (bif zj (Int.tmod a1 a0.2) 0 then some (0,(((wrF .i64 ((Int.tmod a1 a0.2)+a0.2)),()),()))
   else some (0,(((Int.tmod a1 a0.2),()),()))) fun x0=>
  opt (zD (fun s1:((Int×(Int×Unit))×Unit)=>
   opt (atI a0.1 s1.1.2.1) fun x2=>
   bif !(zj s1.1.1 x2.2) then opt (atI a0.1 s1.1.2.1) fun x3=>
    some (.inr (((wrF .i64 (s1.1.1 - x3.2)),((wrF .i64 (s1.1.2.1+1)),())),()))
   else some (.inl (0,((s1.1.1,(s1.1.2.1,())),())))) zL ((x0.2.1.1,(0,())),())) fun x4=>
  some (x4.2.1.2.1,(x4.2.1.1,()))
abbrev zfV:Type:=(qp×Int×Unit)→Option (Int×Int×Unit)
def zt1:zfV:=sF Tryz.prog [] zBC (zP []) 30 172 zk5 zk6
theorem zDA (a0) (a1):zt1 (a0,a1,())=zk7 a0 a1:=by kernel_rfl
def Vf:zfV:=zt1
theorem zye:Con.Ok Tryz.prog 172 ⟨zk5,zk6,Vf⟩:=zw zi zo (by kernel_rfl)
theorem zyf (a0) (a1):Vf (a0,a1,())=zk7  a0 a1:=zDA  a0 a1
abbrev Vg:List VT:=[⟨true,zN⟩,⟨false,I⟩,⟨false,I⟩]
abbrev Vh:List VT:=[⟨false,(.list qT)⟩]
def zpM:zT:=zO [cdF zN,cdF qe] [] [⟨4,68,some 6,qT,false⟩,⟨4,68,some 7,qT,true⟩,⟨8,68,some 6,qT,false⟩,⟨8,68,some 7,qT,true⟩,⟨10,68,some 6,qT,false⟩,⟨10,68,some 7,qT,true⟩] [] [172,152]
def zaw (UB:zfV) (jH:QP) (a0:qp) (a1:Int) (a2:Int):Option ((List xJ)×Unit):=
 opt (zD (fun s0:((Bool×(Int×Unit))×((List (Int×Int))×Unit))=>
  bif zj s0.1.2.1 a2 then opt (UB (a0,(s0.1.2.1,()))) fun x1=>
   opt (atI a0.1 x1.1) fun x2=>
   opt (atI a0.1 x1.1) fun x3=>
   opt (jH (x3.1,(6,()))) fun x4=>
   opt (bif x4.1 then bif s0.1.1 then opt (atI s0.2.1 (wrF .i64 (((s0.2.1.length:Nat):Int) - 1))) fun x5=>
      opt (gl s0.2.1 (Int.toNat (wrF .i64 (((s0.2.1.length:Nat):Int) - 1)))) fun x6=>
      some (0,((),((s0.2.1.set (Int.toNat (wrF .i64 (((s0.2.1.length:Nat):Int) - 1))) (x6.1,(js (wrF .i64 ((wrF .i64 (s0.1.2.1 - x1.2.1))+x2.2)) a2))),())))
     else some (0,((),(s0.2.1,())))
    else some (0,((),(s0.2.1,())))) fun x7=>
   opt (bif x4.1 then bif !s0.1.1 then bif (qK x7.2.2.1.length (((s0.1.2.1,(js (wrF .i64 ((wrF .i64 (s0.1.2.1 - x1.2.1))+x2.2)) a2))::[]).length) 16) then some (0,((),((x7.2.2.1++((s0.1.2.1,(js (wrF .i64 ((wrF .i64 (s0.1.2.1 - x1.2.1))+x2.2)) a2))::[])),())))
      else none
     else some (0,((),(x7.2.2.1,())))
    else some (0,((),(x7.2.2.1,())))) fun x8=>
   some (.inr ((x4.1,((js (wrF .i64 ((wrF .i64 (s0.1.2.1 - x1.2.1))+x2.2)) a2),())),(x8.2.2.1,())))
  else some (.inl (0,((s0.1.1,(s0.1.2.1,())),(s0.2.1,()))))) zL ((false,(a1,())),([],()))) fun x9=>
 some (x9.2.2.1,())
abbrev Zx:Type:=(qp×Int×Int×Unit)→Option ((List xJ)×Unit)
def zha:zfV→QP→Zx:=fun UB jH=>sF Tryz.prog [(172,⟨zk5,zk6,UB⟩),(152,⟨Ga,Gb,jH⟩)] zpM (zP []) 30 153 Vg Vh
theorem zrL (UB) (jH) (a0) (a1) (a2):zha UB jH (a0,a1,a2,())=zaw UB jH a0 a1 a2:=by kernel_rfl
def yL:Zx:=zha Vf vE
theorem zcH:Con.Ok Tryz.prog 153 ⟨Vg,Vh,yL⟩:=zw (zd zye (zd zdm zi)) zo (by kernel_rfl)
theorem zmr (a0) (a1) (a2):yL (a0,a1,a2,())=zaw Vf vE a0 a1 a2:=zrL Vf vE a0 a1 a2
abbrev GD:List VT:=[⟨true,zN⟩]
abbrev GF:List VT:=[⟨false,(.list qT)⟩]
def zvY:zT:=zO [cdF zN,cdF qe] [] [⟨3,36,some 2,qT,false⟩] [] [152]
def zeO (jH:QP) (jR:Zx) (a0:qp):Option ((List xJ)×Unit):=
 opt (zD (fun s0:((Int×(Int×Unit))×Unit)=>
  bif (zj s0.1.2.1 ((a0.1.length:Nat):Int)) then opt (atI a0.1 s0.1.2.1) fun x1=>
   opt (jH (x1.1,(6,()))) fun x2=>
   bif x2.1 then opt (atI a0.1 s0.1.2.1) fun x3=>
    some (.inr (((wrF .i64 (s0.1.1+x3.2)),((wrF .i64 (s0.1.2.1+1)),())),()))
   else some (.inl (0,((s0.1.1,(s0.1.2.1,())),())))
  else some (.inl (0,((s0.1.1,(s0.1.2.1,())),())))) zL ((0,(0,())),())) fun x4=>
 opt (jR (a0,(x4.2.1.1,((wrF .i64 (x4.2.1.1+a0.2)),())))) fun x5=>
 some (x5.1,())
abbrev Wq:Type:=(qp×Unit)→Option ((List xJ)×Unit)
def zlK:QP→Zx→Wq:=fun jH jR=>sF Tryz.prog [(152,⟨Ga,Gb,jH⟩),(153,⟨Vg,Vh,jR⟩)] zvY (zP []) 30 108 GD GF
theorem zyg (jH) (jR) (a0):zlK jH jR (a0,())=zeO jH jR a0:=by kernel_rfl
def xB:Wq:=zlK vE yL
theorem zhb:Con.Ok Tryz.prog 108 ⟨GD,GF,xB⟩:=zw (zd zdm (zd zcH zi)) zo (by kernel_rfl)
theorem zrM (a0):xB (a0,())=zeO vE yL a0:=zyg vE yL a0
abbrev zdI:List VT:=[⟨false,(.list qT)⟩,⟨false,I⟩]
abbrev zdJ:List VT:=[⟨false,I⟩]
def zAI:zT:=zO [cdF qT] [] [] [] []
def ziV (a0:(List xJ)) (a1:Int):Option (Int×Unit):=
 opt (zD (fun s0:((Int×(Int×Unit))×Unit)=>
  bif (zj s0.1.2.1 ((a0.length:Nat):Int)) then opt (atI a0 s0.1.2.1) fun x1=>
   opt (atI a0 s0.1.2.1) fun x2=>
   some (.inr (((wrF .i64 (s0.1.1+(uC 0 (wrF .i64 ((wrF .i64 (x1.2 - x2.1)) - a1))))),((wrF .i64 (s0.1.2.1+1)),())),()))
  else some (.inl (0,((s0.1.1,(s0.1.2.1,())),())))) zL ((0,(0,())),())) fun x3=>
 some (x3.2.1.1,())
abbrev VJ:Type:=((List xJ)×Int×Unit)→Option (Int×Unit)
def zqp:VJ:=sF Tryz.prog [] zAI (zP []) 30 151 zdI zdJ
theorem zBD (a0) (a1):zqp (a0,a1,())=ziV a0 a1:=by kernel_rfl
def ZK:VJ:=zqp
theorem zjJ:Con.Ok Tryz.prog 151 ⟨zdI,zdJ,ZK⟩:=zw zi zo (by kernel_rfl)
theorem zvZ (a0) (a1):ZK (a0,a1,())=ziV  a0 a1:=zBD  a0 a1
abbrev zeP:List VT:=[⟨true,zN⟩,⟨false,I⟩,⟨false,I⟩]
abbrev zeQ:List VT:=[⟨false,I⟩]
def zv0:zT:=zO [cdF zN,cdF qe] [] [] [] [107,151]
def GG (qN:kM) (yu:Wq) (xL:VJ) (a0:qp) (a1:Int) (a2:Int):Option (Int×Unit):=
 opt (qN (a0,())) fun x0=>
 bif x0.1 then some (a0.2,())
 else opt (yu (a0,())) fun x1=>
  opt (xL (x1.1,((wrF .i64 (a2*a1)),()))) fun x2=>
  some (x2.1,())
abbrev GH:Type:=(qp×Int×Int×Unit)→Option (Int×Unit)
def zlL:kM→Wq→VJ→GH:=fun qN yu xL=>sF Tryz.prog [(107,⟨Xg,Xh,qN⟩),(108,⟨GD,GF,yu⟩),(151,⟨zdI,zdJ,xL⟩)] zv0 (zP []) 30 106 zeP zeQ
theorem zyh (qN) (yu) (xL) (a0) (a1) (a2):zlL qN yu xL (a0,a1,a2,())=GG qN yu xL a0 a1 a2:=by kernel_rfl
def QA:GH:=zlL yk xB ZK
theorem zrN:Con.Ok Tryz.prog 106 ⟨zeP,zeQ,QA⟩:=zw (zd UN (zd zhb (zd zjJ zi))) zo (by kernel_rfl)
theorem zhc (a0) (a1) (a2):QA (a0,a1,a2,())=GG yk xB ZK a0 a1 a2:=zyh yk xB ZK a0 a1 a2
abbrev zeR:List VT:=[⟨true,zN⟩,⟨false,I⟩,⟨false,I⟩,⟨false,I⟩,⟨false,I⟩]
abbrev zeS:List VT:=[⟨false,I⟩]
def zv1:zT:=zO [cdF zN,cdF qe] [] [] [] [107,151]
def zeT (qN:kM) (jR:Zx) (xL:VJ) (a0:qp) (a1:Int) (a2:Int) (a3:Int) (a4:Int):Option (Int×Unit):=
 opt (qN (a0,())) fun x0=>
 bif x0.1 then some ((wrF .i64 (a4 - (wrF .i64 (127*a1)))),())
 else opt (jR (a0,(a3,((wrF .i64 (a3+a4)),())))) fun x1=>
  opt (xL (x1.1,((wrF .i64 (a2*a1)),()))) fun x2=>
  some ((wrF .i64 (x2.1 - (wrF .i64 (127*a1)))),())
abbrev GI:Type:=(qp×Int×Int×Int×Int×Unit)→Option (Int×Unit)
def zlM:kM→Zx→VJ→GI:=fun qN jR xL=>sF Tryz.prog [(107,⟨Xg,Xh,qN⟩),(153,⟨Vg,Vh,jR⟩),(151,⟨zdI,zdJ,xL⟩)] zv1 (zP []) 30 109 zeR zeS
theorem zyi (qN) (jR) (xL) (a0) (a1) (a2) (a3) (a4):zlM qN jR xL (a0,a1,a2,a3,a4,())=zeT qN jR xL a0 a1 a2 a3 a4:=by kernel_rfl
def Wr:GI:=zlM yk yL ZK
theorem zrO:Con.Ok Tryz.prog 109 ⟨zeR,zeS,Wr⟩:=zw (zd UN (zd zcH (zd zjJ zi))) zo (by kernel_rfl)
theorem zrP (a0) (a1) (a2) (a3) (a4):Wr (a0,a1,a2,a3,a4,())=zeT yk yL ZK a0 a1 a2 a3 a4:=zyi yk yL ZK a0 a1 a2 a3 a4
abbrev zk8:List VT:=[⟨true,zN⟩,⟨false,I⟩,⟨false,I⟩]
abbrev zk9:List VT:=[⟨true,xf⟩,⟨false,I⟩]
def zBE:zT:=zO [cdF zN,cdF qe] [] [] [] [105,106,107,109]
def zbY (XD:zbX) (WH:GH) (qN:kM) (yu:Wq) (WI:GI) (a0:qp) (a1:Int) (a2:Int):Option (wH×Int×Unit):=
 opt (XD (a0,(a1,(a2,())))) fun x0=>
 bif !(zh x0.1 0) then some ((0,0),(x0.1,()))
 else opt (WH (a0,(a1,(a2,())))) fun x1=>
  bif (zh (wrF .i64 (a0.2*a1)) 0) then none
  else bif (zj (wrF .i64 (Int.tdiv (wrF .i64 (x1.1*1048576)) (wrF .i64 (a0.2*a1)))) 1) then some ((0,0),(4,()))
   else opt (opt (qN (a0,())) fun x2=>
     bif !x2.1 then opt (yu (a0,())) fun x3=>
      opt (zD (fun s4:((Int×(Int×Unit))×Unit)=>
       bif (zj s4.1.2.1 ((x3.1.length:Nat):Int)) then opt (atI x3.1 s4.1.2.1) fun x5=>
        opt (atI x3.1 s4.1.2.1) fun x6=>
        opt (atI x3.1 s4.1.2.1) fun x7=>
        opt (zD (fun s8:((Int×(Int×Unit))×Unit)=>
         bif (zj s8.1.2.1 (wrF .i64 (2*((x3.1.length:Nat):Int)))) then bif (zh ((x3.1.length:Nat):Int) 0) then none
          else opt (atI x3.1 (Int.tmod s8.1.2.1 ((x3.1.length:Nat):Int))) fun x9=>
           bif (zh ((x3.1.length:Nat):Int) 0) then none
           else opt (bif (zj (wrF .i64 (x5.2 - (js (wrF .i64 (x6.2 - x7.1)) (wrF .i64 (a2*a1))))) (wrF .i64 ((wrF .i64 (x9.1+(js (wrF .i64 (x9.2 - x9.1)) (wrF .i64 (a2*a1)))))+(wrF .i64 ((wrF .i64 (Int.tdiv s8.1.2.1 ((x3.1.length:Nat):Int)))*a0.2))))) then opt (WI (a0,(a1,(a2,((wrF .i64 (x5.2 - (js (wrF .i64 (x6.2 - x7.1)) (wrF .i64 (a2*a1))))),((wrF .i64 ((wrF .i64 ((wrF .i64 (x9.1+(js (wrF .i64 (x9.2 - x9.1)) (wrF .i64 (a2*a1)))))+(wrF .i64 ((wrF .i64 (Int.tdiv s8.1.2.1 ((x3.1.length:Nat):Int)))*a0.2)))) - (wrF .i64 (x5.2 - (js (wrF .i64 (x6.2 - x7.1)) (wrF .i64 (a2*a1))))))),())))))) fun x10=>
              some (0,(((uC s8.1.1 (wrF .i64 ((wrF .i64 ((wrF .i64 ((wrF .i64 ((wrF .i64 ((wrF .i64 (x9.1+(js (wrF .i64 (x9.2 - x9.1)) (wrF .i64 (a2*a1)))))+(wrF .i64 ((wrF .i64 (Int.tdiv s8.1.2.1 ((x3.1.length:Nat):Int)))*a0.2)))) - (wrF .i64 (x5.2 - (js (wrF .i64 (x6.2 - x7.1)) (wrF .i64 (a2*a1)))))))*(wrF .i64 (Int.tdiv (wrF .i64 (x1.1*1048576)) (wrF .i64 (a0.2*a1))))))*a1)) - (wrF .i64 (x10.1*1048576))))),()),()))
             else some (0,((s8.1.1,()),()))) fun x11=>
            some (.inr ((x11.2.1.1,((wrF .i64 (s8.1.2.1+1)),())),()))
         else some (.inl (0,((s8.1.1,(s8.1.2.1,())),())))) zL ((s4.1.1,(0,())),())) fun x12=>
        some (.inr ((x12.2.1.1,((wrF .i64 (s4.1.2.1+1)),())),()))
       else some (.inl (0,((s4.1.1,(s4.1.2.1,())),())))) zL (((wrF .i64 ((wrF .i64 (127*a1))*1048576)),(0,())),())) fun x13=>
      some (0,((a0,(x13.2.1.1,())),()))
     else some (0,((a0,((wrF .i64 ((wrF .i64 (127*a1))*1048576)),())),()))) fun x14=>
    bif (zh (wrF .i64 ((wrF .i64 (Int.tdiv (wrF .i64 (x1.1*1048576)) (wrF .i64 (a0.2*a1))))*a1)) 0) then none
    else some (((wrF .i64 (Int.tdiv (wrF .i64 (x1.1*1048576)) (wrF .i64 (a0.2*a1)))),(wrF .i64 (Int.tdiv (wrF .i64 ((wrF .i64 (x14.2.1.2.1+(wrF .i64 ((wrF .i64 (Int.tdiv (wrF .i64 (x1.1*1048576)) (wrF .i64 (a0.2*a1))))*a1)))) - 1)) (wrF .i64 ((wrF .i64 (Int.tdiv (wrF .i64 (x1.1*1048576)) (wrF .i64 (a0.2*a1))))*a1))))),(0,()))
abbrev zfW:Type:=(qp×Int×Int×Unit)→Option (wH×Int×Unit)
def zt2:zbX→GH→kM→Wq→GI→zfW:=fun XD WH qN yu WI=>sF Tryz.prog [(105,⟨zg7,zg8,XD⟩),(106,⟨zeP,zeQ,WH⟩),(107,⟨Xg,Xh,qN⟩),(108,⟨GD,GF,yu⟩),(109,⟨zeR,zeS,WI⟩)] zBE (zP []) 30 75 zk8 zk9
theorem zDB (XD) (WH) (qN) (yu) (WI) (a0) (a1) (a2):zt2 XD WH qN yu WI (a0,a1,a2,())=zbY XD WH qN yu WI a0 a1 a2:=by kernel_rfl
def QK:zfW:=zt2 Xf QA yk xB Wr
theorem zyj:Con.Ok Tryz.prog 75 ⟨zk8,zk9,QK⟩:=zw (zd ztY (zd zrN (zd UN (zd zhb (zd zrO zi))))) zo (by kernel_rfl)
theorem zeU (a0) (a1) (a2):QK (a0,a1,a2,())=zbY Xf QA yk xB Wr a0 a1 a2:=zDB Xf QA yk xB Wr a0 a1 a2
abbrev GJ:List VT:=[⟨true,zv⟩]
abbrev GK:List VT:=[⟨false,.bool⟩]
def zv2:zT:=zO [cdF zv] [] [] [] []
def zeV (a0:qy):Option (Bool×Unit):=
 bif !(zj a0.1 1) then bif !(zj 1048576 a0.1) then bif !(zj a0.2 1) then some ((!(zj 2097152 a0.2)),())
   else some (false,())
  else some (false,())
 else some (false,())
abbrev Ws:Type:=(qy×Unit)→Option (Bool×Unit)
def zlN:Ws:=sF Tryz.prog [] zv2 (zP []) 30 110 GJ GK
theorem zyk (a0):zlN (a0,())=zeV a0:=by kernel_rfl
def uY:Ws:=zlN
theorem zhd:Con.Ok Tryz.prog 110 ⟨GJ,GK,uY⟩:=zw zi zo (by kernel_rfl)
theorem zrQ (a0):uY (a0,())=zeV  a0:=zyk  a0
abbrev ziW:List VT:=[⟨false,(.list zv)⟩]
abbrev ziX:List VT:=[⟨true,zv⟩,⟨false,I⟩]
def zAJ:zT:=zO [cdF zv] [] [] [] [110]
def ziY (wS:Ws) (a0:(List qy)):Option (qy×Int×Unit):=
 bif (zh ((a0.length:Nat):Int) 0) then some ((0,0),(2,()))
 else bif (zj 12 ((a0.length:Nat):Int)) then some ((0,0),(3,()))
  else opt (zD (fun s0:(((Int×Int)×((Int×Int)×(Int×(Int×Unit))))×Unit)=>
    bif (zj s0.1.2.2.2.1 ((a0.length:Nat):Int)) then opt (atI a0 s0.1.2.2.2.1) fun x1=>
     opt (wS (x1,())) fun x2=>
     bif !x2.1 then some (.inl (1,(((0,0),(s0.1.2.1,(130,(s0.1.2.2.2.1,())))),())))
     else opt (atI a0 s0.1.2.2.2.1) fun x3=>
      opt (atI a0 s0.1.2.2.2.1) fun x4=>
      some (.inr ((s0.1.1,(((wrF .i64 (s0.1.2.1.1+x3.1)),(wrF .i64 (s0.1.2.1.2+x4.2))),(s0.1.2.2.1,((wrF .i64 (s0.1.2.2.2.1+1)),())))),()))
    else some (.inl (0,((s0.1.1,(s0.1.2.1,(s0.1.2.2.1,(s0.1.2.2.2.1,())))),())))) zL (((0,0),((0,0),(0,(0,())))),())) fun x5=>
   bif Nat.beq x5.1 0 then opt (wS (x5.2.1.2.1,())) fun x6=>
    bif !x6.1 then some ((0,0),(6,()))
    else some (x5.2.1.2.1,(0,()))
   else some (x5.2.1.1,(x5.2.1.2.2.1,()))
abbrev zdK:Type:=((List qy)×Unit)→Option (qy×Int×Unit)
def zqq:Ws→zdK:=fun wS=>sF Tryz.prog [(110,⟨GJ,GK,wS⟩)] zAJ (zP []) 30 77 ziW ziX
theorem zBF (wS) (a0):zqq wS (a0,())=ziY wS a0:=by kernel_rfl
def VK:zdK:=zqq uY
theorem zv3:Con.Ok Tryz.prog 77 ⟨ziW,ziX,VK⟩:=zw (zd zhd zi) zo (by kernel_rfl)
theorem zv4 (a0):VK (a0,())=ziY uY a0:=zBF uY a0
abbrev zeW:List VT:=[⟨true,xf⟩]
abbrev zeX:List VT:=[⟨false,.bool⟩]
def zv5:zT:=zO [cdF xf] [] [] [] []
def zeY (a0:wH):Option (Bool×Unit):=
 bif !(zj a0.1 1) then bif !(zj 2097152 a0.1) then bif !(zj a0.2 0) then some ((!(zj 268435456 a0.2)),())
   else some (false,())
  else some (false,())
 else some (false,())
abbrev GL:Type:=(wH×Unit)→Option (Bool×Unit)
def zlO:GL:=sF Tryz.prog [] zv5 (zP []) 30 111 zeW zeX
theorem zyl (a0):zlO (a0,())=zeY a0:=by kernel_rfl
def Wt:GL:=zlO
theorem zrR:Con.Ok Tryz.prog 111 ⟨zeW,zeX,Wt⟩:=zw zi zo (by kernel_rfl)
theorem zrS (a0):Wt (a0,())=zeY  a0:=zyl  a0
abbrev zhe:List VT:=[⟨false,(.list zv)⟩,⟨false,I⟩]
abbrev zhf:List VT:=[⟨false,.bool⟩]
def zym:zT:=zO [cdF zv] [] [] [] []
def zhg (a0:(List qy)) (a1:Int):Option (Bool×Unit):=
 opt (zD (fun s0:((Bool×(Int×Unit))×Unit)=>
  bif (zj s0.1.2.1 ((a0.length:Nat):Int)) then opt (atI a0 s0.1.2.1) fun x1=>
   bif !(zj a1 x1.2) then some (.inl (1,((true,(s0.1.2.1,())),())))
   else some (.inr ((s0.1.1,((wrF .i64 (s0.1.2.1+1)),())),()))
  else some (.inl (0,((s0.1.1,(s0.1.2.1,())),())))) zL ((false,(0,())),())) fun x2=>
 bif Nat.beq x2.1 0 then some (false,())
 else some (x2.2.1.1,())
abbrev zbZ:Type:=((List qy)×Int×Unit)→Option (Bool×Unit)
def zof:zbZ:=sF Tryz.prog [] zym (zP []) 30 112 zhe zhf
theorem zAK (a0) (a1):zof (a0,a1,())=zhg a0 a1:=by kernel_rfl
def Xi:zbZ:=zof
theorem zt3:Con.Ok Tryz.prog 112 ⟨zhe,zhf,Xi⟩:=zw zi zo (by kernel_rfl)
theorem zt4 (a0) (a1):Xi (a0,a1,())=zhg  a0 a1:=zAK  a0 a1
abbrev zb0:List VT:=[⟨false,I⟩,⟨false,I⟩]
abbrev zb1:List VT:=[⟨false,I⟩]
def zyn:zT:=zO [] [] [] [] []
def zhh (a0:Int) (a1:Int):Option (Int×Unit):=
 bif zh a1 0 then none
 else opt (bif (zj (wrF .i64 ((wrF .i64 (Int.tdiv a0 a1))*a1)) a0) then some (0,(((wrF .i64 ((wrF .i64 (Int.tdiv a0 a1))+1)),()),()))
   else some (0,(((wrF .i64 (Int.tdiv a0 a1)),()),()))) fun x0=>
  some (x0.2.1.1,())
abbrev Xj:Type:=(Int×Int×Unit)→Option (Int×Unit)
def zog:Xj:=sF Tryz.prog [] zyn (zP []) 30 114 zb0 zb1
theorem zAL (a0) (a1):zog (a0,a1,())=zhh a0 a1:=by kernel_rfl
def gr:Xj:=zog
theorem zig:Con.Ok Tryz.prog 114 ⟨zb0,zb1,gr⟩:=zw zi zo (by kernel_rfl)
theorem zt5 (a0) (a1):gr (a0,a1,())=zhh  a0 a1:=zAL  a0 a1
abbrev zax:List VT:=[⟨false,(.list zv)⟩,⟨false,I⟩]
abbrev zay:List VT:=[⟨false,I⟩]
def zpN:zT:=zO [cdF zv] [] [] [] [114]
def zaz (yJ:Xj) (a0:(List qy)) (a1:Int):Option (Int×Unit):=
 opt (zD (fun s0:((Int×(Int×Unit))×Unit)=>
  bif (zj s0.1.2.1 ((a0.length:Nat):Int)) then opt (atI a0 s0.1.2.1) fun x1=>
   bif zj a1 x1.2 then some (.inr ((s0.1.1,((wrF .i64 (s0.1.2.1+1)),())),()))
   else opt (yJ ((wrF .i64 (x1.1*1048576)),(a1,()))) fun x2=>
    opt (bif zj s0.1.1 0 then some (0,((x2.1,()),()))
     else bif zj x2.1 s0.1.1 then some (0,((x2.1,()),()))
      else some (0,((s0.1.1,()),()))) fun x3=>
    opt (zD (fun s4:((Int×(Int×Unit))×Unit)=>
     bif (zj s4.1.2.1 ((a0.length:Nat):Int)) then opt (atI a0 s4.1.2.1) fun x5=>
      opt (bif zj a1 x5.2 then bif zj x5.1 x1.1 then opt (yJ ((wrF .i64 ((wrF .i64 ((wrF .i64 ((wrF .i64 (x5.2 - a1))*x1.1))+(wrF .i64 ((wrF .i64 (a1 - x1.2))*x5.1))))*1048576)),((wrF .i64 (a1*(wrF .i64 (x5.2 - x1.2)))),()))) fun x6=>
         some (0,(((js s4.1.1 x6.1),()),()))
        else some (0,((s4.1.1,()),()))
       else some (0,((s4.1.1,()),()))) fun x7=>
      some (.inr ((x7.2.1.1,((wrF .i64 (s4.1.2.1+1)),())),()))
     else some (.inl (0,((s4.1.1,(s4.1.2.1,())),())))) zL ((x3.2.1.1,(0,())),())) fun x8=>
    some (.inr ((x8.2.1.1,((wrF .i64 (s0.1.2.1+1)),())),()))
  else some (.inl (0,((s0.1.1,(s0.1.2.1,())),())))) zL (((-1),(0,())),())) fun x9=>
 some (x9.2.1.1,())
abbrev Vi:Type:=((List qy)×Int×Unit)→Option (Int×Unit)
def zhi:Xj→Vi:=fun yJ=>sF Tryz.prog [(114,⟨zb0,zb1,yJ⟩)] zpN (zP []) 30 113 zax zay
theorem zrT (yJ) (a0) (a1):zhi yJ (a0,a1,())=zaz yJ a0 a1:=by kernel_rfl
def Zy:Vi:=zhi gr
theorem zms:Con.Ok Tryz.prog 113 ⟨zax,zay,Zy⟩:=zw (zd zig zi) zo (by kernel_rfl)
theorem zmt (a0) (a1):Zy (a0,a1,())=zaz gr a0 a1:=zrT gr a0 a1
abbrev GM:List VT:=[⟨false,(.list zv)⟩,⟨true,xf⟩]
abbrev GN:List VT:=[⟨false,I⟩,⟨false,I⟩]
def zv6:zT:=zO [cdF xf] [] [] [] [110,111,112,113]
def zeZ (wS:Ws) (WJ:GL) (XE:zbZ) (ZE:Vi) (a0:(List qy)) (a1:wH):Option (Int×Int×Unit):=
 bif (zh ((a0.length:Nat):Int) 0) then some (0,(2,()))
 else bif (zj 12 ((a0.length:Nat):Int)) then some (0,(3,()))
  else opt (zD (fun s0:((Int×(Int×(Int×Unit)))×Unit)=>
    bif (zj s0.1.2.2.1 ((a0.length:Nat):Int)) then opt (atI a0 s0.1.2.2.1) fun x1=>
     opt (wS (x1,())) fun x2=>
     bif !x2.1 then some (.inl (1,((0,(130,(s0.1.2.2.1,()))),())))
     else some (.inr ((s0.1.1,(s0.1.2.1,((wrF .i64 (s0.1.2.2.1+1)),()))),()))
    else some (.inl (0,((s0.1.1,(s0.1.2.1,(s0.1.2.2.1,()))),())))) zL ((0,(0,(0,()))),())) fun x3=>
   bif Nat.beq x3.1 0 then opt (WJ (a1,())) fun x4=>
    bif !x4.1 then some (0,(140,()))
    else opt (XE (a0,(a1.1,()))) fun x5=>
     bif !x5.1 then some (0,(141,()))
     else opt (ZE (a0,(a1.1,()))) fun x6=>
      some ((wrF .i64 (a1.2+x6.1)),(0,()))
   else some (x3.2.1.1,(x3.2.1.2.1,()))
abbrev Wu:Type:=((List qy)×wH×Unit)→Option (Int×Int×Unit)
def zlP:Ws→GL→zbZ→Vi→Wu:=fun wS WJ XE ZE=>sF Tryz.prog [(110,⟨GJ,GK,wS⟩),(111,⟨zeW,zeX,WJ⟩),(112,⟨zhe,zhf,XE⟩),(113,⟨zax,zay,ZE⟩)] zv6 (zP []) 30 78 GM GN
theorem zyo (wS) (WJ) (XE) (ZE) (a0) (a1):zlP wS WJ XE ZE (a0,a1,())=zeZ wS WJ XE ZE a0 a1:=by kernel_rfl
def uZ:Wu:=zlP uY Wt Xi Zy
theorem zhj:Con.Ok Tryz.prog 78 ⟨GM,GN,uZ⟩:=zw (zd zhd (zd zrR (zd zt3 (zd zms zi)))) zo (by kernel_rfl)
theorem zrU (a0) (a1):uZ (a0,a1,())=zeZ uY Wt Xi Zy a0 a1:=zyo uY Wt Xi Zy a0 a1
abbrev zb2:List VT:=[⟨true,zv⟩,⟨true,xf⟩]
abbrev zb3:List VT:=[⟨false,I⟩,⟨false,I⟩]
def zrV:zT:=zO [cdF zv] [] [] [] [78,114]
def zb4 (yv:Wu) (yJ:Xj) (a0:qy) (a1:wH):Option (Int×Int×Unit):=
 opt (yv ((a0::[]),(a1,()))) fun x0=>
 bif !(zh x0.2.1 0) then some (0,(x0.2.1,()))
 else opt (yJ ((wrF .i64 (a0.2*a1.2)),(1048576,()))) fun x1=>
  some ((wrF .i64 (a0.1+x1.1)),(0,()))
abbrev Km:Type:=(qy×wH×Unit)→Option (Int×Int×Unit)
def zih:Wu→Xj→Km:=fun yv yJ=>sF Tryz.prog [(78,⟨GM,GN,yv⟩),(114,⟨zb0,zb1,yJ⟩)] zrV (zP []) 30 79 zb2 zb3
theorem zt6 (yv) (yJ) (a0) (a1):zih yv yJ (a0,a1,())=zb4 yv yJ a0 a1:=by kernel_rfl
def Qf:Km:=zih uZ gr
theorem zoh:Con.Ok Tryz.prog 79 ⟨zb2,zb3,Qf⟩:=zw (zd zhj (zd zig zi)) zo (by kernel_rfl)
theorem zoi (a0) (a1):Qf (a0,a1,())=zb4 uZ gr a0 a1:=zt6 uZ gr a0 a1
abbrev zdL:List VT:=[⟨true,qf⟩,⟨false,(.list zr)⟩,⟨false,I⟩]
abbrev zdM:List VT:=[⟨true,Yl⟩,⟨false,I⟩]
def zAM:zT:=zO [cdF qf,cdF zr,cdF Yl,cdF zx,cdF zM,cdF zN,cdF qe] [] [⟨3,87,some 8,zv,true⟩,⟨5,87,some 8,zv,true⟩,⟨7,87,some 8,zv,true⟩,⟨10,87,some 8,zv,true⟩,⟨13,87,some 8,zv,true⟩,⟨16,87,some 8,zv,true⟩] [] [27,76,75,77,78,79]
def ziZ (QZ:Uw) (VP:zdH) (UC:zfW) (VQ:zdK) (yv:Wu) (Qj:Km) (a0:qo) (a1:(List zA)) (a2:Int):Option (ztb×Int×Unit):=
 opt (zD (fun s0:((Int×Unit)×((List (Int×Int))×Unit))=>
  bif (zj s0.1.1 ((a1.length:Nat):Int)) then opt (opt (atI a1 s0.1.1) fun x1=>
    opt (QZ (x1,(a2,()))) fun x2=>
    bif x2.1 then opt (atI a1 s0.1.1) fun x3=>
     bif (qK s0.2.1.length ((x3.2.2.2.2.2.2.1::[]).length) 16) then some (0,((),((s0.2.1++(x3.2.2.2.2.2.2.1::[])),())))
     else none
    else some (0,((),(s0.2.1,())))) fun x4=>
   some (.inr (((wrF .i64 (s0.1.1+1)),()),(x4.2.2.1,())))
  else some (.inl (0,((s0.1.1,()),(s0.2.1,()))))) zL ((0,()),([],()))) fun x5=>
 bif (zh ((x5.2.2.1.length:Nat):Int) 0) then some (((0,0),((0,0),(0,0))),(4,()))
 else opt (atI a0.2.2.1 a2) fun x6=>
  opt (VP (a0.1,(a2,()))) fun x7=>
  opt (UC (x6,(x7.1,(a0.2.2.2,())))) fun x8=>
  bif !(zh x8.2.1 0) then some (((0,0),((0,0),(0,0))),(411,()))
  else opt (VQ (x5.2.2.1,())) fun x9=>
   bif !(zh x9.2.1 0) then some (((0,0),((0,0),(0,0))),(6,()))
   else opt (yv ((x9.1::[]),(x8.1,()))) fun x10=>
    bif !(zh x10.2.1 0) then some (((0,0),((0,0),(0,0))),(141,()))
    else opt (Qj (x9.1,(x8.1,()))) fun x11=>
     some ((x9.1,(x8.1,(x10.1,x11.1))),(0,()))
abbrev VL:Type:=(qo×(List zA)×Int×Unit)→Option (ztb×Int×Unit)
def zqr:Uw→zdH→zfW→zdK→Wu→Km→VL:=fun QZ VP UC VQ yv Qj=>sF Tryz.prog [(27,⟨zdj,zdk,QZ⟩),(76,⟨ziR,ziS,VP⟩),(75,⟨zk8,zk9,UC⟩),(77,⟨ziW,ziX,VQ⟩),(78,⟨GM,GN,yv⟩),(79,⟨zb2,zb3,Qj⟩)] zAM (zP []) 30 46 zdL zdM
theorem zBG (QZ) (VP) (UC) (VQ) (yv) (Qj) (a0) (a1) (a2):zqr QZ VP UC VQ yv Qj (a0,a1,a2,())=ziZ QZ VP UC VQ yv Qj a0 a1 a2:=by kernel_rfl
def ZL:VL:=zqr QS VI QK VK uZ Qf
theorem zjK:Con.Ok Tryz.prog 46 ⟨zdL,zdM,ZL⟩:=zw (zd zpJ (zd zvU (zd zyj (zd zv3 (zd zhj (zd zoh zi)))))) zo (by kernel_rfl)
theorem zv7 (a0) (a1) (a2):ZL (a0,a1,a2,())=ziZ QS VI QK VK uZ Qf a0 a1 a2:=zBG QS VI QK VK uZ Qf a0 a1 a2
abbrev Zz:List VT:=[⟨false,(.list zr)⟩,⟨false,I⟩]
abbrev ZA:List VT:=[⟨false,I⟩,⟨false,I⟩]
def zt7:zT:=zO [cdF zr,cdF zv] [] [] [] []
def zdo (a0:(List zA)) (a1:Int):Option (Int×Int×Unit):=
 opt (zD (fun s0:((Int×(Int×(Int×Unit)))×Unit)=>
  bif (zj s0.1.2.2.1 ((a0.length:Nat):Int)) then opt (atI a0 s0.1.2.2.1) fun x1=>
   bif zh x1.1 a1 then some (.inl (1,((s0.1.2.2.1,(0,(s0.1.2.2.1,()))),())))
   else some (.inr ((s0.1.1,(s0.1.2.1,((wrF .i64 (s0.1.2.2.1+1)),()))),()))
  else some (.inl (0,((s0.1.1,(s0.1.2.1,(s0.1.2.2.1,()))),())))) zL ((0,(0,(0,()))),())) fun x2=>
 bif Nat.beq x2.1 0 then some (0,(4,()))
 else some (x2.2.1.1,(x2.2.1.2.1,()))
abbrev Ux:Type:=((List zA)×Int×Unit)→Option (Int×Int×Unit)
def zjL:Ux:=sF Tryz.prog [] zt7 (zP []) 30 47 Zz ZA
theorem zv8 (a0) (a1):zjL (a0,a1,())=zdo a0 a1:=by kernel_rfl
def kN:Ux:=zjL
theorem zpO:Con.Ok Tryz.prog 47 ⟨Zz,ZA,kN⟩:=zw zi zo (by kernel_rfl)
theorem zft (a0) (a1):kN (a0,a1,())=zdo  a0 a1:=zv8  a0 a1
abbrev kB:List VT:=[⟨true,Uo⟩]
abbrev kC:List VT:=[⟨false,I⟩]
def zpP:zT:=zO [cdF Uo,cdF zM] [] [] [] []
def zaA (a0:zh6):Option (Int×Unit):=
 some (a0.1.2.2.2,())
abbrev Vj:Type:=(zh6×Unit)→Option (Int×Unit)
def zhk:Vj:=sF Tryz.prog [] zpP (zP []) 30 116 kB kC
theorem zrW (a0):zhk (a0,())=zaA a0:=by kernel_rfl
def JB:Vj:=zhk
theorem zmu:Con.Ok Tryz.prog 116 ⟨kB,kC,JB⟩:=zw zi zo (by kernel_rfl)
theorem zmv (a0):JB (a0,())=zaA  a0:=zrW  a0
abbrev ZQ:List VT:=[⟨true,zx⟩,⟨false,I⟩]
abbrev ZR:List VT:=[⟨false,I⟩,⟨false,I⟩]
def zyp:zT:=zO [cdF zx,cdF Uo,cdF zM] [] [] [] [37,116]
def zhl (zY:yy) (ZF:Vj) (a0:zK) (a1:Int):Option (Int×Int×Unit):=
 opt (zY (a0,())) fun x0=>
 bif !(zh x0.1 0) then some (0,(x0.1,()))
 else opt (bif zj a1 0 then some (1,((0,(2,())),()))
   else bif (!(zj a1 (wrF .i64 (2*((a0.2.2.length:Nat):Int))))) then some (1,((0,(2,())),()))
    else some (0,((0,(0,())),()))) fun x1=>
  bif Nat.beq x1.1 0 then opt (atI a0.2.2 (wrF .i64 (Int.tdiv a1 2))) fun x2=>
   opt (ZF ((x2,a1),())) fun x3=>
   some (x3.1,(0,()))
  else some (x1.2.1.1,(x1.2.1.2.1,()))
abbrev zb5:Type:=(zK×Int×Unit)→Option (Int×Int×Unit)
def zoj:yy→Vj→zb5:=fun zY ZF=>sF Tryz.prog [(37,⟨ju,jv,zY⟩),(116,⟨kB,kC,ZF⟩)] zyp (zP []) 30 80 ZQ ZR
theorem zAN (zY) (ZF) (a0) (a1):zoj zY ZF (a0,a1,())=zhl zY ZF a0 a1:=by kernel_rfl
def JC:zb5:=zoj jb JB
theorem zt8:Con.Ok Tryz.prog 80 ⟨ZQ,ZR,JC⟩:=zw (zd Qd (zd zmu zi)) zo (by kernel_rfl)
theorem zt9 (a0) (a1):JC (a0,a1,())=zhl jb JB a0 a1:=zAN jb JB a0 a1
abbrev Xk:List VT:=[⟨true,qf⟩,⟨false,(.list zr)⟩,⟨false,I⟩,⟨false,I⟩]
abbrev Xl:List VT:=[⟨false,I⟩,⟨false,I⟩]
abbrev ze0:List VT:=[⟨false,(.list zr)⟩,⟨false,I⟩]
abbrev ze1:List VT:=[⟨false,I⟩,⟨false,I⟩]
def zv9:zT:=zO [cdF zr,cdF zv] [] [] [] []
def zlQ (a0:(List zA)) (a1:Int):Option (Int×Int×Unit):=
 opt (zD (fun s0:((Int×(Int×(Int×Unit)))×Unit)=>
  bif (zj s0.1.2.2.1 ((a0.length:Nat):Int)) then opt (atI a0 s0.1.2.2.1) fun x1=>
   bif zh x1.1 a1 then some (.inl (1,((s0.1.2.2.1,(0,(s0.1.2.2.1,()))),())))
   else some (.inr ((s0.1.1,(s0.1.2.1,((wrF .i64 (s0.1.2.2.1+1)),()))),()))
  else some (.inl (0,((s0.1.1,(s0.1.2.1,(s0.1.2.2.1,()))),())))) zL ((0,(0,(0,()))),())) fun x2=>
 bif Nat.beq x2.1 0 then some (0,(4,()))
 else some (x2.2.1.1,(x2.2.1.2.1,()))
abbrev GO:Type:=((List zA)×Int×Unit)→Option (Int×Int×Unit)
def zlR:GO:=sF Tryz.prog [] zv9 (zP []) 30 49 ze0 ze1
theorem zyq (a0) (a1):zlR (a0,a1,())=zlQ a0 a1:=by kernel_rfl
def gV:GO:=zlR
theorem zrX:Con.Ok Tryz.prog 49 ⟨ze0,ze1,gV⟩:=zw zi zo (by kernel_rfl)
theorem zrY (a0) (a1):gV (a0,a1,())=zlQ  a0 a1:=zyq  a0 a1
abbrev ze2:List VT:=[⟨true,zx⟩,⟨false,I⟩]
abbrev ze3:List VT:=[⟨false,I⟩]
def zwa:zT:=zO [cdF zx,cdF zM] [] [] [] []
def ze4 (a0:zK) (a1:Int):Option (Int×Unit):=
 opt (atI a0.2.2 (wrF .i64 (Int.tdiv a1 2))) fun x0=>
 some (x0.2.2.2,())
abbrev GP:Type:=(zK×Int×Unit)→Option (Int×Unit)
def zlS:GP:=sF Tryz.prog [] zwa (zP []) 30 81 ze2 ze3
theorem zyr (a0) (a1):zlS (a0,a1,())=ze4 a0 a1:=by kernel_rfl
def Wv:GP:=zlS
theorem zrZ:Con.Ok Tryz.prog 81 ⟨ze2,ze3,Wv⟩:=zw zi zo (by kernel_rfl)
theorem zr0 (a0) (a1):Wv (a0,a1,())=ze4  a0 a1:=zyr  a0 a1
abbrev zhm:List VT:=[⟨true,qf⟩,⟨false,(.list zr)⟩,⟨false,(.list I)⟩]
abbrev zhn:List VT:=[⟨false,I⟩,⟨false,I⟩]
def zys:zT:=zO [cdF qf,cdF Yl,cdF zx,cdF zM,cdF zN,cdF qe] [] [] [] [46,81]
def zho (xM:VL) (WK:GP) (a0:qo) (a1:(List zA)) (a2:(List Int)):Option (Int×Int×Unit):=
 opt (zD (fun s0:((Int×(Int×(Int×(Int×Unit))))×Unit)=>
  bif (zj s0.1.2.2.2.1 ((a2.length:Nat):Int)) then opt (atI a2 s0.1.2.2.2.1) fun x1=>
   opt (xM (a0,(a1,(x1,())))) fun x2=>
   bif !(zh x2.2.1 0) then some (.inl (1,((0,(x2.2.1,(s0.1.2.2.1,(s0.1.2.2.2.1,())))),())))
   else opt (atI a2 s0.1.2.2.2.1) fun x3=>
    opt (WK (a0.1,(x3,()))) fun x4=>
    some (.inr ((s0.1.1,(s0.1.2.1,((wrF .i64 ((wrF .i64 ((wrF .i64 (s0.1.2.2.1+x2.1.2.2.1))+x4.1))+a0.2.1.2.2.1)),((wrF .i64 (s0.1.2.2.2.1+1)),())))),()))
  else some (.inl (0,((s0.1.1,(s0.1.2.1,(s0.1.2.2.1,(s0.1.2.2.2.1,())))),())))) zL ((0,(0,(0,(0,())))),())) fun x5=>
 bif Nat.beq x5.1 0 then some (x5.2.1.2.2.1,(0,()))
 else some (x5.2.1.1,(x5.2.1.2.1,()))
abbrev zb6:Type:=(qo×(List zA)×(List Int)×Unit)→Option (Int×Int×Unit)
def zok:VL→GP→zb6:=fun xM WK=>sF Tryz.prog [(46,⟨zdL,zdM,xM⟩),(81,⟨ze2,ze3,WK⟩)] zys (zP []) 30 50 zhm zhn
theorem zAO (xM) (WK) (a0) (a1) (a2):zok xM WK (a0,a1,a2,())=zho xM WK a0 a1 a2:=by kernel_rfl
def Xm:zb6:=zok ZL Wv
theorem zua:Con.Ok Tryz.prog 50 ⟨zhm,zhn,Xm⟩:=zw (zd zjK (zd zrZ zi)) zo (by kernel_rfl)
theorem zub (a0) (a1) (a2):Xm (a0,a1,a2,())=zho ZL Wv a0 a1 a2:=zAO ZL Wv a0 a1 a2
abbrev zdN:List VT:=[]
abbrev zdO:List VT:=[⟨true,qf⟩]
abbrev Vk:List VT:=[⟨false,I⟩,⟨false,I⟩,⟨false,I⟩,⟨false,I⟩,⟨false,I⟩]
abbrev Vl:List VT:=[⟨true,zr⟩]
abbrev xC:List VT:=[⟨true,qf⟩,⟨false,(.list zr)⟩]
abbrev xD:List VT:=[⟨false,I⟩]
def zwb:zT:=zO [cdF qf,cdF zr,cdF zvr,cdF Yl,cdF zx,cdF zM,cdF zN,cdF qe] [] [⟨8,44,some 4,.unit,true⟩,⟨10,44,some 4,.unit,true⟩,⟨5,98,none,zv,true⟩,⟨8,98,none,zv,true⟩,⟨12,98,none,zv,true⟩,⟨15,98,none,zv,true⟩,⟨18,98,none,zv,true⟩,⟨21,98,none,zv,true⟩,⟨5,98,some 6,zv,false⟩,⟨8,98,some 6,zv,false⟩,⟨12,98,some 6,zv,false⟩,⟨15,98,some 6,zv,false⟩,⟨18,98,some 6,zv,false⟩,⟨21,98,some 6,zv,false⟩,⟨2,90,none,zv,true⟩,⟨6,90,none,zv,true⟩,⟨9,90,none,zv,true⟩,⟨10,90,none,zv,true⟩,⟨12,90,none,zv,true⟩,⟨15,90,none,zv,true⟩,⟨18,90,none,zv,true⟩,⟨21,90,none,zv,true⟩,⟨24,90,none,zv,true⟩,⟨26,90,none,zv,true⟩,⟨5,90,none,zv,true⟩,⟨2,44,none,zv,true⟩,⟨5,44,none,zv,true⟩,⟨8,44,none,zv,true⟩,⟨10,44,none,zv,true⟩,⟨2,37,none,zv,true⟩,⟨1,28,none,zv,true⟩,⟨4,28,none,zv,true⟩,⟨2,19,none,zv,true⟩,⟨4,19,none,zv,true⟩,⟨3,55,none,zv,true⟩,⟨6,55,none,zv,true⟩,⟨9,55,none,zv,true⟩] [] [13,72,136,100,101,102,103,104,80]
def ze5 (uB:JO) (gN:Yw) (jn:xF) (QL:zfU) (gx:zbR) (gy:zbT) (kn:GC) (xX:Kl) (XF:zb5) (a0:qo) (a1:(List zA)):Option (Int×Unit):=
 opt (uB (a0,())) fun x0=>
 bif !(zh x0.1 0) then bif !(zh x0.1 0) then some (x0.1,())
  else none
 else opt (gN (a0.1,(a1,()))) fun x1=>
  bif !(zh x1.1 0) then bif !(zh x1.1 0) then some (x1.1,())
   else none
  else opt (zD (fun s2:((Unit×(Int×(Int×Unit)))×Unit)=>
    bif (zj s2.1.2.2.1 ((a1.length:Nat):Int)) then opt (atI a1 s2.1.2.2.1) fun x3=>
     opt (bif !(zh x3.2.2.2.1 6) then some (1,(((),(2,())),()))
      else bif zj a0.2.2.2 x3.2.2.2.2.1 then some (1,(((),(2,())),()))
       else some (0,(((),(s2.1.2.1,())),()))) fun x4=>
     bif Nat.beq x4.1 0 then some (.inr (((),(x4.2.1.2.1,((wrF .i64 (s2.1.2.2.1+1)),()))),()))
     else some (.inl (1,(((),(x4.2.1.2.1,(s2.1.2.2.1,()))),())))
    else some (.inl (0,(((),(s2.1.2.1,(s2.1.2.2.1,()))),())))) zL (((),(0,(0,()))),())) fun x5=>
   bif Nat.beq x5.1 0 then opt (zD (fun s6:((Int×(Int×Unit))×((List (Int×(((Int×Int)×((Int×Int)×(Int×Int)))×Int)))×Unit))=>
     bif (zj s6.1.2.1 ((a0.2.2.1.length:Nat):Int)) then opt (bif (!(mpH (α:=(((Int×Int)×((Int×Int)×(Int×Int)))×Int)) s6.2.1 s6.1.2.1)) then opt (zD (fun s7:((Int×Unit)×(((List (Int×Int))×Unit)×(Unit×(Unit×Unit))))=>
         bif (zj s7.1.1 ((a1.length:Nat):Int)) then opt (atI a1 s7.1.1) fun x8=>
          opt (zD (fun s9:((Int×(Int×Unit))×(((List (Int×Int))×Unit)×(Unit×(Unit×Unit))))=>
           bif (zj s9.1.2.1 ((x8.2.2.2.2.2.2.2.2.length:Nat):Int)) then opt (atI x8.2.2.2.2.2.2.2.2 s9.1.2.1) fun x10=>
            opt (jn (x10,(s6.1.2.1,()))) fun x11=>
            bif x11.1 then some (.inl (1,((s9.1.2.1,(s9.1.2.1,())),((s9.2.1.1,()),((),((),()))))))
            else some (.inr ((s9.1.1,((wrF .i64 (s9.1.2.1+1)),())),((s9.2.1.1,()),((),((),())))))
           else some (.inl (0,((s9.1.1,(s9.1.2.1,())),((s9.2.1.1,()),((),((),()))))))) zL ((0,(0,())),((s7.2.1.1,()),((),((),()))))) fun x12=>
          bif Nat.beq x12.1 0 then some (.inr (((wrF .i64 (s7.1.1+1)),()),((x12.2.2.1.1,()),((),((),())))))
          else bif !(zj x12.2.1.1 0) then bif (qK x12.2.2.1.1.length ((x8.2.2.2.2.2.2.1::[]).length) 16) then some (.inr (((wrF .i64 (s7.1.1+1)),()),(((x12.2.2.1.1++(x8.2.2.2.2.2.2.1::[])),()),((),((),())))))
            else none
           else some (.inr (((wrF .i64 (s7.1.1+1)),()),((x12.2.2.1.1,()),((),((),())))))
         else some (.inl (0,((s7.1.1,()),((s7.2.1.1,()),((),((),()))))))) zL ((0,()),(([],()),((),((),()))))) fun x13=>
        bif Nat.beq x13.1 0 then bif (zh ((x13.2.2.1.1.length:Nat):Int) 0) then some (0,(((((0,0),((0,0),(0,0))),4),()),((mpP (α:=(((Int×Int)×((Int×Int)×(Int×Int)))×Int)) s6.2.1 s6.1.2.1 (((0,0),((0,0),(0,0))),4)),())))
         else opt (QL (a0.1,(s6.1.2.1,()))) fun x14=>
          bif !(zh x14.2.1 0) then some (0,(((((0,0),((0,0),(0,0))),x14.2.1),()),((mpP (α:=(((Int×Int)×((Int×Int)×(Int×Int)))×Int)) s6.2.1 s6.1.2.1 (((0,0),((0,0),(0,0))),x14.2.1)),())))
          else opt (atI a0.2.2.1 s6.1.2.1) fun x15=>
           opt (gx (x15,(x14.1,(a0.2.2.2,())))) fun x16=>
           bif !(zh x16.2.1 0) then some (0,(((((0,0),((0,0),(0,0))),411),()),((mpP (α:=(((Int×Int)×((Int×Int)×(Int×Int)))×Int)) s6.2.1 s6.1.2.1 (((0,0),((0,0),(0,0))),411)),())))
           else opt (gy (x13.2.2.1.1,())) fun x17=>
            bif !(zh x17.2.1 0) then some (0,(((((0,0),((0,0),(0,0))),x17.2.1),()),((mpP (α:=(((Int×Int)×((Int×Int)×(Int×Int)))×Int)) s6.2.1 s6.1.2.1 (((0,0),((0,0),(0,0))),x17.2.1)),())))
            else opt (kn ((x17.1::[]),(x16.1,()))) fun x18=>
             bif !(zh x18.2.1 0) then some (0,(((((0,0),((0,0),(0,0))),x18.2.1),()),((mpP (α:=(((Int×Int)×((Int×Int)×(Int×Int)))×Int)) s6.2.1 s6.1.2.1 (((0,0),((0,0),(0,0))),x18.2.1)),())))
             else opt (xX (x17.1,(x16.1,()))) fun x19=>
              bif !(zh x19.2.1 0) then some (0,(((((0,0),((0,0),(0,0))),x19.2.1),()),((mpP (α:=(((Int×Int)×((Int×Int)×(Int×Int)))×Int)) s6.2.1 s6.1.2.1 (((0,0),((0,0),(0,0))),x19.2.1)),())))
              else some (0,((((x17.1,(x16.1,(x18.1,x19.1))),0),()),((mpP (α:=(((Int×Int)×((Int×Int)×(Int×Int)))×Int)) s6.2.1 s6.1.2.1 ((x17.1,(x16.1,(x18.1,x19.1))),0)),())))
        else bif (zh ((x13.2.2.1.1.length:Nat):Int) 0) then some (0,(((((0,0),((0,0),(0,0))),4),()),((mpP (α:=(((Int×Int)×((Int×Int)×(Int×Int)))×Int)) s6.2.1 s6.1.2.1 (((0,0),((0,0),(0,0))),4)),())))
         else opt (QL (a0.1,(s6.1.2.1,()))) fun x20=>
          bif !(zh x20.2.1 0) then some (0,(((((0,0),((0,0),(0,0))),x20.2.1),()),((mpP (α:=(((Int×Int)×((Int×Int)×(Int×Int)))×Int)) s6.2.1 s6.1.2.1 (((0,0),((0,0),(0,0))),x20.2.1)),())))
          else opt (atI a0.2.2.1 s6.1.2.1) fun x21=>
           opt (gx (x21,(x20.1,(a0.2.2.2,())))) fun x22=>
           bif !(zh x22.2.1 0) then some (0,(((((0,0),((0,0),(0,0))),411),()),((mpP (α:=(((Int×Int)×((Int×Int)×(Int×Int)))×Int)) s6.2.1 s6.1.2.1 (((0,0),((0,0),(0,0))),411)),())))
           else opt (gy (x13.2.2.1.1,())) fun x23=>
            bif !(zh x23.2.1 0) then some (0,(((((0,0),((0,0),(0,0))),x23.2.1),()),((mpP (α:=(((Int×Int)×((Int×Int)×(Int×Int)))×Int)) s6.2.1 s6.1.2.1 (((0,0),((0,0),(0,0))),x23.2.1)),())))
            else opt (kn ((x23.1::[]),(x22.1,()))) fun x24=>
             bif !(zh x24.2.1 0) then some (0,(((((0,0),((0,0),(0,0))),x24.2.1),()),((mpP (α:=(((Int×Int)×((Int×Int)×(Int×Int)))×Int)) s6.2.1 s6.1.2.1 (((0,0),((0,0),(0,0))),x24.2.1)),())))
             else opt (xX (x23.1,(x22.1,()))) fun x25=>
              bif !(zh x25.2.1 0) then some (0,(((((0,0),((0,0),(0,0))),x25.2.1),()),((mpP (α:=(((Int×Int)×((Int×Int)×(Int×Int)))×Int)) s6.2.1 s6.1.2.1 (((0,0),((0,0),(0,0))),x25.2.1)),())))
              else some (0,((((x23.1,(x22.1,(x24.1,x25.1))),0),()),((mpP (α:=(((Int×Int)×((Int×Int)×(Int×Int)))×Int)) s6.2.1 s6.1.2.1 ((x23.1,(x22.1,(x24.1,x25.1))),0)),())))
       else some (0,(((mpD (α:=(((Int×Int)×((Int×Int)×(Int×Int)))×Int)) s6.2.1 s6.1.2.1 (((0,0),((0,0),(0,0))),0)),()),(s6.2.1,())))) fun x26=>
      bif zh x26.2.1.1.2 4 then some (.inr ((s6.1.1,((wrF .i64 (s6.1.2.1+1)),())),(x26.2.2.1,())))
      else bif !(zh x26.2.1.1.2 0) then some (.inl (0,((x26.2.1.1.2,(s6.1.2.1,())),(x26.2.2.1,()))))
       else bif zj a0.2.1.2.2.2 x26.2.1.1.1.2.2.2 then some (.inl (0,((7,(s6.1.2.1,())),(x26.2.2.1,()))))
        else some (.inr ((s6.1.1,((wrF .i64 (s6.1.2.1+1)),())),(x26.2.2.1,())))
     else some (.inl (0,((s6.1.1,(s6.1.2.1,())),(s6.2.1,()))))) zL ((0,(0,())),([],()))) fun x27=>
    bif !(zh x27.2.1.1 0) then some (x27.2.1.1,())
    else opt (zD (fun s28:((Int×(Int×Unit))×((List (Int×(((Int×Int)×((Int×Int)×(Int×Int)))×Int)))×Unit))=>
      bif (zj s28.1.2.1 ((a1.length:Nat):Int)) then opt (atI a1 s28.1.2.1) fun x29=>
       opt (zD (fun s30:((Int×(Int×Unit))×((List (Int×(((Int×Int)×((Int×Int)×(Int×Int)))×Int)))×Unit))=>
        bif (zj s30.1.2.1 ((x29.2.2.2.2.2.2.2.2.length:Nat):Int)) then opt (atI x29.2.2.2.2.2.2.2.2 s30.1.2.1) fun x31=>
         opt (zD (fun s32:((Int×(Int×(Int×(Int×Unit))))×((List (Int×(((Int×Int)×((Int×Int)×(Int×Int)))×Int)))×Unit))=>
          bif (zj s32.1.2.2.2.1 ((x31.length:Nat):Int)) then opt (atI x31 s32.1.2.2.2.1) fun x33=>
           opt (bif (!(mpH (α:=(((Int×Int)×((Int×Int)×(Int×Int)))×Int)) s32.2.1 x33)) then opt (zD (fun s34:((Int×Unit)×(((List (Int×Int))×Unit)×(Unit×(Unit×Unit))))=>
              bif (zj s34.1.1 ((a1.length:Nat):Int)) then opt (atI a1 s34.1.1) fun x35=>
               opt (zD (fun s36:((Int×(Int×Unit))×(((List (Int×Int))×Unit)×(Unit×(Unit×Unit))))=>
                bif (zj s36.1.2.1 ((x35.2.2.2.2.2.2.2.2.length:Nat):Int)) then opt (atI x35.2.2.2.2.2.2.2.2 s36.1.2.1) fun x37=>
                 opt (jn (x37,(x33,()))) fun x38=>
                 bif x38.1 then some (.inl (1,((s36.1.2.1,(s36.1.2.1,())),((s36.2.1.1,()),((),((),()))))))
                 else some (.inr ((s36.1.1,((wrF .i64 (s36.1.2.1+1)),())),((s36.2.1.1,()),((),((),())))))
                else some (.inl (0,((s36.1.1,(s36.1.2.1,())),((s36.2.1.1,()),((),((),()))))))) zL ((0,(0,())),((s34.2.1.1,()),((),((),()))))) fun x39=>
               bif Nat.beq x39.1 0 then some (.inr (((wrF .i64 (s34.1.1+1)),()),((x39.2.2.1.1,()),((),((),())))))
               else bif !(zj x39.2.1.1 0) then bif (qK x39.2.2.1.1.length ((x35.2.2.2.2.2.2.1::[]).length) 16) then some (.inr (((wrF .i64 (s34.1.1+1)),()),(((x39.2.2.1.1++(x35.2.2.2.2.2.2.1::[])),()),((),((),())))))
                 else none
                else some (.inr (((wrF .i64 (s34.1.1+1)),()),((x39.2.2.1.1,()),((),((),())))))
              else some (.inl (0,((s34.1.1,()),((s34.2.1.1,()),((),((),()))))))) zL ((0,()),(([],()),((),((),()))))) fun x40=>
             bif Nat.beq x40.1 0 then bif (zh ((x40.2.2.1.1.length:Nat):Int) 0) then some (0,(((((0,0),((0,0),(0,0))),4),()),((mpP (α:=(((Int×Int)×((Int×Int)×(Int×Int)))×Int)) s32.2.1 x33 (((0,0),((0,0),(0,0))),4)),())))
              else opt (QL (a0.1,(x33,()))) fun x41=>
               bif !(zh x41.2.1 0) then some (0,(((((0,0),((0,0),(0,0))),x41.2.1),()),((mpP (α:=(((Int×Int)×((Int×Int)×(Int×Int)))×Int)) s32.2.1 x33 (((0,0),((0,0),(0,0))),x41.2.1)),())))
               else opt (atI a0.2.2.1 x33) fun x42=>
                opt (gx (x42,(x41.1,(a0.2.2.2,())))) fun x43=>
                bif !(zh x43.2.1 0) then some (0,(((((0,0),((0,0),(0,0))),411),()),((mpP (α:=(((Int×Int)×((Int×Int)×(Int×Int)))×Int)) s32.2.1 x33 (((0,0),((0,0),(0,0))),411)),())))
                else opt (gy (x40.2.2.1.1,())) fun x44=>
                 bif !(zh x44.2.1 0) then some (0,(((((0,0),((0,0),(0,0))),x44.2.1),()),((mpP (α:=(((Int×Int)×((Int×Int)×(Int×Int)))×Int)) s32.2.1 x33 (((0,0),((0,0),(0,0))),x44.2.1)),())))
                 else opt (kn ((x44.1::[]),(x43.1,()))) fun x45=>
                  bif !(zh x45.2.1 0) then some (0,(((((0,0),((0,0),(0,0))),x45.2.1),()),((mpP (α:=(((Int×Int)×((Int×Int)×(Int×Int)))×Int)) s32.2.1 x33 (((0,0),((0,0),(0,0))),x45.2.1)),())))
                  else opt (xX (x44.1,(x43.1,()))) fun x46=>
                   bif !(zh x46.2.1 0) then some (0,(((((0,0),((0,0),(0,0))),x46.2.1),()),((mpP (α:=(((Int×Int)×((Int×Int)×(Int×Int)))×Int)) s32.2.1 x33 (((0,0),((0,0),(0,0))),x46.2.1)),())))
                   else some (0,((((x44.1,(x43.1,(x45.1,x46.1))),0),()),((mpP (α:=(((Int×Int)×((Int×Int)×(Int×Int)))×Int)) s32.2.1 x33 ((x44.1,(x43.1,(x45.1,x46.1))),0)),())))
             else bif (zh ((x40.2.2.1.1.length:Nat):Int) 0) then some (0,(((((0,0),((0,0),(0,0))),4),()),((mpP (α:=(((Int×Int)×((Int×Int)×(Int×Int)))×Int)) s32.2.1 x33 (((0,0),((0,0),(0,0))),4)),())))
              else opt (QL (a0.1,(x33,()))) fun x47=>
               bif !(zh x47.2.1 0) then some (0,(((((0,0),((0,0),(0,0))),x47.2.1),()),((mpP (α:=(((Int×Int)×((Int×Int)×(Int×Int)))×Int)) s32.2.1 x33 (((0,0),((0,0),(0,0))),x47.2.1)),())))
               else opt (atI a0.2.2.1 x33) fun x48=>
                opt (gx (x48,(x47.1,(a0.2.2.2,())))) fun x49=>
                bif !(zh x49.2.1 0) then some (0,(((((0,0),((0,0),(0,0))),411),()),((mpP (α:=(((Int×Int)×((Int×Int)×(Int×Int)))×Int)) s32.2.1 x33 (((0,0),((0,0),(0,0))),411)),())))
                else opt (gy (x40.2.2.1.1,())) fun x50=>
                 bif !(zh x50.2.1 0) then some (0,(((((0,0),((0,0),(0,0))),x50.2.1),()),((mpP (α:=(((Int×Int)×((Int×Int)×(Int×Int)))×Int)) s32.2.1 x33 (((0,0),((0,0),(0,0))),x50.2.1)),())))
                 else opt (kn ((x50.1::[]),(x49.1,()))) fun x51=>
                  bif !(zh x51.2.1 0) then some (0,(((((0,0),((0,0),(0,0))),x51.2.1),()),((mpP (α:=(((Int×Int)×((Int×Int)×(Int×Int)))×Int)) s32.2.1 x33 (((0,0),((0,0),(0,0))),x51.2.1)),())))
                  else opt (xX (x50.1,(x49.1,()))) fun x52=>
                   bif !(zh x52.2.1 0) then some (0,(((((0,0),((0,0),(0,0))),x52.2.1),()),((mpP (α:=(((Int×Int)×((Int×Int)×(Int×Int)))×Int)) s32.2.1 x33 (((0,0),((0,0),(0,0))),x52.2.1)),())))
                   else some (0,((((x50.1,(x49.1,(x51.1,x52.1))),0),()),((mpP (α:=(((Int×Int)×((Int×Int)×(Int×Int)))×Int)) s32.2.1 x33 ((x50.1,(x49.1,(x51.1,x52.1))),0)),())))
            else some (0,(((mpD (α:=(((Int×Int)×((Int×Int)×(Int×Int)))×Int)) s32.2.1 x33 (((0,0),((0,0),(0,0))),0)),()),(s32.2.1,())))) fun x53=>
           bif !(zh x53.2.1.1.2 0) then some (.inl (1,((0,(x53.2.1.1.2,(s32.1.2.2.1,(s32.1.2.2.2.1,())))),(x53.2.2.1,()))))
           else opt (XF (a0.1,(x33,()))) fun x54=>
            bif !(zh x54.2.1 0) then some (.inl (1,((0,(x54.2.1,(s32.1.2.2.1,(s32.1.2.2.2.1,())))),(x53.2.2.1,()))))
            else some (.inr ((s32.1.1,(s32.1.2.1,((wrF .i64 (s32.1.2.2.1+(wrF .i64 ((wrF .i64 (x53.2.1.1.1.2.2.1+x54.1))+a0.2.1.2.2.1)))),((wrF .i64 (s32.1.2.2.2.1+1)),())))),(x53.2.2.1,())))
          else some (.inl (0,((s32.1.1,(s32.1.2.1,(s32.1.2.2.1,(s32.1.2.2.2.1,())))),(s32.2.1,()))))) zL ((0,(0,(0,(0,())))),(s30.2.1,()))) fun x55=>
         bif Nat.beq x55.1 0 then bif zj x29.2.2.2.2.2.2.2.1 x55.2.1.2.2.1 then some (.inl (1,((412,(s30.1.2.1,())),(x55.2.2.1,()))))
          else some (.inr ((s30.1.1,((wrF .i64 (s30.1.2.1+1)),())),(x55.2.2.1,())))
         else bif !(zh x55.2.1.2.1 0) then some (.inl (1,((x55.2.1.2.1,(s30.1.2.1,())),(x55.2.2.1,()))))
          else bif zj x29.2.2.2.2.2.2.2.1 x55.2.1.1 then some (.inl (1,((412,(s30.1.2.1,())),(x55.2.2.1,()))))
           else some (.inr ((s30.1.1,((wrF .i64 (s30.1.2.1+1)),())),(x55.2.2.1,())))
        else some (.inl (0,((s30.1.1,(s30.1.2.1,())),(s30.2.1,()))))) zL ((s28.1.1,(0,())),(s28.2.1,()))) fun x56=>
       bif Nat.beq x56.1 0 then some (.inr ((x56.2.1.1,((wrF .i64 (s28.1.2.1+1)),())),(x56.2.2.1,())))
       else some (.inl (1,((x56.2.1.1,(s28.1.2.1,())),(x56.2.2.1,()))))
      else some (.inl (0,((s28.1.1,(s28.1.2.1,())),(s28.2.1,()))))) zL ((0,(0,())),(x27.2.2.1,()))) fun x57=>
     bif Nat.beq x57.1 0 then some (0,())
     else some (x57.2.1.1,())
   else bif !(zh x5.2.1.2.1 0) then some (x5.2.1.2.1,())
    else none
abbrev Ww:Type:=(qo×(List zA)×Unit)→Option (Int×Unit)
def zlT:JO→Yw→xF→zfU→zbR→zbT→GC→Kl→zb5→Ww:=fun uB gN jn QL gx gy kn xX XF=>sF Tryz.prog [(13,⟨jJ,jK,uB⟩),(72,⟨yO,yP,gN⟩),(136,⟨qH,qI,jn⟩),(100,⟨QI,QJ,QL⟩),(101,⟨vy,vz,gx⟩),(102,⟨gh,gi,gy⟩),(103,⟨uW,uX,kn⟩),(104,⟨xT,xU,xX⟩),(80,⟨ZQ,ZR,XF⟩)] zwb (zP []) 30 20 xC xD
theorem zyt (uB) (gN) (jn) (QL) (gx) (gy) (kn) (xX) (XF) (a0) (a1):zlT uB gN jn QL gx gy kn xX XF (a0,a1,())=ze5 uB gN jn QL gx gy kn xX XF a0 a1:=by kernel_rfl
def ka:Ww:=zlT uv gD qS gb xa vA xA yF JC
theorem zhp:Con.Ok Tryz.prog 20 ⟨xC,xD,ka⟩:=zw (zd ziL (zd zkU (zd UI (zd zxX (zd ztN (zd ztO (zd zrH (zd zob (zd zt8 zi))))))))) zo (by kernel_rfl)
theorem zr1 (a0) (a1):ka (a0,a1,())=ze5 uv gD qS gb xa vA xA yF JC a0 a1:=zyt uv gD qS gb xa vA xA yF JC a0 a1
abbrev vO:List VT:=[⟨true,zx⟩,⟨true,zr⟩]
abbrev vP:List VT:=[⟨false,I⟩]
def zuc:zT:=zO [cdF zr,cdF zx,cdF zM,cdF zv] [] [] [] [37,82]
def zdp (zY:yy) (wO:QR) (a0:zK) (a1:zA):Option (Int×Unit):=
 opt (zY (a0,())) fun x0=>
 bif !(zh x0.1 0) then some (x0.1,())
 else opt (wO (a0,(a1,()))) fun x1=>
  bif !x1.1 then some (321,())
  else some (0,())
abbrev Uy:Type:=(zK×zA×Unit)→Option (Int×Unit)
def zjM:yy→QR→Uy:=fun zY wO=>sF Tryz.prog [(37,⟨ju,jv,zY⟩),(82,⟨vK,vL,wO⟩)] zuc (zP []) 30 51 vO vP
theorem zwc (zY) (wO) (a0) (a1):zjM zY wO (a0,a1,())=zdp zY wO a0 a1:=by kernel_rfl
def QT:Uy:=zjM jb vM
theorem zpQ:Con.Ok Tryz.prog 51 ⟨vO,vP,QT⟩:=zw (zd Qd (zd zfm zi)) zo (by kernel_rfl)
theorem zpR (a0) (a1):QT (a0,a1,())=zdp jb vM a0 a1:=zwc jb vM a0 a1
abbrev vF:List VT:=[⟨true,qf⟩,⟨false,(.list zr)⟩,⟨true,zr⟩]
abbrev vG:List VT:=[⟨false,(.list zr)⟩,⟨false,I⟩]
def zwd:zT:=zO [cdF qf,cdF zr,cdF zx,cdF zM,cdF zN,cdF qe] [] [⟨2,41,some 6,zr,false⟩,⟨5,41,some 6,zr,false⟩,⟨9,41,some 6,zr,false⟩] [] [20,51]
def ze6 (wT:Ww) (Ja:Uy) (a0:qo) (a1:(List zA)) (a2:zA):Option ((List zA)×Int×Unit):=
 opt (wT (a0,(a1,()))) fun x0=>
 bif !(zh x0.1 0) then some ([],(x0.1,()))
 else opt (Ja (a0.1,(a2,()))) fun x1=>
  bif !(zh x1.1 0) then some ([],(x1.1,()))
  else opt (QG a1 none (some ((a1.length:Nat):Int)) (some ((a1.length:Nat):Int))) fun x2=>
   bif (qK x2.length ((a2::[]).length) 96) then opt (wT (a0,((x2++(a2::[])),()))) fun x3=>
    bif !(zh x3.1 0) then some ([],(x3.1,()))
    else some ((x2++(a2::[])),(0,()))
   else none
abbrev ze7:Type:=(qo×(List zA)×zA×Unit)→Option ((List zA)×Int×Unit)
def zlU:Ww→Uy→ze7:=fun wT Ja=>sF Tryz.prog [(20,⟨xC,xD,wT⟩),(51,⟨vO,vP,Ja⟩)] zwd (zP []) 30 22 vF vG
theorem zyu (wT) (Ja) (a0) (a1) (a2):zlU wT Ja (a0,a1,a2,())=ze6 wT Ja a0 a1 a2:=by kernel_rfl
def ke:ze7:=zlU ka QT
theorem zr2:Con.Ok Tryz.prog 22 ⟨vF,vG,ke⟩:=zw (zd zhp (zd zpQ zi)) zo (by kernel_rfl)
theorem zr3 (a0) (a1) (a2):ke (a0,a1,a2,())=ze6 ka QT a0 a1 a2:=zyu ka QT a0 a1 a2
abbrev ZS:List VT:=[⟨false,(.list zr)⟩,⟨false,(.list zr)⟩]
abbrev ZT:List VT:=[⟨false,.bool⟩]
def zyv:zT:=zO [cdF zr,cdF zv] [] [] [] []
def zhq (a0:(List zA)) (a1:(List zA)):Option (Bool×Unit):=
 bif (!(zh ((a0.length:Nat):Int) ((a1.length:Nat):Int))) then some (false,())
 else opt (zD (fun s0:((Bool×(Int×Unit))×Unit)=>
   bif (zj s0.1.2.1 ((a0.length:Nat):Int)) then opt (atI a0 s0.1.2.1) fun x1=>
    opt (atI a1 s0.1.2.1) fun x2=>
    opt (bif !(zh x1.1 x2.1) then some (1,((false,()),()))
     else bif !(zh x1.2.1 x2.2.1) then some (1,((false,()),()))
      else bif !(zh x1.2.2.1 x2.2.2.1) then some (1,((false,()),()))
       else bif !(zh x1.2.2.2.1 x2.2.2.2.1) then some (1,((false,()),()))
        else bif !(zh x1.2.2.2.2.1 x2.2.2.2.2.1) then some (1,((false,()),()))
         else bif !(zh x1.2.2.2.2.2.1 x2.2.2.2.2.2.1) then some (1,((false,()),()))
          else bif (!((zh x1.2.2.2.2.2.2.1.1 x2.2.2.2.2.2.2.1.1)&&((zh x1.2.2.2.2.2.2.1.2 x2.2.2.2.2.2.2.1.2)&&true))) then some (1,((false,()),()))
           else bif !(zh x1.2.2.2.2.2.2.2.1 x2.2.2.2.2.2.2.2.1) then some (1,((false,()),()))
            else bif (!(zh ((x1.2.2.2.2.2.2.2.2.length:Nat):Int) ((x2.2.2.2.2.2.2.2.2.length:Nat):Int))) then some (1,((false,()),()))
             else some (0,((s0.1.1,()),()))) fun x3=>
    bif Nat.beq x3.1 0 then opt (zD (fun s4:((Bool×(Int×Unit))×Unit)=>
      bif (zj s4.1.2.1 ((x1.2.2.2.2.2.2.2.2.length:Nat):Int)) then opt (atI x1.2.2.2.2.2.2.2.2 s4.1.2.1) fun x5=>
       opt (atI x2.2.2.2.2.2.2.2.2 s4.1.2.1) fun x6=>
       bif (!(zh ((x5.length:Nat):Int) ((x6.length:Nat):Int))) then some (.inl (1,((false,(s4.1.2.1,())),())))
       else opt (zD (fun s7:((Bool×(Int×Unit))×Unit)=>
         opt (atI x1.2.2.2.2.2.2.2.2 s4.1.2.1) fun x8=>
         bif (zj s7.1.2.1 ((x8.length:Nat):Int)) then opt (atI x1.2.2.2.2.2.2.2.2 s4.1.2.1) fun x9=>
          opt (atI x9 s7.1.2.1) fun x10=>
          opt (atI x2.2.2.2.2.2.2.2.2 s4.1.2.1) fun x11=>
          opt (atI x11 s7.1.2.1) fun x12=>
          bif !(zh x10 x12) then some (.inl (1,((false,(s7.1.2.1,())),())))
          else some (.inr ((s7.1.1,((wrF .i64 (s7.1.2.1+1)),())),()))
         else some (.inl (0,((s7.1.1,(s7.1.2.1,())),())))) zL ((s4.1.1,(0,())),())) fun x13=>
        bif Nat.beq x13.1 0 then some (.inr ((x13.2.1.1,((wrF .i64 (s4.1.2.1+1)),())),()))
        else some (.inl (1,((x13.2.1.1,(s4.1.2.1,())),())))
      else some (.inl (0,((s4.1.1,(s4.1.2.1,())),())))) zL ((x3.2.1.1,(0,())),())) fun x14=>
     bif Nat.beq x14.1 0 then some (.inr ((x14.2.1.1,((wrF .i64 (s0.1.2.1+1)),())),()))
     else some (.inl (1,((x14.2.1.1,(s0.1.2.1,())),())))
    else some (.inl (1,((x3.2.1.1,(s0.1.2.1,())),())))
   else some (.inl (0,((s0.1.1,(s0.1.2.1,())),())))) zL ((false,(0,())),())) fun x15=>
  bif Nat.beq x15.1 0 then some (true,())
  else some (x15.2.1.1,())
abbrev zhr:Type:=((List zA)×(List zA)×Unit)→Option (Bool×Unit)
def zol:zhr:=sF Tryz.prog [] zyv (zP []) 30 24 ZS ZT
theorem zAP (a0) (a1):zol (a0,a1,())=zhq a0 a1:=by kernel_rfl
def xE:zhr:=zol
theorem zud:Con.Ok Tryz.prog 24 ⟨ZS,ZT,xE⟩:=zw zi zo (by kernel_rfl)
theorem zue (a0) (a1):xE (a0,a1,())=zhq  a0 a1:=zAP  a0 a1
abbrev QB:List VT:=[]
abbrev QC:List VT:=[⟨false,.bool⟩]
abbrev nT:T zx:=(3,([true,false,true],[(0,(1,(8,5))),(1,(2,(8,5)))]))
abbrev nF:T qf:=(nT,((100,(2,(10,8000))),([([(127,100)],100),([(127,100)],100),([(127,100)],100),([(127,100)],100)],200)))
def zqs:T (zq zdN)→Option (T (zq zdO)):=sF Tryz.prog [] (fun _ _ _ _=>none) (fun _ _=>false) 100 28 zdN zdO
theorem zwe:Con.Ok Tryz.prog 28 ⟨zdN,zdO,zqs⟩:=zw zi zo (by kernel_rfl)
def zhs:T (zq Vk)→Option (T (zq Vl)):=sF Tryz.prog [] (fun _ _ _ _=>none) (fun _ _=>false) 100 29 Vk Vl
theorem zmw:Con.Ok Tryz.prog 29 ⟨Vk,Vl,zhs⟩:=zw zi zo (by kernel_rfl)
def zqt:T (zq Ym)→Option (T (zq Yn)):=sF Tryz.prog [] (fun _ _ _ _=>none) (fun _ _=>false) 100 92 Ym Yn
theorem zwf:Con.Ok Tryz.prog 92 ⟨Ym,Yn,zqt⟩:=zw zi zo (by kernel_rfl)
def zom:T (zq Jl)→Option (T (zq Jm)):=sF Tryz.prog [(92,⟨Ym,Yn,zqt⟩)] (fun _ _ _ _=>none) (fun _ _=>false) 100 64 Jl Jm
theorem zuf:Con.Ok Tryz.prog 64 ⟨Jl,Jm,zom⟩:=zw (zd zwf zi) zo (by kernel_rfl)
def zon:T (zq Jn)→Option (T (zq Jo)):=sF Tryz.prog [] (fun _ _ _ _=>none) (fun _ _=>false) 100 66 Jn Jo
theorem zug:Con.Ok Tryz.prog 66 ⟨Jn,Jo,zon⟩:=zw zi zo (by kernel_rfl)
def VA:T (zq wi)→Option (T (zq wj)):=sF Tryz.prog [] (fun _ _ _ _=>none) (fun _ _=>false) 100 96 wi wj
theorem zcy:Con.Ok Tryz.prog 96 ⟨wi,wj,VA⟩:=zw zi zo (by kernel_rfl)
def Ys:T (zq jD)→Option (T (zq jE)):=sF Tryz.prog [(96,⟨wi,wj,VA⟩)] (fun _ _ _ _=>none) (fun _ _=>false) 100 65 jD jE
theorem zaB:Con.Ok Tryz.prog 65 ⟨jD,jE,Ys⟩:=zw (zd zcy zi) zo (by kernel_rfl)
def zAQ:T (zq ju)→Option (T (zq jv)):=sF Tryz.prog [(64,⟨Jl,Jm,zom⟩),(66,⟨Jn,Jo,zon⟩),(65,⟨jD,jE,Ys⟩)] (fun _ _ _ _=>none) (fun _ _=>false) 100 37 ju jv
theorem zuh:Con.Ok Tryz.prog 37 ⟨ju,jv,zAQ⟩:=zw (zd zuf (zd zug (zd zaB zi))) zo (by kernel_rfl)
def JD:T (zq ju)→Option (T (zq jv)):=Vu [((nT,()),(0,()))]
theorem Qg:Con.Ok Tryz.prog 37 ⟨ju,jv,JD⟩:=XJ zuh (yx (by kernel_rfl) KJ)
def Vm:T (zq wW)→Option (T (zq wX)):=sF Tryz.prog [] (fun _ _ _ _=>none) (fun _ _=>false) 100 67 wW wX
theorem Kb:Con.Ok Tryz.prog 67 ⟨wW,wX,Vm⟩:=zw zi zo (by kernel_rfl)
def zcI:T (zq xO)→Option (T (zq xP)):=sF Tryz.prog [(67,⟨wW,wX,Vm⟩)] (fun _ _ _ _=>none) (fun _ _=>false) 100 38 xO xP
theorem zi0:Con.Ok Tryz.prog 38 ⟨xO,xP,zcI⟩:=zw (zd Kb zi) zo (by kernel_rfl)
def GQ:T (zq xy)→Option (T (zq xz)):=sF Tryz.prog [] (fun _ _ _ _=>none) (fun _ _=>false) 100 39 xy xz
theorem zaC:Con.Ok Tryz.prog 39 ⟨xy,xz,GQ⟩:=zw zi zo (by kernel_rfl)
def zmx:T (zq jJ)→Option (T (zq jK)):=sF Tryz.prog [(37,⟨ju,jv,JD⟩),(38,⟨xO,xP,zcI⟩),(39,⟨xy,xz,GQ⟩)] (fun _ _ _ _=>none) (fun _ _=>false) 100 13 jJ jK
theorem zi1:Con.Ok Tryz.prog 13 ⟨jJ,jK,zmx⟩:=zw (zd Qg (zd zi0 (zd zaC zi))) zo (by kernel_rfl)
def JR:T (zq jJ)→Option (T (zq jK)):=Vu [((nF,()),(0,()))]
theorem Yo:Con.Ok Tryz.prog 13 ⟨jJ,jK,JR⟩:=XJ zi1 (yx (by kernel_rfl) KJ)
def zht:T (zq kr)→Option (T (zq ku)):=sF Tryz.prog [(67,⟨wW,wX,Vm⟩)] (fun _ _ _ _=>none) (fun _ _=>false) 100 119 kr ku
theorem zmy:Con.Ok Tryz.prog 119 ⟨kr,ku,zht⟩:=zw (zd Kb zi) zo (by kernel_rfl)
def zcJ:T (zq xQ)→Option (T (zq xR)):=sF Tryz.prog [] (fun _ _ _ _=>none) (fun _ _=>false) 100 86 xQ xR
theorem zi2:Con.Ok Tryz.prog 86 ⟨xQ,xR,zcJ⟩:=zw zi zo (by kernel_rfl)
def Xn:T (zq wL)→Option (T (zq wM)):=sF Tryz.prog [(86,⟨xQ,xR,zcJ⟩)] (fun _ _ _ _=>none) (fun _ _=>false) 100 84 wL wM
theorem YC:Con.Ok Tryz.prog 84 ⟨wL,wM,Xn⟩:=zw (zd zi2 zi) zo (by kernel_rfl)
def KS:T (zq yz)→Option (T (zq yA)):=sF Tryz.prog [] (fun _ _ _ _=>none) (fun _ _=>false) 100 176 yz yA
theorem zaY:Con.Ok Tryz.prog 176 ⟨yz,yA,KS⟩:=zw zi zo (by kernel_rfl)
def KT:T (zq yC)→Option (T (zq yD)):=sF Tryz.prog [] (fun _ _ _ _=>none) (fun _ _=>false) 100 157 yC yD
theorem zaZ:Con.Ok Tryz.prog 157 ⟨yC,yD,KT⟩:=zw zi zo (by kernel_rfl)
def ze8:T (zq uM)→Option (T (zq uN)):=sF Tryz.prog [(37,⟨ju,jv,JD⟩),(157,⟨yC,yD,KT⟩)] (fun _ _ _ _=>none) (fun _ _=>false) 100 174 uM uN
theorem zhu:Con.Ok Tryz.prog 174 ⟨uM,uN,ze8⟩:=zw (zd Qg (zd zaZ zi)) zo (by kernel_rfl)
def zlV:T (zq Qq)→Option (T (zq Qr)):=sF Tryz.prog [(176,⟨yz,yA,KS⟩),(174,⟨uM,uN,ze8⟩)] (fun _ _ _ _=>none) (fun _ _=>false) 100 173 Qq Qr
theorem zr4:Con.Ok Tryz.prog 173 ⟨Qq,Qr,zlV⟩:=zw (zd zaY (zd zhu zi)) zo (by kernel_rfl)
def zoo:T (zq Jq)→Option (T (zq Jr)):=sF Tryz.prog [(173,⟨Qq,Qr,zlV⟩)] (fun _ _ _ _=>none) (fun _ _=>false) 100 154 Jq Jr
theorem zui:Con.Ok Tryz.prog 154 ⟨Jq,Jr,zoo⟩:=zw (zd zr4 zi) zo (by kernel_rfl)
def zjN:T (zq Zl)→Option (T (zq Zm)):=sF Tryz.prog [(154,⟨Jq,Jr,zoo⟩)] (fun _ _ _ _=>none) (fun _ _=>false) 100 125 Zl Zm
theorem zpS:Con.Ok Tryz.prog 125 ⟨Zl,Zm,zjN⟩:=zw (zd zui zi) zo (by kernel_rfl)
def zjO:T (zq Zo)→Option (T (zq Zp)):=sF Tryz.prog [] (fun _ _ _ _=>none) (fun _ _=>false) 100 158 Zo Zp
theorem zpT:Con.Ok Tryz.prog 158 ⟨Zo,Zp,zjO⟩:=zw zi zo (by kernel_rfl)
def KU:T (zq wY)→Option (T (zq wZ)):=sF Tryz.prog [] (fun _ _ _ _=>none) (fun _ _=>false) 100 190 wY wZ
theorem zec:Con.Ok Tryz.prog 190 ⟨wY,wZ,KU⟩:=zw zi zo (by kernel_rfl)
def XL:T (zq jW)→Option (T (zq jX)):=sF Tryz.prog [(190,⟨wY,wZ,KU⟩)] (fun _ _ _ _=>none) (fun _ _=>false) 100 177 jW jX
theorem zb7:Con.Ok Tryz.prog 177 ⟨jW,jX,XL⟩:=zw (zd zec zi) zo (by kernel_rfl)
def zed:T (zq vp)→Option (T (zq vq)):=sF Tryz.prog [(176,⟨yz,yA,KS⟩),(177,⟨jW,jX,XL⟩)] (fun _ _ _ _=>none) (fun _ _=>false) 100 159 vp vq
theorem zjP:Con.Ok Tryz.prog 159 ⟨vp,vq,zed⟩:=zw (zd zaY (zd zb7 zi)) zo (by kernel_rfl)
def zlW:T (zq Qs)→Option (T (zq Qt)):=sF Tryz.prog [(157,⟨yC,yD,KT⟩),(158,⟨Zo,Zp,zjO⟩),(159,⟨vp,vq,zed⟩),(174,⟨uM,uN,ze8⟩)] (fun _ _ _ _=>none) (fun _ _=>false) 100 127 Qs Qt
theorem zr5:Con.Ok Tryz.prog 127 ⟨Qs,Qt,zlW⟩:=zw (zd zaZ (zd zpT (zd zjP (zd zhu zi)))) zo (by kernel_rfl)
def zdq:T (zq vK)→Option (T (zq vL)):=sF Tryz.prog [(67,⟨wW,wX,Vm⟩),(119,⟨kr,ku,zht⟩),(84,⟨wL,wM,Xn⟩),(125,⟨Zl,Zm,zjN⟩),(127,⟨Qs,Qt,zlW⟩)] (fun _ _ _ _=>none) (fun _ _=>false) 100 82 vK vL
theorem zfu:Con.Ok Tryz.prog 82 ⟨vK,vL,zdq⟩:=zw (zd Kb (zd zmy (zd YC (zd zpS (zd zr5 zi))))) zo (by kernel_rfl)
def YD:T (zq yO)→Option (T (zq yP)):=sF Tryz.prog [(37,⟨ju,jv,JD⟩),(82,⟨vK,vL,zdq⟩)] (fun _ _ _ _=>none) (fun _ _=>false) 100 72 yO yP
theorem Vn:Con.Ok Tryz.prog 72 ⟨yO,yP,YD⟩:=zw (zd Qg (zd zfu zi)) zo (by kernel_rfl)
def Xo:T (zq jP)→Option (T (zq jQ)):=sF Tryz.prog [] (fun _ _ _ _=>none) (fun _ _=>false) 100 162 jP jQ
theorem za4:Con.Ok Tryz.prog 162 ⟨jP,jQ,Xo⟩:=zw zi zo (by kernel_rfl)
def xG:T (zq qH)→Option (T (zq qI)):=sF Tryz.prog [(162,⟨jP,jQ,Xo⟩)] (fun _ _ _ _=>none) (fun _ _=>false) 100 136 qH qI
theorem uj:Con.Ok Tryz.prog 136 ⟨qH,qI,xG⟩:=zw (zd za4 zi) zo (by kernel_rfl)
def zjQ:T (zq Zr)→Option (T (zq Zs)):=sF Tryz.prog [] (fun _ _ _ _=>none) (fun _ _=>false) 100 138 Zr Zs
theorem zpU:Con.Ok Tryz.prog 138 ⟨Zr,Zs,zjQ⟩:=zw zi zo (by kernel_rfl)
def zfX:T (zq QI)→Option (T (zq QJ)):=sF Tryz.prog [(37,⟨ju,jv,JD⟩),(138,⟨Zr,Zs,zjQ⟩)] (fun _ _ _ _=>none) (fun _ _=>false) 100 100 QI QJ
theorem ze9:Con.Ok Tryz.prog 100 ⟨QI,QJ,zfX⟩:=zw (zd Qg (zd zpU zi)) zo (by kernel_rfl)
def zii:T (zq gf)→Option (T (zq gg)):=sF Tryz.prog [(39,⟨xy,xz,GQ⟩)] (fun _ _ _ _=>none) (fun _ _=>false) 100 139 gf gg
theorem zop:Con.Ok Tryz.prog 139 ⟨gf,gg,zii⟩:=zw (zd zaC zi) zo (by kernel_rfl)
def zlX:T (zq Qu)→Option (T (zq Qv)):=sF Tryz.prog [(39,⟨xy,xz,GQ⟩)] (fun _ _ _ _=>none) (fun _ _=>false) 100 191 Qu Qv
theorem zr6:Con.Ok Tryz.prog 191 ⟨Qu,Qv,zlX⟩:=zw (zd zaC zi) zo (by kernel_rfl)
def zoq:T (zq Jt)→Option (T (zq Ju)):=sF Tryz.prog [] (fun _ _ _ _=>none) (fun _ _=>false) 100 197 Jt Ju
theorem zuj:Con.Ok Tryz.prog 197 ⟨Jt,Ju,zoq⟩:=zw zi zo (by kernel_rfl)
def zor:T (zq Jv)→Option (T (zq Jw)):=sF Tryz.prog [(197,⟨Jt,Ju,zoq⟩)] (fun _ _ _ _=>none) (fun _ _=>false) 100 192 Jv Jw
theorem zuk:Con.Ok Tryz.prog 192 ⟨Jv,Jw,zor⟩:=zw (zd zuj zi) zo (by kernel_rfl)
def zos:T (zq Jx)→Option (T (zq Jy)):=sF Tryz.prog [(191,⟨Qu,Qv,zlX⟩),(192,⟨Jv,Jw,zor⟩)] (fun _ _ _ _=>none) (fun _ _=>false) 100 178 Jx Jy
theorem zul:Con.Ok Tryz.prog 178 ⟨Jx,Jy,zos⟩:=zw (zd zr6 (zd zuk zi)) zo (by kernel_rfl)
def zhv:T (zq kx)→Option (T (zq ky)):=sF Tryz.prog [(178,⟨Jx,Jy,zos⟩)] (fun _ _ _ _=>none) (fun _ _=>false) 100 164 kx ky
theorem zmz:Con.Ok Tryz.prog 164 ⟨kx,ky,zhv⟩:=zw (zd zul zi) zo (by kernel_rfl)
def zaD:T (zq xr)→Option (T (zq xt)):=sF Tryz.prog [] (fun _ _ _ _=>none) (fun _ _=>false) 100 180 xr xt
theorem zcK:Con.Ok Tryz.prog 180 ⟨xr,xt,zaD⟩:=zw zi zo (by kernel_rfl)
def zfv:T (zq vU)→Option (T (zq vW)):=sF Tryz.prog [(164,⟨kx,ky,zhv⟩),(180,⟨xr,xt,zaD⟩)] (fun _ _ _ _=>none) (fun _ _=>false) 100 140 vU vW
theorem zla:Con.Ok Tryz.prog 140 ⟨vU,vW,zfv⟩:=zw (zd zmz (zd zcK zi)) zo (by kernel_rfl)
def zlY:T (zq Qw)→Option (T (zq Qx)):=sF Tryz.prog [] (fun _ _ _ _=>none) (fun _ _=>false) 100 166 Qw Qx
theorem zr7:Con.Ok Tryz.prog 166 ⟨Qw,Qx,zlY⟩:=zw zi zo (by kernel_rfl)
def zee:T (zq vr)→Option (T (zq vu)):=sF Tryz.prog [(166,⟨Qw,Qx,zlY⟩)] (fun _ _ _ _=>none) (fun _ _=>false) 100 142 vr vu
theorem zjR:Con.Ok Tryz.prog 142 ⟨vr,vu,zee⟩:=zw (zd zr7 zi) zo (by kernel_rfl)
def zAR:T (zq vy)→Option (T (zq vz)):=sF Tryz.prog [(139,⟨gf,gg,zii⟩),(140,⟨vU,vW,zfv⟩),(142,⟨vr,vu,zee⟩),(180,⟨xr,xt,zaD⟩)] (fun _ _ _ _=>none) (fun _ _=>false) 100 101 vy vz
theorem zum:Con.Ok Tryz.prog 101 ⟨vy,vz,zAR⟩:=zw (zd zop (zd zla (zd zjR (zd zcK zi)))) zo (by kernel_rfl)
def zb8:T (zq vy)→Option (T (zq vz)):=Vu [((([(127,100)],100),8,200,()),((131072,1016),0,()))]
theorem zb9:Con.Ok Tryz.prog 101 ⟨vy,vz,zb8⟩:=XJ zum (yx (by kernel_rfl) KJ)
def zca:T (zq gh)→Option (T (zq gi)):=sF Tryz.prog [(84,⟨wL,wM,Xn⟩)] (fun _ _ _ _=>none) (fun _ _=>false) 100 102 gh gi
theorem zcb:Con.Ok Tryz.prog 102 ⟨gh,gi,zca⟩:=zw (zd YC zi) zo (by kernel_rfl)
def zfa:T (zq uP)→Option (T (zq uQ)):=sF Tryz.prog [] (fun _ _ _ _=>none) (fun _ _=>false) 100 59 uP uQ
theorem zhw:Con.Ok Tryz.prog 59 ⟨uP,uQ,zfa⟩:=zw zi zo (by kernel_rfl)
def zfb:T (zq uS)→Option (T (zq uT)):=sF Tryz.prog [] (fun _ _ _ _=>none) (fun _ _=>false) 100 182 uS uT
theorem zhx:Con.Ok Tryz.prog 182 ⟨uS,uT,zfb⟩:=zw zi zo (by kernel_rfl)
def zij:T (zq gk)→Option (T (zq gm)):=sF Tryz.prog [] (fun _ _ _ _=>none) (fun _ _=>false) 100 184 gk gm
theorem zot:Con.Ok Tryz.prog 184 ⟨gk,gm,zij⟩:=zw zi zo (by kernel_rfl)
def zfw:T (zq vY)→Option (T (zq vZ)):=sF Tryz.prog [] (fun _ _ _ _=>none) (fun _ _=>false) 100 183 vY vZ
theorem zlb:Con.Ok Tryz.prog 183 ⟨vY,vZ,zfw⟩:=zw zi zo (by kernel_rfl)
def zfx:T (zq ud)→Option (T (zq ue)):=sF Tryz.prog [] (fun _ _ _ _=>none) (fun _ _=>false) 100 196 ud ue
theorem zlc:Con.Ok Tryz.prog 196 ⟨ud,ue,zfx⟩:=zw zi zo (by kernel_rfl)
def VB:T (zq wm)→Option (T (zq wo)):=sF Tryz.prog [(196,⟨ud,ue,zfx⟩)] (fun _ _ _ _=>none) (fun _ _=>false) 100 193 wm wo
theorem zcz:Con.Ok Tryz.prog 193 ⟨wm,wo,VB⟩:=zw (zd zlc zi) zo (by kernel_rfl)
def zfy:T (zq uf)→Option (T (zq ug)):=sF Tryz.prog [(193,⟨wm,wo,VB⟩)] (fun _ _ _ _=>none) (fun _ _=>false) 100 185 uf ug
theorem zld:Con.Ok Tryz.prog 185 ⟨uf,ug,zfy⟩:=zw (zd zcz zi) zo (by kernel_rfl)
def zlZ:T (zq Qy)→Option (T (zq Qz)):=sF Tryz.prog [(182,⟨uS,uT,zfb⟩)] (fun _ _ _ _=>none) (fun _ _=>false) 100 186 Qy Qz
theorem zr8:Con.Ok Tryz.prog 186 ⟨Qy,Qz,zlZ⟩:=zw (zd zhx zi) zo (by kernel_rfl)
def zou:T (zq Jz)→Option (T (zq JA)):=sF Tryz.prog [(182,⟨uS,uT,zfb⟩),(184,⟨gk,gm,zij⟩),(183,⟨vY,vZ,zfw⟩),(185,⟨uf,ug,zfy⟩),(186,⟨Qy,Qz,zlZ⟩)] (fun _ _ _ _=>none) (fun _ _=>false) 100 171 Jz JA
theorem zun:Con.Ok Tryz.prog 171 ⟨Jz,JA,zou⟩:=zw (zd zhx (zd zot (zd zlb (zd zld (zd zr8 zi))))) zo (by kernel_rfl)
def zhy:T (zq gp)→Option (T (zq gq)):=sF Tryz.prog [(171,⟨Jz,JA,zou⟩)] (fun _ _ _ _=>none) (fun _ _=>false) 100 150 gp gq
theorem zik:Con.Ok Tryz.prog 150 ⟨gp,gq,zhy⟩:=zw (zd zun zi) zo (by kernel_rfl)
def zhz:T (zq kz)→Option (T (zq kA)):=sF Tryz.prog [(150,⟨gp,gq,zhy⟩)] (fun _ _ _ _=>none) (fun _ _=>false) 100 148 kz kA
theorem zmA:Con.Ok Tryz.prog 148 ⟨kz,kA,zhz⟩:=zw (zd zik zi) zo (by kernel_rfl)
def GR:T (zq uW)→Option (T (zq uX)):=sF Tryz.prog [(84,⟨wL,wM,Xn⟩),(59,⟨uP,uQ,zfa⟩),(148,⟨kz,kA,zhz⟩)] (fun _ _ _ _=>none) (fun _ _=>false) 100 103 uW uX
theorem zaE:Con.Ok Tryz.prog 103 ⟨uW,uX,GR⟩:=zw (zd YC (zd zhw (zd zmA zi))) zo (by kernel_rfl)
def zfz:T (zq uh)→Option (T (zq ui)):=sF Tryz.prog [(84,⟨wL,wM,Xn⟩),(59,⟨uP,uQ,zfa⟩)] (fun _ _ _ _=>none) (fun _ _=>false) 100 149 uh ui
theorem zle:Con.Ok Tryz.prog 149 ⟨uh,ui,zfz⟩:=zw (zd YC (zd zhw zi)) zo (by kernel_rfl)
def Kn:T (zq xT)→Option (T (zq xU)):=sF Tryz.prog [(149,⟨uh,ui,zfz⟩),(150,⟨gp,gq,zhy⟩)] (fun _ _ _ _=>none) (fun _ _=>false) 100 104 xT xU
theorem KV:Con.Ok Tryz.prog 104 ⟨xT,xU,Kn⟩:=zw (zd zle (zd zik zi)) zo (by kernel_rfl)
def zBH:T (zq VG)→Option (T (zq VH)):=sF Tryz.prog [(13,⟨jJ,jK,JR⟩),(72,⟨yO,yP,YD⟩),(136,⟨qH,qI,xG⟩),(100,⟨QI,QJ,zfX⟩),(101,⟨vy,vz,zb8⟩),(102,⟨gh,gi,zca⟩),(103,⟨uW,uX,GR⟩),(104,⟨xT,xU,Kn⟩)] (fun _ _ _ _=>none) (fun _ _=>false) 100 15 VG VH
theorem zwg:Con.Ok Tryz.prog 15 ⟨VG,VH,zBH⟩:=zw (zd Yo (zd Vn (zd uj (zd ze9 (zd zb9 (zd zcb (zd zaE (zd KV zi)))))))) zo (by kernel_rfl)
def zqu:T (zq VG)→Option (T (zq VH)):=Vu [((nF,[(1,0,2,6,100,0,(200,16384),6000,[[0,2]])],0,()),(((200,16384),(131072,1016),2616,216),0,())),((nF,[(1,0,2,6,100,0,(200,16384),6000,[[0,2]])],1,()),(((0,0),(0,0),0,0),4,())),((nF,[(1,0,2,6,100,0,(200,131073),6000,[[0,2]])],0,()),(((0,0),(0,0),0,0),141,())),((nF,[(1,0,2,6,201,0,(300,16384),6000,[[0,2]])],0,()),(((0,0),(0,0),0,0),2,()))]
theorem zwh:Con.Ok Tryz.prog 15 ⟨VG,VH,zqu⟩:=XJ zwg (yx (by kernel_rfl) (yx (by kernel_rfl) (yx (by kernel_rfl) (yx (by kernel_rfl) KJ))))
def zjS:T (zq Zz)→Option (T (zq ZA)):=sF Tryz.prog [] (fun _ _ _ _=>none) (fun _ _=>false) 100 47 Zz ZA
theorem zpV:Con.Ok Tryz.prog 47 ⟨Zz,ZA,zjS⟩:=zw zi zo (by kernel_rfl)
def zhA:T (zq kB)→Option (T (zq kC)):=sF Tryz.prog [] (fun _ _ _ _=>none) (fun _ _=>false) 100 116 kB kC
theorem zmB:Con.Ok Tryz.prog 116 ⟨kB,kC,zhA⟩:=zw zi zo (by kernel_rfl)
def zhB:T (zq ZQ)→Option (T (zq ZR)):=sF Tryz.prog [(37,⟨ju,jv,JD⟩),(116,⟨kB,kC,zhA⟩)] (fun _ _ _ _=>none) (fun _ _=>false) 100 80 ZQ ZR
theorem zil:Con.Ok Tryz.prog 80 ⟨ZQ,ZR,zhB⟩:=zw (zd Qg (zd zmB zi)) zo (by kernel_rfl)
def zAS:T (zq Xk)→Option (T (zq Xl)):=sF Tryz.prog [(13,⟨jJ,jK,JR⟩),(72,⟨yO,yP,YD⟩),(47,⟨Zz,ZA,zjS⟩),(136,⟨qH,qI,xG⟩),(100,⟨QI,QJ,zfX⟩),(101,⟨vy,vz,zb8⟩),(102,⟨gh,gi,zca⟩),(103,⟨uW,uX,GR⟩),(104,⟨xT,xU,Kn⟩),(80,⟨ZQ,ZR,zhB⟩)] (fun _ _ _ _=>none) (fun _ _=>false) 100 17 Xk Xl
theorem zuo:Con.Ok Tryz.prog 17 ⟨Xk,Xl,zAS⟩:=zw (zd Yo (zd Vn (zd zpV (zd uj (zd ze9 (zd zb9 (zd zcb (zd zaE (zd KV (zd zil zi)))))))))) zo (by kernel_rfl)
def zov:T (zq Xk)→Option (T (zq Xl)):=Vu [((nF,[(1,0,2,6,100,0,(200,16384),6000,[[0,2]])],1,0,()),(5262,0,()))]
theorem zup:Con.Ok Tryz.prog 17 ⟨Xk,Xl,zov⟩:=XJ zuo (yx (by kernel_rfl) KJ)
def zyw:T (zq xC)→Option (T (zq xD)):=sF Tryz.prog [(13,⟨jJ,jK,JR⟩),(72,⟨yO,yP,YD⟩),(136,⟨qH,qI,xG⟩),(100,⟨QI,QJ,zfX⟩),(101,⟨vy,vz,zb8⟩),(102,⟨gh,gi,zca⟩),(103,⟨uW,uX,GR⟩),(104,⟨xT,xU,Kn⟩),(80,⟨ZQ,ZR,zhB⟩)] (fun _ _ _ _=>none) (fun _ _=>false) 100 20 xC xD
theorem zr9:Con.Ok Tryz.prog 20 ⟨xC,xD,zyw⟩:=zw (zd Yo (zd Vn (zd uj (zd ze9 (zd zb9 (zd zcb (zd zaE (zd KV (zd zil zi))))))))) zo (by kernel_rfl)
def zfc:T (zq xC)→Option (T (zq xD)):=Vu [((nF,[],()),(0,())),((nF,[(1,0,2,6,100,0,(200,16384),6000,[[0,2]])],()),(0,())),((nF,[(1,0,2,6,100,0,(200,16384),6000,[[0,2]]),(2,0,2,6,100,0,(200,16384),6000,[[0,2]])],()),(412,())),((nF,[(1,0,2,6,100,0,(7985,16384),1099511627776,[[0,2]])],()),(7,()))]
theorem zhC:Con.Ok Tryz.prog 20 ⟨xC,xD,zfc⟩:=XJ zr9 (yx (by kernel_rfl) (yx (by kernel_rfl) (yx (by kernel_rfl) (yx (by kernel_rfl) KJ))))
def zwi:T (zq vO)→Option (T (zq vP)):=sF Tryz.prog [(37,⟨ju,jv,JD⟩),(82,⟨vK,vL,zdq⟩)] (fun _ _ _ _=>none) (fun _ _=>false) 100 51 vO vP
theorem zpW:Con.Ok Tryz.prog 51 ⟨vO,vP,zwi⟩:=zw (zd Qg (zd zfu zi)) zo (by kernel_rfl)
def zjT:T (zq vO)→Option (T (zq vP)):=Vu [((nT,(1,0,2,6,100,0,(200,16384),6000,[[0,2]]),()),(0,())),((nT,(2,0,2,6,100,0,(200,16384),6000,[[0,2]]),()),(0,())),((nT,(1,0,2,6,100,0,(200,131073),6000,[[0,2]]),()),(0,())),((nT,(1,0,2,6,201,0,(300,16384),6000,[[0,2]]),()),(0,())),((nT,(1,0,2,6,100,0,(7985,16384),1099511627776,[[0,2]]),()),(0,()))]
theorem zpX:Con.Ok Tryz.prog 51 ⟨vO,vP,zjT⟩:=XJ zpW (yx (by kernel_rfl) (yx (by kernel_rfl) (yx (by kernel_rfl) (yx (by kernel_rfl) (yx (by kernel_rfl) KJ)))))
def zyx:T (zq vF)→Option (T (zq vG)):=sF Tryz.prog [(20,⟨xC,xD,zfc⟩),(51,⟨vO,vP,zjT⟩)] (fun _ _ _ _=>none) (fun _ _=>false) 100 22 vF vG
theorem zsa:Con.Ok Tryz.prog 22 ⟨vF,vG,zyx⟩:=zw (zd zhC (zd zpX zi)) zo (by kernel_rfl)
def zl0:T (zq vF)→Option (T (zq vG)):=Vu [((nF,[],(1,0,2,6,100,0,(200,16384),6000,[[0,2]]),()),([(1,0,2,6,100,0,(200,16384),6000,[[0,2]])],0,())),((nF,[(1,0,2,6,100,0,(200,16384),6000,[[0,2]])],(2,0,2,6,100,0,(200,16384),6000,[[0,2]]),()),([],412,()))]
theorem zsb:Con.Ok Tryz.prog 22 ⟨vF,vG,zl0⟩:=XJ zsa (yx (by kernel_rfl) (yx (by kernel_rfl) KJ))
def zow:T (zq ZS)→Option (T (zq ZT)):=sF Tryz.prog [] (fun _ _ _ _=>none) (fun _ _=>false) 100 24 ZS ZT
theorem zuq:Con.Ok Tryz.prog 24 ⟨ZS,ZT,zow⟩:=zw zi zo (by kernel_rfl)
def zl1:T (zq QB)→Option (T (zq QC)):=sF Tryz.prog [(28,⟨zdN,zdO,zqs⟩),(29,⟨Vk,Vl,zhs⟩),(15,⟨VG,VH,zqu⟩),(17,⟨Xk,Xl,zov⟩),(22,⟨vF,vG,zl0⟩),(24,⟨ZS,ZT,zow⟩),(20,⟨xC,xD,zfc⟩)] (fun _ _ _ _=>none) (fun _ _=>false) 100 19 QB QC
theorem zhD:Con.Ok Tryz.prog 19 ⟨QB,QC,zl1⟩:=zw (zd zwe (zd zmw (zd zwh (zd zup (zd zsb (zd zuq (zd zhC zi))))))) zo (by kernel_rfl)
theorem zEN:zl1 ()=some (true,()):=by kernel_rfl
theorem zEO:Con.Ok Tryz.prog 19 ⟨QB,QC,fun _=>some (true,())⟩:=⟨zhD.1,fun x r h=>zhD.2 x r (by cases x;rw [←h];exact zEN)⟩
def QD:(Unit)→Option (Bool×Unit):=fun _=>some (true,())
theorem zsc:Con.Ok Tryz.prog 19 ⟨QB,QC,QD⟩:=zEO
theorem zsd:QD ()=some (true,()):=rfl
abbrev GS:List VT:=[⟨true,qf⟩,⟨false,(.list zr)⟩]
abbrev GU:List VT:=[⟨false,I⟩]
def zwj:zT:=zO [cdF qf,cdF zr,cdF Yl,cdF zx,cdF zM,cdF zN,cdF qe] [] [] [] [45,46,50]
def zfd (XG:zbW) (xM:VL) (XH:zb6) (a0:qo) (a1:(List zA)):Option (Int×Unit):=
 opt (XG (a0,(a1,()))) fun x0=>
 bif !(zh x0.1 0) then some (x0.1,())
 else opt (zD (fun s1:((Int×(Int×Unit))×Unit)=>
   bif (zj s1.1.2.1 ((a0.2.2.1.length:Nat):Int)) then opt (xM (a0,(a1,(s1.1.2.1,())))) fun x2=>
    bif zh x2.2.1 4 then some (.inr ((s1.1.1,((wrF .i64 (s1.1.2.1+1)),())),()))
    else bif !(zh x2.2.1 0) then some (.inl (1,((x2.2.1,(s1.1.2.1,())),())))
     else bif zj a0.2.1.2.2.2 x2.1.2.2.2 then some (.inl (1,((7,(s1.1.2.1,())),())))
      else some (.inr ((s1.1.1,((wrF .i64 (s1.1.2.1+1)),())),()))
   else some (.inl (0,((s1.1.1,(s1.1.2.1,())),())))) zL ((0,(0,())),())) fun x3=>
  bif Nat.beq x3.1 0 then opt (zD (fun s4:((Int×(Int×Unit))×Unit)=>
    bif (zj s4.1.2.1 ((a1.length:Nat):Int)) then opt (zD (fun s5:((Int×(Int×Unit))×Unit)=>
      opt (atI a1 s4.1.2.1) fun x6=>
      bif (zj s5.1.2.1 ((x6.2.2.2.2.2.2.2.2.length:Nat):Int)) then opt (atI a1 s4.1.2.1) fun x7=>
       opt (atI x7.2.2.2.2.2.2.2.2 s5.1.2.1) fun x8=>
       opt (XH (a0,(a1,(x8,())))) fun x9=>
       bif !(zh x9.2.1 0) then some (.inl (1,((x9.2.1,(s5.1.2.1,())),())))
       else opt (atI a1 s4.1.2.1) fun x10=>
        bif zj x10.2.2.2.2.2.2.2.1 x9.1 then some (.inl (1,((412,(s5.1.2.1,())),())))
        else some (.inr ((s5.1.1,((wrF .i64 (s5.1.2.1+1)),())),()))
      else some (.inl (0,((s5.1.1,(s5.1.2.1,())),())))) zL ((s4.1.1,(0,())),())) fun x11=>
     bif Nat.beq x11.1 0 then some (.inr ((x11.2.1.1,((wrF .i64 (s4.1.2.1+1)),())),()))
     else some (.inl (1,((x11.2.1.1,(s4.1.2.1,())),())))
    else some (.inl (0,((s4.1.1,(s4.1.2.1,())),())))) zL ((x3.2.1.1,(0,())),())) fun x12=>
   bif Nat.beq x12.1 0 then some (0,())
   else some (x12.2.1.1,())
  else some (x3.2.1.1,())
abbrev Wx:Type:=(qo×(List zA)×Unit)→Option (Int×Unit)
def zl2:zbW→VL→zb6→Wx:=fun XG xM XH=>sF Tryz.prog [(45,⟨zg4,zg5,XG⟩),(46,⟨zdL,zdM,xM⟩),(50,⟨zhm,zhn,XH⟩)] zwj (zP []) 30 21 GS GU
theorem zyy (XG) (xM) (XH) (a0) (a1):zl2 XG xM XH (a0,a1,())=zfd XG xM XH a0 a1:=by kernel_rfl
def kf:Wx:=zl2 Xe ZL Xm
theorem zhE:Con.Ok Tryz.prog 21 ⟨GS,GU,kf⟩:=zw (zd ztV (zd zjK (zd zua zi))) zo (by kernel_rfl)
theorem zse (a0) (a1):kf (a0,a1,())=zfd Xe ZL Xm a0 a1:=zyy Xe ZL Xm a0 a1
abbrev zfe:List VT:=[⟨true,zx⟩,⟨true,zr⟩]
abbrev zff:List VT:=[⟨false,I⟩]
def zwk:zT:=zO [cdF zr,cdF zx,cdF zM,cdF zv] [] [] [] [40,83]
def zfg (qX:gT) (qV:gR) (a0:zK) (a1:zA):Option (Int×Unit):=
 opt (qX (a0,())) fun x0=>
 bif !x0.1 then some (260,())
 else opt (qV (a0,(a1,()))) fun x1=>
  bif !x1.1 then some (321,())
  else some (0,())
abbrev GV:Type:=(zK×zA×Unit)→Option (Int×Unit)
def zl3:gT→gR→GV:=fun qX qV=>sF Tryz.prog [(40,⟨Vy,Vz,qX⟩),(83,⟨Vv,Vw,qV⟩)] zwk (zP []) 30 52 zfe zff
theorem zyz (qX) (qV) (a0) (a1):zl3 qX qV (a0,a1,())=zfg qX qV a0 a1:=by kernel_rfl
def Wy:GV:=zl3 yS yQ
theorem zsf:Con.Ok Tryz.prog 52 ⟨zfe,zff,Wy⟩:=zw (zd zao (zd zaj zi)) zo (by kernel_rfl)
theorem zsg (a0) (a1):Wy (a0,a1,())=zfg yS yQ a0 a1:=zyz yS yQ a0 a1
abbrev GW:List VT:=[⟨true,qf⟩,⟨false,(.list zr)⟩,⟨true,zr⟩]
abbrev GX:List VT:=[⟨false,(.list zr)⟩,⟨false,I⟩]
def zwl:zT:=zO [cdF qf,cdF zr,cdF zx,cdF zM,cdF zN,cdF qe] [] [⟨2,35,some 6,zr,false⟩,⟨4,35,some 6,zr,false⟩,⟨8,35,some 6,zr,false⟩] [] [21,52]
def zfh (wU:Wx) (WL:GV) (a0:qo) (a1:(List zA)) (a2:zA):Option ((List zA)×Int×Unit):=
 opt (wU (a0,(a1,()))) fun x0=>
 opt (bif zh x0.1 0 then opt (WL (a0.1,(a2,()))) fun x1=>
   some (0,((x1.1,()),()))
  else some (0,((x0.1,()),()))) fun x2=>
 bif !(zh x2.2.1.1 0) then some ([],(x2.2.1.1,()))
 else bif qK 0 a1.length 96 then bif (qK a1.length ((a2::[]).length) 96) then opt (wU (a0,((a1++(a2::[])),()))) fun x3=>
    bif !(zh x3.1 0) then some ([],(x3.1,()))
    else some ((a1++(a2::[])),(0,()))
   else none
  else none
abbrev zfi:Type:=(qo×(List zA)×zA×Unit)→Option ((List zA)×Int×Unit)
def zl4:Wx→GV→zfi:=fun wU WL=>sF Tryz.prog [(21,⟨GS,GU,wU⟩),(52,⟨zfe,zff,WL⟩)] zwl (zP []) 30 23 GW GX
theorem zyA (wU) (WL) (a0) (a1) (a2):zl4 wU WL (a0,a1,a2,())=zfh wU WL a0 a1 a2:=by kernel_rfl
def kg:zfi:=zl4 kf Wy
theorem zsh:Con.Ok Tryz.prog 23 ⟨GW,GX,kg⟩:=zw (zd zhE (zd zsf zi)) zo (by kernel_rfl)
theorem zsi (a0) (a1) (a2):kg (a0,a1,a2,())=zfh kf Wy a0 a1 a2:=zyA kf Wy a0 a1 a2
abbrev Ko:List VT:=[⟨true,qf⟩,⟨false,(.list zr)⟩,⟨false,I⟩]
abbrev Kp:List VT:=[⟨false,(.list zr)⟩,⟨false,I⟩]
def zsj:zT:=zO [cdF qf,cdF zx,cdF zM,cdF zN,cdF qe] [] [⟨2,35,some 6,zr,true⟩,⟨5,35,some 6,zr,true⟩] [] [20,47]
def zcc (wT:Ww) (Jb:Ux) (a0:qo) (a1:(List zA)) (a2:Int):Option ((List zA)×Int×Unit):=
 opt (wT (a0,(a1,()))) fun x0=>
 bif !(zh x0.1 0) then some ([],(x0.1,()))
 else opt (Jb (a1,(a2,()))) fun x1=>
  bif !(zh x1.2.1 0) then some ([],(x1.2.1,()))
  else opt (QG a1 none (some x1.1) (some x1.1)) fun x2=>
   opt (QG a1 (some (wrF .i64 (x1.1+1))) none none) fun x3=>
   bif qK x2.length x3.length 96 then some ((x2++x3),(0,()))
   else none
abbrev zcd:Type:=(qo×(List zA)×Int×Unit)→Option ((List zA)×Int×Unit)
def zim:Ww→Ux→zcd:=fun wT Jb=>sF Tryz.prog [(20,⟨xC,xD,wT⟩),(47,⟨Zz,ZA,Jb⟩)] zsj (zP []) 30 25 Ko Kp
theorem zur (wT) (Jb) (a0) (a1) (a2):zim wT Jb (a0,a1,a2,())=zcc wT Jb a0 a1 a2:=by kernel_rfl
def xV:zcd:=zim ka kN
theorem zox:Con.Ok Tryz.prog 25 ⟨Ko,Kp,xV⟩:=zw (zd zhp (zd zpO zi)) zo (by kernel_rfl)
theorem zoy (a0) (a1) (a2):xV (a0,a1,a2,())=zcc ka kN a0 a1 a2:=zur ka kN a0 a1 a2
abbrev Kq:List VT:=[⟨true,qf⟩,⟨false,(.list zr)⟩,⟨false,I⟩]
abbrev Kr:List VT:=[⟨false,(.list zr)⟩,⟨false,I⟩]
def zsk:zT:=zO [cdF qf,cdF zx,cdF zM,cdF zN,cdF qe] [] [⟨2,35,some 6,zr,true⟩,⟨5,35,some 6,zr,true⟩] [] [21,49]
def zce (wU:Wx) (WM:GO) (a0:qo) (a1:(List zA)) (a2:Int):Option ((List zA)×Int×Unit):=
 opt (wU (a0,(a1,()))) fun x0=>
 bif !(zh x0.1 0) then some ([],(x0.1,()))
 else opt (WM (a1,(a2,()))) fun x1=>
  bif !(zh x1.2.1 0) then some ([],(x1.2.1,()))
  else opt (QG a1 none (some x1.1) none) fun x2=>
   bif qK 0 x2.length 96 then opt (QG a1 (some (wrF .i64 (x1.1+1))) none none) fun x3=>
    bif qK x2.length x3.length 96 then some ((x2++x3),(0,()))
    else none
   else none
abbrev zcf:Type:=(qo×(List zA)×Int×Unit)→Option ((List zA)×Int×Unit)
def zin:Wx→GO→zcf:=fun wU WM=>sF Tryz.prog [(21,⟨GS,GU,wU⟩),(49,⟨ze0,ze1,WM⟩)] zsk (zP []) 30 26 Kq Kr
theorem zus (wU) (WM) (a0) (a1) (a2):zin wU WM (a0,a1,a2,())=zce wU WM a0 a1 a2:=by kernel_rfl
def xW:zcf:=zin kf gV
theorem zoz:Con.Ok Tryz.prog 26 ⟨Kq,Kr,xW⟩:=zw (zd zhE (zd zrX zi)) zo (by kernel_rfl)
theorem zoA (a0) (a1) (a2):xW (a0,a1,a2,())=zce kf gV a0 a1 a2:=zus kf gV a0 a1 a2
abbrev Yd:List VT:=[⟨true,yX⟩,⟨true,kX⟩,⟨false,(.list (.int .u8))⟩]
abbrev KW:List VT:=[⟨false,.bool⟩]
def zcL:zT:=zO [⟨(.pair qf qf),Ji (.pair qf qf),[]⟩,cdF yX,⟨(.pair (.list zr) (.list zr)),Ji (.pair (.list zr) (.list zr)),[]⟩,cdF kX,cdF qf,cdF zr,cdF we,cdF vf,cdF zx,cdF zM,⟨(.pair (.int .u8) (.pair (.int .u8) (.int .u8))),Ji (.pair (.int .u8) (.pair (.int .u8) (.int .u8))),[]⟩,cdF zN,cdF ZX,cdF qe] [] [⟨4,132,some 13,zr,false⟩,⟨8,132,some 13,zr,false⟩,⟨11,132,some 13,zr,false⟩,⟨15,132,some 13,zr,false⟩,⟨17,132,some 13,zr,false⟩,⟨19,132,some 13,zr,false⟩,⟨22,132,some 13,zr,false⟩,⟨24,132,some 13,zr,false⟩] [] [24,19]
def KY (YE:UG) (Qk:YU) (Kt:zbF) (QE:ze7) (QF:zfi) (vC:zhr) (gz:zcd) (gC:zcf) (zaa:(Unit)→Option (Bool×Unit)) (a0:jU) (a1:xN) (a2:(List Int)):Option (Bool×Unit):=
 opt (YE (a0,())) fun x0=>
 opt (Qk (a0,())) fun x1=>
 opt (Kt (a1,(x0.1,(x1.1,())))) fun x2=>
 opt (zD (fun s3:((Bool×(Int×Unit))×Unit)=>
  bif zj s3.1.2.1 2 then bif zh s3.1.2.1 0 then opt (zD (fun s4:((((Int×((List Bool)×(List (Int×(Int×(Int×Int))))))×((Int×(Int×(Int×Int)))×((List ((List (Int×Int))×Int))×Int)))×(Bool×((List (Int×(Int×(Int×(Int×(Int×(Int×((Int×Int)×(Int×(List (List Int)))))))))))×(Int×Unit))))×Unit)=>
     bif zj s4.1.2.2.2.1 2 then bif zh s4.1.2.2.2.1 0 then opt (zD (fun s5:((((Int×((List Bool)×(List (Int×(Int×(Int×Int))))))×((Int×(Int×(Int×Int)))×((List ((List (Int×Int))×Int))×Int)))×(Bool×((List (Int×(Int×(Int×(Int×(Int×(Int×((Int×Int)×(Int×(List (List Int)))))))))))×(Int×Unit))))×Unit)=>
        bif (zj s5.1.2.2.2.1 ((x1.1.length:Nat):Int)) then opt (atI x1.1 s5.1.2.2.2.1) fun x6=>
         opt (QE (s5.1.1,(s5.1.2.2.1,(x6,())))) fun x7=>
         opt (atI x1.1 s5.1.2.2.2.1) fun x8=>
         opt (QF (s5.1.1,(s5.1.2.2.1,(x8,())))) fun x9=>
         opt (bif !(zh x7.2.1 x9.2.1) then some (1,((false,()),()))
          else opt (vC (x7.1,(x9.1,()))) fun x10=>
           bif !x10.1 then some (1,((false,()),()))
           else some (0,((s5.1.2.1,()),()))) fun x11=>
         bif Nat.beq x11.1 0 then opt (bif zh x9.2.1 0 then some (0,((x9.1,()),()))
           else some (0,((s5.1.2.2.1,()),()))) fun x12=>
          opt (bif (zj s5.1.2.2.2.1 ((a2.length:Nat):Int)) then opt (atI a2 s5.1.2.2.2.1) fun x13=>
            opt (gz (s5.1.1,(x12.2.1.1,((wrF .i64 (Int.tmod x13 7)),())))) fun x14=>
            opt (atI a2 s5.1.2.2.2.1) fun x15=>
            opt (gC (s5.1.1,(x12.2.1.1,((wrF .i64 (Int.tmod x15 7)),())))) fun x16=>
            opt (bif !(zh x14.2.1 x16.2.1) then some (1,((false,()),()))
             else opt (vC (x14.1,(x16.1,()))) fun x17=>
              bif !x17.1 then some (1,((false,()),()))
              else some (0,((x11.2.1.1,()),()))) fun x18=>
            bif Nat.beq x18.1 0 then opt (bif zh x16.2.1 0 then opt (atI a2 s5.1.2.2.2.1) fun x19=>
               bif zj 128 x19 then some (0,((x16.1,()),()))
               else some (0,((x12.2.1.1,()),()))
              else some (0,((x12.2.1.1,()),()))) fun x20=>
             some (0,((s5.1.1,(x14.1,(x14.2.1,(x16.1,(x16.2.1,(x18.2.1.1,(x20.2.1.1,()))))))),()))
            else some (1,((s5.1.1,(x14.1,(x14.2.1,(x16.1,(x16.2.1,(x18.2.1.1,(x12.2.1.1,()))))))),()))
           else some (0,((s5.1.1,(x7.1,(x7.2.1,(x9.1,(x9.2.1,(x11.2.1.1,(x12.2.1.1,()))))))),()))) fun x21=>
          bif Nat.beq x21.1 0 then some (.inr ((x21.2.1.1,(x21.2.1.2.2.2.2.2.1,(x21.2.1.2.2.2.2.2.2.1,((wrF .i64 (s5.1.2.2.2.1+1)),())))),()))
          else some (.inl (1,((x21.2.1.1,(x21.2.1.2.2.2.2.2.1,(x21.2.1.2.2.2.2.2.2.1,(s5.1.2.2.2.1,())))),())))
         else some (.inl (1,((s5.1.1,(x11.2.1.1,(s5.1.2.2.1,(s5.1.2.2.2.1,())))),())))
        else some (.inl (0,((s5.1.1,(s5.1.2.1,(s5.1.2.2.1,(s5.1.2.2.2.1,())))),())))) zL ((s4.1.1,(s4.1.2.1,(s4.1.2.2.1,(0,())))),())) fun x22=>
       bif Nat.beq x22.1 0 then some (.inr ((x22.2.1.1,(x22.2.1.2.1,(x22.2.1.2.2.1,((wrF .i64 (s4.1.2.2.2.1+1)),())))),()))
       else some (.inl (1,((x22.2.1.1,(x22.2.1.2.1,(x22.2.1.2.2.1,(s4.1.2.2.2.1,())))),())))
      else bif zh s4.1.2.2.2.1 1 then opt (zD (fun s23:((((Int×((List Bool)×(List (Int×(Int×(Int×Int))))))×((Int×(Int×(Int×Int)))×((List ((List (Int×Int))×Int))×Int)))×(Bool×((List (Int×(Int×(Int×(Int×(Int×(Int×((Int×Int)×(Int×(List (List Int)))))))))))×(Int×Unit))))×Unit)=>
         bif (zj s23.1.2.2.2.1 ((x2.2.1.length:Nat):Int)) then opt (atI x2.2.1 s23.1.2.2.2.1) fun x24=>
          opt (QE (s23.1.1,(s23.1.2.2.1,(x24,())))) fun x25=>
          opt (atI x2.2.1 s23.1.2.2.2.1) fun x26=>
          opt (QF (s23.1.1,(s23.1.2.2.1,(x26,())))) fun x27=>
          opt (bif !(zh x25.2.1 x27.2.1) then some (1,((false,()),()))
           else opt (vC (x25.1,(x27.1,()))) fun x28=>
            bif !x28.1 then some (1,((false,()),()))
            else some (0,((s23.1.2.1,()),()))) fun x29=>
          bif Nat.beq x29.1 0 then opt (bif zh x27.2.1 0 then some (0,((x27.1,()),()))
            else some (0,((s23.1.2.2.1,()),()))) fun x30=>
           opt (bif (zj s23.1.2.2.2.1 ((a2.length:Nat):Int)) then opt (atI a2 s23.1.2.2.2.1) fun x31=>
             opt (gz (s23.1.1,(x30.2.1.1,((wrF .i64 (Int.tmod x31 7)),())))) fun x32=>
             opt (atI a2 s23.1.2.2.2.1) fun x33=>
             opt (gC (s23.1.1,(x30.2.1.1,((wrF .i64 (Int.tmod x33 7)),())))) fun x34=>
             opt (bif !(zh x32.2.1 x34.2.1) then some (1,((false,()),()))
              else opt (vC (x32.1,(x34.1,()))) fun x35=>
               bif !x35.1 then some (1,((false,()),()))
               else some (0,((x29.2.1.1,()),()))) fun x36=>
             bif Nat.beq x36.1 0 then opt (bif zh x34.2.1 0 then opt (atI a2 s23.1.2.2.2.1) fun x37=>
                bif zj 128 x37 then some (0,((x34.1,()),()))
                else some (0,((x30.2.1.1,()),()))
               else some (0,((x30.2.1.1,()),()))) fun x38=>
              some (0,((s23.1.1,(x32.1,(x32.2.1,(x34.1,(x34.2.1,(x36.2.1.1,(x38.2.1.1,()))))))),()))
             else some (1,((s23.1.1,(x32.1,(x32.2.1,(x34.1,(x34.2.1,(x36.2.1.1,(x30.2.1.1,()))))))),()))
            else some (0,((s23.1.1,(x25.1,(x25.2.1,(x27.1,(x27.2.1,(x29.2.1.1,(x30.2.1.1,()))))))),()))) fun x39=>
           bif Nat.beq x39.1 0 then some (.inr ((x39.2.1.1,(x39.2.1.2.2.2.2.2.1,(x39.2.1.2.2.2.2.2.2.1,((wrF .i64 (s23.1.2.2.2.1+1)),())))),()))
           else some (.inl (1,((x39.2.1.1,(x39.2.1.2.2.2.2.2.1,(x39.2.1.2.2.2.2.2.2.1,(s23.1.2.2.2.1,())))),())))
          else some (.inl (1,((s23.1.1,(x29.2.1.1,(s23.1.2.2.1,(s23.1.2.2.2.1,())))),())))
         else some (.inl (0,((s23.1.1,(s23.1.2.1,(s23.1.2.2.1,(s23.1.2.2.2.1,())))),())))) zL ((s4.1.1,(s4.1.2.1,(s4.1.2.2.1,(0,())))),())) fun x40=>
        bif Nat.beq x40.1 0 then some (.inr ((x40.2.1.1,(x40.2.1.2.1,(x40.2.1.2.2.1,((wrF .i64 (s4.1.2.2.2.1+1)),())))),()))
        else some (.inl (1,((x40.2.1.1,(x40.2.1.2.1,(x40.2.1.2.2.1,(s4.1.2.2.2.1,())))),())))
       else none
     else some (.inl (0,((s4.1.1,(s4.1.2.1,(s4.1.2.2.1,(s4.1.2.2.2.1,())))),())))) zL ((x0.1,(s3.1.1,([],(0,())))),())) fun x41=>
    bif Nat.beq x41.1 0 then some (.inr ((x41.2.1.2.1,((wrF .i64 (s3.1.2.1+1)),())),()))
    else some (.inl (1,((x41.2.1.2.1,(s3.1.2.1,())),())))
   else bif zh s3.1.2.1 1 then opt (zD (fun s42:((((Int×((List Bool)×(List (Int×(Int×(Int×Int))))))×((Int×(Int×(Int×Int)))×((List ((List (Int×Int))×Int))×Int)))×(Bool×((List (Int×(Int×(Int×(Int×(Int×(Int×((Int×Int)×(Int×(List (List Int)))))))))))×(Int×Unit))))×Unit)=>
      bif zj s42.1.2.2.2.1 2 then bif zh s42.1.2.2.2.1 0 then opt (zD (fun s43:((((Int×((List Bool)×(List (Int×(Int×(Int×Int))))))×((Int×(Int×(Int×Int)))×((List ((List (Int×Int))×Int))×Int)))×(Bool×((List (Int×(Int×(Int×(Int×(Int×(Int×((Int×Int)×(Int×(List (List Int)))))))))))×(Int×Unit))))×Unit)=>
         bif (zj s43.1.2.2.2.1 ((x1.1.length:Nat):Int)) then opt (atI x1.1 s43.1.2.2.2.1) fun x44=>
          opt (QE (s43.1.1,(s43.1.2.2.1,(x44,())))) fun x45=>
          opt (atI x1.1 s43.1.2.2.2.1) fun x46=>
          opt (QF (s43.1.1,(s43.1.2.2.1,(x46,())))) fun x47=>
          opt (bif !(zh x45.2.1 x47.2.1) then some (1,((false,()),()))
           else opt (vC (x45.1,(x47.1,()))) fun x48=>
            bif !x48.1 then some (1,((false,()),()))
            else some (0,((s43.1.2.1,()),()))) fun x49=>
          bif Nat.beq x49.1 0 then opt (bif zh x47.2.1 0 then some (0,((x47.1,()),()))
            else some (0,((s43.1.2.2.1,()),()))) fun x50=>
           opt (bif (zj s43.1.2.2.2.1 ((a2.length:Nat):Int)) then opt (atI a2 s43.1.2.2.2.1) fun x51=>
             opt (gz (s43.1.1,(x50.2.1.1,((wrF .i64 (Int.tmod x51 7)),())))) fun x52=>
             opt (atI a2 s43.1.2.2.2.1) fun x53=>
             opt (gC (s43.1.1,(x50.2.1.1,((wrF .i64 (Int.tmod x53 7)),())))) fun x54=>
             opt (bif !(zh x52.2.1 x54.2.1) then some (1,((false,()),()))
              else opt (vC (x52.1,(x54.1,()))) fun x55=>
               bif !x55.1 then some (1,((false,()),()))
               else some (0,((x49.2.1.1,()),()))) fun x56=>
             bif Nat.beq x56.1 0 then opt (bif zh x54.2.1 0 then opt (atI a2 s43.1.2.2.2.1) fun x57=>
                bif zj 128 x57 then some (0,((x54.1,()),()))
                else some (0,((x50.2.1.1,()),()))
               else some (0,((x50.2.1.1,()),()))) fun x58=>
              some (0,((s43.1.1,(x52.1,(x52.2.1,(x54.1,(x54.2.1,(x56.2.1.1,(x58.2.1.1,()))))))),()))
             else some (1,((s43.1.1,(x52.1,(x52.2.1,(x54.1,(x54.2.1,(x56.2.1.1,(x50.2.1.1,()))))))),()))
            else some (0,((s43.1.1,(x45.1,(x45.2.1,(x47.1,(x47.2.1,(x49.2.1.1,(x50.2.1.1,()))))))),()))) fun x59=>
           bif Nat.beq x59.1 0 then some (.inr ((x59.2.1.1,(x59.2.1.2.2.2.2.2.1,(x59.2.1.2.2.2.2.2.2.1,((wrF .i64 (s43.1.2.2.2.1+1)),())))),()))
           else some (.inl (1,((x59.2.1.1,(x59.2.1.2.2.2.2.2.1,(x59.2.1.2.2.2.2.2.2.1,(s43.1.2.2.2.1,())))),())))
          else some (.inl (1,((s43.1.1,(x49.2.1.1,(s43.1.2.2.1,(s43.1.2.2.2.1,())))),())))
         else some (.inl (0,((s43.1.1,(s43.1.2.1,(s43.1.2.2.1,(s43.1.2.2.2.1,())))),())))) zL ((s42.1.1,(s42.1.2.1,(s42.1.2.2.1,(0,())))),())) fun x60=>
        bif Nat.beq x60.1 0 then some (.inr ((x60.2.1.1,(x60.2.1.2.1,(x60.2.1.2.2.1,((wrF .i64 (s42.1.2.2.2.1+1)),())))),()))
        else some (.inl (1,((x60.2.1.1,(x60.2.1.2.1,(x60.2.1.2.2.1,(s42.1.2.2.2.1,())))),())))
       else bif zh s42.1.2.2.2.1 1 then opt (zD (fun s61:((((Int×((List Bool)×(List (Int×(Int×(Int×Int))))))×((Int×(Int×(Int×Int)))×((List ((List (Int×Int))×Int))×Int)))×(Bool×((List (Int×(Int×(Int×(Int×(Int×(Int×((Int×Int)×(Int×(List (List Int)))))))))))×(Int×Unit))))×Unit)=>
          bif (zj s61.1.2.2.2.1 ((x2.2.1.length:Nat):Int)) then opt (atI x2.2.1 s61.1.2.2.2.1) fun x62=>
           opt (QE (s61.1.1,(s61.1.2.2.1,(x62,())))) fun x63=>
           opt (atI x2.2.1 s61.1.2.2.2.1) fun x64=>
           opt (QF (s61.1.1,(s61.1.2.2.1,(x64,())))) fun x65=>
           opt (bif !(zh x63.2.1 x65.2.1) then some (1,((false,()),()))
            else opt (vC (x63.1,(x65.1,()))) fun x66=>
             bif !x66.1 then some (1,((false,()),()))
             else some (0,((s61.1.2.1,()),()))) fun x67=>
           bif Nat.beq x67.1 0 then opt (bif zh x65.2.1 0 then some (0,((x65.1,()),()))
             else some (0,((s61.1.2.2.1,()),()))) fun x68=>
            opt (bif (zj s61.1.2.2.2.1 ((a2.length:Nat):Int)) then opt (atI a2 s61.1.2.2.2.1) fun x69=>
              opt (gz (s61.1.1,(x68.2.1.1,((wrF .i64 (Int.tmod x69 7)),())))) fun x70=>
              opt (atI a2 s61.1.2.2.2.1) fun x71=>
              opt (gC (s61.1.1,(x68.2.1.1,((wrF .i64 (Int.tmod x71 7)),())))) fun x72=>
              opt (bif !(zh x70.2.1 x72.2.1) then some (1,((false,()),()))
               else opt (vC (x70.1,(x72.1,()))) fun x73=>
                bif !x73.1 then some (1,((false,()),()))
                else some (0,((x67.2.1.1,()),()))) fun x74=>
              bif Nat.beq x74.1 0 then opt (bif zh x72.2.1 0 then opt (atI a2 s61.1.2.2.2.1) fun x75=>
                 bif zj 128 x75 then some (0,((x72.1,()),()))
                 else some (0,((x68.2.1.1,()),()))
                else some (0,((x68.2.1.1,()),()))) fun x76=>
               some (0,((s61.1.1,(x70.1,(x70.2.1,(x72.1,(x72.2.1,(x74.2.1.1,(x76.2.1.1,()))))))),()))
              else some (1,((s61.1.1,(x70.1,(x70.2.1,(x72.1,(x72.2.1,(x74.2.1.1,(x68.2.1.1,()))))))),()))
             else some (0,((s61.1.1,(x63.1,(x63.2.1,(x65.1,(x65.2.1,(x67.2.1.1,(x68.2.1.1,()))))))),()))) fun x77=>
            bif Nat.beq x77.1 0 then some (.inr ((x77.2.1.1,(x77.2.1.2.2.2.2.2.1,(x77.2.1.2.2.2.2.2.2.1,((wrF .i64 (s61.1.2.2.2.1+1)),())))),()))
            else some (.inl (1,((x77.2.1.1,(x77.2.1.2.2.2.2.2.1,(x77.2.1.2.2.2.2.2.2.1,(s61.1.2.2.2.1,())))),())))
           else some (.inl (1,((s61.1.1,(x67.2.1.1,(s61.1.2.2.1,(s61.1.2.2.2.1,())))),())))
          else some (.inl (0,((s61.1.1,(s61.1.2.1,(s61.1.2.2.1,(s61.1.2.2.2.1,())))),())))) zL ((s42.1.1,(s42.1.2.1,(s42.1.2.2.1,(0,())))),())) fun x78=>
         bif Nat.beq x78.1 0 then some (.inr ((x78.2.1.1,(x78.2.1.2.1,(x78.2.1.2.2.1,((wrF .i64 (s42.1.2.2.2.1+1)),())))),()))
         else some (.inl (1,((x78.2.1.1,(x78.2.1.2.1,(x78.2.1.2.2.1,(s42.1.2.2.2.1,())))),())))
        else none
      else some (.inl (0,((s42.1.1,(s42.1.2.1,(s42.1.2.2.1,(s42.1.2.2.2.1,())))),())))) zL ((x2.1,(s3.1.1,([],(0,())))),())) fun x79=>
     bif Nat.beq x79.1 0 then some (.inr ((x79.2.1.2.1,((wrF .i64 (s3.1.2.1+1)),())),()))
     else some (.inl (1,((x79.2.1.2.1,(s3.1.2.1,())),())))
    else none
  else some (.inl (0,((s3.1.1,(s3.1.2.1,())),())))) zL ((false,(0,())),())) fun x80=>
 bif Nat.beq x80.1 0 then opt (zaa ()) fun x81=>
  some (x81.1,())
 else some (x80.2.1.1,())
theorem zoB (YE:(jU×Unit)→Option (qo×Unit)) (Qk:(jU×Unit)→Option ((List zA)×Unit)) (Kt:(xN×qo×(List zA)×Unit)→Option (qo×(List zA)×Unit)) (QE:(qo×(List zA)×zA×Unit)→Option ((List zA)×Int×Unit)) (QF:(qo×(List zA)×zA×Unit)→Option ((List zA)×Int×Unit)) (vC:((List zA)×(List zA)×Unit)→Option (Bool×Unit)) (gz:(qo×(List zA)×Int×Unit)→Option ((List zA)×Int×Unit)) (gC:(qo×(List zA)×Int×Unit)→Option ((List zA)×Int×Unit)) (zaa:(Unit)→Option (Bool×Unit)) (a0:jU) (a1:xN) (a2:(List Int)):sF Tryz.prog [(10,⟨Yt,Yu,YE⟩),(11,⟨Qb,Qc,Qk⟩),(12,⟨Kg,Kh,Kt⟩),(22,⟨vF,vG,QE⟩),(23,⟨GW,GX,QF⟩),(24,⟨ZS,ZT,vC⟩),(25,⟨Ko,Kp,gz⟩),(26,⟨Kq,Kr,gC⟩),(19,⟨QB,QC,zaa⟩)] zcL (zP []) 30 6 Yd KW (a0,a1,a2,())=KY YE Qk Kt QE QF vC gz gC zaa a0 a1 a2:=by kernel_rfl
def Ye:(jU×xN×(List Int)×Unit)→Option (Bool×Unit):=sF Tryz.prog [(10,⟨Yt,Yu,vT⟩),(11,⟨Qb,Qc,yY⟩),(12,⟨Kg,Kh,kZ⟩),(22,⟨vF,vG,ke⟩),(23,⟨GW,GX,kg⟩),(24,⟨ZS,ZT,xE⟩),(25,⟨Ko,Kp,xV⟩),(26,⟨Kq,Kr,xW⟩),(19,⟨QB,QC,QD⟩)] zcL (zP []) 30 6 Yd KW
theorem zjU:Con.Ok Tryz.prog 6 ⟨Yd,KW,Ye⟩:=zw (zd zkK (zd zgH (zd znL (zd zr2 (zd zsh (zd zud (zd zox (zd zoz (zd zsc zi))))))))) zo (by kernel_rfl)
theorem zjV (a0:jU) (a1:xN) (a2:(List Int)):Ye (a0,a1,a2,())=KY vT yY kZ ke kg xE xV xW QD a0 a1 a2:=zoB vT yY kZ ke kg xE xV xW QD a0 a1 a2
abbrev ya:=Int×Int×Int×Int
abbrev qk:=Int×List Bool×List ya
def jf (t:qk) (n:Int):Prop:=0≤n∧n < t.1
def stn (t:qk) (n:Int):Bool:=(t.2.1[n.toNat]?).getD false
def zdr (t:qk) (l:ya):Prop:=jf t l.1∧jf t l.2.1∧l.1≠l.2.1∧¬(stn t l.1=true∧stn t l.2.1=true)∧1≤l.2.2.1∧l.2.2.1≤1000∧0≤l.2.2.2∧l.2.2.2≤10000
def kh (o:ya) (a b:Int):Prop:=(o.1=a∧o.2.1=b)∨(o.1=b∧o.2.1=a)
structure szP (t:qk):Prop where
 n0:2≤t.1
 n1:t.1≤12
 st:(t.2.1.length:Int)=t.1
 ls:t.2.2.length≤24
def zdP (t:qk):Prop:=∀(i:Nat) l,t.2.2[i]?=some l→zdr t l∧∀(k:Nat) o,k < i→t.2.2[k]?=some o→¬kh o l.1 l.2.1
def one (a:Int) (n:Nat):Int:=if a=(n:Int) then 1 else 0
def cnt (ls:List ya) (n:Nat):Int:=(ls.map fun l=>one l.1 n+one l.2.1 n).sum
def stp (r:List Bool) (l:ya):List Bool:=bif (r[l.1.toNat]?).getD false||(r[l.2.1.toNat]?).getD false then (r.set l.1.toNat true).set l.2.1.toNat true else r
def UO (ls:List ya):Nat→List Bool→List Bool
 |0,r=>r
 |n+1,r=>UO ls n (ls.foldl stp r)
def reachS (t:qk) (a:Nat):List Bool:=UO t.2.2 t.1.toNat ((List.replicate t.1.toNat false).set a true)
structure jz (t:qk):Prop where
 sz:szP t
 ls:zdP t
 re:∀(n:Nat),(n:Int) < t.1→(reachS t 0)[n]?=some true
 ct:∀(n:Nat),(n:Int) < t.1→stn t n=true→1≤cnt t.2.2 n∧cnt t.2.2 n≤2
theorem zEP {t:qk} {n:Nat} {b:Bool} (h:t.2.1[n]?=some b):stn t n=b:=by unfold stn;simp [h]
theorem zjW {t:qk} {n:Int} {b:Bool} (h:t.2.1[n.toNat]?=some b):stn t n=b:=by unfold stn;simp [h]
theorem zwm (t:qk) (n:Int):YQ (t,n,())=some (tv (jf t n),()):=by
 rw [ztf];unfold zgu jf
 refine jV ?_
 refine zk (fun h=>?_) (fun h=>?_)<;>refine za ?_<;>simp only [xl] at *<;>grind
theorem zl5 (t:qk) (n:Int):VF (t,n,())=some (tv (jf t n),()):=by
 rw [zvz];unfold ziI jf
 refine jV ?_
 refine zk (fun h=>?_) (fun h=>?_)<;>refine za ?_<;>simp only [xl] at *<;>grind
theorem zcg (l:ya) (a b:Int):xw (l,a,b,())=some (tv (kh l a b),()):=by
 rw [zq5];unfold zem kh
 refine jV ?_
 repeat' first | refine zk (fun h=>?_) (fun h=>?_) | refine za ?_
 all_goals simp only [jF] at *
 all_goals grind
theorem jf.lt {t:qk} {n:Int} (h:jf t n) (hs:szP t):n.toNat < t.2.1.length:=by
 have:=hs.st;have:=h.1;have:=h.2;omega
theorem jf.lt' {t:qk} {n:Int} (h:jf t n) (hs:szP t):n < (t.2.1.length:Int):=by
 have:=hs.st;have:=h.1;have:=h.2;omega
theorem zjX {t:qk} (hs:szP t) (l:ya):uE (t,l,())=some (tv (zdr t l),()):=by
 rw [ztg];unfold zgv
 simp only [zwm,zz]
 refine jV (zm (J:=fun x=>(x.1=0∧jf t l.1∧jf t l.2.1∧l.1≠l.2.1∧¬(stn t l.1=true∧stn t l.2.1=true))∨(x.1=1∧x.2.1.1=false∧¬(jf t l.1∧jf t l.2.1∧l.1≠l.2.1∧¬(stn t l.1=true∧stn t l.2.1=true)))) ?_ ?_)
 ·refine zk (fun h=>?_) (fun h=>?_)
  ·have:¬jf t l.1:=by intro hn;rw [zQ hn] at h;cases h
   exact za (.inr ⟨rfl,rfl,by grind⟩)
  have h1:jf t l.1:=yW h
  refine zk (fun h=>?_) (fun h=>?_)
  ·have:¬jf t l.2.1:=by intro hn;rw [zQ hn] at h;cases h
   exact za (.inr ⟨rfl,rfl,by grind⟩)
  have h2:jf t l.2.1:=yW h
  refine zk (fun h=>?_) (fun h=>?_)
  ·have:=qR h
   exact za (.inr ⟨rfl,rfl,by grind⟩)
  have h3:=jk h
  refine zg (qD h1.1 (h1.lt' hs) fun x hx=>?_)
  have e1:=zjW hx
  refine zk (fun h=>?_) (fun h=>?_)
  ·refine zg (qD h2.1 (h2.lt' hs) fun y hy=>?_)
   have e2:=zjW hy
   refine zk (fun h=>?_) (fun h=>?_)
   ·exact za (.inr ⟨rfl,rfl,by grind⟩)
   ·exact za (.inl ⟨rfl,by grind⟩)
  ·exact za (.inl ⟨rfl,by grind⟩)
 ·rintro ⟨j,⟨v,⟨⟩⟩,⟨⟩⟩ (⟨rfl,hp⟩ | ⟨rfl,rfl,hp⟩)
  ·rw [show (Nat.beq 0 0)=true from rfl,cond_true]
   unfold zdr
   repeat' first | refine zk (fun h=>?_) (fun h=>?_) | refine za ?_
   all_goals simp only [xl] at *
   all_goals grind
  ·rw [show (Nat.beq 1 0)=false from rfl,cond_false]
   unfold zdr
   exact za (by grind)
theorem zch {l:List Int} (hn:l.length≤1000000000000000000) (x:Int):yN (l,x,())=some (tv (x∈l),()):=by
 rw [zxD];unfold zkN
 refine jV (zm (J:=fun r=>(r.1=0∧¬x∈l)∨(r.1=1∧r.2.1.1=true∧x∈l)) (qE l.length (fun i=>l[i]?≠some x) hn ?_ ?_) ?_)
 ·intro i hi hp
  have hx:l[i]?=some l[i]:=List.getElem?_eq_getElem hi
  refine ze (zR (show (i:Int) < _ by omega)) (zg (zy (n:=i) hx (zk (fun h=>?_) (fun h=>?_))))
  ·have:=qR h
   exact za (zp (.inr ⟨rfl,rfl,by rw [←this];exact List.getElem_mem hi⟩))
  ·have:=jk h
   exact za (jo (by omega) (by grind))
 ·intro hp
  refine zf (zF (show ¬(l.length:Int) < _ by omega)) (za (zp (.inl ⟨rfl,fun hm=>?_⟩)))
  obtain ⟨k,hk⟩:=List.getElem?_of_mem hm
  exact hp k (by grind) hk
 ·rintro ⟨j,⟨v,w,⟨⟩⟩,⟨⟩⟩ (⟨rfl,hp⟩ | ⟨rfl,rfl,hp⟩)
  ·exact za (by simp [hp])
  ·exact za (by simp [hp])
theorem zHG (r:List Bool) (l:ya):(stp r l).length=r.length:=by
 unfold stp
 cases (r[l.1.toNat]?).getD false||(r[l.2.1.toNat]?).getD false<;>simp
theorem zhF (ls:List ya):∀r:List Bool,(ls.foldl stp r).length=r.length:=by
 induction ls with
 |nil=>intro r;rfl
 |cons l ls ih=>intro r;rw [List.foldl_cons,ih,zHG]
theorem zhG (ls:List ya):∀(n:Nat) (r:List Bool),(UO ls n r).length=r.length
 |0,r=>rfl
 |n+1,r=>by rw [UO,zhG ls n,zhF]
theorem zoC (ls:List ya):∀(n:Nat) (r:List Bool),UO ls (n+1) r=ls.foldl stp (UO ls n r)
 |0,r=>rfl
 |n+1,r=>by rw [UO,zoC ls n,UO]
theorem zut {t:qk} (hs:szP t) (hl:∀(i:Nat) l,t.2.2[i]?=some l→jf t l.1∧jf t l.2.1) {a:Nat} (ha:(a:Int) < t.1):Wg (t,(a:Int),[],())=some (reachS t a,()):=by
 have h0:=hs.n0;have h1:=hs.n1;have h3:=hs.ls;have h4:=hs.st
 have e1:t.1.toNat=t.2.1.length:=by omega
 rw [zrj];unfold zez
 simp only [zch (l:=[]) (by simp),zz]
 refine wG ?_
 refine ze (by unfold ziA;rw [zF (by omega),zF (by omega),zF (by omega)];rfl) ?_
 refine zg (qD (by omega) (by simp;omega) fun _ _=>zg (jx (by simp;omega) fun _ _=>?_))
 refine zm (J:=fun x=>x.2.2.1=reachS t a) (zU t.1.toNat (fun i s=>s=(((i:Int),()),(UO t.2.2 i ((List.replicate t.1.toNat false).set a true),()))) (by omega) rfl ?_ ?_) ?_
 ·rintro i _ hi rfl
  refine ze (zR (show (i:Int) < _ by omega)) ?_
  generalize hr:UO t.2.2 i ((List.replicate t.1.toNat false).set a true)=r
  have hrl:r.length=t.1.toNat:=by rw [←hr,zhG];simp
  refine zm (J:=fun x=>x.2.2.1=t.2.2.foldl stp r) (zU t.2.2.length (fun i s=>s=(((i:Int),()),((t.2.2.take i).foldl stp r,()))) (by omega) rfl ?_ ?_) ?_
  ·rintro k _ hk rfl
   refine ze (zR (show (k:Int) < _ by omega)) ?_
   have hx:t.2.2[k]?=some t.2.2[k]:=List.getElem?_eq_getElem hk
   obtain ⟨⟨a0,a1⟩,⟨b0,b1⟩⟩:=hl k _ hx
   have hnx:(t.2.2.take (k+1)).foldl stp r=stp ((t.2.2.take k).foldl stp r) t.2.2[k]:=by
    rw [List.take_add_one,hx,List.foldl_append];rfl
   have hlen:((t.2.2.take k).foldl stp r).length=t.1.toNat:=by rw [zhF,hrl]
   generalize (t.2.2.take k).foldl stp r=q at hnx hlen
   refine zg (zy (n:=k) hx ?_)
   refine zm (J:=fun x=>x.2.2.1=stp q t.2.2[k]) ?_ ?_
   ·refine ze (by rw [zX (by simp)];rfl) ?_
    refine zg (qD a0 (by show _ < ((q.length:Nat):Int);omega) fun x hx=>zg (jx (by show _ < q.length;omega) fun x' hx'=>?_))
    have ex:x'=x:=Option.some.inj (hx'.symm.trans hx)
    subst ex
    refine zk (fun h=>?_) (fun h=>?_)
    ·subst h
     refine zg (qD a0 (by show _ < ((q.length:Nat):Int);omega) fun _ _=>zg (jx (by show _ < q.length;omega) fun _ _=>?_))
     refine zg (qD b0 (by show _ < (((q.set _ _).length:Nat):Int);simp;omega) fun _ _=>zg (jx (by show _ < (q.set _ _).length;simp;omega) fun _ _=>?_))
     refine za ?_
     show _=stp q _
     unfold stp
     simp only at hx'
     rw [hx'];rfl
    ·subst h
     refine zg (qD b0 (by show _ < ((q.length:Nat):Int);omega) fun y hy=>zg (jx (by show _ < q.length;omega) fun y' hy'=>?_))
     have ey:y'=y:=Option.some.inj (hy'.symm.trans hy)
     subst ey
     refine zk (fun h=>?_) (fun h=>?_)
     ·subst h
      refine zg (qD a0 (by show _ < ((q.length:Nat):Int);omega) fun _ _=>zg (jx (by show _ < q.length;omega) fun _ _=>?_))
      refine zg (qD b0 (by show _ < (((q.set _ _).length:Nat):Int);simp;omega) fun _ _=>zg (jx (by show _ < (q.set _ _).length;simp;omega) fun _ _=>?_))
      refine za ?_
      show _=stp q _
      unfold stp
      simp only at hx' hy'
      rw [hx',hy'];rfl
     ·subst h
      refine za ?_
      show q=stp q _
      unfold stp
      simp only at hx' hy'
      rw [hx',hy'];rfl
   ·rintro ⟨j,⟨⟩,q',⟨⟩⟩ hq
    refine za (qg ?_)
    simp only at hq
    rw [hnx,←hq]
    exact congrArg (fun z=>(((z,()),(q',())):(Int×Unit)×(List Bool×Unit))) (qj (by omega))
  ·rintro _ rfl
   refine zf (zF (show ¬(t.2.2.length:Int) < _ by omega)) (za (zp ?_))
   simp
  ·rintro ⟨j,⟨z,⟨⟩⟩,q',⟨⟩⟩ hq
   refine za (qg ?_)
   simp only at hq
   rw [zoC,hr,←hq]
   exact congrArg (fun z=>(((z,()),(q',())):(Int×Unit)×(List Bool×Unit))) (qj (by omega))
 ·rintro _ rfl
  exact zf (zF (show ¬((t.1.toNat:Nat):Int) < _ by omega)) (za (zp rfl))
 ·rintro ⟨j,⟨z,⟨⟩⟩,q',⟨⟩⟩ hq
  exact za hq
def xZ (t:qk) (i:Nat):List Int:=(List.range t.1.toNat).map (cnt (t.2.2.take i))
theorem zEQ (a:Int) (n:Nat):0≤one a n∧one a n≤1:=by unfold one;split<;>omega
theorem zER (ls:List ya) (n:Nat):0≤cnt ls n∧cnt ls n≤2*ls.length:=by
 unfold cnt
 induction ls with
 |nil=>simp
 |cons l ls ih=>
  have:=zEQ l.1 n;have:=zEQ l.2.1 n
  simp only [List.map_cons,List.sum_cons,List.length_cons]
  omega
theorem zAT {ls:List ya} {i:Nat} {l:ya} (h:ls[i]?=some l) (n:Nat):cnt (ls.take (i+1)) n=cnt (ls.take i) n+(one l.1 n+one l.2.1 n):=by
 unfold cnt
 rw [List.take_add_one,h];simp
theorem Yp (t:qk) (i:Nat):(xZ t i).length=t.1.toNat:=by simp [xZ]
theorem zds {t:qk} {i n:Nat} (h:n < t.1.toNat):(xZ t i)[n]?=some (cnt (t.2.2.take i) n):=by simp [xZ,h]
theorem zxe {t:qk} {i:Nat} {l:ya} (h:t.2.2[i]?=some l) (hl:t.2.2.length≤24) (ha:jf t l.1) (hb:jf t l.2.1) (hab:l.1≠l.2.1) {u v:Int}
  (hu:(xZ t i)[l.1.toNat]?=some u) (hv:((xZ t i).set l.1.toNat (wrF .i64 (u+1)))[l.2.1.toNat]?=some v) :
  ((xZ t i).set l.1.toNat (wrF .i64 (u+1))).set l.2.1.toNat (wrF .i64 (v+1))=xZ t (i+1):=by
 obtain ⟨a0,a1⟩:=ha;obtain ⟨b0,b1⟩:=hb
 have hne:l.1.toNat≠l.2.1.toNat:=by omega
 rw [zds (by omega)] at hu
 rw [List.getElem?_set_ne hne,zds (by omega)] at hv
 have hu:=Option.some.inj hu;have hv:=Option.some.inj hv
 have k1:=zER (t.2.2.take i) l.1.toNat;have k2:=zER (t.2.2.take i) l.2.1.toNat
 have k3:(t.2.2.take i).length≤24:=by simp;omega
 rw [zH (by omega) (by omega),zH (by omega) (by omega)]
 apply List.ext_getElem?
 intro n
 by_cases hn:n < t.1.toNat
 ·rw [zds hn,zAT h,List.getElem?_set,List.getElem?_set,zds hn]
  unfold one
  simp only [List.length_set,Yp]
  grind
 ·rw [List.getElem?_eq_none (by simp [Yp];omega),List.getElem?_eq_none (by simp [Yp];omega)]
theorem zES (t:qk):List.replicate t.1.toNat (0:Int)=xZ t 0:=by
 apply List.ext_getElem?
 intro n
 by_cases hn:n < t.1.toNat
 ·rw [zds hn];simp [hn,cnt]
 ·rw [List.getElem?_eq_none (by simp;omega),List.getElem?_eq_none (by simp [Yp];omega)]
theorem zAU (t:qk) {n:Nat} (h:n < t.1.toNat):(xZ t t.2.2.length)[n]?=some (cnt t.2.2 n):=by rw [zds h,List.take_length]
theorem zdr.nodes {t:qk} {l:ya} (h:zdr t l):jf t l.1∧jf t l.2.1:=⟨h.1,h.2.1⟩
theorem zqv {t:qk} (h:¬szP t):¬jz t:=fun h'=>h h'.sz
theorem zqw {t:qk} (h:¬zdP t):¬jz t:=fun h'=>h h'.ls
theorem zci (t:qk):yS (t,())=some (tv (jz t),()):=by
 rw [zrk];unfold zeA
 refine jV (zm (J:=fun x=>(x.1=0∧x.2.1.1=false∧szP t)∨(x.1=1∧x.2.1.1=false∧¬szP t)) ?_ ?_)
 ·refine zk (fun h=>za (.inr ⟨rfl,rfl,fun hs=>?_⟩)) (fun h1=>zk (fun h=>za (.inr ⟨rfl,rfl,fun hs=>?_⟩)) (fun h2=>zk (fun h=>za (.inr ⟨rfl,rfl,fun hs=>?_⟩)) (fun h3=>zk (fun h=>za (.inr ⟨rfl,rfl,fun hs=>?_⟩)) (fun h4=>za (.inl ⟨rfl,rfl,?_⟩)))))
  ·have:=qt h;have:=hs.n0;omega
  ·have:=qt h;have:=hs.n1;omega
  ·have:=hs.st;rw [uq this] at h;cases h
  ·have:=qt h;have:=hs.ls;omega
  ·have h1:=qB h1;have h2:=qB h2;have h4:=qB h4
   have h3:=qR (by simpa using h3)
   exact ⟨h1,h2,h3,by omega⟩
 rintro ⟨j,⟨v,⟨⟩⟩,⟨⟩⟩ (⟨rfl,rfl,hs⟩ | ⟨rfl,rfl,hs⟩)
 rotate_left
 ·exact zf rfl (za ⟨fun h=>(by cases h),fun h=>absurd h (zqv hs)⟩)
 have n0:=hs.n0;have n1:=hs.n1;have h3:=hs.ls;have h4:=hs.st
 refine ze rfl (ze (zpi (by omega) (by omega) (by omega)) ?_)
 refine zm (J:=fun x=>(x.1=0∧x.2.1.1=false∧x.2.2.1=xZ t t.2.2.length∧zdP t)∨(x.1=1∧x.2.1.1=false∧¬zdP t))
  (zU t.2.2.length (fun i s=>s=((false,((i:Int),())),(xZ t i,()))∧∀(k:Nat),k < i→∀l,t.2.2[k]?=some l→zdr t l∧∀(k':Nat) o,k' < k→t.2.2[k']?=some o→¬kh o l.1 l.2.1) (by omega) ⟨by rw [zES];rfl,fun k hk=>by omega⟩ ?_ ?_) ?_
 ·rintro i _ hi ⟨rfl,hp⟩
  have hx:t.2.2[i]?=some t.2.2[i]:=List.getElem?_eq_getElem hi
  refine ze (zR (show (i:Int) < _ by omega)) (zg (zy (n:=i) hx ?_))
  rw [zjX hs]
  generalize hgl:t.2.2[i]=l at hx
  refine zk (fun h=>?_) (fun h=>?_)
  ·have hn:=ye h
   exact za (zp (.inr ⟨rfl,rfl,fun hq=>hn (hq i l hx).1⟩))
  have hl:=yW h
  refine zm (J:=fun x=>(x.1=0∧x.2.1.1=false∧∀(k':Nat) o,k' < i→t.2.2[k']?=some o→¬kh o l.1 l.2.1)∨(x.1=1∧x.2.1.1=false∧∃(k':Nat) (o:ya),k' < i∧t.2.2[k']?=some o∧kh o l.1 l.2.1))
   (qE i (fun k=>∀o,t.2.2[k]?=some o→¬kh o l.1 l.2.1) (by omega) ?_ ?_) ?_
  ·intro k hk hpk
   have hy:t.2.2[k]?=some t.2.2[k]:=List.getElem?_eq_getElem (by omega)
   refine ze (zR (show (k:Int) < (i:Int) by omega)) (zg (zy (n:=k) hy ?_))
   rw [zcg]
   refine zk (fun h=>?_) (fun h=>?_)
   ·exact za (zp (.inr ⟨rfl,rfl,k,_,hk,hy,ZH h⟩))
   ·exact za (jo (by omega) fun o ho=>by rw [hy] at ho;cases ho;exact Zf h)
  ·intro hpk
   exact zf (zF (show ¬(i:Int) < (i:Int) by omega)) (za (zp (.inl ⟨rfl,rfl,fun k' o hk'=>hpk k' hk' o⟩)))
  ·rintro ⟨j,⟨v,w,⟨⟩⟩,⟨⟩⟩ (⟨rfl,rfl,hpk⟩ | ⟨rfl,rfl,k',o,hk',ho,hj⟩)
   ·refine ze rfl ?_
    obtain ⟨⟨a0,a1⟩,⟨b0,b1⟩⟩:=hl.nodes
    have lc:=Yp t i
    refine zg (qD a0 (by show _ < (((xZ t i).length:Nat):Int);omega) fun _ _=>zg (jx (by show _ < (xZ t i).length;omega) fun u hu=>zg (qD a0 (by show _ < (((xZ t i).length:Nat):Int);omega) fun _ _=>zg (jx (by show _ < (xZ t i).length;omega) fun _ _=>?_))))
    refine zg (qD b0 (by show _ < ((((xZ t i).set _ _).length:Nat):Int);simp;omega) fun _ _=>zg (jx (by show _ < ((xZ t i).set _ _).length;simp;omega) fun w hw=>zg (qD b0 (by show _ < ((((xZ t i).set _ _).length:Nat):Int);simp;omega) fun _ _=>zg (jx (by show _ < ((xZ t i).set _ _).length;simp;omega) fun _ _=>?_))))
    refine za (qg ⟨?_,?_⟩)
    ·have e:=zxe hx hs.ls hl.1 hl.2.1 hl.2.2.1 hu hw
     show ((false,(wrF .i64 ((i:Int)+1),())),((((xZ t i).set l.1.toNat (wrF .i64 (u+1))).set l.2.1.toNat (wrF .i64 (w+1))),()))=_
     rw [e,qj (by omega)]
    ·intro k hk l' hl'
     rcases Nat.lt_or_ge k i with hki | hki
     ·exact hp k hki l' hl'
     ·have:k=i:=by omega
      subst this
      rw [hx] at hl';cases hl'
      exact ⟨hl,fun k' o hk'=>hpk k' o hk'⟩
   ·exact zf rfl (za (zp (.inr ⟨rfl,rfl,fun hq=>(hq i l hx).2 k' o hk' ho hj⟩)))
 ·rintro _ ⟨rfl,hp⟩
  exact zf (zF (show ¬(t.2.2.length:Int) < _ by omega)) (za (zp (.inl ⟨rfl,rfl,rfl,fun i l hl=>hp i (by grind) l hl⟩)))
 rintro ⟨j,⟨v,w,⟨⟩⟩,c,⟨⟩⟩ (⟨rfl,rfl,rfl,hls⟩ | ⟨rfl,rfl,hls⟩)
 rotate_left
 ·exact zf rfl (za ⟨fun h=>(by cases h),fun h=>absurd h (zqw hls)⟩)
 refine ze rfl ?_
 have hre:=zut (a:=0) hs (fun i l hl=>(hls i l hl).1.nodes) (by omega)
 simp only [Int.natCast_zero] at hre
 rw [hre,zz]
 have hrl:(reachS t 0).length=t.1.toNat:=by unfold reachS;rw [zhG];simp
 refine zm (J:=fun x=>(x.1=0∧jz t)∨(x.1=1∧x.2.1.1=false∧¬jz t)) (qE t.1.toNat (fun n=>(reachS t 0)[n]?=some true∧(stn t n=true→1≤cnt t.2.2 n∧cnt t.2.2 n≤2)) (by omega) ?_ ?_) ?_
 ·intro n hn hp
  refine ze (zR (show (n:Int) < _ by omega)) ?_
  have hr:(reachS t 0)[n]?=some (reachS t 0)[n]:=List.getElem?_eq_getElem (by omega)
  have hst:t.2.1[n]?=some t.2.1[n]:=List.getElem?_eq_getElem (by omega)
  have e1:=zEP hst
  have e2:=zAU t hn
  refine zm (J:=fun x=>(x.1=0∧x.2.1.1=false∧(reachS t 0)[n]?=some true∧(stn t n=true→1≤cnt t.2.2 n∧cnt t.2.2 n≤2))∨(x.1=1∧x.2.1.1=false∧¬jz t)) ?_ ?_
  ·refine zg (zy (n:=n) hr ?_)
   refine zk (fun h=>?_) (fun h=>?_)
   ·exact za (.inr ⟨rfl,rfl,fun ht=>by have:=ht.re n (by omega);grind⟩)
   refine zg (zy (n:=n) hst (zk (fun h5=>?_) (fun h5=>?_)))
   ·refine zg (zy (n:=n) e2 (zg (jx (by show n < _;rw [Yp];exact hn) fun u hu=>?_)))
    have hu:u=cnt t.2.2 n:=by have hu:(xZ t t.2.2.length)[n]?=some u:=hu;rw [e2] at hu;exact (Option.some.inj hu).symm
    subst hu
    refine zk (fun h6=>?_) (fun h6=>?_)
    ·have:=qt h6
     exact za (.inr ⟨rfl,rfl,fun ht=>by have:=ht.ct n (by omega) (by grind);omega⟩)
    refine zg (zy (n:=n) e2 (zg (jx (by show n < _;rw [Yp];exact hn) fun u hu=>?_)))
    have hu:u=cnt t.2.2 n:=by have hu:(xZ t t.2.2.length)[n]?=some u:=hu;rw [e2] at hu;exact (Option.some.inj hu).symm
    subst hu
    refine zk (fun h7=>?_) (fun h7=>?_)
    ·have:=qt h7
     exact za (.inr ⟨rfl,rfl,fun ht=>by have:=ht.ct n (by omega) (by grind);omega⟩)
    ·have:=qB h6;have:=qB h7
     exact za (.inl ⟨rfl,rfl,by grind,fun _=>⟨by omega,by omega⟩⟩)
   ·exact za (.inl ⟨rfl,rfl,by grind,fun hc=>by grind⟩)
  ·rintro ⟨j,⟨v,⟨⟩⟩,⟨⟩⟩ (⟨rfl,rfl,hq⟩ | ⟨rfl,rfl,hq⟩)
   ·exact ze rfl (za (jo (by omega) hq))
   ·exact zf rfl (za (zp (.inr ⟨rfl,rfl,hq⟩)))
 ·intro hp
  exact zf (zF (show ¬((t.1.toNat:Nat):Int) < _ by omega)) (za (zp (.inl ⟨rfl,⟨hs,hls,fun n hn=>(hp n (by omega)).1,fun n hn=>(hp n (by omega)).2⟩⟩)))
 ·rintro ⟨j,⟨v,w,⟨⟩⟩,⟨⟩⟩ (⟨rfl,hq⟩ | ⟨rfl,rfl,hq⟩)
  ·exact ze rfl (za ⟨fun _=>hq,fun _=>rfl⟩)
  ·exact zf rfl (za ⟨fun h=>(by cases h),fun h=>absurd h hq⟩)
def chk (t:qk) (i:Nat) (l:ya) (c:Nat):Prop:=match c with
 |0=>jf t l.1∧jf t l.2.1∧l.1≠l.2.1
 |1=>¬(stn t l.1=true∧stn t l.2.1=true)
 |2=>∀(k:Nat) o,k < i→t.2.2[k]?=some o→¬kh o l.1 l.2.1
 |_=>1≤l.2.2.1∧l.2.2.1≤1000∧0≤l.2.2.2∧l.2.2.2≤10000
theorem zwn {t:qk} (hs:szP t):YV (t,())=some (tv (zdP t),()):=by
 have n0:=hs.n0;have n1:=hs.n1;have h3:=hs.ls;have h4:=hs.st
 rw [ztu];unfold zgJ
 refine jV (zm (J:=fun x=>(x.1=0∧zdP t)∨(x.1=1∧x.2.1.1=false∧¬zdP t))
  (qE t.2.2.length (fun i=>∀l,t.2.2[i]?=some l→zdr t l∧∀(k:Nat) o,k < i→t.2.2[k]?=some o→¬kh o l.1 l.2.1) (by omega) ?_ ?_) ?_)
 ·intro i hi hp
  have hx:t.2.2[i]?=some t.2.2[i]:=List.getElem?_eq_getElem hi
  generalize hgl:t.2.2[i]=l at hx
  refine ze (zR (show (i:Int) < (t.2.2.length:Int) by omega)) ?_
  refine zm (J:=fun x=>(x.1=0∧x.2.1.1=false∧∀c,c < 4→chk t i l c)∨(x.1=1∧x.2.1.1=false∧∃c,¬chk t i l c)) (qE 4 (chk t i l) (by omega) ?_ ?_) ?_
  ·intro c hc hpc
   refine ze (zR (show (c:Int) < 4 by omega)) ?_
   have:c=0∨c=1∨c=2∨c=3:=by omega
   rcases this with rfl | rfl | rfl | rfl
   ·refine ze (uq rfl) (zg (zy (n:=i) hx ?_))
    rw [zl5]
    refine zk (fun h1=>?_) (fun h1=>?_)
    ·rw [zl5]
     refine zk (fun h2=>?_) (fun h2=>?_)
     ·refine zk (fun h=>?_) (fun h=>?_)
      ·have:=qR (show zh l.1 l.2.1=true by simpa using h)
       exact za (zp (.inr ⟨rfl,rfl,0,fun hq=>hq.2.2 this⟩))
      ·have:=jk (show zh l.1 l.2.1=false by simpa using h)
       exact za (jo (by omega) ⟨ZH h1,ZH h2,this⟩)
     ·exact za (zp (.inr ⟨rfl,rfl,0,fun hq=>Zf h2 hq.2.1⟩))
    ·exact za (zp (.inr ⟨rfl,rfl,0,fun hq=>Zf h1 hq.1⟩))
   ·obtain ⟨⟨a0,a1⟩,⟨b0,b1⟩,hab⟩:=hpc 0 (by omega)
    refine zf rfl (ze (uq rfl) (zg (zy (n:=i) hx ?_)))
    refine zg (qD a0 (by show l.1 < _;omega) fun x hx1=>?_)
    have e1:=zjW hx1
    refine zk (fun h1=>?_) (fun h1=>?_)
    ·exact za (jo (by omega) (by show ¬_;grind))
    ·refine zg (qD b0 (by show l.2.1 < _;omega) fun y hy1=>?_)
     have e2:=zjW hy1
     refine zk (fun h2=>?_) (fun h2=>?_)
     ·exact za (zp (.inr ⟨rfl,rfl,1,fun hq=>hq (by grind)⟩))
     ·exact za (jo (by omega) (by show ¬_;grind))
   ·refine zf rfl (zf rfl (ze (uq rfl) (zg (zy (n:=i) hx ?_))))
    refine zg (qn (zph t.2.2 i (by omega)) ?_)
    have lt:(t.2.2.take i).length=i:=by simp;omega
    refine zm (J:=fun x=>(x.1=0∧∀(k:Nat) o,k < i→t.2.2[k]?=some o→¬kh o l.1 l.2.1)∨(x.1=1∧x.2.1.1=false∧∃(k:Nat) (o:ya),k < i∧t.2.2[k]?=some o∧kh o l.1 l.2.1))
     (qE i (fun k=>∀o,t.2.2[k]?=some o→¬kh o l.1 l.2.1) (by omega) ?_ ?_) ?_
    ·intro k hk hpk
     have hy:t.2.2[k]?=some t.2.2[k]:=List.getElem?_eq_getElem (by omega)
     have hy':(t.2.2.take i)[k]?=some t.2.2[k]:=by rw [List.getElem?_take];simp [hk,hy]
     generalize hgo:t.2.2[k]=o at hy hy'
     refine ze (zR (show (k:Int) < (((t.2.2.take i).length:Nat):Int) by omega)) (zg (zy (n:=k) hy' ?_))
     refine zm (J:=fun x=>(x.1=0∧x.2.1.1=false∧¬kh o l.1 l.2.1)∨(x.1=1∧x.2.1.1=false∧kh o l.1 l.2.1)) ?_ ?_
     ·unfold kh
      repeat' first | refine zk (fun h=>?_) (fun h=>?_) | refine za ?_
      all_goals simp only [jF] at *
      all_goals grind
     ·rintro ⟨j,⟨v,⟨⟩⟩,⟨⟩⟩ (⟨rfl,rfl,hq⟩ | ⟨rfl,rfl,hq⟩)
      ·exact ze rfl (za (jo (by omega) fun o' ho=>by rw [hy] at ho;cases ho;exact hq))
      ·exact zf rfl (za (zp (.inr ⟨rfl,rfl,k,o,hk,hy,hq⟩)))
    ·intro hpk
     exact zf (zF (show ¬(i:Int) < (((t.2.2.take i).length:Nat):Int) by omega)) (za (zp (.inl ⟨rfl,fun k' o hk'=>hpk k' hk' o⟩)))
    ·rintro ⟨j,⟨v,w,⟨⟩⟩,⟨⟩⟩ (⟨rfl,hq⟩ | ⟨rfl,rfl,k,o,hk,ho,hj⟩)
     ·exact ze rfl (za (jo (by omega) hq))
     ·exact zf rfl (ze rfl (za (zp (.inr ⟨rfl,rfl,2,fun hq=>hq k o hk ho hj⟩))))
   ·refine zf rfl (zf rfl (zf rfl (ze (uq rfl) (zg (zy (n:=i) hx ?_)))))
    refine zk (fun h1=>?_) (fun h1=>?_)
    ·refine zk (fun h2=>?_) (fun h2=>?_)
     ·refine zk (fun h3=>?_) (fun h3=>?_)
      ·refine zk (fun h4=>?_) (fun h4=>?_)
       ·have:=qt (show zj 10000 l.2.2.2=true by simpa using h4)
        exact za (zp (.inr ⟨rfl,rfl,3,fun hq=>by have:=hq.2.2.2;omega⟩))
       ·have:=qB (show zj l.2.2.1 1=false by simpa using h1)
        have:=qB (show zj 1000 l.2.2.1=false by simpa using h2)
        have:=qB (show zj l.2.2.2 0=false by simpa using h3)
        have:=qB (show zj 10000 l.2.2.2=false by simpa using h4)
        exact za (jo (by omega) ⟨by omega,by omega,by omega,by omega⟩)
      ·have:=qt (show zj l.2.2.2 0=true by simpa using h3)
       exact za (zp (.inr ⟨rfl,rfl,3,fun hq=>by have:=hq.2.2.1;omega⟩))
     ·have:=qt (show zj 1000 l.2.2.1=true by simpa using h2)
      exact za (zp (.inr ⟨rfl,rfl,3,fun hq=>by have:=hq.2.1;omega⟩))
    ·have:=qt (show zj l.2.2.1 1=true by simpa using h1)
     exact za (zp (.inr ⟨rfl,rfl,3,fun hq=>by have:=hq.1;omega⟩))
  ·intro hpc
   exact zf (zF (show ¬((4:Nat):Int) < 4 by omega)) (za (zp (.inl ⟨rfl,rfl,hpc⟩)))
  ·rintro ⟨j,⟨v,w,⟨⟩⟩,⟨⟩⟩ (⟨rfl,rfl,hq⟩ | ⟨rfl,rfl,c,hq⟩)
   ·obtain ⟨c0,c0',c0''⟩:=hq 0 (by omega)
    have c1:=hq 1 (by omega);have c2:=hq 2 (by omega)
    obtain ⟨d1,d2,d3,d4⟩:=hq 3 (by omega)
    exact ze rfl (za (jo (by omega) fun l' hl'=>by rw [hx] at hl';cases hl';exact ⟨⟨c0,c0',c0'',c1,d1,d2,d3,d4⟩,c2⟩))
   ·refine zf rfl (za (zp (.inr ⟨rfl,rfl,fun ht=>hq ?_⟩)))
    obtain ⟨⟨c0,c0',c0'',c1,d1,d2,d3,d4⟩,c2⟩:=ht i l hx
    unfold chk
    split
    ·exact ⟨c0,c0',c0''⟩
    ·exact c1
    ·exact c2
    ·exact ⟨d1,d2,d3,d4⟩
 ·intro hp
  exact zf (zF (show ¬(t.2.2.length:Int) < (t.2.2.length:Int) by omega)) (za (zp (.inl ⟨rfl,fun i l hl=>hp i (by grind) l hl⟩)))
 ·rintro ⟨j,⟨v,w,⟨⟩⟩,⟨⟩⟩ (⟨rfl,hq⟩ | ⟨rfl,rfl,hq⟩)
  ·exact ze rfl (za ⟨fun _=>hq,fun _=>rfl⟩)
  ·exact zf rfl (za ⟨fun h=>(by cases h),fun h=>absurd h hq⟩)
abbrev zIL:Bool×Bool×Bool×Bool×Bool×Bool×Bool×Bool×Bool×Bool×Bool×Bool×Bool×Bool×Bool×Bool×Bool×Bool×Bool×Bool×Bool×Bool×Bool×Bool:=(false,(false,(false,(false,(false,(false,(false,(false,(false,(false,(false,(false,(false,(false,(false,(false,(false,(false,(false,(false,(false,(false,(false,false)))))))))))))))))))))))
noncomputable def zG0 (q:List Bool) (x4:ya):Option (Nat×(Unit×(List Bool×Unit))):=opt (atI q x4.1) fun x5=>
 opt (gl q (Int.toNat x4.1)) fun x6=>
 opt (atI q x4.2.1) fun x7=>
 opt (gl q (Int.toNat x4.2.1)) fun x8=>
 bif (!(x6 == x8)) then opt (atI q x4.1) fun x9=>
  opt (gl q (Int.toNat x4.1)) fun x10=>
  opt (atI (q.set (Int.toNat x4.1) true) x4.2.1) fun x11=>
  opt (gl (q.set (Int.toNat x4.1) true) (Int.toNat x4.2.1)) fun x12=>
  some (0,((),(((q.set (Int.toNat x4.1) true).set (Int.toNat x4.2.1) true),())))
 else some (0,((),(q,())))
theorem zHH {q:List Bool} {l:ya} {n:Nat} (hq:q.length=n) (a0:0≤l.1) (a1:l.1 < n) (b0:0≤l.2.1) (b1:l.2.1 < n):qu (zG0 q l) fun x=>x.2.2.1=stp q l:=by
 unfold zG0
 refine zg (qD a0 (by omega) fun _ _=>zg (jx (by omega) fun x hx=>zg (qD b0 (by omega) fun _ _=>zg (jx (by omega) fun y hy=>?_))))
 refine zk (fun h=>?_) (fun h=>?_)
 ·refine zg (qD a0 (by omega) fun _ _=>zg (jx (by omega) fun _ _=>?_))
  refine zg (qD b0 (by simp;omega) fun _ _=>zg (jx (by simp;omega) fun _ _=>?_))
  refine za ?_
  show _=stp q l
  unfold stp
  rw [hx,hy]
  cases x<;>cases y<;>simp at h ⊢
 ·refine za ?_
  show q=stp q l
  unfold stp
  rw [hx,hy]
  cases x<;>cases y<;>simp at h ⊢
  apply List.ext_getElem?
  intro k
  simp only [List.getElem?_set]
  grind
theorem zwo {t:qk} (hs:szP t) (hl:∀(i:Nat) l,t.2.2[i]?=some l→jf t l.1∧jf t l.2.1):Jp (t,0,zIL,())=some (reachS t 0,()):=by
 have h0:=hs.n0;have h1:=hs.n1;have h3:=hs.ls;have h4:=hs.st
 have e1:t.1.toNat=t.2.1.length:=by omega
 rw [ztw];unfold zgK
 refine wG ?_
 refine ze (zpi (by omega) (by omega) (by omega)) ?_
 refine zg (qD (by omega) (by simp;omega) fun _ _=>zg (jx (by simp;omega) fun _ _=>?_))
 refine zm (J:=fun x=>x.2.2.1=reachS t 0) (zU t.1.toNat (fun i s=>s=(((i:Int),()),(UO t.2.2 i ((List.replicate t.1.toNat false).set 0 true),()))) (by omega) rfl ?_ ?_) ?_
 ·rintro i _ hi rfl
  refine ze (zR (show (i:Int) < _ by omega)) ?_
  generalize hr:UO t.2.2 i ((List.replicate t.1.toNat false).set 0 true)=r
  have hrl:r.length=t.1.toNat:=by rw [←hr,zhG];simp
  refine zm (J:=fun x=>x.2.2.1=t.2.2.foldl stp r) (zU t.2.2.length (fun i s=>s=(((i:Int),()),((t.2.2.take i).foldl stp r,()))) (by omega) rfl ?_ ?_) ?_
  ·rintro k _ hk rfl
   refine ze (zR (show (k:Int) < _ by omega)) ?_
   have hx:t.2.2[k]?=some t.2.2[k]:=List.getElem?_eq_getElem hk
   obtain ⟨⟨a0,a1⟩,⟨b0,b1⟩⟩:=hl k _ hx
   have hnx:(t.2.2.take (k+1)).foldl stp r=stp ((t.2.2.take k).foldl stp r) t.2.2[k]:=by
    rw [List.take_add_one,hx,List.foldl_append];rfl
   have hlen:((t.2.2.take k).foldl stp r).length=t.1.toNat:=by rw [zhF,hrl]
   generalize (t.2.2.take k).foldl stp r=q at hnx hlen
   generalize t.2.2[k]=l at hx hnx a0 a1 b0 b1
   refine zg (zy (n:=k) hx ?_)
   have key:=zHH hlen a0 (show l.1 < (t.1.toNat:Nat) by omega) b0 (show l.2.1 < (t.1.toNat:Nat) by omega)
   refine zm (J:=fun x=>x.2.2.1=stp q l) ?_ ?_
   ·rcases (by omega:k=0∨k=1∨k=2∨k=3∨k=4∨k=5∨k=6∨k=7∨k=8∨k=9∨k=10∨k=11∨k=12∨k=13∨k=14∨k=15∨k=16∨k=17∨k=18∨k=19∨k=20∨k=21∨k=22∨k=23) with rfl | rfl | rfl | rfl | rfl | rfl | rfl | rfl | rfl | rfl | rfl | rfl | rfl | rfl | rfl | rfl | rfl | rfl | rfl | rfl | rfl | rfl | rfl | rfl
    all_goals exact key
   ·rintro ⟨j,⟨⟩,q',⟨⟩⟩ hq
    refine za (qg ?_)
    simp only at hq
    rw [hnx,←hq]
    exact congrArg (fun z=>(((z,()),(q',())):(Int×Unit)×(List Bool×Unit))) (qj (by omega))
  ·rintro _ rfl
   refine zf (zF (show ¬(t.2.2.length:Int) < _ by omega)) (za (zp ?_))
   simp
  ·rintro ⟨j,⟨z,⟨⟩⟩,q',⟨⟩⟩ hq
   refine za (qg ?_)
   simp only at hq
   rw [zoC,hr,←hq]
   exact congrArg (fun z=>(((z,()),(q',())):(Int×Unit)×(List Bool×Unit))) (qj (by omega))
 ·rintro _ rfl
  exact zf (zF (show ¬((t.1.toNat:Nat):Int) < _ by omega)) (za (zp rfl))
 ·rintro ⟨j,⟨z,⟨⟩⟩,q',⟨⟩⟩ hq
  exact za hq
theorem zdt {l:List Bool} (hn:l.length≤1000000000000000000) (b:Bool):qu (yj (l,b,())) fun r=>(0≤r.1∧b∈l)∨(r.1 = -1∧¬b∈l):=by
 rw [zcu];unfold Qp
 refine zm (J:=fun x=>(x.1=0∧¬b∈l)∨(x.1=1∧0≤x.2.1.1∧b∈l)) (qE l.length (fun i=>l[i]?≠some b) hn ?_ ?_) ?_
 ·intro i hi hp
  have hx:l[i]?=some l[i]:=List.getElem?_eq_getElem hi
  refine ze (zR (show (i:Int) < (l.length:Int) by omega)) (zg (zy (n:=i) hx (zk (fun h=>?_) (fun h=>?_))))
  ·have:b=l[i]:=eq_of_beq h
   exact za (zp (.inr ⟨rfl,by show (0:Int)≤(i:Int);omega,by rw [this];exact List.getElem_mem hi⟩))
  ·exact za (jo (by omega) (by rw [hx];intro e;cases e;simp at h))
 ·intro hp
  refine zf (zF (show ¬(l.length:Int) < (l.length:Int) by omega)) (za (zp (.inl ⟨rfl,fun hm=>?_⟩)))
  obtain ⟨k,hk⟩:=List.getElem?_of_mem hm
  exact hp k (by grind) hk
 ·rintro ⟨j,⟨v,w,⟨⟩⟩,⟨⟩⟩ (⟨rfl,hp⟩ | ⟨rfl,h0,hp⟩)
  ·exact ze rfl (za (.inr ⟨rfl,hp⟩))
  ·exact zf rfl (za (.inl ⟨h0,hp⟩))
theorem za5 {l:List Bool} (hn:l.length≤1000000000000000000) (b:Bool):wC (l,b,())=some (tv (b∈l),()):=by
 rw [zal];unfold gX
 refine jV (zm (zdt hn b) ?_)
 rintro ⟨v,⟨⟩⟩ (⟨h,hm⟩ | ⟨rfl,hm⟩)
 ·refine za ⟨fun _=>hm,fun _=>?_⟩
  show (!zj v 0)=true
  rw [zF (by simp only at h;omega)];rfl
 ·exact za ⟨fun h=>(by cases h),fun h=>absurd h hm⟩
theorem QU (t:qk):jb (t,())=some (bif tv (jz t) then 0 else 260,()):=by
 have good:∀{v:Int},jz t→v=0→v=bif tv (jz t) then 0 else 260:=fun h e=>by rw [zQ h,e];rfl
 have bad:∀{v:Int},¬jz t→v=260→v=bif tv (jz t) then 0 else 260:=fun h e=>by rw [zX h,e];rfl
 rw [ztx];unfold zgL
 refine wG (zm (J:=fun x=>(x.1=0∧x.2.1.1=0∧2≤t.1∧t.1≤12∧(t.2.1.length:Int)=t.1)∨(x.1=1∧x.2.1.1=260∧¬szP t)) ?_ ?_)
 ·refine zk (fun h=>za (.inr ⟨rfl,rfl,fun hs=>?_⟩)) (fun h1=>zk (fun h=>za (.inr ⟨rfl,rfl,fun hs=>?_⟩)) (fun h2=>zk (fun h=>za (.inr ⟨rfl,rfl,fun hs=>?_⟩)) (fun h3=>za (.inl ⟨rfl,rfl,?_⟩))))
  ·have:=qt h;have:=hs.n0;omega
  ·have:=qt h;have:=hs.n1;omega
  ·have:=hs.st;rw [uq this] at h;cases h
  ·have h1:=qB h1;have h2:=qB h2
   exact ⟨h1,h2,qR (by simpa using h3)⟩
 rintro ⟨j,⟨v,⟨⟩⟩,⟨⟩⟩ (⟨rfl,rfl,h1,h2,h3⟩ | ⟨rfl,rfl,hs⟩)
 rotate_left
 ·exact zf rfl (za (bad (zqv hs) rfl))
 refine ze rfl (zm (J:=fun x=>(x.1=0∧x.2.1.1=0∧szP t∧zdP t)∨(x.1=1∧x.2.1.1=260∧¬jz t)) ?_ ?_)
 ·refine zk (fun h=>za (.inr ⟨rfl,rfl,fun hs=>?_⟩)) (fun h4=>?_)
  ·have:=qt h;have:=hs.sz.ls;omega
  have h4:=qB h4
  have hs:szP t:=⟨h1,h2,h3,by omega⟩
  rw [zwn hs]
  refine zk (fun h=>?_) (fun h=>?_)
  ·exact za (.inr ⟨rfl,rfl,zqw (ye h)⟩)
  ·exact za (.inl ⟨rfl,rfl,hs,yW h⟩)
 rintro ⟨j,⟨v,⟨⟩⟩,⟨⟩⟩ (⟨rfl,rfl,hs,hls⟩ | ⟨rfl,rfl,ht⟩)
 rotate_left
 ·exact zf rfl (za (bad ht rfl))
 have h5:=hs.ls
 refine ze rfl (ze (zpi (by omega) (by omega) (by omega)) ?_)
 refine zm (J:=fun x=>x.2.2.1=xZ t t.2.2.length) (zU t.2.2.length (fun i s=>s=(((i:Int),()),(xZ t i,()))) (by omega) (by rw [zES];rfl) ?_ ?_) ?_
 ·rintro i _ hi rfl
  have hx:t.2.2[i]?=some t.2.2[i]:=List.getElem?_eq_getElem hi
  refine ze (zR (show (i:Int) < (t.2.2.length:Int) by omega)) (zg (zy (n:=i) hx ?_))
  generalize t.2.2[i]=l at hx
  have hl:=(hls i l hx).1
  obtain ⟨⟨a0,a1⟩,⟨b0,b1⟩⟩:=hl.nodes
  have lc:=Yp t i
  refine zg (qD a0 (by show _ < (((xZ t i).length:Nat):Int);omega) fun _ _=>zg (jx (by show _ < (xZ t i).length;omega) fun u hu=>zg (qD a0 (by show _ < (((xZ t i).length:Nat):Int);omega) fun _ _=>zg (jx (by show _ < (xZ t i).length;omega) fun _ _=>?_))))
  refine zg (qD b0 (by show _ < ((((xZ t i).set _ _).length:Nat):Int);simp;omega) fun _ _=>zg (jx (by show _ < ((xZ t i).set _ _).length;simp;omega) fun w hw=>zg (qD b0 (by show _ < ((((xZ t i).set _ _).length:Nat):Int);simp;omega) fun _ _=>zg (jx (by show _ < ((xZ t i).set _ _).length;simp;omega) fun _ _=>?_))))
  refine za (qg ?_)
  have e:=zxe hx hs.ls hl.1 hl.2.1 hl.2.2.1 hu hw
  show (((wrF .i64 ((i:Int)+1)),()),((((xZ t i).set l.1.toNat (wrF .i64 (u+1))).set l.2.1.toNat (wrF .i64 (w+1))),()))=_
  rw [e,qj (by omega)]
 ·rintro _ rfl
  exact zf (zF (show ¬(t.2.2.length:Int) < (t.2.2.length:Int) by omega)) (za (zp rfl))
 rintro ⟨j,⟨z,⟨⟩⟩,c,⟨⟩⟩ hc
 simp only at hc
 subst hc
 refine zm (J:=fun x=>(x.1=0∧∀(n:Nat),(n:Int) < t.1→stn t n=true→1≤cnt t.2.2 n∧cnt t.2.2 n≤2)∨(x.1=1∧x.2.1.1=260∧¬jz t)) (qE t.2.1.length (fun n=>stn t n=true→1≤cnt t.2.2 n∧cnt t.2.2 n≤2) (by omega) ?_ ?_) ?_
 ·intro n hn hp
  have hst:t.2.1[n]?=some t.2.1[n]:=List.getElem?_eq_getElem (by omega)
  have e1:=zEP hst
  have hn':n < t.1.toNat:=by omega
  have e2:=zAU t hn'
  refine ze (zR (show (n:Int) < (t.2.1.length:Int) by omega)) (zg (zy (n:=n) hst ?_))
  refine zm (J:=fun x=>(x.1=0∧x.2.1.1=0∧(stn t n=true→1≤cnt t.2.2 n∧cnt t.2.2 n≤2))∨(x.1=1∧x.2.1.1=260∧¬jz t)) (zk (fun h5=>?_) (fun h5=>?_)) ?_
  ·refine zg (zy (n:=n) e2 (zg (jx (by show n < _;rw [Yp];exact hn') fun u hu=>?_)))
   have hu:u=cnt t.2.2 n:=by have hu:(xZ t t.2.2.length)[n]?=some u:=hu;rw [e2] at hu;exact (Option.some.inj hu).symm
   subst hu
   refine zk (fun h6=>?_) (fun h6=>?_)
   ·have:=qt h6
    exact za (.inr ⟨rfl,rfl,fun ht=>by have:=ht.ct n (by omega) (by grind);omega⟩)
   refine zg (zy (n:=n) e2 (zg (jx (by show n < _;rw [Yp];exact hn') fun u hu=>?_)))
   have hu:u=cnt t.2.2 n:=by have hu:(xZ t t.2.2.length)[n]?=some u:=hu;rw [e2] at hu;exact (Option.some.inj hu).symm
   subst hu
   refine zk (fun h7=>?_) (fun h7=>?_)
   ·have:=qt h7
    exact za (.inr ⟨rfl,rfl,fun ht=>by have:=ht.ct n (by omega) (by grind);omega⟩)
   ·have:=qB h6;have:=qB h7
    exact za (.inl ⟨rfl,rfl,fun _=>⟨by omega,by omega⟩⟩)
  ·exact za (.inl ⟨rfl,rfl,fun hc=>by grind⟩)
  ·rintro ⟨j,⟨v,⟨⟩⟩,⟨⟩⟩ (⟨rfl,rfl,hq⟩ | ⟨rfl,rfl,hq⟩)
   ·exact ze rfl (za (jo (by omega) hq))
   ·exact zf rfl (za (zp (.inr ⟨rfl,rfl,hq⟩)))
 ·intro hp
  exact zf (zF (show ¬(t.2.1.length:Int) < (t.2.1.length:Int) by omega)) (za (zp (.inl ⟨rfl,fun n hn=>hp n (by omega)⟩)))
 rintro ⟨j,⟨v,w,⟨⟩⟩,⟨⟩⟩ (⟨rfl,hct⟩ | ⟨rfl,rfl,hq⟩)
 rotate_left
 ·exact zf rfl (za (bad hq rfl))
 have hrl:(reachS t 0).length=t.1.toNat:=by unfold reachS;rw [zhG];simp
 refine ze rfl ?_
 rw [show Jp (t,0,_,())=some (reachS t 0,()) from zwo hs (fun i l hl=>(hls i l hl).1.nodes),zz]
 rw [za5 (by show (reachS t 0).length≤_;omega),zz]
 refine zk (fun h=>?_) (fun h=>?_)
 ·refine za (bad (fun ht=>?_) rfl)
  obtain ⟨k,hk⟩:=List.getElem?_of_mem (ZH h)
  have:=ht.re k (by grind)
  rw [this] at hk;cases hk
 ·refine za (good ⟨hs,hls,fun n hn=>?_,hct⟩ rfl)
  have hr:(reachS t 0)[n]?=some (reachS t 0)[n]:=List.getElem?_eq_getElem (by omega)
  rw [hr]
  cases e:(reachS t 0)[n] with
  |true=>rfl
  |false=>exact absurd (by rw [←e];exact List.getElem_mem _) (Zf h)
def wI (t:qk) (p:Int):Prop:=0≤p∧p < 2*(t.2.2.length:Int)
def lnk (t:qk) (p:Int):ya:=(t.2.2[p.toNat / 2]?).getD (0,0,0,0)
def frm (t:qk) (p:Int):Int:=if p % 2=1 then (lnk t p).2.1 else (lnk t p).1
def too (t:qk) (p:Int):Int:=if p % 2=1 then (lnk t p).1 else (lnk t p).2.1
theorem zoD {p:Int} (h:0≤p) (h2:p≤1000000000000000000):wrF .i64 (Int.tdiv p 2)=((p.toNat / 2:Nat):Int):=by
 rw [Int.tdiv_eq_ediv_of_nonneg h,zH (by omega) (by omega)];omega
theorem par {p:Int} (h:0≤p):Int.tmod p 2=p % 2:=Int.tmod_eq_emod_of_nonneg h
theorem Xp {t:qk} {p:Int} (h:wI t p):t.2.2[p.toNat / 2]?=some (lnk t p):=by
 have:=h.1;have:=h.2
 have hx:t.2.2[p.toNat / 2]?=some (t.2.2[p.toNat / 2]'(by omega)):=List.getElem?_eq_getElem (by omega)
 unfold lnk;rw [hx];rfl
theorem tw (t:qk) (h:t.2.2.length≤1000000000000000):wrF .i64 (2*(t.2.2.length:Int))=2*(t.2.2.length:Int):=zH (by omega) (by omega)
theorem zaF {t:qk} (hl:zdP t) {p:Int} (h:wI t p):jf t (frm t p)∧jf t (too t p)∧frm t p≠too t p:=by
 have:=(hl _ _ (Xp h)).1
 have h1:=this.1;have h2:=this.2.1;have h3:=this.2.2.1
 unfold frm too
 split
 ·exact ⟨h2,h1,fun e=>h3 e.symm⟩
 ·exact ⟨h1,h2,h3⟩
theorem zwp {t:qk} (h:t.2.2.length≤1000000000000000) (p:Int):YS (t,p,())=some (tv (wI t p),()):=by
 rw [zto];unfold zgD wI
 refine jV (zk (fun h=>?_) (fun h=>?_))<;>refine za ?_<;>simp only [xl] at *
 ·have:=tw t ‹_›;grind
 ·grind
theorem QV {t:qk} (h:t.2.2.length≤1000000000000000) {p:Int} (hp:wI t p):jt (t,p,())=some (frm t p,()):=by
 have:=hp.1;have:=hp.2
 rw [zti];unfold zgx
 simp only [zoD hp.1 (by omega),par hp.1,wB (Xp hp),zz,jF]
 unfold frm
 by_cases e:p % 2=1
 ·simp [e]
 ·have e2:(p % 2 == 1)=false:=by simpa using e
  rw [e2,if_neg e];rfl
theorem JE {t:qk} (h:t.2.2.length≤1000000000000000) {p:Int} (hp:wI t p):yc (t,p,())=some (too t p,()):=by
 have:=hp.1;have:=hp.2
 rw [zxC];unfold zkM
 simp only [zoD hp.1 (by omega),par hp.1,wB (Xp hp),zz,jF]
 unfold too
 by_cases e:p % 2=1
 ·simp [e]
 ·have e2:(p % 2 == 1)=false:=by simpa using e
  rw [e2,if_neg e];rfl
theorem zyB {t:qk} (h:t.2.2.length≤1000000000000000) {p:Int} (hp:wI t p):VI (t,p,())=some ((lnk t p).2.2.1,()):=by
 have:=hp.1;have:=hp.2
 rw [zvV];unfold ziT
 simp only [zoD hp.1 (by omega),wB (Xp hp),zz]
theorem zuu {t:qk} (h:t.2.2.length≤1000000000000000) {p:Int} (hp:wI t p):Wv (t,p,())=some ((lnk t p).2.2.2,()):=by
 have:=hp.1;have:=hp.2
 rw [zr0];unfold ze4
 simp only [zoD hp.1 (by omega),wB (Xp hp),zz]
theorem zlf {t:qk} (h:t.2.2.length≤1000000000000000) {p:Int} (hp:wI t p):zj p 0=false∧(!zj p (wrF .i64 (2*(t.2.2.length:Int))))=false:=by
 have:=hp.1;have:=hp.2
 rw [tw t h,zF (by omega),zR (by omega)];simp
theorem zAV {t:qk} (ht:jz t) {p:Int} (hp:wI t p):gb (t,p,())=some ((lnk t p).2.2.1,0,()):=by
 have hl:t.2.2.length≤1000000000000000:=by have:=ht.sz.ls;omega
 have:=hp.1;have:=hp.2
 obtain ⟨e1,e2⟩:=zlf hl hp
 rw [zxY];unfold zkW
 simp only [QU,zz,zQ ht,cond_true,uq,Bool.not_true,cond_false,e1,e2,zoD hp.1 (show p≤1000000000000000000 by omega),wB (Xp hp),zpA,zdi]
 rfl
theorem zwq {t:qk} (ht:jz t) {p:Int} (hp:wI t p):JC (t,p,())=some ((lnk t p).2.2.2,0,()):=by
 have hl:t.2.2.length≤1000000000000000:=by have:=ht.sz.ls;omega
 have:=hp.1;have:=hp.2
 obtain ⟨e1,e2⟩:=zlf hl hp
 rw [zt9];unfold zhl
 simp only [QU,zz,zQ ht,cond_true,uq,Bool.not_true,cond_false,e1,e2,zoD hp.1 (show p≤1000000000000000000 by omega),wB (Xp hp),zmv,zaA]
 rfl
def zW (t:qk) (r:List Int):List Int:=match r with
 |[]=>[]
 |p::_=>frm t p::r.map (too t)
theorem ZU (t:qk) {r:List Int} (h:r≠[]):(zW t r).length=r.length+1:=by
 cases r with
 |nil=>exact absurd rfl h
 |cons p r=>simp [zW]
theorem zwr (t:qk) {r:List Int} {p:Int} (h:r[0]?=some p):(zW t r)[0]?=some (frm t p):=by
 cases r with
 |nil=>cases h
 |cons q r=>simp at h;subst h;rfl
theorem Yf (t:qk) {r:List Int} {i:Nat} {p:Int} (h:r[i]?=some p):(zW t r)[i+1]?=some (too t p):=by
 cases r with
 |nil=>cases h
 |cons q r=>simp only [zW,List.getElem?_cons_succ,List.getElem?_map,h,Option.map_some]
theorem zcj {t:qk} (h:t.2.2.length≤1000000000000000) {r:List Int} (h0:r≠[]) (h8:r.length≤8) (hp:∀p∈r,wI t p):uH (t,r,())=some (zW t r,()):=by
 have hl:0 < r.length:=List.length_pos_iff.2 h0
 have hx0:r[0]?=some r[0]:=List.getElem?_eq_getElem hl
 rw [zq9];unfold zeq
 refine wG (zg (zy (n:=0) hx0 ?_))
 rw [QV h (hp _ (List.getElem_mem hl)),zz]
 refine zm (J:=fun x=>x.2.2.1=zW t r) (zU r.length (fun i s=>s=(((i:Int),()),((zW t r).take (i+1),()))) (by omega) ?_ ?_ ?_) ?_
 ·have:=zwr t hx0
  have e:(zW t r).take 1=[frm t r[0]]:=by
   rw [show (1:Nat)=0+1 from rfl,List.take_add_one,this];simp
  rw [show (0:Nat)+1=1 from rfl,e];rfl
 ·rintro i _ hi rfl
  have hx:r[i]?=some r[i]:=List.getElem?_eq_getElem hi
  refine ze (zR (show (i:Int) < (r.length:Int) by omega)) (zg (zy (n:=i) hx ?_))
  rw [JE h (hp _ (List.getElem_mem hi)),zz]
  have hl:=ZU t h0
  refine ze (jC (by show (((zW t r).take (i+1)).length+1)*8≤_;simp;omega) (by show ((zW t r).take (i+1)).length+1≤_;simp;omega)) ?_
  refine za (qg ?_)
  have e:(zW t r).take (i+1+1)=(zW t r).take (i+1)++[too t r[i]]:=by
   rw [List.take_add_one,Yf t hx];rfl
  rw [e,←qj (by omega)]
 ·rintro _ rfl
  refine zf (zF (show ¬(r.length:Int) < (r.length:Int) by omega)) (za (zp ?_))
  show (zW t r).take (r.length+1)=_
  rw [List.take_of_length_le (by rw [ZU t h0];omega)]
 ·rintro ⟨j,⟨z,⟨⟩⟩,c,⟨⟩⟩ hc
  exact za hc
theorem Vo {t:qk} (h:t.2.2.length≤1000000000000000) {r:List Int} (h0:r≠[]) (h8:r.length≤8) (hp:∀p∈r,wI t p):yB (t,r,())=some (zW t r,()):=by
 rw [zjx];unfold KL
 rw [show wrF .i64 ((r.length:Int)+1)=(r.length:Int)+1 from zH (by omega) (by omega)]
 refine wG (ze (zpi (by omega) (by omega) (by omega)) ?_)
 refine zm (J:=fun x=>x.2.2.1.1=zW t r) (zU r.length (fun i s=>s=(((i:Int),()),((((zW t r).take (if i=0 then 0 else i+1)),()),((),((),()))))) (by omega) rfl ?_ ?_) ?_
 ·rintro i _ hi rfl
  have hx:r[i]?=some r[i]:=List.getElem?_eq_getElem hi
  have hpi:=hp _ (List.getElem_mem hi)
  generalize r[i]=p at hx hpi
  have:=hpi.1;have:=hpi.2
  refine ze (zR (show (i:Int) < (r.length:Int) by omega)) (zg (zy (n:=i) hx ?_))
  obtain ⟨e1,e2⟩:=zlf h hpi
  refine zf e1 (zf e2 ?_)
  rw [zoD hpi.1 (by omega),wB (Xp hpi),zz]
  refine zm (J:=fun x=>x.2.1.1.2.1=frm t p∧x.2.1.1.2.2=too t p) ?_ ?_
  ·rw [par hpi.1]
   unfold frm too
   refine zk (fun h=>?_) (fun h=>?_)
   ·have:=qR h
    exact za (by simp [this])
   ·have:=jk h
    exact za (by simp [this])
  rintro ⟨j,⟨⟨u,v,w⟩,⟨⟩⟩,⟨⟩,⟨⟩,⟨⟩⟩ ⟨rfl,rfl⟩
  have hl:=ZU t h0
  refine zm (J:=fun x=>x.2.2.1.1=(zW t r).take (i+1)) (zk (fun h=>?_) (fun h=>?_)) ?_
  ·have:=qR h
   have hi0:i=0:=by simp only at this;omega
   subst hi0
   refine ze (jC (by simp) (by simp)) (za ?_)
   show List.take 0 (zW t r)++[frm t p]=_
   rw [List.take_add_one,zwr t hx];rfl
  ·have:=jk h
   have hi0:i≠0:=by intro e;apply this;simp only [e];rfl
   exact za (by show (zW t r).take (if i=0 then 0 else i+1)=_;rw [if_neg hi0])
  ·rintro ⟨j,⟨⟩,⟨⟨c,⟨⟩⟩,⟨⟩,⟨⟩⟩⟩ hc
   simp only at hc
   subst hc
   refine ze (jC (by show (((zW t r).take (i+1)).length+1)*8≤_;simp;omega) (by show ((zW t r).take (i+1)).length+1≤_;simp;omega)) (za (qg ?_))
   have e:(zW t r).take (i+1+1)=(zW t r).take (i+1)++[too t p]:=by
    rw [List.take_add_one,Yf t hx];rfl
   have e2:(if i+1=0 then 0 else i+1+1)=i+1+1:=if_neg (by omega)
   rw [e2,e,←qj (by omega)]
 ·rintro _ rfl
  refine zf (zF (show ¬(r.length:Int) < (r.length:Int) by omega)) (za (zp ?_))
  have:r.length≠0:=fun e=>h0 (List.length_eq_zero_iff.1 e)
  show (zW t r).take (if r.length=0 then 0 else r.length+1)=_
  rw [if_neg this,List.take_of_length_le (by rw [ZU t h0];omega)]
 ·rintro ⟨j,⟨z,⟨⟩⟩,⟨c,⟨⟩⟩,⟨⟩,⟨⟩,⟨⟩⟩ hc
  exact za hc
def zG1 (t:qk) (r:List Int) (i:Nat) (p:Int):Prop:=¬too t p∈(zW t r).take (i+1)∧(0 < i→∀n,(zW t r)[i]?=some n→stn t n=false∧frm t p=n)
structure qU (t:qk) (r:List Int):Prop where
 n0:1≤r.length
 n1:r.length≤8
 pt:∀p∈r,wI t p
 st:∀(i:Nat) p,r[i]?=some p→zG1 t r i p
theorem qU.ne {t:qk} {r:List Int} (h:qU t r):r≠[]:=by
 intro e;have:=h.n0;rw [e] at this;simp at this
theorem jz.ll {t:qk} (h:jz t):t.2.2.length≤1000000000000000:=by have:=h.sz.ls;omega
theorem zHI {t:qk} (ht:jz t) {r:List Int} (hp:∀p∈r,wI t p):∀n∈zW t r,jf t n:=by
 intro n hn
 cases r with
 |nil=>cases hn
 |cons q r=>
  simp only [zW,List.mem_cons,List.mem_map] at hn
  rcases hn with rfl | ⟨p,hp',rfl⟩
  ·exact (zaF ht.ls (hp q (by simp))).1
  ·exact (zaF ht.ls (hp p (by simpa using hp'))).2.1
theorem jf.get {t:qk} (hs:szP t) {n:Int} (h:jf t n):t.2.1[n.toNat]?=some (stn t n):=by
 have hx:t.2.1[n.toNat]?=some (t.2.1[n.toNat]'(h.lt hs)):=List.getElem?_eq_getElem (h.lt hs)
 rw [hx,zjW hx]
theorem zio {t:qk} (ht:jz t) (r:List Int):vD (t,r,())=some (tv (qU t r),()):=by
 have hll:=ht.ll
 rw [zra];unfold zer
 refine jV (zm (J:=fun x=>(x.1=0∧x.2.1.1=false∧1≤r.length∧r.length≤8)∨(x.1=1∧x.2.1.1=false∧¬qU t r)) ?_ ?_)
 ·refine zk (fun h=>za (.inr ⟨rfl,rfl,fun hs=>?_⟩)) (fun h1=>zk (fun h=>za (.inr ⟨rfl,rfl,fun hs=>?_⟩)) (fun h2=>za (.inl ⟨rfl,rfl,?_⟩)))
  ·have:=qt h;have:=hs.n0;omega
  ·have:=qt h;have:=hs.n1;omega
  ·have h1:=qB h1;have h2:=qB h2;omega
 rintro ⟨j,⟨v,⟨⟩⟩,⟨⟩⟩ (⟨rfl,rfl,h1,h8⟩ | ⟨rfl,rfl,hq⟩)
 rotate_left
 ·exact zf rfl (za ⟨fun h=>(by cases h),fun h=>absurd h hq⟩)
 refine ze rfl (zm (J:=fun x=>(x.1=0∧x.2.1.1=false∧∀p∈r,wI t p)∨(x.1=1∧x.2.1.1=false∧¬qU t r)) (qE r.length (fun i=>∀p,r[i]?=some p→wI t p) (by omega) ?_ ?_) ?_)
 ·intro i hi hp
  have hx:r[i]?=some r[i]:=List.getElem?_eq_getElem hi
  refine ze (zR (show (i:Int) < (r.length:Int) by omega)) (zg (zy (n:=i) hx ?_))
  rw [zwp hll]
  refine zk (fun h=>?_) (fun h=>?_)
  ·exact za (zp (.inr ⟨rfl,rfl,fun hr=>ye h (hr.pt _ (List.getElem_mem hi))⟩))
  ·exact za (jo (by omega) fun p hp=>by rw [hx] at hp;cases hp;exact yW h)
 ·intro hp
  refine zf (zF (show ¬(r.length:Int) < (r.length:Int) by omega)) (za (zp (.inl ⟨rfl,rfl,fun p hm=>?_⟩)))
  obtain ⟨k,hk⟩:=List.getElem?_of_mem hm
  exact hp k (by grind) p hk
 rintro ⟨j,⟨v,w,⟨⟩⟩,⟨⟩⟩ (⟨rfl,rfl,hpt⟩ | ⟨rfl,rfl,hq⟩)
 rotate_left
 ·exact zf rfl (za ⟨fun h=>(by cases h),fun h=>absurd h hq⟩)
 have hne:r≠[]:=by intro e;rw [e] at h1;simp at h1
 have hnl:=ZU t hne
 have hnP:=zHI ht hpt
 refine ze rfl ?_
 rw [zcj hll hne h8 hpt,zz]
 refine zm (J:=fun x=>(x.1=0∧qU t r)∨(x.1=1∧x.2.1.1=false∧¬qU t r)) (qE (zW t r).length (fun i=>(∀n,(zW t r)[i]?=some n→¬n∈(zW t r).take i)∧∀p,r[i]?=some p→0 < i→∀n,(zW t r)[i]?=some n→stn t n=false∧frm t p=n) (by omega) ?_ ?_) ?_
 ·intro i hi hp
  have hx:(zW t r)[i]?=some (zW t r)[i]:=List.getElem?_eq_getElem hi
  have hn:=hnP _ (List.getElem_mem hi)
  generalize (zW t r)[i]=n at hx hn
  refine ze (zR (show (i:Int) < ((zW t r).length:Int) by omega)) (zg (qn (zph (zW t r) i (by omega)) (zg (zy (n:=i) hx ?_))))
  rw [zch (by simp;omega)]
  refine zk (fun h=>?_) (fun h=>?_)
  ·refine za (zp (.inr ⟨rfl,rfl,fun hr=>?_⟩))
   have hm:=ZH h
   cases i with
   |zero=>simp at hm
   |succ i=>
    have hy:r[i]?=some r[i]:=List.getElem?_eq_getElem (by omega)
    have e:=Yf t hy
    rw [hx] at e
    have:=(hr.st i _ hy).1
    rw [←Option.some.inj e] at this
    exact this hm
  have hin:=Zf h
  refine zm (J:=fun x=>(x.1=0∧x.2.1.1=false∧∀p,r[i]?=some p→0 < i→stn t n=false∧frm t p=n)∨(x.1=1∧x.2.1.1=false∧¬qU t r)) ?_ ?_
  ·refine zk (fun h2=>?_) (fun h2=>?_)
   ·have h2:=qt (show zj 0 (i:Int)=true from h2)
    refine zk (fun h3=>?_) (fun h3=>?_)
    ·have h3:=qt (show zj (i:Int) (r.length:Int)=true from h3)
     have hy:r[i]?=some r[i]:=List.getElem?_eq_getElem (by omega)
     have hpy:=hpt _ (List.getElem_mem (show i < r.length by omega))
     generalize r[i]=p at hy hpy
     refine zg (zy (n:=i) hx (zg (qn (a:=stn t n) (by rw [show n=((n.toNat:Nat):Int) from (by have:=hn.1;omega),wB (n:=n.toNat)];exact hn.get ht.sz) ?_)))
     refine zk (fun h4=>?_) (fun h4=>?_)
     ·refine za (.inr ⟨rfl,rfl,fun hr=>?_⟩)
      have:=((hr.st i p hy).2 (by omega) n hx).1
      rw [this] at h4;cases h4
     ·refine zg (zy (n:=i) hy ?_)
      rw [QV hll hpy,zz]
      refine zg (zy (n:=i) hx (zk (fun h5=>?_) (fun h5=>?_)))
      ·refine za (.inr ⟨rfl,rfl,fun hr=>?_⟩)
       have:=((hr.st i p hy).2 (by omega) n hx).2
       rw [uq this] at h5;cases h5
      ·have:=qR (show zh (frm t p) n=true by simpa using h5)
       exact za (.inl ⟨rfl,rfl,fun p' hp' _=>by rw [hy] at hp';cases hp';exact ⟨h4,this⟩⟩)
    ·have h3:=qB (show zj (i:Int) (r.length:Int)=false from h3)
     exact za (.inl ⟨rfl,rfl,fun p hp=>by rw [List.getElem?_eq_none (by omega)] at hp;cases hp⟩)
   ·have h2:=qB (show zj 0 (i:Int)=false from h2)
    exact za (.inl ⟨rfl,rfl,fun p hp h0=>by omega⟩)
  ·rintro ⟨j,⟨v,⟨⟩⟩,⟨⟩⟩ (⟨rfl,rfl,hq⟩ | ⟨rfl,rfl,hq⟩)
   ·exact ze rfl (za (jo (by omega) ⟨fun m hm=>by rw [hx] at hm;cases hm;exact hin,fun p hp h0 m hm=>by rw [hx] at hm;cases hm;exact hq p hp h0⟩))
   ·exact zf rfl (za (zp (.inr ⟨rfl,rfl,hq⟩)))
 ·intro hp
  refine zf (zF (show ¬((zW t r).length:Int) < ((zW t r).length:Int) by omega)) (za (zp (.inl ⟨rfl,h1,h8,hpt,fun i p hi=>⟨?_,fun h0 n hn=>?_⟩⟩)))
  ·have hil:i < r.length:=by grind
   exact (hp (i+1) (by omega)).1 _ (Yf t hi)
  ·have hil:i < r.length:=by grind
   exact (hp i (by omega)).2 p hi h0 n hn
 ·rintro ⟨j,⟨v,w,⟨⟩⟩,⟨⟩⟩ (⟨rfl,hq⟩ | ⟨rfl,rfl,hq⟩)
  ·exact ze rfl (za ⟨fun _=>hq,fun _=>rfl⟩)
  ·exact zf rfl (za ⟨fun h=>(by cases h),fun h=>absurd h hq⟩)
def zck (t:qk) (r:List Int) (i:Nat):List Bool:=(List.range 12).map fun n=>decide (((n:Nat):Int)∈(zW t r).take (if i=0 then 0 else i+1))
theorem zGB (t:qk) (r:List Int) (i:Nat):(zck t r i).length=12:=by simp [zck]
def atS (t:qk) (r:List Int) (i:Nat):Int:=if i=0 then 0 else ((zW t r)[i]?).getD 0
theorem zxf {f g:Nat→Bool} (h:∀n,n < 12→f n=g n):(List.range 12).map f=(List.range 12).map g:=List.map_congr_left fun n hn=>h n (List.mem_range.1 hn)
theorem zxg {f:Nat→Bool} {k:Nat} (hk:k < 12):((List.range 12).map f).set k true=(List.range 12).map fun n=>(f n||n == k):=by
 apply List.ext_getElem?
 intro n
 rw [List.getElem?_set]
 by_cases h:n < 12
 ·by_cases e:k=n
  ·subst e;simp [h]
  ·have:(n == k)=false:=by simp;omega
   simp [h,e,this]
 ·rw [List.getElem?_eq_none (by simp;omega),List.getElem?_eq_none (by simp;omega)]
  split<;>simp<;>omega
theorem zcl {t:qk} (ht:jz t) (r:List Int):yE (t,r,())=some (tv (qU t r),()):=by
 have hll:=ht.ll
 have n1:=ht.sz.n1
 rw [zjy];unfold KM
 refine jV (zm (J:=fun x=>(x.1=0∧x.2.1.1=false∧1≤r.length∧r.length≤8)∨(x.1=1∧x.2.1.1=false∧¬qU t r)) ?_ ?_)
 ·refine zk (fun h=>za (.inr ⟨rfl,rfl,fun hs=>?_⟩)) (fun h1=>zk (fun h=>za (.inr ⟨rfl,rfl,fun hs=>?_⟩)) (fun h2=>za (.inl ⟨rfl,rfl,?_⟩)))
  ·have:=qt h;have:=hs.n0;omega
  ·have:=qt h;have:=hs.n1;omega
  ·have h1:=qB h1;have h2:=qB h2;omega
 rintro ⟨j,⟨v,⟨⟩⟩,⟨⟩⟩ (⟨rfl,rfl,h1,h8⟩ | ⟨rfl,rfl,hq⟩)
 rotate_left
 ·exact zf rfl (za ⟨fun h=>(by cases h),fun h=>absurd h hq⟩)
 have hne:r≠[]:=by intro e;rw [e] at h1;simp at h1
 have hnl:=ZU t hne
 refine ze rfl (zm (J:=fun x=>(x.2.1.2.1=(r.length:Int)∧qU t r)∨(x.2.1.2.1 < (r.length:Int)∧¬qU t r))
  (zU r.length (fun i s=>s=((atS t r i,((i:Int),((i:Int),()))),(zck t r i,((),((),()))))∧∀(k:Nat),k < i→∀p,r[k]?=some p→wI t p∧zG1 t r k p) (by omega) ⟨rfl,fun k hk=>by omega⟩ ?_ ?_) ?_)
 ·rintro i _ hi ⟨rfl,hp⟩
  have hx:r[i]?=some r[i]:=List.getElem?_eq_getElem hi
  have hmem:=List.getElem_mem hi
  generalize r[i]=p at hx hmem
  have bad:∀{x:Nat×((Int×(Int×(Int×Unit)))×(List Bool×(Unit×(Unit×Unit))))},x.2.1.2.1=(i:Int)→¬qU t r→(x.2.1.2.1=(r.length:Int)∧qU t r)∨(x.2.1.2.1 < (r.length:Int)∧¬qU t r):=fun e hq=>.inr ⟨by rw [e];omega,hq⟩
  refine ze (zR (show (i:Int) < (r.length:Int) by omega)) (zg (zy (n:=i) hx ?_))
  refine zk (fun h=>za (zp (bad rfl fun hr=>?_))) (fun hp0=>zk (fun h=>za (zp (bad rfl fun hr=>?_))) (fun hp1=>?_))
  ·have:=qt h;have:=(hr.pt p hmem).1;omega
  ·have:=hr.pt p hmem
   rw [(zlf hll this).2] at h;cases h
  have hpi:wI t p:=by
   have:=qB hp0
   rw [tw t hll] at hp1
   have:=qt (show zj p (2*(t.2.2.length:Int))=true by simpa using hp1)
   exact ⟨by omega,by omega⟩
  have:=hpi.1;have:=hpi.2
  obtain ⟨⟨f0,f1⟩,⟨g0,g1⟩,hfg⟩:=zaF ht.ls hpi
  rw [zoD hpi.1 (by omega),wB (Xp hpi),zz]
  refine zm (J:=fun x=>x.1=0∧x.2.1.1.2.1=frm t p∧x.2.1.1.2.2=too t p) ?_ ?_
  ·rw [par hpi.1]
   unfold frm too
   refine zk (fun h=>?_) (fun h=>?_)
   ·have:=qR h
    exact za (by simp [this])
   ·have:=jk h
    exact za (by simp [this])
  rintro ⟨j,⟨⟨u,v,w⟩,⟨⟩⟩,⟨⟩,⟨⟩,⟨⟩⟩ ⟨rfl,rfl,rfl⟩
  have hsl:=zGB t r i
  have htk:(zW t r).take (i+1+1)=(zW t r).take (i+1)++[too t p]:=by
   rw [List.take_add_one,Yf t hx];rfl
  refine ze rfl (zm (J:=fun x=>(x.1=0∧x.2.2.1=(List.range 12).map (fun n=>decide (((n:Nat):Int)∈(zW t r).take (i+1)))∧(0 < i→∀n,(zW t r)[i]?=some n→stn t n=false∧frm t p=n))∨(x.1=1∧¬qU t r)) (zk (fun h=>?_) (fun h=>?_)) ?_)
  ·have h0:=qR (show zh (i:Int) 0=true from h)
   have hi0:i=0:=by omega
   subst hi0
   refine ze (zR (show frm t p < 12 by omega)) (zg (qD f0 (by show frm t p < (((zck t r 0).length:Nat):Int);omega) fun _ _=>zg (jx (by show (frm t p).toNat < (zck t r 0).length;omega) fun _ _=>?_)))
   refine za (.inl ⟨rfl,?_,fun h=>by omega⟩)
   show (zck t r 0).set (frm t p).toNat true=_
   unfold zck
   rw [zxg (by omega)]
   refine zxf fun n hn=>?_
   rw [List.take_add_one,zwr t hx]
   simp only [if_true,List.take_zero,List.nil_append,Option.toList,List.mem_singleton,List.not_mem_nil,decide_false,Bool.false_or]
   rw [Bool.eq_iff_iff];simp only [beq_iff_eq,decide_eq_true_eq];omega
  ·have h0:=jk (show zh (i:Int) 0=false from h)
   have hi0:i≠0:=fun e=>h0 (by rw [e];rfl)
   have hxn:(zW t r)[i]?=some (zW t r)[i]:=List.getElem?_eq_getElem (by omega)
   have hat:atS t r i=(zW t r)[i]:=by unfold atS;rw [if_neg hi0,hxn];rfl
   have hn:jf t (zW t r)[i]:=by
    obtain ⟨m,rfl⟩:∃m,i=m+1:=⟨i - 1,by omega⟩
    have hy:r[m]?=some r[m]:=List.getElem?_eq_getElem (by omega)
    have e:=Yf t hy
    rw [hxn] at e
    rw [Option.some.inj e]
    exact (zaF ht.ls (hp m (by omega) _ hy).1).2.1
   generalize (zW t r)[i]=n at hxn hat hn
   refine zk (fun h2=>?_) (fun h2=>?_)
   ·refine za (.inr ⟨rfl,fun hr=>?_⟩)
    have:=((hr.st i p hx).2 (by omega) n hxn).2
    have h2':(!zh (frm t p) (atS t r i))=true:=h2
    rw [hat,uq this] at h2';cases h2'
   ·have h2':(!zh (frm t p) (atS t r i))=false:=h2
    have e1:=qR (show zh (frm t p) (atS t r i)=true by simpa using h2')
    refine zg (qn (a:=stn t n) (by show atI t.2.1 (atS t r i)=_;rw [hat,show n=((n.toNat:Nat):Int) from (by have:=hn.1;omega),wB (n:=n.toNat)];exact hn.get ht.sz) ?_)
    refine zk (fun h4=>?_) (fun h4=>?_)
    ·refine za (.inr ⟨rfl,fun hr=>?_⟩)
     have:=((hr.st i p hx).2 (by omega) n hxn).1
     rw [this] at h4;cases h4
    ·refine za (.inl ⟨rfl,?_,fun _ m hm=>by rw [hxn] at hm;cases hm;exact ⟨h4,by rw [e1,hat]⟩⟩)
     show zck t r i=_
     unfold zck
     rw [if_neg hi0]
  ·rintro ⟨j,⟨⟩,c,⟨⟩,⟨⟩⟩ (⟨rfl,hc,hst⟩ | ⟨rfl,hq⟩)
   rotate_left
   ·exact zf rfl (za (zp (bad rfl hq)))
   simp only at hc
   have hcl:c.length=12:=by rw [hc];simp
   refine ze rfl (ze (zR (show too t p < 12 by omega)) (zg (qD g0 (by show too t p < ((c.length:Nat):Int);omega) fun _ _=>zg (jx (by show (too t p).toNat < c.length;omega) fun x hx2=>?_))))
   have hx2':c[(too t p).toNat]?=some x:=hx2
   have hmt:(((too t p).toNat:Nat):Int)=too t p:=by omega
   have hxe:x=decide (too t p∈(zW t r).take (i+1)):=by
    rw [hc] at hx2'
    simp only [List.getElem?_map,List.getElem?_range (show (too t p).toNat < 12 by omega),Option.map_some,hmt] at hx2'
    exact (Option.some.inj hx2').symm
   refine zk (fun h6=>?_) (fun h6=>?_)
   ·subst h6
    refine za (zp (bad rfl fun hr=>(hr.st i p hx).1 ?_))
    exact of_decide_eq_true hxe.symm
   ·subst h6
    have hnm:¬too t p∈(zW t r).take (i+1):=of_decide_eq_false hxe.symm
    refine ze (zR (show too t p < 12 by omega)) (zg (qD g0 (by show too t p < ((c.length:Nat):Int);omega) fun _ _=>zg (jx (by show (too t p).toNat < c.length;omega) fun _ _=>?_)))
    refine za (qg ⟨?_,fun k hk q hq=>?_⟩)
    ·have e1:atS t r (i+1)=too t p:=by unfold atS;rw [if_neg (by omega),Yf t hx];rfl
     have e2:c.set (too t p).toNat true=zck t r (i+1):=by
      rw [hc,zxg (by omega)]
      unfold zck
      rw [if_neg (by omega),htk]
      refine zxf fun n hn=>?_
      rw [Bool.eq_iff_iff]
      simp only [Bool.or_eq_true,decide_eq_true_eq,beq_iff_eq,List.mem_append,List.mem_singleton]
      constructor
      ·rintro (h | h)
       ·exact .inl h
       ·right;omega
      ·rintro (h | h)
       ·exact .inl h
       ·right;omega
     rw [e1,←e2,←qj (by omega)]
    ·rcases Nat.lt_or_ge k i with hki | hki
     ·exact hp k hki q hq
     ·have:k=i:=by omega
      subst this
      rw [hx] at hq;cases hq
      exact ⟨hpi,hnm,hst⟩
 ·rintro _ ⟨rfl,hp⟩
  refine zf (zF (show ¬(r.length:Int) < (r.length:Int) by omega)) (za (zp (.inl ⟨rfl,h1,h8,fun p hm=>?_,fun i p hi=>(hp i (by grind) p hi).2⟩)))
  obtain ⟨k,hk⟩:=List.getElem?_of_mem hm
  exact (hp k (by grind) p hk).1
 ·rintro ⟨j,⟨v,w,z,⟨⟩⟩,c,⟨⟩,⟨⟩,⟨⟩⟩ (⟨hg,hr⟩ | ⟨hg,hr⟩)
  ·simp only at hg
   refine zk (fun _=>?_) (fun _=>?_)<;>exact za ⟨fun _=>hr,fun _=>uq hg⟩
  ·simp only at hg
   refine zk (fun _=>?_) (fun _=>?_)<;>exact za ⟨fun h=>by have:=qR h;simp only at this;omega,fun h=>absurd h hr⟩
def Xq (a b:List Int):Prop:=∃p∈a,∃q∈b,Int.tdiv p 2=Int.tdiv q 2
def Vp (a:List Int):List Int:=(a.take (a.length - 1)).drop 1
def JS (a b:List Int):Prop:=∃n∈Vp a,n∈b
def zoE (t:qk) (a b:List Int):Prop:=¬Xq a b∧¬JS (zW t a) (zW t b)∧¬JS (zW t b) (zW t a)
theorem zIy {p:Int} (h : -9223372036854775808≤p) (h2:p≤9223372036854775807):wrF .i64 (Int.tdiv p 2)=Int.tdiv p 2:=by
 rcases Int.le_total 0 p with h0 | h0
 ·rw [Int.tdiv_eq_ediv_of_nonneg h0];exact zH (by omega) (by omega)
 ·have e:Int.tdiv p 2 = -((-p) / 2):=by
   rw [←Int.tdiv_eq_ediv_of_nonneg (by omega),Int.neg_tdiv,Int.neg_neg]
  rw [e];exact zH (by omega) (by omega)
theorem zpj {t:qk} (h:t.2.2.length≤1000000000000000) {p:Int} (hp:wI t p):wrF .i64 (Int.tdiv p 2)=Int.tdiv p 2:=zIy (by have:=hp.1;omega) (by have:=hp.2;omega)
theorem jG {α:Type} {l:List α} {x:α} (h:x∈l):∃i,i < l.length∧l[i]?=some x:=by
 obtain ⟨i,hi⟩:=List.getElem?_of_mem h
 exact ⟨i,by grind,hi⟩
theorem zsl {t:qk} (h:t.2.2.length≤1000000000000000) {a b:List Int} (ha:∀p∈a,wI t p) (hb:∀p∈b,wI t p) (la:a.length≤8) (lb:b.length≤8):QQ (a,b,())=some (tv (Xq a b),()):=by
 rw [zpw];unfold zde
 refine jV (zm (J:=fun x=>(x.1=0∧¬Xq a b)∨(x.1=1∧x.2.1.1=true∧Xq a b)) (qE a.length (fun i=>∀p,a[i]?=some p→¬∃q∈b,Int.tdiv p 2=Int.tdiv q 2) (by omega) ?_ ?_) ?_)
 ·intro i hi hp
  have hx:a[i]?=some a[i]:=List.getElem?_eq_getElem hi
  have hm:=List.getElem_mem hi
  generalize a[i]=p at hx hm
  refine ze (zR (show (i:Int) < (a.length:Int) by omega)) (zg (zy (n:=i) hx ?_))
  refine zm (J:=fun x=>(x.1=0∧x.2.1.1=false∧¬∃q∈b,Int.tdiv p 2=Int.tdiv q 2)∨(x.1=1∧x.2.1.1=true∧∃q∈b,Int.tdiv p 2=Int.tdiv q 2)) (qE b.length (fun k=>∀q,b[k]?=some q→Int.tdiv p 2≠Int.tdiv q 2) (by omega) ?_ ?_) ?_
  ·intro k hk hq
   have hy:b[k]?=some b[k]:=List.getElem?_eq_getElem hk
   have hmk:=List.getElem_mem hk
   generalize b[k]=q at hy hmk
   refine ze (zR (show (k:Int) < (b.length:Int) by omega)) (zg (zy (n:=k) hy ?_))
   rw [zpj h (ha p hm),zpj h (hb q hmk)]
   refine zk (fun h=>?_) (fun h=>?_)
   ·exact za (zp (.inr ⟨rfl,rfl,q,hmk,qR h⟩))
   ·exact za (jo (by omega) fun q' hq'=>by rw [hy] at hq';cases hq';exact jk h)
  ·intro hq
   refine zf (zF (show ¬(b.length:Int) < (b.length:Int) by omega)) (za (zp (.inl ⟨rfl,rfl,fun ⟨q,hq1,hq2⟩=>?_⟩)))
   obtain ⟨k,hk,hk2⟩:=jG hq1
   exact hq k hk q hk2 hq2
  ·rintro ⟨j,⟨v,w,⟨⟩⟩,⟨⟩⟩ (⟨rfl,rfl,hq⟩ | ⟨rfl,rfl,hq⟩)
   ·exact ze rfl (za (jo (by omega) fun p' hp'=>by rw [hx] at hp';cases hp';exact hq))
   ·exact zf rfl (za (zp (.inr ⟨rfl,rfl,p,hm,hq⟩)))
 ·intro hp
  refine zf (zF (show ¬(a.length:Int) < (a.length:Int) by omega)) (za (zp (.inl ⟨rfl,fun ⟨p,hp1,hp2⟩=>?_⟩)))
  obtain ⟨k,hk,hk2⟩:=jG hp1
  exact hp k hk p hk2 hp2
 ·rintro ⟨j,⟨v,w,⟨⟩⟩,⟨⟩⟩ (⟨rfl,hq⟩ | ⟨rfl,rfl,hq⟩)
  ·exact ze rfl (za ⟨fun h=>(by cases h),fun h=>absurd h hq⟩)
  ·exact zf rfl (za ⟨fun _=>hq,fun _=>rfl⟩)
theorem zxh {a:List Int} {i:Nat} (h:1≤i) (h2:i < a.length - 1):(Vp a)[i - 1]?=a[i]?:=by
 unfold Vp
 rw [List.getElem?_drop,List.getElem?_take]
 rw [if_pos (by omega)]
 congr 1;omega
theorem zxi (a:List Int):(Vp a).length=a.length - 1 - 1:=by unfold Vp;simp
theorem zxj {a:List Int} {n:Int}:n∈Vp a↔∃i,1≤i∧i < a.length - 1∧a[i]?=some n:=by
 constructor
 ·intro h
  obtain ⟨k,hk,hk2⟩:=jG h
  rw [zxi] at hk
  refine ⟨k+1,by omega,by omega,?_⟩
  rw [←zxh (by omega) (by omega)];exact hk2
 ·rintro ⟨i,h1,h2,h3⟩
  rw [←zxh h1 h2] at h3
  exact List.mem_of_getElem? h3
theorem zfA {a b:List Int} (la:1≤a.length) (la2:a.length≤100) (lb:b.length≤100):ZZ (a,b,())=some (tv (JS a b),()):=by
 have e1:wrF .i64 ((a.length:Int) - 1)=(a.length:Int) - 1:=zH (by omega) (by omega)
 rw [znI];unfold zbx
 rw [e1]
 refine jV (zm (J:=fun x=>(x.1=0∧¬JS a b)∨(x.1=1∧x.2.1.1=true∧JS a b))
  (zU (a.length - 1 - 1) (fun i s=>s=((false,(((i+1:Nat):Int),())),())∧∀k,1≤k→k < i+1→∀n,a[k]?=some n→¬n∈b) (by omega) ⟨rfl,fun k h1 h2=>by omega⟩ ?_ ?_) ?_)
 ·rintro i _ hi ⟨rfl,hp⟩
  have hx:a[i+1]?=some a[i+1]:=List.getElem?_eq_getElem (by omega)
  generalize a[i+1]=n at hx
  refine ze (zR (show ((i+1:Nat):Int) < (a.length:Int) - 1 by omega)) (zg (zy (n:=i+1) hx ?_))
  rw [zch (by show b.length≤_;omega)]
  refine zk (fun h=>?_) (fun h=>?_)
  ·exact za (zp (.inr ⟨rfl,rfl,n,zxj.2 ⟨i+1,by omega,by omega,hx⟩,ZH h⟩))
  ·refine za (qg ⟨congrArg (fun z=>((false,(z,())),())) (qj (i:=i+1) (by omega)),fun k h1 h2 m hm=>?_⟩)
   rcases Nat.lt_or_ge k (i+1) with hk | hk
   ·exact hp k h1 hk m hm
   ·have:k=i+1:=by omega
    subst this
    rw [hx] at hm;cases hm
    exact Zf h
 ·rintro _ ⟨rfl,hp⟩
  refine zf (zF (show ¬((a.length - 1 - 1+1:Nat):Int) < (a.length:Int) - 1 by omega)) (za (zp (.inl ⟨rfl,fun ⟨n,h1,h2⟩=>?_⟩)))
  obtain ⟨i,i1,i2,i3⟩:=zxj.1 h1
  exact hp i i1 (by omega) n i3 h2
 ·rintro ⟨j,⟨v,w,⟨⟩⟩,⟨⟩⟩ (⟨rfl,hq⟩ | ⟨rfl,rfl,hq⟩)
  ·exact ze rfl (za ⟨fun h=>(by cases h),fun h=>absurd h hq⟩)
  ·exact zf rfl (za ⟨fun _=>hq,fun _=>rfl⟩)
theorem ziq {t:qk} (ht:jz t) {a b:List Int} (ha:qU t a) (hb:qU t b):uI (t,a,b,())=some (tv (zoE t a b),()):=by
 have hll:=ht.ll
 have na:=ZU t ha.ne;have nb:=ZU t hb.ne
 have a0:=ha.n0;have a8:=ha.n1;have b0:=hb.n0;have b8:=hb.n1
 rw [zrc];unfold zes
 refine jV (zm (J:=fun x=>(x.1=0∧¬Xq a b)∨(x.1=1∧x.2.1.1=false∧Xq a b)) (qE a.length (fun i=>∀p,a[i]?=some p→¬∃q∈b,Int.tdiv p 2=Int.tdiv q 2) (by omega) ?_ ?_) ?_)
 ·intro i hi hp
  have hx:a[i]?=some a[i]:=List.getElem?_eq_getElem hi
  have hm:=List.getElem_mem hi
  generalize a[i]=p at hx hm
  refine ze (zR (show (i:Int) < (a.length:Int) by omega)) ?_
  refine zm (J:=fun x=>(x.1=0∧x.2.1.1=false∧¬∃q∈b,Int.tdiv p 2=Int.tdiv q 2)∨(x.1=1∧x.2.1.1=false∧∃q∈b,Int.tdiv p 2=Int.tdiv q 2)) (qE b.length (fun k=>∀q,b[k]?=some q→Int.tdiv p 2≠Int.tdiv q 2) (by omega) ?_ ?_) ?_
  ·intro k hk hq
   have hy:b[k]?=some b[k]:=List.getElem?_eq_getElem hk
   have hmk:=List.getElem_mem hk
   generalize b[k]=q at hy hmk
   refine ze (zR (show (k:Int) < (b.length:Int) by omega)) (zg (zy (n:=i) hx (zg (zy (n:=k) hy ?_))))
   rw [zpj hll (ha.pt p hm),zpj hll (hb.pt q hmk)]
   refine zk (fun h=>?_) (fun h=>?_)
   ·exact za (zp (.inr ⟨rfl,rfl,q,hmk,qR h⟩))
   ·exact za (jo (by omega) fun q' hq'=>by rw [hy] at hq';cases hq';exact jk h)
  ·intro hq
   refine zf (zF (show ¬(b.length:Int) < (b.length:Int) by omega)) (za (zp (.inl ⟨rfl,rfl,fun ⟨q,hq1,hq2⟩=>?_⟩)))
   obtain ⟨k,hk,hk2⟩:=jG hq1
   exact hq k hk q hk2 hq2
  ·rintro ⟨j,⟨v,w,⟨⟩⟩,⟨⟩⟩ (⟨rfl,rfl,hq⟩ | ⟨rfl,rfl,hq⟩)
   ·exact ze rfl (za (jo (by omega) fun p' hp'=>by rw [hx] at hp';cases hp';exact hq))
   ·exact zf rfl (za (zp (.inr ⟨rfl,rfl,p,hm,hq⟩)))
 ·intro hp
  refine zf (zF (show ¬(a.length:Int) < (a.length:Int) by omega)) (za (zp (.inl ⟨rfl,fun ⟨p,hp1,hp2⟩=>?_⟩)))
  obtain ⟨k,hk,hk2⟩:=jG hp1
  exact hp k hk p hk2 hp2
 ·rintro ⟨j,⟨v,w,⟨⟩⟩,⟨⟩⟩ (⟨rfl,hq⟩ | ⟨rfl,rfl,hq⟩)
  ·refine ze rfl ?_
   simp only [zcj hll ha.ne ha.n1 ha.pt,zcj hll hb.ne hb.n1 hb.pt,zz]
   rw [zfA (by omega) (by omega) (by omega)]
   refine zk (fun h=>?_) (fun h=>?_)
   ·rw [zfA (by omega) (by omega) (by omega)]
    refine za ⟨fun h2=>⟨hq,ye h,ye h2⟩,fun h2=>?_⟩
    show (!tv _)=true
    rw [zX h2.2.2];rfl
   ·exact za ⟨fun h2=>(by cases h2),fun h2=>absurd (yW h) h2.2.1⟩
  ·exact zf rfl (za ⟨fun h=>(by cases h),fun h=>absurd hq h.1⟩)
theorem zfj {l:List Int} (hn:l.length≤1000000000000000000) (b:Int):qu (yZ (l,b,())) fun r=>(0≤r.1∧b∈l)∨(r.1 = -1∧¬b∈l):=by
 rw [zd6];unfold Js
 refine zm (J:=fun x=>(x.1=0∧¬b∈l)∨(x.1=1∧0≤x.2.1.1∧b∈l)) (qE l.length (fun i=>l[i]?≠some b) hn ?_ ?_) ?_
 ·intro i hi hp
  have hx:l[i]?=some l[i]:=List.getElem?_eq_getElem hi
  refine ze (zR (show (i:Int) < (l.length:Int) by omega)) (zg (zy (n:=i) hx (zk (fun h=>?_) (fun h=>?_))))
  ·have:b=l[i]:=qR h
   exact za (zp (.inr ⟨rfl,by show (0:Int)≤(i:Int);omega,by rw [this];exact List.getElem_mem hi⟩))
  ·have:=jk (show zh b l[i]=false from h)
   exact za (jo (by omega) (by rw [hx];intro e;cases e;exact this rfl))
 ·intro hp
  refine zf (zF (show ¬(l.length:Int) < (l.length:Int) by omega)) (za (zp (.inl ⟨rfl,fun hm=>?_⟩)))
  obtain ⟨k,hk,hk2⟩:=jG hm
  exact hp k hk hk2
 ·rintro ⟨j,⟨v,w,⟨⟩⟩,⟨⟩⟩ (⟨rfl,hp⟩ | ⟨rfl,h0,hp⟩)
  ·exact ze rfl (za (.inr ⟨rfl,hp⟩))
  ·exact zf rfl (za (.inl ⟨h0,hp⟩))
theorem zcA {l:List Int} (hn:l.length≤1000000000000000000) (b:Int):yf (l,b,())=some (tv (b∈l),()):=by
 rw [zbL];unfold ZP
 refine jV (zm (zfj hn b) ?_)
 rintro ⟨v,⟨⟩⟩ (⟨h,hm⟩ | ⟨rfl,hm⟩)
 ·refine za ⟨fun _=>hm,fun _=>?_⟩
  show (!zj v 0)=true
  rw [zF (by simp only at h;omega)];rfl
 ·exact za ⟨fun h=>(by cases h),fun h=>absurd h hm⟩
theorem zcm {l:List Int} (hn:l.length≤1000000000000000000) (b:Int):qu (wN (l,b,())) fun r=>(0≤r.1∧b∈l)∨(r.1 = -1∧¬b∈l):=by
 rw [za2];unfold Zq
 refine zm (J:=fun x=>(x.1=0∧¬b∈l)∨(x.1=1∧0≤x.2.1.1∧b∈l)) (qE l.length (fun i=>l[i]?≠some b) hn ?_ ?_) ?_
 ·intro i hi hp
  have hx:l[i]?=some l[i]:=List.getElem?_eq_getElem hi
  refine ze (zR (show (i:Int) < (l.length:Int) by omega)) (zg (zy (n:=i) hx (zk (fun h=>?_) (fun h=>?_))))
  ·have:b=l[i]:=qR h
   exact za (zp (.inr ⟨rfl,by show (0:Int)≤(i:Int);omega,by rw [this];exact List.getElem_mem hi⟩))
  ·have:=jk (show zh b l[i]=false from h)
   exact za (jo (by omega) (by rw [hx];intro e;cases e;exact this rfl))
 ·intro hp
  refine zf (zF (show ¬(l.length:Int) < (l.length:Int) by omega)) (za (zp (.inl ⟨rfl,fun hm=>?_⟩)))
  obtain ⟨k,hk,hk2⟩:=jG hm
  exact hp k hk hk2
 ·rintro ⟨j,⟨v,w,⟨⟩⟩,⟨⟩⟩ (⟨rfl,hp⟩ | ⟨rfl,h0,hp⟩)
  ·exact ze rfl (za (.inr ⟨rfl,hp⟩))
  ·exact zf rfl (za (.inl ⟨h0,hp⟩))
theorem Gc {l:List Int} (hn:l.length≤1000000000000000000) (b:Int):qS (l,b,())=some (tv (b∈l),()):=by
 rw [UJ];unfold kP
 refine jV (zm (zcm hn b) ?_)
 rintro ⟨v,⟨⟩⟩ (⟨h,hm⟩ | ⟨rfl,hm⟩)
 ·refine za ⟨fun _=>hm,fun _=>?_⟩
  show (!zj v 0)=true
  rw [zF (by simp only at h;omega)];rfl
 ·exact za ⟨fun h=>(by cases h),fun h=>absurd h hm⟩
theorem zcn {t:qk} (ht:jz t) {a b:List Int} (ha:qU t a) (hb:qU t b):kL (t,a,b,())=some (tv (JS (zW t a) (zW t b)),()):=by
 have hll:=ht.ll
 have na:=ZU t ha.ne;have nb:=ZU t hb.ne
 have a0:=ha.n0;have a8:=ha.n1;have b0:=hb.n0;have b8:=hb.n1
 rw [zjC];unfold KP
 simp only [Vo hll ha.ne ha.n1 ha.pt,Vo hll hb.ne hb.n1 hb.pt,zz]
 generalize zW t a=A at na
 generalize zW t b=B at nb
 have e1:wrF .i64 ((A.length:Int) - 1)=((A.length - 1:Nat):Int):=by rw [zH]<;>omega
 have e2:QG A (some 1) (some (((A.length - 1:Nat):Int))) (some (((A.length - 1:Nat):Int)))=some (Vp A):=zGA A 1 (A.length - 1) (by omega) (by omega)
 rw [e1,e2,zz]
 have il:=zxi A
 refine jV (zm (J:=fun x=>(x.1=0∧¬JS A B)∨(x.1=1∧x.2.1.1=true∧JS A B)) (qE (Vp A).length (fun i=>∀n,(Vp A)[i]?=some n→¬n∈B) (by omega) ?_ ?_) ?_)
 ·intro i hi hp
  have hx:(Vp A)[i]?=some (Vp A)[i]:=List.getElem?_eq_getElem hi
  have hm:=List.getElem_mem hi
  generalize (Vp A)[i]=n at hx hm
  refine ze (zR (show (i:Int) < ((Vp A).length:Int) by omega)) (zg (zy (n:=i) hx ?_))
  rw [zcA (by omega)]
  refine zk (fun h=>?_) (fun h=>?_)
  ·exact za (zp (.inr ⟨rfl,rfl,n,hm,ZH h⟩))
  ·exact za (jo (by omega) fun m hm=>by rw [hx] at hm;cases hm;exact Zf h)
 ·intro hp
  refine zf (zF (show ¬((Vp A).length:Int) < ((Vp A).length:Int) by omega)) (za (zp (.inl ⟨rfl,fun ⟨n,h1,h2⟩=>?_⟩)))
  obtain ⟨k,hk,hk2⟩:=jG h1
  exact hp k hk n hk2 h2
 ·rintro ⟨j,⟨v,w,⟨⟩⟩,⟨⟩⟩ (⟨rfl,hq⟩ | ⟨rfl,rfl,hq⟩)
  ·exact ze rfl (za ⟨fun h=>(by cases h),fun h=>absurd h hq⟩)
  ·exact zf rfl (za ⟨fun _=>hq,fun _=>rfl⟩)
theorem zir {t:qk} (ht:jz t) (r:List Int):uO (t,r,())=some (bif tv (qU t r) then 0 else 310,()):=by
 rw [zrp];unfold zeF
 simp only [QU,zz,zQ ht,cond_true,zcl ht]
 rw [show (!zh 0 0)=false from rfl,cond_false]
 cases tv (qU t r)<;>rfl
theorem zuv {t:qk} (ht:jz t) {a b:List Int} (ha:qU t a) (hb:qU t b):gU (t,a,b,())=some (tv (zoE t a b),0,()):=by
 rw [zrt];unfold zeH
 simp only [zir ht,zz,zQ ha,zQ hb,cond_true,zcl ht,zsl ht.ll ha.pt hb.pt ha.n1 hb.n1,zcn ht ha hb,zcn ht hb ha]
 rw [show (!zh 0 0)=false from rfl,cond_false]
 simp only [Bool.not_true,cond_false]
 unfold zoE
 by_cases h1:Xq a b
 ·simp [zQ h1,zX (show ¬(¬Xq a b∧¬JS (zW t a) (zW t b)∧¬JS (zW t b) (zW t a)) from fun h=>h.1 h1)]
 ·by_cases h2:JS (zW t a) (zW t b)
  ·simp [zX h1,zQ h2,zX (show ¬(¬Xq a b∧¬JS (zW t a) (zW t b)∧¬JS (zW t b) (zW t a)) from fun h=>h.2.1 h2)]
  ·by_cases h3:JS (zW t b) (zW t a)
   ·simp [zX h1,zX h2,zQ h3,zX (show ¬(¬Xq a b∧¬JS (zW t a) (zW t b)∧¬JS (zW t b) (zW t a)) from fun h=>h.2.2 h3)]
   ·simp [zX h1,zX h2,zX h3,zQ (show ¬Xq a b∧¬JS (zW t a) (zW t b)∧¬JS (zW t b) (zW t a) from ⟨h1,h2,h3⟩)]
def VC (t:qk) (r:List Int):Int:=frm t ((r[0]?).getD 0)
def Uz (t:qk) (r:List Int):Int:=too t ((r[r.length - 1]?).getD 0)
theorem zuw {t:qk} (ht:jz t) (r:List Int):Wk (t,r,())=some (bif tv (qU t r) then (zW t r,0,()) else ([],310,())):=by
 rw [zrr];unfold zeG
 simp only [zir ht,zz]
 by_cases h:qU t r
 ·simp only [zQ h,cond_true,Vo ht.ll h.ne h.n1 h.pt,zz];rfl
 ·simp only [zX h,cond_false];rfl
theorem zBI (t:qk) {r:List Int} (h:r≠[]):(zW t r)[0]?=some (VC t r):=by
 cases r with
 |nil=>exact absurd rfl h
 |cons p r=>rfl
theorem zDC (t:qk) {r:List Int} (h:r≠[]):(zW t r)[r.length]?=some (Uz t r):=by
 have hl:0 < r.length:=List.length_pos_iff.2 h
 have hx:r[r.length - 1]?=some (r[r.length - 1]'(by omega)):=List.getElem?_eq_getElem (by omega)
 have:=Yf t hx
 rw [show r.length - 1+1=r.length by omega] at this
 rw [this];unfold Uz;rw [hx];rfl
theorem zws {t:qk} (ht:jz t) (r:List Int):YW (t,r,())=some (bif tv (qU t r) then (VC t r,Uz t r,0,()) else (0,0,310,())):=by
 rw [ztA];unfold zgQ
 simp only [zuw ht,zz]
 by_cases h:qU t r
 ·have hn:=ZU t h.ne
  have:=h.n1
  simp only [zQ h,cond_true]
  rw [show (!zh 0 0)=false from rfl,cond_false]
  rw [show wrF .i64 (((zW t r).length:Int) - 1)=((r.length:Nat):Int) from by rw [zH]<;>omega]
  rw [show (0:Int)=((0:Nat):Int) from rfl,wB (zBI t h.ne),zz,wB (zDC t h.ne),zz]
 ·simp only [zX h,cond_false];rfl
theorem zsm {t:qk} (ht:jz t) (r:List Int) (a b:Int):Zn (t,r,a,b,())=some (tv (qU t r∧VC t r=a∧Uz t r=b),()):=by
 rw [zpu];unfold zdd
 simp only [zws ht,zz]
 by_cases h:qU t r
 ·simp only [zQ h,cond_true]
  rw [show zh 0 0=true from rfl,cond_true]
  refine jV (zk (fun h1=>?_) (fun h1=>?_))
  ·exact za ⟨fun h2=>⟨h,qR h1,qR h2⟩,fun h2=>uq h2.2.2⟩
  ·exact za ⟨fun h2=>(by cases h2),fun h2=>absurd h2.2.1 (jk h1)⟩
 ·simp only [zX h,cond_false]
  rw [show zh 310 0=false from rfl,cond_false,zX fun h2=>h h2.1]
abbrev qC:=Int×Int×Int×Int×Int×Int×(Int×Int)×Int×List (List Int)
structure xb (t:qk) (s:qC):Prop where
 id:1≤s.1∧s.1≤4095
 ta:jf t s.2.1∧stn t s.2.1=true
 li:jf t s.2.2.1∧stn t s.2.2.1=true
 tl:s.2.1≠s.2.2.1
 sz:84≤s.2.2.2.2.1∧s.2.2.2.2.1≤1542
 dl:1≤s.2.2.2.2.2.2.2.1∧s.2.2.2.2.2.2.2.1≤1099511627776
 cl:(s.2.2.2.1=7∧(1≤s.2.2.2.2.2.1∧s.2.2.2.2.2.1≤240)∧s.2.2.2.2.2.2.1=(0,0))∨(s.2.2.2.1=6∧s.2.2.2.2.2.1=0∧(s.2.2.2.2.1≤s.2.2.2.2.2.2.1.1∧s.2.2.2.2.2.2.1.1≤1048576)∧(1≤s.2.2.2.2.2.2.1.2∧s.2.2.2.2.2.2.1.2≤2097152))
 rn:1≤s.2.2.2.2.2.2.2.2.length∧s.2.2.2.2.2.2.2.2.length≤2
 rt:∀r∈s.2.2.2.2.2.2.2.2,qU t r∧VC t r=s.2.1∧Uz t r=s.2.2.1
 ap:∀a b,s.2.2.2.2.2.2.2.2[0]?=some a→s.2.2.2.2.2.2.2.2[1]?=some b→zoE t a b
theorem zlg {a b c:Int} {R:Int→Int→Int→Option (Bool×Unit)} (hR:R a b c=(bif (!(zj (a) (b))) then some ((!(zj (c) (a))),()) else some (false,()))):R a b c=some (tv (b≤a∧a≤c),()):=by
 rw [hR]
 refine jV (zk (fun h=>?_) (fun h=>?_))<;>refine za ?_<;>simp only [xl] at *<;>grind
theorem KZ (a b c:Int):wk (a,b,c,())=some (tv (b≤a∧a≤c),()):=by
 rw [zma];exact zlg (R:=zam) rfl
theorem zhH (a b c:Int):uJ (a,b,c,())=some (tv (b≤a∧a≤c),()):=by
 rw [zxJ];exact zlg (R:=zkO) rfl
theorem zjY (a b c:Int):ux (a,b,c,())=some (tv (b≤a∧a≤c),()):=by
 rw [ziQ];exact zlg (R:=Ka) rfl
theorem zCa {n:Int} (h : -1000000≤n) (h2:n≤1000000):wrF .i64 (n - 1)=n - 1:=zH (by omega) (by omega)
theorem zoF {t:qk} (hs:szP t) (n:Int):Zk (t,n,())=some (tv (jf t n∧stn t n=true),()):=by
 have h0:=hs.n0;have h1:=hs.n1
 rw [zmf];unfold zap
 simp only [KZ,zz,zCa (show -1000000≤t.1 by omega) (by omega)]
 refine jV (zk (fun h=>?_) (fun h=>?_))
 ·obtain ⟨h2,h3⟩:=ZH h
  have hn:jf t n:=⟨h2,by omega⟩
  refine zg (qn (a:=stn t n) (by show atI t.2.1 n=_;rw [show n=((n.toNat:Nat):Int) from (by omega),wB (n:=n.toNat)];exact hn.get hs) ?_)
  exact za ⟨fun h=>⟨hn,h⟩,fun h=>h.2⟩
 ·have:=Zf h
  exact za ⟨fun h=>(by cases h),fun h=>absurd ⟨h.1.1,by have:=h.1.2;omega⟩ this⟩
theorem zpY {t:qk} (hs:szP t) (n:Int):Qa (t,n,())=some (tv (jf t n∧stn t n=true),()):=by
 have h0:=hs.n0;have h1:=hs.n1
 rw [znK];unfold zbC
 simp only [zhH,zz,zCa (show -1000000≤t.1 by omega) (by omega)]
 refine jV (zk (fun h=>?_) (fun h=>?_))
 ·obtain ⟨h2,h3⟩:=ZH h
  have hn:jf t n:=⟨h2,by omega⟩
  refine zg (qn (a:=stn t n) (by show atI t.2.1 n=_;rw [show n=((n.toNat:Nat):Int) from (by omega),wB (n:=n.toNat)];exact hn.get hs) ?_)
  exact za ⟨fun h=>⟨hn,h⟩,fun h=>h.2⟩
 ·have:=Zf h
  exact za ⟨fun h=>(by cases h),fun h=>absurd ⟨h.1.1,by have:=h.1.2;omega⟩ this⟩
def yg (b:Int×Int):Prop:=(1≤b.1∧b.1≤1048576)∧(1≤b.2∧b.2≤2097152)
theorem JF (b:Int×Int):jO (b,())=some (bif tv (yg b) then 0 else 130,()):=by
 rw [zps];unfold zdc yg
 simp only [zjY,zz]
 by_cases h1:1≤b.1∧b.1≤1048576
 ·by_cases h2:1≤b.2∧b.2≤2097152
  ·simp only [zQ h1,zQ h2,zQ (And.intro h1 h2)];rfl
  ·simp only [zQ h1,zX h2,zX (fun h:(1≤b.1∧b.1≤1048576)∧(1≤b.2∧b.2≤2097152)=>h2 h.2)];rfl
 ·simp only [zX h1,zX (fun h:(1≤b.1∧b.1≤1048576)∧(1≤b.2∧b.2≤2097152)=>h1 h.1)];rfl
theorem zET (b:Int×Int):((zh b.1 0)&&((zh b.2 0)&&true))=tv (b=(0,0)):=by
 obtain ⟨x,y⟩:=b
 rw [zIj,jF,jF]
 simp only [Bool.and_true]
 rw [Bool.eq_iff_iff]
 simp [Prod.ext_iff]
theorem zqx {t:qk} (ht:jz t) {s:qC} {Q:Prop} (hn:1≤s.2.2.2.2.2.2.2.2.length∧s.2.2.2.2.2.2.2.2.length≤2) {B:((Bool×(Int×Unit))×Unit)→Option ((Nat×((Bool×(Int×Unit))×Unit)) ⊕ ((Bool×(Int×Unit))×Unit))}
  {K:(Nat×((Bool×(Int×Unit))×Unit))→Option (Bool×Unit)}
  (hB
    : B=fun s7=>bif (zj (s7.1.2.1) ((((s.2.2.2.2.2.2.2.2).length:Nat):Int))) then opt (atI (s.2.2.2.2.2.2.2.2) (s7.1.2.1)) fun x8=>
    opt (Zn ((t,(x8,(s.2.1,(s.2.2.1,())))))) fun x9=>
    bif (!x9.1) then some (.inl (1,((false,(s7.1.2.1,())),())))
    else some (.inr ((s7.1.1,((wrF .i64 ((s7.1.2.1+1))),())),()))
   else some (.inl (0,((s7.1.1,(s7.1.2.1,())),()))))
  (hK :
     ∀x,K x=bif (Nat.beq x.1 0) then bif (zj ((((s.2.2.2.2.2.2.2.2).length:Nat):Int)) (2)) then some (true,())
     else opt (atI (s.2.2.2.2.2.2.2.2) (0)) fun x11=>opt (atI (s.2.2.2.2.2.2.2.2) (1)) fun x12=>opt (gU ((t,(x11,(x12,()))))) fun x13=>
      bif (zh (x13.2.1) (0)) then bif (!x13.1) then some (false,()) else some (true,()) else some (false,())
    else bif (!x.2.1.1) then some (false,())
     else bif (zj ((((s.2.2.2.2.2.2.2.2).length:Nat):Int)) (2)) then some (true,())
      else opt (atI (s.2.2.2.2.2.2.2.2) (0)) fun x14=>opt (atI (s.2.2.2.2.2.2.2.2) (1)) fun x15=>opt (gU ((t,(x14,(x15,()))))) fun x16=>
       bif (zh (x16.2.1) (0)) then bif (!x16.1) then some (false,()) else some (true,()) else some (false,()))
  (hQ:Q↔(∀r∈s.2.2.2.2.2.2.2.2,qU t r∧VC t r=s.2.1∧Uz t r=s.2.2.1)∧∀a b,s.2.2.2.2.2.2.2.2[0]?=some a→s.2.2.2.2.2.2.2.2[1]?=some b→zoE t a b) :
  qu (opt (zD B zL ((false,(0,())),())) K) fun r=>(r.1=true↔Q):=by
 subst hB
 obtain ⟨n0,n2⟩:=hn
 refine zm (J:=fun x=>(x.1=0∧∀r∈s.2.2.2.2.2.2.2.2,qU t r∧VC t r=s.2.1∧Uz t r=s.2.2.1)∨(x.1=1∧x.2.1.1=false∧¬Q)) (qE s.2.2.2.2.2.2.2.2.length (fun i=>∀r,s.2.2.2.2.2.2.2.2[i]?=some r→qU t r∧VC t r=s.2.1∧Uz t r=s.2.2.1) (by omega) ?_ ?_) ?_
 ·intro i hi hp
  have hx:s.2.2.2.2.2.2.2.2[i]?=some s.2.2.2.2.2.2.2.2[i]:=List.getElem?_eq_getElem hi
  have hm:=List.getElem_mem hi
  generalize s.2.2.2.2.2.2.2.2[i]=r at hx hm
  refine ze (zR (show (i:Int) < (s.2.2.2.2.2.2.2.2.length:Int) by omega)) (zg (zy (n:=i) hx ?_))
  rw [zsm ht]
  refine zk (fun h=>?_) (fun h=>?_)
  ·exact za (zp (.inr ⟨rfl,rfl,fun hq=>ye h ((hQ.1 hq).1 r hm)⟩))
  ·exact za (jo (by omega) fun r' hr'=>by rw [hx] at hr';cases hr';exact yW h)
 ·intro hp
  refine zf (zF (show ¬(s.2.2.2.2.2.2.2.2.length:Int) < (s.2.2.2.2.2.2.2.2.length:Int) by omega)) (za (zp (.inl ⟨rfl,fun r hr=>?_⟩)))
  obtain ⟨k,hk,hk2⟩:=jG hr
  exact hp k hk r hk2
 ·rintro ⟨j,⟨v,w,⟨⟩⟩,⟨⟩⟩ (⟨rfl,hq⟩ | ⟨rfl,rfl,hq⟩)
  ·rw [hK]
   refine ze rfl (zk (fun h=>?_) (fun h=>?_))
   ·have h:=qt h
    have h:s.2.2.2.2.2.2.2.2.length < 2:=by omega
    exact za ⟨fun _=>hQ.2 ⟨hq,fun a b _ hb=>by rw [List.getElem?_eq_none (by omega)] at hb;cases hb⟩,fun _=>rfl⟩
   ·have h:=qB h
    have h:2≤s.2.2.2.2.2.2.2.2.length:=by omega
    have hx0:s.2.2.2.2.2.2.2.2[0]?=some s.2.2.2.2.2.2.2.2[0]:=List.getElem?_eq_getElem (by omega)
    have hx1:s.2.2.2.2.2.2.2.2[1]?=some s.2.2.2.2.2.2.2.2[1]:=List.getElem?_eq_getElem (by omega)
    have r0:=(hq _ (List.getElem_mem (show 0 < s.2.2.2.2.2.2.2.2.length by omega))).1
    have r1:=(hq _ (List.getElem_mem (show 1 < s.2.2.2.2.2.2.2.2.length by omega))).1
    generalize s.2.2.2.2.2.2.2.2[0]=a at hx0 r0
    generalize s.2.2.2.2.2.2.2.2[1]=b at hx1 r1
    refine zg (zy (n:=0) hx0 (zg (zy (n:=1) hx1 ?_)))
    rw [zuv ht r0 r1]
    refine zk (fun h=>?_) (fun h=>?_)
    ·exact za ⟨fun h=>(by cases h),fun hq2=>absurd ((hQ.1 hq2).2 a b hx0 hx1) (ye h)⟩
    ·exact za ⟨fun _=>hQ.2 ⟨hq,fun a' b' ha hb=>by rw [hx0] at ha;rw [hx1] at hb;cases ha;cases hb;exact yW h⟩,fun _=>rfl⟩
  ·rw [hK]
   exact zf rfl (ze rfl (za ⟨fun h=>(by cases h),fun h=>absurd h hq⟩))
theorem zhI {t:qk} (ht:jz t) (s:qC):vM (t,s,())=some (tv (xb t s),()):=by
 have no:¬xb t s→qu (some ((false,()):Bool×Unit)) fun r=>(r.1=true↔xb t s):=fun h=>za ⟨fun h=>(by cases h),fun h2=>absurd h2 h⟩
 rw [zpx];unfold zdg
 simp only [KZ,zoF ht.sz,JF,zz,zET]
 refine jV (zk (fun h=>no fun hs=>ye h hs.id) fun h1=>zk (fun h2=>zk (fun h3=>zk (fun h=>no fun hs=>?_) fun h4=>zk (fun h=>no fun hs=>ye h hs.sz) fun h5=>zk (fun h=>no fun hs=>ye h hs.dl) fun h6=>?_) fun h=>no fun hs=>Zf h hs.li) fun h=>no fun hs=>Zf h hs.ta)
 ·exact hs.tl (qR (show zh s.2.1 s.2.2.1=true by simpa using h))
 have h1:=yW h1;have h2:=ZH h2;have h3:=ZH h3;have h5:=yW h5;have h6:=yW h6
 have h4:=jk (show zh s.2.1 s.2.2.1=false by simpa using h4)
 refine zk (fun c7=>?_) (fun c7=>zk (fun c6=>?_) (fun c6=>no fun hs=>?_))
 ·have c7:=qR c7
  refine zk (fun h7=>zk (fun h=>no fun hs=>?_) fun h8=>zk (fun h=>no fun hs=>?_) fun h9=>?_) (fun h=>no fun hs=>?_)
  ·rcases hs.cl with ⟨_,_,hb⟩ | ⟨h6',_⟩
   ·exact ye h hb
   ·omega
  ·have:=ye h
   have:=hs.rn
   omega
  ·have h9:=yW h9
   refine zqx ht ⟨by omega,by omega⟩ rfl (fun _=>rfl) ⟨fun hs=>⟨hs.rt,hs.ap⟩,fun hr=>⟨h1,h2,h3,h4,h5,h6,.inl ⟨c7,ZH h7,yW h8⟩,⟨by omega,by omega⟩,hr.1,hr.2⟩⟩
  ·rcases hs.cl with ⟨_,hb,_⟩ | ⟨h6',_⟩
   ·exact Zf h hb
   ·omega
 ·have c6:=qR c6
  refine zk (fun h7=>zk (fun h8=>zk (fun h=>no fun hs=>?_) fun h9=>zk (fun h=>no fun hs=>?_) fun h10=>?_) (fun h=>no fun hs=>?_)) (fun h=>no fun hs=>?_)
  ·rcases hs.cl with ⟨h7',_⟩ | ⟨_,_,hb,_⟩
   ·omega
   ·have:=qt (show zj s.2.2.2.2.2.2.1.1 s.2.2.2.2.1=true by simpa using h)
    omega
  ·have:=ye h
   have:=hs.rn
   omega
  ·have h10:=yW h10
   have h7:=qR h7
   have h8:yg s.2.2.2.2.2.2.1:=by
    apply Classical.byContradiction
    intro hb
    rw [zX hb] at h8;cases h8
   have h9:=qB (show zj s.2.2.2.2.2.2.1.1 s.2.2.2.2.1=false by simpa using h9)
   refine zqx ht ⟨by omega,by omega⟩ rfl (fun _=>rfl) ⟨fun hs=>⟨hs.rt,hs.ap⟩,fun hr=>⟨h1,h2,h3,h4,h5,h6,.inr ⟨c6,h7,⟨h9,h8.1.2⟩,h8.2⟩,⟨by omega,by omega⟩,hr.1,hr.2⟩⟩
  ·rcases hs.cl with ⟨h7',_⟩ | ⟨_,_,hb,hr⟩
   ·omega
   ·have:=hs.sz
    have hbp:yg s.2.2.2.2.2.2.1:=⟨⟨by omega,hb.2⟩,hr⟩
    rw [zQ hbp] at h;cases h
  ·rcases hs.cl with ⟨h7',_⟩ | ⟨_,hp,_⟩
   ·omega
   ·exact jk h hp
 ·rcases hs.cl with ⟨h7,_⟩ | ⟨h6',_⟩
  ·exact jk c7 h7
  ·exact jk c6 h6'
theorem zco {t:qk} (ht:jz t) (s:qC):yQ (t,s,())=some (tv (xb t s),()):=by
 have hll:=ht.ll
 rw [zre];unfold zeu
 simp only [zhH,zpY ht.sz,zz,zET]
 refine jV (zm (J:=fun x=>(x.1=0∧x.2.1.1=false∧(1≤s.1∧s.1≤4095)∧(jf t s.2.1∧stn t s.2.1=true)∧(jf t s.2.2.1∧stn t s.2.2.1=true)∧s.2.1≠s.2.2.1∧(84≤s.2.2.2.2.1∧s.2.2.2.2.1≤1542)∧(1≤s.2.2.2.2.2.2.2.1∧s.2.2.2.2.2.2.2.1≤1099511627776))∨(x.1=1∧x.2.1.1=false∧¬xb t s)) ?_ ?_)
 ·refine zk (fun h=>za (.inr ⟨rfl,rfl,fun hs=>ye h hs.id⟩)) fun h1=>zk (fun h=>za (.inr ⟨rfl,rfl,fun hs=>ye h hs.ta⟩)) fun h2=>zk (fun h=>za (.inr ⟨rfl,rfl,fun hs=>ye h hs.li⟩)) fun h3=>zk (fun h=>za (.inr ⟨rfl,rfl,fun hs=>hs.tl (qR h)⟩)) fun h4=>zk (fun h=>za (.inr ⟨rfl,rfl,fun hs=>ye h hs.sz⟩)) fun h5=>zk (fun h=>za (.inr ⟨rfl,rfl,fun hs=>ye h hs.dl⟩)) fun h6=>?_
  exact za (.inl ⟨rfl,rfl,yW h1,yW h2,yW h3,jk h4,yW h5,yW h6⟩)
 rintro ⟨j,⟨v,⟨⟩⟩,⟨⟩⟩ (⟨rfl,rfl,h1,h2,h3,h4,h5,h6⟩ | ⟨rfl,rfl,hq⟩)
 rotate_left
 ·exact zf rfl (za ⟨fun h=>(by cases h),fun h=>absurd h hq⟩)
 refine ze rfl (zm (J:=fun x=>(x.1=0∧x.2.1.1=false∧((s.2.2.2.1=7∧(1≤s.2.2.2.2.2.1∧s.2.2.2.2.2.1≤240)∧s.2.2.2.2.2.2.1=(0,0))∨(s.2.2.2.1=6∧s.2.2.2.2.2.1=0∧(s.2.2.2.2.1≤s.2.2.2.2.2.2.1.1∧s.2.2.2.2.2.2.1.1≤1048576)∧(1≤s.2.2.2.2.2.2.1.2∧s.2.2.2.2.2.2.1.2≤2097152))))∨(x.1=1∧x.2.1.1=false∧¬xb t s)) ?_ ?_)
 ·refine zk (fun c7=>?_) (fun c7=>zk (fun c6=>?_) (fun c6=>za (.inr ⟨rfl,rfl,fun hs=>?_⟩)))
  ·have c7:=qR c7
   refine zm (J:=fun x=>(x.1=0∧x.2.1.1=false∧(1≤s.2.2.2.2.2.1∧s.2.2.2.2.2.1≤240)∧s.2.2.2.2.2.2.1=(0,0))∨(x.1=1∧x.2.1.1=false∧¬xb t s)) ?_ ?_
   ·refine zk (fun h=>za (.inr ⟨rfl,rfl,fun hs=>?_⟩)) fun h7=>zk (fun h=>za (.inr ⟨rfl,rfl,fun hs=>?_⟩)) fun h8=>za (.inl ⟨rfl,rfl,yW h7,yW h8⟩)
    ·rcases hs.cl with ⟨_,hb,_⟩ | ⟨h6',_⟩
     ·exact ye h hb
     ·omega
    ·rcases hs.cl with ⟨_,_,hb⟩ | ⟨h6',_⟩
     ·exact ye h hb
     ·omega
   ·rintro ⟨j,⟨v,⟨⟩⟩,⟨⟩⟩ (⟨rfl,rfl,h7,h8⟩ | ⟨rfl,rfl,hq⟩)
    ·exact ze rfl (za (.inl ⟨rfl,rfl,.inl ⟨c7,h7,h8⟩⟩))
    ·exact zf rfl (za (.inr ⟨rfl,rfl,hq⟩))
  ·have c6:=qR c6
   refine zm (J:=fun x=>(x.1=0∧x.2.1.1=false∧s.2.2.2.2.2.1=0∧(s.2.2.2.2.1≤s.2.2.2.2.2.2.1.1∧s.2.2.2.2.2.2.1.1≤1048576)∧(1≤s.2.2.2.2.2.2.1.2∧s.2.2.2.2.2.2.1.2≤2097152))∨(x.1=1∧x.2.1.1=false∧¬xb t s)) ?_ ?_
   ·refine zk (fun h=>za (.inr ⟨rfl,rfl,fun hs=>?_⟩)) fun h7=>zk (fun h=>za (.inr ⟨rfl,rfl,fun hs=>?_⟩)) fun h8=>zk (fun h=>za (.inr ⟨rfl,rfl,fun hs=>?_⟩)) fun h9=>za (.inl ⟨rfl,rfl,qR (by simpa using h7),yW h8,yW h9⟩)
    ·rcases hs.cl with ⟨h7',_⟩ | ⟨_,hp,_⟩
     ·omega
     ·rw [uq hp] at h;cases h
    ·rcases hs.cl with ⟨h7',_⟩ | ⟨_,_,hb,_⟩
     ·omega
     ·exact ye h hb
    ·rcases hs.cl with ⟨h7',_⟩ | ⟨_,_,_,hb⟩
     ·omega
     ·exact ye h hb
   ·rintro ⟨j,⟨v,⟨⟩⟩,⟨⟩⟩ (⟨rfl,rfl,h7,h8⟩ | ⟨rfl,rfl,hq⟩)
    ·exact ze rfl (za (.inl ⟨rfl,rfl,.inr ⟨c6,h7,h8⟩⟩))
    ·exact zf rfl (za (.inr ⟨rfl,rfl,hq⟩))
  ·rcases hs.cl with ⟨h7,_⟩ | ⟨h6',_⟩
   ·exact jk c7 h7
   ·exact jk c6 h6'
 rintro ⟨j,⟨v,⟨⟩⟩,⟨⟩⟩ (⟨rfl,rfl,hcl⟩ | ⟨rfl,rfl,hq⟩)
 rotate_left
 ·exact zf rfl (za ⟨fun h=>(by cases h),fun h=>absurd h hq⟩)
 refine ze rfl (zm (J:=fun x=>(x.1=0∧x.2.1.1=false∧1≤s.2.2.2.2.2.2.2.2.length∧s.2.2.2.2.2.2.2.2.length≤2)∨(x.1=1∧x.2.1.1=false∧¬xb t s)) ?_ ?_)
 ·refine zk (fun h=>za (.inr ⟨rfl,rfl,fun hs=>?_⟩)) fun h7=>zk (fun h=>za (.inr ⟨rfl,rfl,fun hs=>?_⟩)) fun h8=>za (.inl ⟨rfl,rfl,?_⟩)
  ·have:=qt h;have:=hs.rn;omega
  ·have:=qt h;have:=hs.rn;omega
  ·have h7:=qB h7;have h8:=qB h8;omega
 rintro ⟨j,⟨v,⟨⟩⟩,⟨⟩⟩ (⟨rfl,rfl,n0,n2⟩ | ⟨rfl,rfl,hq⟩)
 rotate_left
 ·exact zf rfl (za ⟨fun h=>(by cases h),fun h=>absurd h hq⟩)
 refine ze rfl (zm (J:=fun x=>(x.1=0∧∀r∈s.2.2.2.2.2.2.2.2,qU t r∧VC t r=s.2.1∧Uz t r=s.2.2.1)∨(x.1=1∧x.2.1.1=false∧¬xb t s)) (qE s.2.2.2.2.2.2.2.2.length (fun i=>∀r,s.2.2.2.2.2.2.2.2[i]?=some r→qU t r∧VC t r=s.2.1∧Uz t r=s.2.2.1) (by omega) ?_ ?_) ?_)
 ·intro i hi hp
  have hx:s.2.2.2.2.2.2.2.2[i]?=some s.2.2.2.2.2.2.2.2[i]:=List.getElem?_eq_getElem hi
  have hm:=List.getElem_mem hi
  generalize s.2.2.2.2.2.2.2.2[i]=r at hx hm
  refine ze (zR (show (i:Int) < (s.2.2.2.2.2.2.2.2.length:Int) by omega)) (zg (zy (n:=i) hx ?_))
  rw [zio ht]
  refine zm (J:=fun x=>(x.1=0∧x.2.1.1=false∧qU t r∧VC t r=s.2.1∧Uz t r=s.2.2.1)∨(x.1=1∧x.2.1.1=false∧¬xb t s)) ?_ ?_
  ·refine zk (fun h=>za (.inr ⟨rfl,rfl,fun hs=>ye h (hs.rt r hm).1⟩)) fun h=>?_
   have hr:=yW h
   have r0:=hr.n0;have r8:=hr.n1
   have hy0:r[0]?=some r[0]:=List.getElem?_eq_getElem (by omega)
   have hy1:r[r.length - 1]?=some (r[r.length - 1]'(by omega)):=List.getElem?_eq_getElem (by omega)
   have e0:VC t r=frm t r[0]:=by unfold VC;rw [hy0];rfl
   have e1:Uz t r=too t (r[r.length - 1]'(by omega)):=by unfold Uz;rw [hy1];rfl
   have p0:=hr.pt _ (List.getElem_mem (show 0 < r.length by omega))
   have p1:=hr.pt _ (List.getElem_mem (show r.length - 1 < r.length by omega))
   generalize r[0]=p at hy0 e0 p0
   generalize (r[r.length - 1]'(by omega))=q at hy1 e1 p1
   refine zg (zy (n:=0) hy0 ?_)
   rw [QV hll p0,zz]
   refine zk (fun h=>za (.inr ⟨rfl,rfl,fun hs=>?_⟩)) fun h7=>?_
   ·rw [←e0,uq (hs.rt r hm).2.1] at h;cases h
   have h7:=qR (show zh (frm t p) s.2.1=true by simpa using h7)
   rw [show wrF .i64 ((r.length:Int) - 1)=((r.length - 1:Nat):Int) from by rw [zH]<;>omega]
   refine zg (zy (n:=r.length - 1) hy1 ?_)
   rw [JE hll p1,zz]
   refine zk (fun h=>za (.inr ⟨rfl,rfl,fun hs=>?_⟩)) fun h8=>?_
   ·rw [←e1,uq (hs.rt r hm).2.2] at h;cases h
   have h8:=qR (show zh (too t q) s.2.2.1=true by simpa using h8)
   exact za (.inl ⟨rfl,rfl,hr,by rw [e0,h7],by rw [e1,h8]⟩)
  ·rintro ⟨j,⟨v,⟨⟩⟩,⟨⟩⟩ (⟨rfl,rfl,hq⟩ | ⟨rfl,rfl,hq⟩)
   ·exact ze rfl (za (jo (by omega) fun r' hr'=>by rw [hx] at hr';cases hr';exact hq))
   ·exact zf rfl (za (zp (.inr ⟨rfl,rfl,hq⟩)))
 ·intro hp
  refine zf (zF (show ¬(s.2.2.2.2.2.2.2.2.length:Int) < (s.2.2.2.2.2.2.2.2.length:Int) by omega)) (za (zp (.inl ⟨rfl,fun r hr=>?_⟩)))
  obtain ⟨k,hk,hk2⟩:=jG hr
  exact hp k hk r hk2
 ·rintro ⟨j,⟨v,w,⟨⟩⟩,⟨⟩⟩ (⟨rfl,hrt⟩ | ⟨rfl,rfl,hq⟩)
  rotate_left
  ·exact zf rfl (za ⟨fun h=>(by cases h),fun h=>absurd h hq⟩)
  refine ze rfl (zk (fun h=>?_) (fun h=>?_))
  ·have h:=qR h
   have h:s.2.2.2.2.2.2.2.2.length=1:=by omega
   exact za ⟨fun _=>⟨h1,h2,h3,h4,h5,h6,hcl,⟨n0,n2⟩,hrt,fun a b _ hb=>by rw [List.getElem?_eq_none (by omega)] at hb;cases hb⟩,fun _=>rfl⟩
  ·have h:=jk h
   have h:s.2.2.2.2.2.2.2.2.length=2:=by omega
   have hx0:s.2.2.2.2.2.2.2.2[0]?=some s.2.2.2.2.2.2.2.2[0]:=List.getElem?_eq_getElem (by omega)
   have hx1:s.2.2.2.2.2.2.2.2[1]?=some s.2.2.2.2.2.2.2.2[1]:=List.getElem?_eq_getElem (by omega)
   have r0:=(hrt _ (List.getElem_mem (show 0 < s.2.2.2.2.2.2.2.2.length by omega))).1
   have r1:=(hrt _ (List.getElem_mem (show 1 < s.2.2.2.2.2.2.2.2.length by omega))).1
   generalize s.2.2.2.2.2.2.2.2[0]=a at hx0 r0
   generalize s.2.2.2.2.2.2.2.2[1]=b at hx1 r1
   refine zg (zy (n:=0) hx0 (zg (zy (n:=1) hx1 ?_)))
   rw [ziq ht r0 r1,zz]
   exact za ⟨fun h=>⟨h1,h2,h3,h4,h5,h6,hcl,⟨n0,n2⟩,hrt,fun a' b' ha hb=>by rw [hx0] at ha;rw [hx1] at hb;cases ha;cases hb;exact ZH h⟩,fun hs=>zQ (hs.ap a b hx0 hx1)⟩
end Go.Proofs.YtplhphmbkmpocaaGreat.ad
end
