/- Parts of a proof, joined. -/
import Derived.Test.YtlfkgkedfciccaaGreatH25
set_option linter.unusedSectionVars false
set_option linter.unusedVariables false
set_option linter.unusedSimpArgs false
set_option maxHeartbeats 0
set_option maxRecDepth 100000
noncomputable section
namespace Go.Proofs.YtlfkgkedfciccaaGreat.nd
open Go Go.Fz Go.Fz.Sy
abbrev EH:List VT:=[⟨true,jC⟩,⟨false,(.list zN)⟩,⟨false,(.list I)⟩]
abbrev EI:List VT:=[⟨false,I⟩,⟨false,I⟩]
def EJ(a0:wL)(a1:(List qi))(a2:(List Int)):Option (Int×Int×Unit):=opt (zJ (fun s0:((Int×(Int×(Int×(Int×Unit))))×Unit)=>bif(zg s0.1.2.2.2.1 ((a2.length:Nat):Int))then opt (atI a2 s0.1.2.2.2.1) fun x1=>opt (uE (a0,(a1,(x1,())))) fun x2=>bif !(zj x2.2.1 0)then some (.inl (1,((0,(x2.2.1,(s0.1.2.2.1,(s0.1.2.2.2.1,())))),())))else opt (atI a2 s0.1.2.2.2.1) fun x3=>opt (ky (a0.1,(x3,()))) fun x4=>some (.inr ((s0.1.1,(s0.1.2.1,((wrF .i64 ((wrF .i64 ((wrF .i64 (s0.1.2.2.1+x2.1.2.2.1))+x4.1))+a0.2.1.2.2.1)),((wrF .i64 (s0.1.2.2.2.1+1)),())))),()))else some (.inl (0,((s0.1.1,(s0.1.2.1,(s0.1.2.2.1,(s0.1.2.2.2.1,())))),())))) zR ((0,(0,(0,(0,())))),())) fun x5=>bif Nat.beq x5.1 0 then some (x5.2.1.2.2.1,(0,()))else some (x5.2.1.1,(x5.2.1.2.1,()))
abbrev zfI:Type:=(wL×(List qi)×(List Int)×Unit)->Option (Int×Int×Unit)
def Qy:zfI:=opq (sF prg [(59,aC),(57,Vf)] (zG [cdF jC,cdF Qg,cdF zS,cdF qD,cdF qG,cdF jk] [] [] [] [59,57]) (zy []) 30 108 EH EI)
abbrev EK:Con:=⟨EH,EI,Qy⟩
theorem Sr:Con.Ok prg 108 EK:=okF (ze GO (ze VP zn)) (by kernel_rfl)
theorem Ss(a0)(a1)(a2):Qy (a0,a1,a2,())=EJ a0 a1 a2:=zA (by kernel_rfl)
abbrev Aq:List VT:=[⟨true,jC⟩,⟨false,(.list zN)⟩]
abbrev Ar:List VT:=[⟨false,I⟩]
def As(a0:wL)(a1:(List qi)):Option (Int×Unit):=opt (Ym (a0,(a1,()))) fun x0=>bif !(zj x0.1 0)then some (x0.1,())else opt (zJ (fun s1:((Int×(Int×Unit))×Unit)=>bif(zg s1.1.2.1 ((a0.2.2.1.length:Nat):Int))then opt (uE (a0,(a1,(s1.1.2.1,())))) fun x2=>bif zj x2.2.1 4 then some (.inr ((s1.1.1,((wrF .i64 (s1.1.2.1+1)),())),()))else bif !(zj x2.2.1 0)then some (.inl (1,((x2.2.1,(s1.1.2.1,())),())))else bif zg a0.2.1.2.2.2 x2.1.2.2.2 then some (.inl (1,((7,(s1.1.2.1,())),())))else some (.inr ((s1.1.1,((wrF .i64 (s1.1.2.1+1)),())),()))else some (.inl (0,((s1.1.1,(s1.1.2.1,())),())))) zR ((0,(0,())),())) fun x3=>bif Nat.beq x3.1 0 then opt (zJ (fun s4:((Int×(Int×Unit))×Unit)=>bif(zg s4.1.2.1 ((a1.length:Nat):Int))then opt (zJ (fun s5:((Int×(Int×Unit))×Unit)=>opt (atI a1 s4.1.2.1) fun x6=>bif(zg s5.1.2.1 ((x6.2.2.2.2.2.2.2.2.length:Nat):Int))then opt (atI a1 s4.1.2.1) fun x7=>opt (atI x7.2.2.2.2.2.2.2.2 s5.1.2.1) fun x8=>opt (Qy (a0,(a1,(x8,())))) fun x9=>bif !(zj x9.2.1 0)then some (.inl (1,((x9.2.1,(s5.1.2.1,())),())))else opt (atI a1 s4.1.2.1) fun x10=>bif zg x10.2.2.2.2.2.2.2.1 x9.1 then some (.inl (1,((412,(s5.1.2.1,())),())))else some (.inr ((s5.1.1,((wrF .i64 (s5.1.2.1+1)),())),()))else some (.inl (0,((s5.1.1,(s5.1.2.1,())),())))) zR ((s4.1.1,(0,())),())) fun x11=>bif Nat.beq x11.1 0 then some (.inr ((x11.2.1.1,((wrF .i64 (s4.1.2.1+1)),())),()))else some (.inl (1,((x11.2.1.1,(s4.1.2.1,())),())))else some (.inl (0,((s4.1.1,(s4.1.2.1,())),())))) zR ((x3.2.1.1,(0,())),())) fun x12=>bif Nat.beq x12.1 0 then some (0,())else some (x12.2.1.1,())else some (x3.2.1.1,())
abbrev zcX:Type:=(wL×(List qi)×Unit)->Option (Int×Unit)
def kC:zcX:=opq (sF prg [(58,eQ),(59,aC),(108,EK)] (zG [cdF jC,cdF zN,cdF Qg,cdF zS,cdF qD,cdF qG,cdF jk] [] [] [] [58,59,108]) (zy []) 30 54 Aq Ar)
abbrev At:Con:=⟨Aq,Ar,kC⟩
theorem NN:Con.Ok prg 54 At:=okF (ze lU (ze GO (ze Sr zn))) (by kernel_rfl)
theorem NO(a0)(a1):kC (a0,a1,())=As a0 a1:=zA (by kernel_rfl)
abbrev Au:List VT:=[⟨true,zS⟩,⟨true,zN⟩]
abbrev Av:List VT:=[⟨false,I⟩]
def Aw(a0:qk)(a1:qi):Option (Int×Unit):=opt (kx (a0,())) fun x0=>bif !x0.1 then some (260,())else opt (Zr (a0,(a1,()))) fun x1=>bif !x1.1 then some (321,())else some (0,())
abbrev zcY:Type:=(qk×qi×Unit)->Option (Int×Unit)
def Vk:zcY:=opq (sF prg [(96,JC),(107,Vd)] (zG [cdF zN,cdF zS,cdF qD,cdF zr] [] [] [] [96,107]) (zy []) 30 55 Au Av)
abbrev Ax:Con:=⟨Au,Av,Vk⟩
theorem NP:Con.Ok prg 55 Ax:=okF (ze Jb (ze VM zn)) (by kernel_rfl)
theorem NQ(a0)(a1):Vk (a0,a1,())=Aw a0 a1:=zA (by kernel_rfl)
abbrev Vl:List VT:=[⟨true,jC⟩,⟨false,(.list zN)⟩,⟨true,zN⟩]
abbrev Vm:List VT:=[⟨false,(.list zN)⟩,⟨false,I⟩]
def Ay(a0:wL)(a1:(List qi))(a2:qi):Option ((List qi)×Int×Unit):=opt (kC (a0,(a1,()))) fun x0=>opt (bif zj x0.1 0 then opt (Vk (a0.1,(a2,()))) fun x1=>some (0,((x1.1,()),()))else some (0,((x0.1,()),()))) fun x2=>bif !(zj x2.2.1.1 0)then some ([],(x2.2.1.1,()))else bif zX 0 a1.length 96 then bif(zX a1.length ((a2::[]).length) 96)then opt (kC (a0,((a1++(a2::[])),()))) fun x3=>bif !(zj x3.1 0)then some ([],(x3.1,()))else some ((a1++(a2::[])),(0,()))else none else none
abbrev Az:Type:=(wL×(List qi)×qi×Unit)->Option ((List qi)×Int×Unit)
def xi:Az:=opq (sF prg [(54,At),(55,Ax)] (zG [cdF jC,cdF zN,cdF zS,cdF qD,cdF qG,cdF jk] [] [⟨2,35,some 6,zN,false⟩,⟨4,35,some 6,zN,false⟩,⟨8,35,some 6,zN,false⟩] [] [54,55]) (zy []) 30 16 Vl Vm)
abbrev zcZ:Con:=⟨Vl,Vm,xi⟩
theorem NR:Con.Ok prg 16 zcZ:=okF (ze NN (ze NP zn)) (by kernel_rfl)
theorem NS(a0)(a1)(a2):xi (a0,a1,a2,())=Ay a0 a1 a2:=zA (by kernel_rfl)
abbrev vD:List VT:=[⟨true,yO⟩]
abbrev vE:List VT:=[⟨true,vA⟩]
def Ke:yp:=zG [⟨vA,wB vA,[9,11]⟩,cdF yO,cdF jC,cdF zN,cdF qy,cdF yM,cdF zS,cdF jb,cdF qh,cdF qD,⟨(.pair (.int .u8) (.pair (.int .u8) (.int .u8))),wB (.pair (.int .u8) (.pair (.int .u8) (.int .u8))),[]⟩,cdF qG,cdF jk] [] [⟨4,122,some 4,qy,true⟩,⟨4,122,some 7,zN,false⟩,⟨6,122,some 4,qy,true⟩,⟨6,122,some 7,zN,false⟩,⟨11,122,some 4,qy,true⟩,⟨11,122,some 7,zN,false⟩,⟨16,122,some 4,qy,true⟩,⟨16,122,some 7,zN,false⟩,⟨20,122,some 4,qy,true⟩,⟨20,122,some 7,zN,false⟩,⟨23,122,some 4,qy,true⟩,⟨23,122,some 7,zN,false⟩,⟨26,122,some 4,qy,true⟩,⟨26,122,some 7,zN,false⟩,⟨3,125,some 6,qy,true⟩,⟨7,125,some 6,qy,true⟩,⟨9,125,some 6,qy,true⟩,⟨13,125,some 6,qy,true⟩,⟨16,125,some 6,qy,true⟩,⟨18,125,some 6,qy,true⟩] [(3,125,5,[11]),(13,125,5,[11]),(13,125,4,[11]),(11,122,3,[11]),(20,122,3,[11])] [48,52]
def Je(Qa:aV)(WM:lF)(km:lP)(UP:RP)(JW:(qQ×Int×Unit)->Option ((List Int)×(List jO)×Int×Unit))(XX:Lo)(XY:Lv)(JX:Az)(a0:we):Option (vp×Unit):=opt (Qa (a0.1,())) fun x0=>opt (WM (a0.2.1.1,(a0.2.1.2.1,(a0.2.1.2.2,())))) fun x1=>opt (bif zg 0 a0.2.2.2.2.2 then bif !(zg 1000 a0.2.2.2.2.2)then some (0,(((),()),(((x0.1,((x1.1.1,(a0.2.2.2.2.2,x1.1.2.2)),([],339))),([],([],([],(([],(16,1099511627776)),()))))),())))else some (0,(((),()),(((x0.1,(x1.1,([],339))),([],([],([],(([],(16,1099511627776)),()))))),())))else some (0,(((),()),(((x0.1,(x1.1,([],339))),([],([],([],(([],(16,1099511627776)),()))))),())))) fun x2=>opt (zJ (fun s3:((Int×Unit)×((List (Bool×(Bool×(Int×(Int×(Int×(Int×(Int×Int))))))))×Unit))=>bif(zg s3.1.1 ((a0.2.2.1.length:Nat):Int))then opt (opt (atI a0.2.2.1 s3.1.1) fun x4=>bif !x4.1 then opt (atI a0.2.2.1 s3.1.1) fun x5=>bif(zX s3.2.1.length ((x5::[]).length) 10)then some (0,((),((s3.2.1++(x5::[])),())))else none else some (0,((),(s3.2.1,())))) fun x6=>some (.inr (((wrF .i64 (s3.1.1+1)),()),(x6.2.2.1,())))else some (.inl (0,((s3.1.1,()),(s3.2.1,()))))) zR ((0,()),([],()))) fun x7=>opt (km (x2.2.2.1.1.1,(x7.2.2.1,()))) fun x8=>opt (zJ (fun s9:((Unit×(Unit×(Int×Unit)))×((((Int×((List Bool)×(List (Int×(Int×(Int×Int))))))×((Int×(Int×(Int×Int)))×((List ((List (Int×Int))×Int))×Int)))×((List (Int×(Int×(Int×(Int×(Int×(Int×((Int×Int)×(Int×(List (List Int)))))))))))×((List Int)×((List Int)×(((List (Int×((Int×Int)×(Int×Int))))×(Int×Int))×Unit)))))×((((Int×((List Bool)×(List (Int×(Int×(Int×Int))))))×((Int×(Int×(Int×Int)))×((List ((List (Int×Int))×Int))×Int)))×((List (Int×(Int×(Int×(Int×(Int×(Int×((Int×Int)×(Int×(List (List Int)))))))))))×((List Int)×((List Int)×(((List (Int×((Int×Int)×(Int×Int))))×(Int×Int))×Unit)))))×Unit)))=>bif !(zg s9.1.2.2.1 0)then opt (Yc x8.1 none (some s9.1.2.2.1) none) fun x10=>opt (UP (s9.2.1.1.1,(s9.2.1.1.2.1,(x10,())))) fun x11=>bif !(zj x11.2.1 0)then some (.inr (((),((),((wrF .i64 (s9.1.2.2.1 - 1)),()))),((s9.2.1.1,(s9.2.1.2.1,(s9.2.1.2.2.1,(s9.2.1.2.2.2.1,(s9.2.1.2.2.2.2.1,()))))),((s9.2.2.1.1,(s9.2.2.1.2.1,(s9.2.2.1.2.2.1,(s9.2.2.1.2.2.2.1,(s9.2.2.1.2.2.2.2.1,()))))),()))))else opt (JW (x11.1,(60,()))) fun x12=>bif zj x12.2.2.1 0 then opt (Yc x8.1 none (some s9.1.2.2.1) none) fun x13=>opt (XX (x11.1.1,())) fun x14=>opt (XY (s9.2.1.1.1,(s9.2.1.1.2.1,(x13,(x12.1,(x14.1,())))))) fun x15=>some (.inl s9)else some (.inr (((),((),((wrF .i64 (s9.1.2.2.1 - 1)),()))),((s9.2.1.1,(s9.2.1.2.1,(s9.2.1.2.2.1,(s9.2.1.2.2.2.1,(s9.2.1.2.2.2.2.1,()))))),((s9.2.2.1.1,(s9.2.2.1.2.1,(s9.2.2.1.2.2.1,(s9.2.2.1.2.2.2.1,(s9.2.2.1.2.2.2.2.1,()))))),()))))else some (.inl s9)) zR (((),((),((wN 3 ((x8.1.length:Nat):Int)),()))),((x2.2.2.1.1,(x2.2.2.1.2.1,(x2.2.2.1.2.2.1,(x2.2.2.1.2.2.2.1,(x2.2.2.1.2.2.2.2.1,()))))),((((0,([],[])),((0,(0,(0,0))),([],0))),([],([],([],(([],(0,0)),()))))),())))) fun x16=>bif !(zg x16.1.2.2.1 0)then opt (Yc x8.1 none (some x16.1.2.2.1) none) fun x17=>opt (UP (x16.2.1.1.1,(x16.2.1.1.2.1,(x17,())))) fun x18=>bif !(zj x18.2.1 0)then none else opt (JW (x18.1,(60,()))) fun x19=>bif zj x19.2.2.1 0 then opt (Yc x8.1 none (some x16.1.2.2.1) none) fun x20=>opt (XX (x18.1.1,())) fun x21=>opt (XY (x16.2.1.1.1,(x16.2.1.1.2.1,(x20,(x19.1,(x21.1,())))))) fun x22=>opt (zJ (fun s23:((Int×Unit)×((List (Bool×(Bool×(Int×(Int×(Int×(Int×(Int×Int))))))))×Unit))=>bif(zg s23.1.1 ((a0.2.2.1.length:Nat):Int))then opt (opt (atI a0.2.2.1 s23.1.1) fun x24=>bif x24.1 then opt (atI a0.2.2.1 s23.1.1) fun x25=>bif(zX s23.2.1.length ((x25::[]).length) 10)then some (0,((),((s23.2.1++(x25::[])),())))else none else some (0,((),(s23.2.1,())))) fun x26=>some (.inr (((wrF .i64 (s23.1.1+1)),()),(x26.2.2.1,())))else some (.inl (0,((s23.1.1,()),(s23.2.1,()))))) zR ((0,()),([],()))) fun x27=>opt (km (x16.2.1.1.1,(x27.2.2.1,()))) fun x28=>opt (zJ (fun s29:((Unit×((List (Int×(Int×(Int×(Int×(Int×(Int×((Int×Int)×(Int×(List (List Int)))))))))))×(Int×Unit)))×((((Int×((List Bool)×(List (Int×(Int×(Int×Int))))))×((Int×(Int×(Int×Int)))×((List ((List (Int×Int))×Int))×Int)))×((List (Int×(Int×(Int×(Int×(Int×(Int×((Int×Int)×(Int×(List (List Int)))))))))))×((List Int)×((List Int)×(((List (Int×((Int×Int)×(Int×Int))))×(Int×Int))×Unit)))))×Unit))=>bif(zg s29.1.2.2.1 ((x28.1.length:Nat):Int))then bif(zg ((s29.1.2.1.length:Nat):Int) 3)then opt (atI x28.1 s29.1.2.2.1) fun x30=>opt (JX (s29.2.1.1,(s29.1.2.1,(((wrF .i64 (100+s29.1.2.2.1)),x30.2),())))) fun x31=>opt (bif zj x31.2.1 0 then some (0,((x31.1,()),()))else some (0,((s29.1.2.1,()),()))) fun x32=>some (.inr (((),(x32.2.1.1,((wrF .i64 (s29.1.2.2.1+1)),()))),((s29.2.1.1,(s29.2.1.2.1,(s29.2.1.2.2.1,(s29.2.1.2.2.2.1,(s29.2.1.2.2.2.2.1,()))))),())))else some (.inl (0,(((),(s29.1.2.1,(s29.1.2.2.1,()))),((s29.2.1.1,(s29.2.1.2.1,(s29.2.1.2.2.1,(s29.2.1.2.2.2.1,(s29.2.1.2.2.2.2.1,()))))),()))))else some (.inl (0,(((),(s29.1.2.1,(s29.1.2.2.1,()))),((s29.2.1.1,(s29.2.1.2.1,(s29.2.1.2.2.1,(s29.2.1.2.2.2.1,(s29.2.1.2.2.2.2.1,()))))),()))))) zR (((),([],(0,()))),(((x16.2.1.1.1,(x16.2.1.1.2.1,(x22.1,x16.2.1.1.2.2.2))),(x20,(x19.1,(x16.2.1.2.2.2.1,(x16.2.1.2.2.2.2.1,()))))),()))) fun x33=>bif zX 0 x33.2.2.1.2.1.length 96 then bif zX x33.2.2.1.2.1.length x33.2.1.2.1.length 96 then opt (zJ (fun s34:((Unit×(Int×Unit))×((((Int×((List Bool)×(List (Int×(Int×(Int×Int))))))×((Int×(Int×(Int×Int)))×((List ((List (Int×Int))×Int))×Int)))×((List (Int×(Int×(Int×(Int×(Int×(Int×((Int×Int)×(Int×(List (List Int)))))))))))×((List Int)×((List Int)×(((List (Int×((Int×Int)×(Int×Int))))×(Int×Int))×Unit)))))×Unit))=>bif zg s34.1.2.1 s34.2.1.1.1.1 then opt (bif(zg s34.1.2.1 ((a0.2.2.2.1.length:Nat):Int))then opt (atI a0.2.2.2.1 s34.1.2.1) fun x35=>some (0,(((jY (wrF .i64 (0 - s34.2.1.1.2.1.2.1)) (wN (wrF .i64 x35) s34.2.1.1.2.1.2.1)),()),()))else some (0,((0,()),()))) fun x36=>bif(zX s34.2.1.2.2.2.1.length ((x36.2.1.1::[]).length) 8)then some (.inr (((),((wrF .i64 (s34.1.2.1+1)),())),((s34.2.1.1,(s34.2.1.2.1,(s34.2.1.2.2.1,((s34.2.1.2.2.2.1++(x36.2.1.1::[])),(s34.2.1.2.2.2.2.1,()))))),())))else none else some (.inl (0,(((),(s34.1.2.1,())),((s34.2.1.1,(s34.2.1.2.1,(s34.2.1.2.2.1,(s34.2.1.2.2.2.1,(s34.2.1.2.2.2.2.1,()))))),()))))) zR (((),(0,())),((x33.2.2.1.1,((x33.2.2.1.2.1++x33.2.1.2.1),(x33.2.2.1.2.2.1,(x33.2.2.1.2.2.2.1,(x33.2.2.1.2.2.2.2.1,()))))),()))) fun x37=>opt (bif a0.2.2.2.2.1 then some (0,(((x37.2.2.1.1,(x37.2.2.1.2.1,(x37.2.2.1.2.2.1,(x37.2.2.1.2.2.2.1,(((0,((400,1000),(800,2000)))::[]),x37.2.2.1.2.2.2.2.1.2))))),()),()))else some (0,(((x37.2.2.1.1,(x37.2.2.1.2.1,(x37.2.2.1.2.2.1,(x37.2.2.1.2.2.2.1,x37.2.2.1.2.2.2.2.1)))),()),()))) fun x38=>some (x38.2.1.1,())else none else none else none else opt (zJ (fun s39:((Int×Unit)×((List (Bool×(Bool×(Int×(Int×(Int×(Int×(Int×Int))))))))×Unit))=>bif(zg s39.1.1 ((a0.2.2.1.length:Nat):Int))then opt (opt (atI a0.2.2.1 s39.1.1) fun x40=>bif x40.1 then opt (atI a0.2.2.1 s39.1.1) fun x41=>bif(zX s39.2.1.length ((x41::[]).length) 10)then some (0,((),((s39.2.1++(x41::[])),())))else none else some (0,((),(s39.2.1,())))) fun x42=>some (.inr (((wrF .i64 (s39.1.1+1)),()),(x42.2.2.1,())))else some (.inl (0,((s39.1.1,()),(s39.2.1,()))))) zR ((0,()),([],()))) fun x43=>opt (km (x16.2.1.1.1,(x43.2.2.1,()))) fun x44=>opt (zJ (fun s45:((Unit×((List (Int×(Int×(Int×(Int×(Int×(Int×((Int×Int)×(Int×(List (List Int)))))))))))×(Int×Unit)))×((((Int×((List Bool)×(List (Int×(Int×(Int×Int))))))×((Int×(Int×(Int×Int)))×((List ((List (Int×Int))×Int))×Int)))×((List (Int×(Int×(Int×(Int×(Int×(Int×((Int×Int)×(Int×(List (List Int)))))))))))×((List Int)×((List Int)×(((List (Int×((Int×Int)×(Int×Int))))×(Int×Int))×Unit)))))×Unit))=>bif(zg s45.1.2.2.1 ((x44.1.length:Nat):Int))then bif(zg ((s45.1.2.1.length:Nat):Int) 3)then opt (atI x44.1 s45.1.2.2.1) fun x46=>opt (JX (s45.2.1.1,(s45.1.2.1,(((wrF .i64 (100+s45.1.2.2.1)),x46.2),())))) fun x47=>opt (bif zj x47.2.1 0 then some (0,((x47.1,()),()))else some (0,((s45.1.2.1,()),()))) fun x48=>some (.inr (((),(x48.2.1.1,((wrF .i64 (s45.1.2.2.1+1)),()))),((s45.2.1.1,(s45.2.1.2.1,(s45.2.1.2.2.1,(s45.2.1.2.2.2.1,(s45.2.1.2.2.2.2.1,()))))),())))else some (.inl (0,(((),(s45.1.2.1,(s45.1.2.2.1,()))),((s45.2.1.1,(s45.2.1.2.1,(s45.2.1.2.2.1,(s45.2.1.2.2.2.1,(s45.2.1.2.2.2.2.1,()))))),()))))else some (.inl (0,(((),(s45.1.2.1,(s45.1.2.2.1,()))),((s45.2.1.1,(s45.2.1.2.1,(s45.2.1.2.2.1,(s45.2.1.2.2.2.1,(s45.2.1.2.2.2.2.1,()))))),()))))) zR (((),([],(0,()))),((x16.2.1.1,(x16.2.1.2.1,(x16.2.1.2.2.1,(x16.2.1.2.2.2.1,(x16.2.1.2.2.2.2.1,()))))),()))) fun x49=>bif zX 0 x49.2.2.1.2.1.length 96 then bif zX x49.2.2.1.2.1.length x49.2.1.2.1.length 96 then opt (zJ (fun s50:((Unit×(Int×Unit))×((((Int×((List Bool)×(List (Int×(Int×(Int×Int))))))×((Int×(Int×(Int×Int)))×((List ((List (Int×Int))×Int))×Int)))×((List (Int×(Int×(Int×(Int×(Int×(Int×((Int×Int)×(Int×(List (List Int)))))))))))×((List Int)×((List Int)×(((List (Int×((Int×Int)×(Int×Int))))×(Int×Int))×Unit)))))×Unit))=>bif zg s50.1.2.1 s50.2.1.1.1.1 then opt (bif(zg s50.1.2.1 ((a0.2.2.2.1.length:Nat):Int))then opt (atI a0.2.2.2.1 s50.1.2.1) fun x51=>some (0,(((jY (wrF .i64 (0 - s50.2.1.1.2.1.2.1)) (wN (wrF .i64 x51) s50.2.1.1.2.1.2.1)),()),()))else some (0,((0,()),()))) fun x52=>bif(zX s50.2.1.2.2.2.1.length ((x52.2.1.1::[]).length) 8)then some (.inr (((),((wrF .i64 (s50.1.2.1+1)),())),((s50.2.1.1,(s50.2.1.2.1,(s50.2.1.2.2.1,((s50.2.1.2.2.2.1++(x52.2.1.1::[])),(s50.2.1.2.2.2.2.1,()))))),())))else none else some (.inl (0,(((),(s50.1.2.1,())),((s50.2.1.1,(s50.2.1.2.1,(s50.2.1.2.2.1,(s50.2.1.2.2.2.1,(s50.2.1.2.2.2.2.1,()))))),()))))) zR (((),(0,())),((x49.2.2.1.1,((x49.2.2.1.2.1++x49.2.1.2.1),(x49.2.2.1.2.2.1,(x49.2.2.1.2.2.2.1,(x49.2.2.1.2.2.2.2.1,()))))),()))) fun x53=>opt (bif a0.2.2.2.2.1 then some (0,(((x53.2.2.1.1,(x53.2.2.1.2.1,(x53.2.2.1.2.2.1,(x53.2.2.1.2.2.2.1,(((0,((400,1000),(800,2000)))::[]),x53.2.2.1.2.2.2.2.1.2))))),()),()))else some (0,(((x53.2.2.1.1,(x53.2.2.1.2.1,(x53.2.2.1.2.2.1,(x53.2.2.1.2.2.2.1,x53.2.2.1.2.2.2.2.1)))),()),()))) fun x54=>some (x54.2.1.1,())else none else none
theorem rS(Qa:(kY×Unit)->Option (qk×Unit))(WM:(Int×Int×Int×Unit)->Option (wm×Unit))(km:(qk×(List xn)×Unit)->Option ((List qi)×Unit))(UP:(qk×wm×(List qi)×Unit)->Option (qQ×Int×Unit))(JW:(qQ×Int×Unit)->Option ((List Int)×(List jO)×Int×Unit))(XX:((List Int)×Unit)->Option (Int×Unit))(XY:(qk×wm×(List qi)×(List Int)×Int×Unit)->Option ((List jD)×Unit))(JX:(wL×(List qi)×qi×Unit)->Option ((List qi)×Int×Unit))(a0:we):sF prg [(47,⟨ZL,ZM,Qa⟩),(48,⟨Wr,Ws,WM⟩),(15,⟨Wt,Wu,km⟩),(49,⟨df,dg,UP⟩),(50,⟨JF,JG,JW⟩),(52,⟨au,aw,XX⟩),(51,⟨ay,az,XY⟩),(16,⟨Vl,Vm,JX⟩)] Ke (zy [] [(13,125)]) 40 5 vD vE (a0,())=Je Qa WM km UP JW XX XY JX a0:=by kernel_rfl
def yq:(we×Unit)->Option (vp×Unit):=sF prg [(47,⟨ZL,ZM,yW⟩),(48,⟨Wr,Ws,uY⟩),(15,⟨Wt,Wu,xA⟩),(49,⟨df,dg,vC⟩),(50,⟨JF,JG,xh⟩),(52,⟨au,aw,xg⟩),(51,⟨ay,az,uD⟩),(16,⟨Vl,Vm,xi⟩)] Ke (zy [] [(13,125)]) 40 5 vD vE
theorem iF:Con.Ok prg 5 ⟨vD,vE,yq⟩:=Rm (ze oh (ze DP (ze Eh (ze zcB (ze NB (ze GL (ze zaq (ze NR zn)))))))) qP (by kernel_rfl)
theorem iG(a0:we):yq (a0,())=Je yW uY xA vC xh xg uD xi a0:=rS yW uY xA vC xh xg uD xi a0
abbrev oz:List VT:=[⟨true,vA⟩,⟨false,I⟩]
abbrev oA:List VT:=[⟨false,I⟩]
def oB(a0:vp)(a1:Int):Option (Int×Unit):=opt (zJ (fun s0:((Int×(Int×Unit))×Unit)=>bif zg s0.1.2.1 a1 then opt (opt (atI a0.2.1 s0.1.2.1) fun x1=>bif zj x1.2.2.2.1 7 then some (0,(((wrF .i64 (s0.1.1+1)),()),()))else some (0,((s0.1.1,()),()))) fun x2=>some (.inr ((x2.2.1.1,((wrF .i64 (s0.1.2.1+1)),())),()))else some (.inl (0,((s0.1.1,(s0.1.2.1,())),())))) zR ((0,(0,())),())) fun x3=>opt (atI a0.2.1 a1) fun x4=>bif !(zj x4.2.2.2.1 7)then some (0,())else opt (atI a0.2.2.1 x3.2.1.1) fun x5=>some (x5,())
abbrev zaz:Type:=(vp×Int×Unit)->Option (Int×Unit)
def gD:zaz:=opq (sF prg [] (zG [cdF vA,cdF jC,cdF zN,cdF zS,cdF qh,cdF qD,cdF qG,cdF jk] [] [] [] []) (zy []) 30 17 oz oA)
abbrev oC:Con:=⟨oz,oA,gD⟩
theorem HN:Con.Ok prg 17 oC:=okF zn (by kernel_rfl)
theorem HO(a0)(a1):gD (a0,a1,())=oB a0 a1:=zA (by kernel_rfl)
abbrev ff:List VT:=[⟨false,(.list zN)⟩]
abbrev fg:List VT:=[⟨false,(.list zN)⟩]
def fh(a0:(List qi)):Option ((List qi)×Unit):=opt (zJ (fun s0:((Int×Unit)×((List (Int×(Int×(Int×(Int×(Int×(Int×((Int×Int)×(Int×(List (List Int)))))))))))×Unit))=>bif(zg s0.1.1 ((a0.length:Nat):Int))then opt (opt (atI a0 s0.1.1) fun x1=>bif zj x1.2.2.2.1 6 then opt (atI a0 s0.1.1) fun x2=>bif(zX s0.2.1.length ((x2::[]).length) 96)then some (0,((),((s0.2.1++(x2::[])),())))else none else some (0,((),(s0.2.1,())))) fun x3=>some (.inr (((wrF .i64 (s0.1.1+1)),()),(x3.2.2.1,())))else some (.inl (0,((s0.1.1,()),(s0.2.1,()))))) zR ((0,()),([],()))) fun x4=>some (x4.2.2.1,())
abbrev NT:Type:=((List qi)×Unit)->Option ((List qi)×Unit)
def uo:NT:=opq (sF prg [] (zG [cdF zN,cdF zr] [] [⟨3,25,some 2,zN,false⟩,⟨3,25,some 3,zN,true⟩,⟨5,25,some 2,zN,false⟩,⟨5,25,some 3,zN,true⟩] [] []) (zy []) 30 21 ff fg)
abbrev fi:Con:=⟨ff,fg,uo⟩
theorem BM:Con.Ok prg 21 fi:=okF zn (by kernel_rfl)
theorem BN(a0):uo (a0,())=fh a0:=zA (by kernel_rfl)
abbrev LL:List VT:=[⟨true,jC⟩,⟨false,(.list zN)⟩,⟨false,I⟩]
abbrev LN:List VT:=[⟨true,Qg⟩,⟨false,I⟩]
def LO(a0:wL)(a1:(List qi))(a2:Int):Option (dc×Int×Unit):=opt (Ym (a0,(a1,()))) fun x0=>bif !(zj x0.1 0)then some (((0,0),((0,0),(0,0))),(x0.1,()))else opt (bif zg a2 0 then some (1,((((0,0),((0,0),(0,0))),(2,())),()))else bif(!(zg a2 ((a0.2.2.1.length:Nat):Int)))then some (1,((((0,0),((0,0),(0,0))),(2,())),()))else some (0,((((0,0),((0,0),(0,0))),(0,())),()))) fun x1=>bif Nat.beq x1.1 0 then opt (uE (a0,(a1,(a2,())))) fun x2=>some (x2.1,(x2.2.1,()))else some (x1.2.1.1,(x1.2.1.2.1,()))
abbrev zgI:Type:=(wL×(List qi)×Int×Unit)->Option (dc×Int×Unit)
def Wc:zgI:=opq (sF prg [(58,eQ),(59,aC)] (zG [cdF jC,cdF Qg,cdF zS,cdF qD,cdF qG,cdF jk] [] [] [] [58,59]) (zy []) 30 20 LL LN)
abbrev LP:Con:=⟨LL,LN,Wc⟩
theorem zaA:Con.Ok prg 20 LP:=okF (ze lU (ze GO zn)) (by kernel_rfl)
theorem zaB(a0)(a1)(a2):Wc (a0,a1,a2,())=LO a0 a1 a2:=zA (by kernel_rfl)
abbrev LQ:List VT:=[⟨true,zr⟩]
abbrev LR:List VT:=[⟨true,xe⟩,⟨false,I⟩]
def LS(a0:zC):Option (jw×Int×Unit):=opt (yb (a0,())) fun x0=>bif !x0.1 then some ((0,0),(130,()))else some ((0,(wrF .i64 (a0.1*1048576))),(0,()))
abbrev zgJ:Type:=(zC×Unit)->Option (jw×Int×Unit)
def XJ:zgJ:=opq (sF prg [(60,kB)] (zG [cdF zr] [] [] [] [60]) (zy []) 30 22 LQ LR)
abbrev LU:Con:=⟨LQ,LR,XJ⟩
theorem zaC:Con.Ok prg 22 LU:=okF (ze um zn) (by kernel_rfl)
theorem zaD(a0):XJ (a0,())=LS a0:=zA (by kernel_rfl)
abbrev oD:List VT:=[⟨false,I⟩]
abbrev oE:List VT:=[⟨false,.bool⟩]
def oF(a0:Int):Option (Bool×Unit):=bif !(zg a0 0)then some ((!(zg 65535 a0)),())else some (false,())
abbrev zaE:Type:=(Int×Unit)->Option (Bool×Unit)
def YU:zaE:=opq (sF prg [] (zG [] [] [] [] []) (zy []) 30 115 oD oE)
abbrev oG:Con:=⟨oD,oE,YU⟩
theorem HP:Con.Ok prg 115 oG:=okF zn (by kernel_rfl)
theorem HQ(a0):YU (a0,())=oF a0:=zA (by kernel_rfl)
abbrev LV:List VT:=[⟨false,(.int .u64)⟩,⟨false,I⟩]
abbrev LW:List VT:=[⟨false,.bool⟩]
def LX(a0:Int)(a1:Int):Option (Bool×Unit):=opt (zJ (fun s0:((Int×(Int×Unit))×Unit)=>bif zg s0.1.2.1 a1 then some (.inr (((wrF .u64 (Int.tdiv s0.1.1 2)),((wrF .i64 (s0.1.2.1+1)),())),()))else some (.inl (0,((s0.1.1,(s0.1.2.1,())),())))) zR ((a0,(0,())),())) fun x1=>some ((zj (Int.tmod x1.2.1.1 2) 1),())
abbrev zgK:Type:=(Int×Int×Unit)->Option (Bool×Unit)
def xj:zgK:=opq (sF prg [] (zG [] [] [] [] []) (zy []) 30 116 LV LW)
abbrev ni:Con:=⟨LV,LW,xj⟩
theorem oH:Con.Ok prg 116 ni:=okF zn (by kernel_rfl)
theorem zaF(a0)(a1):xj (a0,a1,())=LX a0 a1:=zA (by kernel_rfl)
abbrev AA:List VT:=[⟨true,qj⟩]
abbrev AB:List VT:=[⟨false,.bool⟩]
def AD(a0:qg):Option (Bool×Unit):=opt (bif zg a0.1 1 then some (1,((false,()),()))else bif zg 64 a0.1 then some (1,((false,()),()))else bif zg a0.2.1 1 then some (1,((false,()),()))else bif zg 1099511627776 a0.2.1 then some (1,((false,()),()))else some (0,((false,()),()))) fun x0=>bif Nat.beq x0.1 0 then bif a0.2.2.1 then bif zj a0.2.2.2.1 0 then bif zj a0.2.2.2.2.1 0 then some ((zj a0.2.2.2.2.2 0),())else some (false,())else some (false,())else opt (opt (YU (a0.2.2.2.1,())) fun x1=>bif !x1.1 then some (1,((false,()),()))else bif zg a0.2.2.2.2.1 0 then some (1,((false,()),()))else bif zg 1099511627776 a0.2.2.2.2.1 then some (1,((false,()),()))else opt (xj (a0.2.2.2.2.2,(0,()))) fun x2=>bif !x2.1 then some (1,((false,()),()))else some (0,((x0.2.1.1,()),()))) fun x3=>bif Nat.beq x3.1 0 then opt (zJ (fun s4:((Bool×(Int×Unit))×Unit)=>bif zg s4.1.2.1 64 then opt (xj (a0.2.2.2.2.2,(s4.1.2.1,()))) fun x5=>bif x5.1 then some (.inl (1,((false,(s4.1.2.1,())),())))else some (.inr ((s4.1.1,((wrF .i64 (s4.1.2.1+1)),())),()))else some (.inl (0,((s4.1.1,(s4.1.2.1,())),())))) zR ((x3.2.1.1,(a0.1,())),())) fun x6=>bif Nat.beq x6.1 0 then some (true,())else some (x6.2.1.1,())else some (x3.2.1.1,())else some (x0.2.1.1,())
abbrev zc0:Type:=(qg×Unit)->Option (Bool×Unit)
def kD:zc0:=opq (sF prg [(115,oG),(116,ni)] (zG [cdF qj] [] [] [] [115,116]) (zy []) 30 61 AA AB)
abbrev bG:Con:=⟨AA,AB,kD⟩
theorem fj:Con.Ok prg 61 bG:=okF (ze HP (ze oH zn)) (by kernel_rfl)
theorem NU(a0):kD (a0,())=AD a0:=zA (by kernel_rfl)
abbrev LY:List VT:=[⟨false,I⟩,⟨false,I⟩]
abbrev LZ:List VT:=[⟨true,qj⟩]
def Ma(a0:Int)(a1:Int):Option (qg×Unit):=opt (kD ((a0,(a1,(true,(0,(0,0))))),())) fun x0=>bif !x0.1 then some ((0,(0,(false,(0,(0,0))))),())else some ((a0,(a1,(true,(0,(0,0))))),())
abbrev zgL:Type:=(Int×Int×Unit)->Option (qg×Unit)
def XK:zgL:=opq (sF prg [(61,bG)] (zG [cdF qj] [] [] [] [61]) (zy []) 30 23 LY LZ)
abbrev Mb:Con:=⟨LY,LZ,XK⟩
theorem zaG:Con.Ok prg 23 Mb:=okF (ze fj zn) (by kernel_rfl)
theorem zaH(a0)(a1):XK (a0,a1,())=Ma a0 a1:=zA (by kernel_rfl)
abbrev Mc:List VT:=[⟨true,zr⟩,⟨true,zr⟩]
abbrev Md:List VT:=[⟨true,zY⟩,⟨false,I⟩]
def Me(a0:zC)(a1:zC):Option (qK×Int×Unit):=opt (opt (yb (a0,())) fun x0=>bif !x0.1 then some (1,(((0,(0,0)),(130,())),()))else opt (yb (a1,())) fun x1=>bif !x1.1 then some (1,(((0,(0,0)),(130,())),()))else some (0,(((0,(0,0)),(0,())),()))) fun x2=>bif Nat.beq x2.1 0 then bif zg a1.2 a0.2 then some ((0,(0,0)),(2,()))else some ((0,((wrF .i64 (a0.1*1048576)),(wrF .i64 (a1.1*1048576)))),(0,()))else some (x2.2.1.1,(x2.2.1.2.1,()))
abbrev zgM:Type:=(zC×zC×Unit)->Option (qK×Int×Unit)
def Wd:zgM:=opq (sF prg [(60,kB)] (zG [cdF zY,cdF zr] [] [] [] [60]) (zy []) 30 62 Mc Md)
abbrev nj:Con:=⟨Mc,Md,Wd⟩
theorem oI:Con.Ok prg 62 nj:=okF (ze um zn) (by kernel_rfl)
theorem zaI(a0)(a1):Wd (a0,a1,())=Me a0 a1:=zA (by kernel_rfl)
abbrev Su:List VT:=[⟨false,I⟩,⟨false,I⟩,⟨false,I⟩]
abbrev Sv:List VT:=[⟨false,.bool⟩]
def Sw(a0:Int)(a1:Int)(a2:Int):Option (Bool×Unit):=bif !(zg a0 a1)then some ((!(zg a2 a0)),())else some (false,())
abbrev zi6:Type:=(Int×Int×Int×Unit)->Option (Bool×Unit)
def vF:zi6:=opq (sF prg [] (zG [] [] [] [] []) (zy []) 30 117 Su Sv)
abbrev rT:Con:=⟨Su,Sv,vF⟩
theorem AE:Con.Ok prg 117 rT:=okF zn (by kernel_rfl)
theorem zc1(a0)(a1)(a2):vF (a0,a1,a2,())=Sw a0 a1 a2:=zA (by kernel_rfl)
abbrev oJ:List VT:=[⟨true,zV⟩]
abbrev oK:List VT:=[⟨false,.bool⟩]
def oL(a0:qu):Option (Bool×Unit):=opt (opt (vF (a0.1,(0,(47,())))) fun x0=>bif !x0.1 then some (1,((false,()),()))else opt (vF (a0.2.1,(1,(4095,())))) fun x1=>bif !x1.1 then some (1,((false,()),()))else opt (vF (a0.2.2.2.1,(84,(1542,())))) fun x2=>bif !x2.1 then some (1,((false,()),()))else some (0,((false,()),()))) fun x3=>bif Nat.beq x3.1 0 then bif zj a0.2.2.1 6 then bif zj a0.2.2.2.2.1 0 then bif zj a0.2.2.2.2.2.1 0 then some ((zj a0.2.2.2.2.2.2 0),())else some (false,())else some (false,())else opt (bif !(zj a0.2.2.1 7)then some (1,((false,()),()))else opt (vF (a0.2.2.2.2.1,(1,(2400000,())))) fun x4=>bif !x4.1 then some (1,((false,()),()))else opt (vF (a0.2.2.2.2.2.1,((-1099511627776),(1099511627776,())))) fun x5=>bif !x5.1 then some (1,((false,()),()))else opt (vF (a0.2.2.2.2.2.2,((-1099511627776),(1099511627776,())))) fun x6=>bif !x6.1 then some (1,((false,()),()))else some (0,((x3.2.1.1,()),()))) fun x7=>bif Nat.beq x7.1 0 then bif !(zg a0.2.2.2.2.2.2 a0.2.2.2.2.2.1)then some ((zg (wrF .i64 (a0.2.2.2.2.2.2 - a0.2.2.2.2.2.1)) a0.2.2.2.2.1),())else some (false,())else some (x7.2.1.1,())else some (x3.2.1.1,())
abbrev zaJ:Type:=(qu×Unit)->Option (Bool×Unit)
def YV:zaJ:=opq (sF prg [(117,rT)] (zG [cdF zV] [] [] [] [117]) (zy []) 30 118 oJ oK)
abbrev oM:Con:=⟨oJ,oK,YV⟩
theorem HU:Con.Ok prg 118 oM:=okF (ze AE zn) (by kernel_rfl)
theorem HV(a0):YV (a0,())=oL a0:=zA (by kernel_rfl)
abbrev Sx:List VT:=[⟨false,I⟩,⟨false,I⟩,⟨false,I⟩]
abbrev Sz:List VT:=[⟨false,.bool⟩]
def SA(a0:Int)(a1:Int)(a2:Int):Option (Bool×Unit):=bif !(zg a0 a1)then some ((!(zg a2 a0)),())else some (false,())
abbrev zi7:Type:=(Int×Int×Int×Unit)->Option (Bool×Unit)
def ZQ:zi7:=opq (sF prg [] (zG [] [] [] [] []) (zy []) 30 181 Sx Sz)
abbrev rU:Con:=⟨Sx,Sz,ZQ⟩
theorem AF:Con.Ok prg 181 rU:=okF zn (by kernel_rfl)
theorem zc2(a0)(a1)(a2):ZQ (a0,a1,a2,())=SA a0 a1 a2:=zA (by kernel_rfl)
abbrev AG:List VT:=[⟨true,zr⟩,⟨true,zr⟩,⟨true,zY⟩]
abbrev AH:List VT:=[⟨false,I⟩]
def AI(a0:zC)(a1:zC)(a2:qK):Option (Int×Unit):=opt (Wd (a0,(a1,()))) fun x0=>bif !(zj x0.2.1 0)then some (x0.2.1,())else opt (opt (ZQ (a2.1,(0,(1099511627776,())))) fun x1=>bif !x1.1 then some (1,((420,()),()))else opt (ZQ (a2.2.1,(0,(x0.1.2.1,())))) fun x2=>bif !x2.1 then some (1,((420,()),()))else opt (ZQ (a2.2.2,(0,(x0.1.2.2,())))) fun x3=>bif !x3.1 then some (1,((420,()),()))else some (0,((0,()),()))) fun x4=>bif Nat.beq x4.1 0 then some (0,())else some (x4.2.1.1,())
abbrev zc3:Type:=(zC×zC×qK×Unit)->Option (Int×Unit)
def JI:zc3:=opq (sF prg [(62,nj),(181,rU)] (zG [cdF zY,cdF zr] [] [] [] [62,181]) (zy []) 30 119 AG AH)
abbrev bH:Con:=⟨AG,AH,JI⟩
theorem fk:Con.Ok prg 119 bH:=okF (ze oI (ze AF zn)) (by kernel_rfl)
theorem NV(a0)(a1)(a2):JI (a0,a1,a2,())=AI a0 a1 a2:=zA (by kernel_rfl)
abbrev AJ:List VT:=[⟨true,qv⟩]
abbrev AK:List VT:=[⟨false,.bool⟩]
def AL(a0:zH):Option (Bool×Unit):=opt (bif(zg 64 ((a0.1.length:Nat):Int))then some (1,((false,()),()))else bif(zg 64 ((a0.2.1.length:Nat):Int))then some (1,((false,()),()))else bif(!(zj ((a0.2.2.2.1.length:Nat):Int) ((a0.1.length:Nat):Int)))then some (1,((false,()),()))else bif(!(zj ((a0.2.2.2.2.length:Nat):Int) ((a0.2.1.length:Nat):Int)))then some (1,((false,()),()))else opt (vF (a0.2.2.1,((-1000),(549755813888,())))) fun x0=>bif !x0.1 then some (1,((false,()),()))else some (0,((false,()),()))) fun x1=>bif Nat.beq x1.1 0 then opt (zJ (fun s2:((Bool×(Int×Unit))×Unit)=>bif(zg s2.1.2.1 ((a0.1.length:Nat):Int))then opt (atI a0.1 s2.1.2.1) fun x3=>opt (opt (YV (x3,())) fun x4=>bif !x4.1 then some (1,((false,()),()))else opt (atI a0.2.2.2.1 s2.1.2.1) fun x5=>bif zg x5 (-1)then some (1,((false,()),()))else bif zj x3.2.2.1 6 then opt (atI a0.2.2.2.1 s2.1.2.1) fun x6=>bif(!(zj x6 (-1)))then some (1,((false,()),()))else some (0,((s2.1.1,()),()))else some (0,((s2.1.1,()),()))) fun x7=>bif Nat.beq x7.1 0 then opt (zJ (fun s8:((Bool×(Int×Unit))×Unit)=>bif zg s8.1.2.1 s2.1.2.1 then opt (opt (atI a0.1 s8.1.2.1) fun x9=>bif zj x9.1 x3.1 then opt (atI a0.1 s8.1.2.1) fun x10=>bif zj x10.2.1 x3.2.1 then some (1,((false,()),()))else some (0,((s8.1.1,()),()))else some (0,((s8.1.1,()),()))) fun x11=>bif Nat.beq x11.1 0 then some (.inr ((x11.2.1.1,((wrF .i64 (s8.1.2.1+1)),())),()))else some (.inl (1,((x11.2.1.1,(s8.1.2.1,())),())))else some (.inl (0,((s8.1.1,(s8.1.2.1,())),())))) zR ((x7.2.1.1,(0,())),())) fun x12=>bif Nat.beq x12.1 0 then some (.inr ((x12.2.1.1,((wrF .i64 (s2.1.2.1+1)),())),()))else some (.inl (1,((x12.2.1.1,(s2.1.2.1,())),())))else some (.inl (1,((x7.2.1.1,(s2.1.2.1,())),())))else some (.inl (0,((s2.1.1,(s2.1.2.1,())),())))) zR ((x1.2.1.1,(0,())),())) fun x13=>bif Nat.beq x13.1 0 then opt (zJ (fun s14:((Bool×(Int×Unit))×Unit)=>bif(zg s14.1.2.1 ((a0.2.1.length:Nat):Int))then opt (atI a0.2.1 s14.1.2.1) fun x15=>opt (opt (vF (x15.1,(0,(47,())))) fun x16=>bif !x16.1 then some (1,((false,()),()))else opt (atI a0.2.2.2.2 s14.1.2.1) fun x17=>opt (JI (x15.2.1,(x15.2.2,(x17,())))) fun x18=>bif !(zj x18.1 0)then some (1,((false,()),()))else opt (atI a0.2.2.2.2 s14.1.2.1) fun x19=>bif(zg (wrF .i64 (a0.2.2.1+1000)) x19.1)then some (1,((false,()),()))else some (0,((s14.1.1,()),()))) fun x20=>bif Nat.beq x20.1 0 then opt (zJ (fun s21:((Bool×(Int×Unit))×Unit)=>bif zg s21.1.2.1 s14.1.2.1 then opt (atI a0.2.1 s21.1.2.1) fun x22=>bif zj x22.1 x15.1 then some (.inl (1,((false,(s21.1.2.1,())),())))else some (.inr ((s21.1.1,((wrF .i64 (s21.1.2.1+1)),())),()))else some (.inl (0,((s21.1.1,(s21.1.2.1,())),())))) zR ((x20.2.1.1,(0,())),())) fun x23=>bif Nat.beq x23.1 0 then some (.inr ((x23.2.1.1,((wrF .i64 (s14.1.2.1+1)),())),()))else some (.inl (1,((x23.2.1.1,(s14.1.2.1,())),())))else some (.inl (1,((x20.2.1.1,(s14.1.2.1,())),())))else some (.inl (0,((s14.1.1,(s14.1.2.1,())),())))) zR ((x13.2.1.1,(0,())),())) fun x24=>bif Nat.beq x24.1 0 then some (true,())else some (x24.2.1.1,())else some (x13.2.1.1,())else some (x1.2.1.1,())
abbrev zc4:Type:=(zH×Unit)->Option (Bool×Unit)
def JJ:zc4:=opq (sF prg [(117,rT),(118,oM),(119,bH)] (zG [cdF qv,cdF zV,cdF qh,cdF zY,cdF zr] [] [] [] [117,118,119]) (zy []) 30 63 AJ AK)
abbrev bI:Con:=⟨AJ,AK,JJ⟩
theorem fm:Con.Ok prg 63 bI:=okF (ze AE (ze HU (ze fk zn))) (by kernel_rfl)
theorem NW(a0):JJ (a0,())=AL a0:=zA (by kernel_rfl)
abbrev Mf:List VT:=[⟨false,(.list zV)⟩,⟨false,(.list qh)⟩]
abbrev Mg:List VT:=[⟨true,qv⟩,⟨false,.bool⟩]
def Mh(a0:(List qu))(a1:(List jP)):Option (zH×Bool×Unit):=opt (zJ (fun s0:((Unit×(Int×Unit))×(((List (Int×(Int×(Int×(Int×(Int×(Int×Int)))))))×((List (Int×((Int×Int)×(Int×Int))))×(Int×((List Int)×((List (Int×(Int×Int)))×Unit)))))×Unit))=>bif(zg s0.1.2.1 ((a0.length:Nat):Int))then bif(zX s0.2.1.2.2.2.1.length (((-1)::[]).length) 8)then some (.inr (((),((wrF .i64 (s0.1.2.1+1)),())),((s0.2.1.1,(s0.2.1.2.1,(s0.2.1.2.2.1,((s0.2.1.2.2.2.1++((-1)::[])),(s0.2.1.2.2.2.2.1,()))))),())))else none else some (.inl (0,(((),(s0.1.2.1,())),((s0.2.1.1,(s0.2.1.2.1,(s0.2.1.2.2.1,(s0.2.1.2.2.2.1,(s0.2.1.2.2.2.2.1,()))))),()))))) zR (((),(0,())),((a0,(a1,((-1000),([],([],()))))),()))) fun x1=>opt (zJ (fun s2:((((List (Int×(Int×(Int×(Int×(Int×(Int×Int)))))))×((List (Int×((Int×Int)×(Int×Int))))×(Int×((List Int)×(List (Int×(Int×Int)))))))×(Unit×(Bool×(Int×Unit))))×(((List (Int×(Int×(Int×(Int×(Int×(Int×Int)))))))×((List (Int×((Int×Int)×(Int×Int))))×(Int×((List Int)×((List (Int×(Int×Int)))×Unit)))))×Unit))=>bif(zg s2.1.2.2.2.1 ((a1.length:Nat):Int))then opt (atI a1 s2.1.2.2.2.1) fun x3=>opt (atI a1 s2.1.2.2.2.1) fun x4=>opt (Wd (x3.2.1,(x4.2.2,()))) fun x5=>bif !(zj x5.2.1 0)then some (.inl (1,((([],([],(0,([],[])))),((),(false,(s2.1.2.2.2.1,())))),((s2.2.1.1,(s2.2.1.2.1,(s2.2.1.2.2.1,(s2.2.1.2.2.2.1,(s2.2.1.2.2.2.2.1,()))))),()))))else bif(zX s2.2.1.2.2.2.2.1.length ((x5.1::[]).length) 24)then some (.inr ((s2.1.1,((),(s2.1.2.2.1,((wrF .i64 (s2.1.2.2.2.1+1)),())))),((s2.2.1.1,(s2.2.1.2.1,(s2.2.1.2.2.1,(s2.2.1.2.2.2.1,((s2.2.1.2.2.2.2.1++(x5.1::[])),()))))),())))else none else some (.inl (0,((s2.1.1,((),(s2.1.2.2.1,(s2.1.2.2.2.1,())))),((s2.2.1.1,(s2.2.1.2.1,(s2.2.1.2.2.1,(s2.2.1.2.2.2.1,(s2.2.1.2.2.2.2.1,()))))),()))))) zR ((([],([],(0,([],[])))),((),(false,(0,())))),((x1.2.2.1.1,(x1.2.2.1.2.1,(x1.2.2.1.2.2.1,(x1.2.2.1.2.2.2.1,(x1.2.2.1.2.2.2.2.1,()))))),()))) fun x6=>bif Nat.beq x6.1 0 then opt (JJ ((x6.2.2.1.1,(x6.2.2.1.2.1,(x6.2.2.1.2.2.1,(x6.2.2.1.2.2.2.1,x6.2.2.1.2.2.2.2.1)))),())) fun x7=>bif !x7.1 then some (([],([],(0,([],[])))),(false,()))else some ((x6.2.2.1.1,(x6.2.2.1.2.1,(x6.2.2.1.2.2.1,(x6.2.2.1.2.2.2.1,x6.2.2.1.2.2.2.2.1)))),(true,()))else some (x6.2.1.1,(x6.2.1.2.2.1,()))
abbrev zgN:Type:=((List qu)×(List jP)×Unit)->Option (zH×Bool×Unit)
def We:zgN:=opq (sF prg [(62,nj),(63,bI)] (zG [⟨qv,wB qv,[3,4]⟩,cdF zV,cdF qh,cdF zY,cdF zr] [] [] [(3,59,6,[3,4]),(7,59,6,[4]),(3,59,6,[3]),(7,59,6,[4])] [62,63]) (zy []) 30 25 Mf Mg)
abbrev Mi:Con:=⟨Mf,Mg,We⟩
theorem zaK:Con.Ok prg 25 Mi:=okF (ze oI (ze fm zn)) (by kernel_rfl)
theorem zaL(a0)(a1):We (a0,a1,())=Mh a0 a1:=zA (by kernel_rfl)
abbrev KV:List VT:=[⟨true,vA⟩,⟨false,I⟩]
abbrev KW:List VT:=[⟨true,qR⟩]
def EL(a0:vp)(a1:Int):Option (zI×Unit):=opt (atI a0.2.2.2.1 a1) fun x0=>opt (zJ (fun s1:(((Int×((List Bool)×(List (Int×(Int×(Int×Int))))))×((Int×(Int×(Int×Int)))×((((Int×((List Bool)×(List (Int×(Int×(Int×Int))))))×((Int×(Int×(Int×Int)))×((List ((List (Int×Int))×Int))×Int)))×((List (Int×(Int×(Int×(Int×(Int×(Int×((Int×Int)×(Int×(List (List Int)))))))))))×((List Int)×((List Int)×((List (Int×((Int×Int)×(Int×Int))))×(Int×Int))))))×(Unit×(Int×Unit)))))×((Int×(((List (Int×(Int×(Int×(Int×(Int×(Int×Int)))))))×((List (Int×((Int×Int)×(Int×Int))))×(Int×((List Int)×(List (Int×(Int×Int)))))))×((List (Int×((Int×Int)×(Int×(Int×Int)))))×((List (Int×(Int×(Int×Int))))×((List (Int×(Int×(Bool×(Int×(Int×Int))))))×Unit)))))×((List (Int×(Int×(Int×(Int×(Int×(Int×Int)))))))×Unit)))=>bif(zg s1.1.2.2.2.2.1 ((s1.1.2.2.1.2.1.length:Nat):Int))then opt (atI s1.1.2.2.1.2.1 s1.1.2.2.2.2.1) fun x2=>opt (gD (s1.1.2.2.1,(s1.1.2.2.2.2.1,()))) fun x3=>opt (zJ (fun s4:(((Int×((List Bool)×(List (Int×(Int×(Int×Int))))))×((Int×(Int×(Int×Int)))×((Int×(Int×(Int×(Int×(Int×(Int×((Int×Int)×(Int×(List (List Int))))))))))×((((Int×((List Bool)×(List (Int×(Int×(Int×Int))))))×((Int×(Int×(Int×Int)))×((List ((List (Int×Int))×Int))×Int)))×((List (Int×(Int×(Int×(Int×(Int×(Int×((Int×Int)×(Int×(List (List Int)))))))))))×((List Int)×((List Int)×((List (Int×((Int×Int)×(Int×Int))))×(Int×Int))))))×(Unit×(Int×Unit))))))×((Int×(((List (Int×(Int×(Int×(Int×(Int×(Int×Int)))))))×((List (Int×((Int×Int)×(Int×Int))))×(Int×((List Int)×(List (Int×(Int×Int)))))))×((List (Int×((Int×Int)×(Int×(Int×Int)))))×((List (Int×(Int×(Int×Int))))×((List (Int×(Int×(Bool×(Int×(Int×Int))))))×Unit)))))×((List (Int×(Int×(Int×(Int×(Int×(Int×Int)))))))×Unit)))=>bif(zg s4.1.2.2.2.2.2.1 ((s4.1.2.2.1.2.2.2.2.2.2.2.2.length:Nat):Int))then opt (atI s4.1.2.2.1.2.2.2.2.2.2.2.2 s4.1.2.2.2.2.2.1) fun x5=>opt (zJ (fun s6:(((Int×((List Bool)×(List (Int×(Int×(Int×Int))))))×((Int×(Int×(Int×Int)))×((Int×(Int×(Int×(Int×(Int×(Int×((Int×Int)×(Int×(List (List Int))))))))))×((((Int×((List Bool)×(List (Int×(Int×(Int×Int))))))×((Int×(Int×(Int×Int)))×((List ((List (Int×Int))×Int))×Int)))×((List (Int×(Int×(Int×(Int×(Int×(Int×((Int×Int)×(Int×(List (List Int)))))))))))×((List Int)×((List Int)×((List (Int×((Int×Int)×(Int×Int))))×(Int×Int))))))×(Unit×(Int×Unit))))))×((Int×(((List (Int×(Int×(Int×(Int×(Int×(Int×Int)))))))×((List (Int×((Int×Int)×(Int×Int))))×(Int×((List Int)×(List (Int×(Int×Int)))))))×((List (Int×((Int×Int)×(Int×(Int×Int)))))×((List (Int×(Int×(Int×Int))))×((List (Int×(Int×(Bool×(Int×(Int×Int))))))×Unit)))))×((List (Int×(Int×(Int×(Int×(Int×(Int×Int)))))))×Unit)))=>bif(zg s6.1.2.2.2.2.2.1 ((x5.length:Nat):Int))then opt (atI x5 s6.1.2.2.2.2.2.1) fun x7=>opt (yg (s6.1.1,(x7,()))) fun x8=>bif !(zj x8.1 a1)then some (.inr ((s6.1.1,(s6.1.2.1,(s6.1.2.2.1,(s6.1.2.2.2.1,((),((wrF .i64 (s6.1.2.2.2.2.2.1+1)),())))))),((s6.2.1.1,(s6.2.1.2.1,(s6.2.1.2.2.1,(s6.2.1.2.2.2.1,(s6.2.1.2.2.2.2.1,()))))),(s6.2.2.1,()))))else opt (atI x5 (wrF .i64 (s6.1.2.2.2.2.2.1 - 1))) fun x9=>opt (atI x5 s6.1.2.2.2.2.2.1) fun x10=>opt (bif zj s6.1.2.2.1.2.2.2.1 7 then opt (xL (s6.1.1,(s6.1.2.1,(s6.1.2.2.1,(x5,()))))) fun x11=>opt (atI x11.1 s6.1.2.2.2.2.2.1) fun x12=>some (0,((s6.1.1,(s6.1.2.1,(s6.1.2.2.1,((x9,(s6.1.2.2.1.1,(s6.1.2.2.1.2.2.2.1,(s6.1.2.2.1.2.2.2.2.1,((wrF .i64 (s6.1.2.2.1.2.2.2.2.2.1*s6.1.2.1.1)),((wrF .i64 (x12.2.1+(wrF .i64 (x3.1*s6.1.2.1.1)))),(wrF .i64 (x12.2.2.1+(wrF .i64 (x3.1*s6.1.2.1.1)))))))))),(s6.1.2.2.2.1,(((x10,0),((0,0),(0,0))),())))))),()))else opt (uo (s6.1.2.2.2.1.2.1,())) fun x13=>opt (atI x5 (wrF .i64 (s6.1.2.2.2.2.2.1 - 1))) fun x14=>opt (Wc (s6.1.2.2.2.1.1,(x13.1,(x14,())))) fun x15=>opt (XJ (s6.1.2.2.1.2.2.2.2.2.2.1,())) fun x16=>some (0,((s6.1.1,(s6.1.2.1,(s6.1.2.2.1,((x9,(s6.1.2.2.1.1,(s6.1.2.2.1.2.2.2.1,(s6.1.2.2.1.2.2.2.2.1,(0,(0,0)))))),(s6.1.2.2.2.1,(((x10,s6.1.2.2.1.2.2.2.2.2.2.1.1),((s6.1.2.2.1.2.2.2.2.2.2.1.2,x15.1.2.2.1),x16.1)),())))))),()))) fun x17=>bif(zX s6.2.2.1.length ((x17.2.1.2.2.2.1::[]).length) 56)then bif(zX s6.2.1.2.2.1.length (((x17.2.1.2.2.2.2.2.1.1.1,((x17.2.1.2.2.2.2.2.1.1.2,x17.2.1.2.2.2.2.2.1.2.1.1),(x17.2.1.2.2.2.2.2.1.2.1.2,x17.2.1.2.2.2.2.2.1.2.2)))::[]).length) 48)then some (.inr ((x17.2.1.1,(x17.2.1.2.1,(x17.2.1.2.2.1,(x17.2.1.2.2.2.2.1,((),((wrF .i64 (s6.1.2.2.2.2.2.1+1)),())))))),((s6.2.1.1,(s6.2.1.2.1,((s6.2.1.2.2.1++((x17.2.1.2.2.2.2.2.1.1.1,((x17.2.1.2.2.2.2.2.1.1.2,x17.2.1.2.2.2.2.2.1.2.1.1),(x17.2.1.2.2.2.2.2.1.2.1.2,x17.2.1.2.2.2.2.2.1.2.2)))::[])),(s6.2.1.2.2.2.1,(s6.2.1.2.2.2.2.1,()))))),((s6.2.2.1++(x17.2.1.2.2.2.1::[])),()))))else none else none else some (.inl (0,((s6.1.1,(s6.1.2.1,(s6.1.2.2.1,(s6.1.2.2.2.1,((),(s6.1.2.2.2.2.2.1,())))))),((s6.2.1.1,(s6.2.1.2.1,(s6.2.1.2.2.1,(s6.2.1.2.2.2.1,(s6.2.1.2.2.2.2.1,()))))),(s6.2.2.1,())))))) zR ((s4.1.1,(s4.1.2.1,(s4.1.2.2.1,(s4.1.2.2.2.1,((),(1,())))))),((s4.2.1.1,(s4.2.1.2.1,(s4.2.1.2.2.1,(s4.2.1.2.2.2.1,(s4.2.1.2.2.2.2.1,()))))),(s4.2.2.1,())))) fun x18=>some (.inr ((x18.2.1.1,(x18.2.1.2.1,(x18.2.1.2.2.1,(x18.2.1.2.2.2.1,((),((wrF .i64 (s4.1.2.2.2.2.2.1+1)),())))))),((x18.2.2.1.1,(x18.2.2.1.2.1,(x18.2.2.1.2.2.1,(x18.2.2.1.2.2.2.1,(x18.2.2.1.2.2.2.2.1,()))))),(x18.2.2.2.1,()))))else some (.inl (0,((s4.1.1,(s4.1.2.1,(s4.1.2.2.1,(s4.1.2.2.2.1,((),(s4.1.2.2.2.2.2.1,())))))),((s4.2.1.1,(s4.2.1.2.1,(s4.2.1.2.2.1,(s4.2.1.2.2.2.1,(s4.2.1.2.2.2.2.1,()))))),(s4.2.2.1,())))))) zR ((s1.1.1,(s1.1.2.1,(x2,(s1.1.2.2.1,((),(0,())))))),((s1.2.1.1,(s1.2.1.2.1,(s1.2.1.2.2.1,(s1.2.1.2.2.2.1,(s1.2.1.2.2.2.2.1,()))))),(s1.2.2.1,())))) fun x19=>opt (bif zj x19.2.1.2.2.1.2.2.1 a1 then opt (zJ (fun s20:((Unit×(Int×Unit))×((Int×(((List (Int×(Int×(Int×(Int×(Int×(Int×Int)))))))×((List (Int×((Int×Int)×(Int×Int))))×(Int×((List Int)×(List (Int×(Int×Int)))))))×((List (Int×((Int×Int)×(Int×(Int×Int)))))×((List (Int×(Int×(Int×Int))))×((List (Int×(Int×(Bool×(Int×(Int×Int))))))×Unit)))))×Unit))=>bif(zg s20.1.2.1 ((x19.2.1.2.2.1.2.2.2.2.2.2.2.2.length:Nat):Int))then opt (atI x19.2.1.2.2.1.2.2.2.2.2.2.2.2 s20.1.2.1) fun x21=>opt (atI x19.2.1.2.2.1.2.2.2.2.2.2.2.2 s20.1.2.1) fun x22=>opt (atI x21 (wrF .i64 (((x22.length:Nat):Int) - 1))) fun x23=>bif(zX s20.2.1.2.2.2.1.length (((x23,(x19.2.1.2.2.1.1,(x19.2.1.2.2.1.2.2.2.1,((s20.2.1.2.2.2.2.1.length:Nat):Int))))::[]).length) 32)then some (.inr (((),((wrF .i64 (s20.1.2.1+1)),())),((s20.2.1.1,(s20.2.1.2.1,(s20.2.1.2.2.1,((s20.2.1.2.2.2.1++((x23,(x19.2.1.2.2.1.1,(x19.2.1.2.2.1.2.2.2.1,((s20.2.1.2.2.2.2.1.length:Nat):Int))))::[])),(s20.2.1.2.2.2.2.1,()))))),())))else none else some (.inl (0,(((),(s20.1.2.1,())),((s20.2.1.1,(s20.2.1.2.1,(s20.2.1.2.2.1,(s20.2.1.2.2.2.1,(s20.2.1.2.2.2.2.1,()))))),()))))) zR (((),(0,())),((x19.2.2.1.1,(x19.2.2.1.2.1,(x19.2.2.1.2.2.1,(x19.2.2.1.2.2.2.1,(x19.2.2.1.2.2.2.2.1,()))))),()))) fun x24=>opt (XK (x19.2.1.2.2.2.1.2.2.2.2.2.1,(x19.2.1.2.2.2.1.2.2.2.2.2.2,()))) fun x25=>bif(zX x24.2.2.1.2.2.2.2.1.length ((x25.1::[]).length) 48)then some (0,(((),()),((x24.2.2.1.1,(x24.2.2.1.2.1,(x24.2.2.1.2.2.1,(x24.2.2.1.2.2.2.1,((x24.2.2.1.2.2.2.2.1++(x25.1::[])),()))))),())))else none else some (0,(((),()),((x19.2.2.1.1,(x19.2.2.1.2.1,(x19.2.2.1.2.2.1,(x19.2.2.1.2.2.2.1,(x19.2.2.1.2.2.2.2.1,()))))),())))) fun x26=>some (.inr ((x19.2.1.1,(x19.2.1.2.1,(x19.2.1.2.2.2.1,((),((wrF .i64 (s1.1.2.2.2.2.1+1)),()))))),((x26.2.2.1.1,(x26.2.2.1.2.1,(x26.2.2.1.2.2.1,(x26.2.2.1.2.2.2.1,(x26.2.2.1.2.2.2.2.1,()))))),(x19.2.2.2.1,()))))else some (.inl (0,((s1.1.1,(s1.1.2.1,(s1.1.2.2.1,((),(s1.1.2.2.2.2.1,()))))),((s1.2.1.1,(s1.2.1.2.1,(s1.2.1.2.2.1,(s1.2.1.2.2.2.1,(s1.2.1.2.2.2.2.1,()))))),(s1.2.2.1,())))))) zR ((a0.1.1,(a0.1.2.1,(a0,((),(0,()))))),((x0,(([],([],(0,([],[])))),([],([],([],()))))),([],())))) fun x27=>opt (zJ (fun s28:((Int×Unit)×((List (Int×((Int×Int)×(Int×Int))))×Unit))=>bif(zg s28.1.1 ((x27.2.1.2.2.1.2.2.2.2.1.length:Nat):Int))then opt (opt (atI x27.2.1.2.2.1.2.2.2.2.1 s28.1.1) fun x29=>opt (jQ (x27.2.1.1,(x29.1,()))) fun x30=>bif zj x30.1 a1 then opt (atI x27.2.1.2.2.1.2.2.2.2.1 s28.1.1) fun x31=>bif(zX s28.2.1.length ((x31::[]).length) 40)then some (0,((),((s28.2.1++(x31::[])),())))else none else some (0,((),(s28.2.1,())))) fun x32=>some (.inr (((wrF .i64 (s28.1.1+1)),()),(x32.2.2.1,())))else some (.inl (0,((s28.1.1,()),(s28.2.1,()))))) zR ((0,()),([],()))) fun x33=>opt (We (x27.2.2.2.1,(x33.2.2.1,()))) fun x34=>some ((x27.2.2.1.1,(x34.1,(x27.2.2.1.2.2.1,(x27.2.2.1.2.2.2.1,x27.2.2.1.2.2.2.2.1)))),())
abbrev zfJ:Type:=(vp×Int×Unit)->Option (zI×Unit)
def uP:zfJ:=opq (sF prg [(17,oC),(18,gP),(19,XE),(21,fi),(20,LP),(22,LU),(23,Mb),(24,YL),(25,Mi)] (zG [⟨qR,wB qR,[6,7,8]⟩,cdF vA,cdF qv,cdF jC,cdF zN,cdF zV,cdF Qg,cdF zS,cdF jc,cdF qj,cdF qh,cdF gx,cdF qD,cdF qG,cdF zY,cdF jk] [] [⟨5,247,some 8,zV,true⟩,⟨5,247,some 23,qh,true⟩,⟨10,247,some 8,zV,true⟩,⟨10,247,some 23,qh,true⟩,⟨14,247,some 8,zV,true⟩,⟨14,247,some 23,qh,true⟩,⟨16,247,some 8,zV,true⟩,⟨16,247,some 23,qh,true⟩,⟨19,247,some 8,zV,true⟩,⟨19,247,some 23,qh,true⟩,⟨27,247,some 8,zV,true⟩,⟨27,247,some 23,qh,true⟩,⟨29,247,some 8,zV,true⟩,⟨29,247,some 23,qh,true⟩,⟨35,247,some 8,zV,true⟩,⟨35,247,some 23,qh,true⟩,⟨37,247,some 8,zV,true⟩,⟨37,247,some 23,qh,true⟩] [(5,247,7,[6,7,8]),(10,247,7,[6,7,8]),(14,247,7,[6,7,8]),(27,247,7,[6,7,8]),(29,247,7,[6,7,8]),(5,247,7,[6,7,8]),(10,247,7,[6]),(14,247,7,[6]),(27,247,7,[7,8]),(29,247,7,[7])] [17,18,20,22,23,24]) (zy []) 40 6 KV KW)
abbrev zfK:Con:=⟨KV,KW,uP⟩
theorem SC:Con.Ok prg 6 zfK:=okF (ze HN (ze uZ (ze YM (ze BM (ze zaA (ze zaC (ze zaG (ze JA (ze zaK zn))))))))) (by kernel_rfl)
theorem SD(a0)(a1):uP (a0,a1,())=EL a0 a1:=zA (by kernel_rfl)
abbrev Ww:List VT:=[⟨false,I⟩,⟨false,I⟩,⟨false,I⟩]
abbrev Wx:List VT:=[⟨false,.bool⟩]
def lZ(a0:Int)(a1:Int)(a2:Int):Option (Bool×Unit):=bif !(zg a0 a1)then some ((!(zg a2 a0)),())else some (false,())
abbrev ma:Type:=(Int×Int×Int×Unit)->Option (Bool×Unit)
def qZ:ma:=opq (sF prg [] (zG [] [] [] [] []) (zy []) 30 88 Ww Wx)
abbrev ZR:Con:=⟨Ww,Wx,qZ⟩
theorem uQ:Con.Ok prg 88 ZR:=okF zn (by kernel_rfl)
theorem EM(a0)(a1)(a2):qZ (a0,a1,a2,())=lZ a0 a1 a2:=zA (by kernel_rfl)
abbrev KY:List VT:=[⟨true,zV⟩]
abbrev KZ:List VT:=[⟨false,.bool⟩]
def Ua(a0:qu):Option (Bool×Unit):=opt (opt (qZ (a0.1,(0,(47,())))) fun x0=>bif !x0.1 then some (1,((false,()),()))else opt (qZ (a0.2.1,(1,(4095,())))) fun x1=>bif !x1.1 then some (1,((false,()),()))else opt (qZ (a0.2.2.2.1,(84,(1542,())))) fun x2=>bif !x2.1 then some (1,((false,()),()))else some (0,((false,()),()))) fun x3=>bif Nat.beq x3.1 0 then bif zj a0.2.2.1 7 then opt (qZ (a0.2.2.2.2.1,(1,(2400000,())))) fun x4=>bif x4.1 then opt (qZ (a0.2.2.2.2.2.1,((-1099511627776),(1099511627776,())))) fun x5=>bif x5.1 then opt (qZ (a0.2.2.2.2.2.2,((-1099511627776),(1099511627776,())))) fun x6=>bif x6.1 then opt (qZ ((wrF .i64 (a0.2.2.2.2.2.2 - a0.2.2.2.2.2.1)),(0,((wrF .i64 (a0.2.2.2.2.1 - 1)),())))) fun x7=>some (x7.1,())else some (false,())else some (false,())else some (false,())else bif zj a0.2.2.1 6 then some (((zj a0.1 a0.1)&&((zj a0.2.1 a0.2.1)&&((zj a0.2.2.1 a0.2.2.1)&&((zj a0.2.2.2.1 a0.2.2.2.1)&&((zj a0.2.2.2.2.1 0)&&((zj a0.2.2.2.2.2.1 0)&&((zj a0.2.2.2.2.2.2 0)&&true))))))),())else some (false,())else some (x3.2.1.1,())
abbrev rV:Type:=(qu×Unit)->Option (Bool×Unit)
def gb:rV:=opq (sF prg [(88,ZR)] (zG [cdF zV] [] [] [] [88]) (zy []) 30 151 KY KZ)
abbrev Ub:Con:=⟨KY,KZ,gb⟩
theorem iH:Con.Ok prg 151 Ub:=okF (ze uQ zn) (by kernel_rfl)
theorem iI(a0):gb (a0,())=Ua a0:=zA (by kernel_rfl)
abbrev Gc:List VT:=[⟨false,I⟩,⟨false,I⟩,⟨false,I⟩]
abbrev Gd:List VT:=[⟨false,.bool⟩]
def Ge(a0:Int)(a1:Int)(a2:Int):Option (Bool×Unit):=bif !(zg a0 a1)then some ((!(zg a2 a0)),())else some (false,())
abbrev BO:Type:=(Int×Int×Int×Unit)->Option (Bool×Unit)
def vU:BO:=opq (sF prg [] (zG [] [] [] [] []) (zy []) 30 157 Gc Gd)
abbrev Gf:Con:=⟨Gc,Gd,vU⟩
theorem nk:Con.Ok prg 157 Gf:=okF zn (by kernel_rfl)
theorem nm(a0)(a1)(a2):vU (a0,a1,a2,())=Ge a0 a1 a2:=zA (by kernel_rfl)
abbrev oN:List VT:=[⟨true,zr⟩]
abbrev oO:List VT:=[⟨false,I⟩]
def oP(a0:zC):Option (Int×Unit):=opt (opt (vU (a0.1,(1,(1048576,())))) fun x0=>bif !x0.1 then some (1,((130,()),()))else opt (vU (a0.2,(1,(2097152,())))) fun x1=>bif !x1.1 then some (1,((130,()),()))else some (0,((0,()),()))) fun x2=>bif Nat.beq x2.1 0 then some (0,())else some (x2.2.1.1,())
abbrev zaM:Type:=(zC×Unit)->Option (Int×Unit)
def uq:zaM:=opq (sF prg [(157,Gf)] (zG [cdF zr] [] [] [] [157]) (zy []) 30 90 oN oO)
abbrev YW:Con:=⟨oN,oO,uq⟩
theorem Xr:Con.Ok prg 90 YW:=okF (ze nk zn) (by kernel_rfl)
theorem HW(a0):uq (a0,())=oP a0:=zA (by kernel_rfl)
abbrev EN:List VT:=[⟨true,zr⟩,⟨true,zr⟩]
abbrev EO:List VT:=[⟨true,gC⟩]
def fo(a0:zC)(a1:zC):Option (xP×Unit):=some (((wrF .i64 (a0.1*1048576)),(wrF .i64 (a1.1*1048576))),())
abbrev zfL:Type:=(zC×zC×Unit)->Option (xP×Unit)
def Uc:zfL:=opq (sF prg [] (zG [cdF zr] [] [] [] []) (zy []) 30 223 EN EO)
abbrev fu:Con:=⟨EN,EO,Uc⟩
theorem mc:Con.Ok prg 223 fu:=okF zn (by kernel_rfl)
theorem md(a0)(a1):Uc (a0,a1,())=fo a0 a1:=zA (by kernel_rfl)
abbrev Mj:List VT:=[⟨true,zr⟩,⟨true,zr⟩]
abbrev Mk:List VT:=[⟨true,zY⟩,⟨false,I⟩]
def Ml(a0:zC)(a1:zC):Option (qK×Int×Unit):=opt (uq (a0,())) fun x0=>bif !(zj x0.1 0)then some ((0,(0,0)),(x0.1,()))else opt (uq (a1,())) fun x1=>bif !(zj x1.1 0)then some ((0,(0,0)),(x1.1,()))else bif zg a1.2 a0.2 then some ((0,(0,0)),(2,()))else opt (Uc (a0,(a1,()))) fun x2=>some ((0,x2.1),(0,()))
abbrev zgO:Type:=(zC×zC×Unit)->Option (qK×Int×Unit)
def XL:zgO:=opq (sF prg [(90,YW),(223,fu)] (zG [cdF zY,cdF zr] [] [] [] [90,223]) (zy []) 30 156 Mj Mk)
abbrev np:Con:=⟨Mj,Mk,XL⟩
theorem oQ:Con.Ok prg 156 np:=okF (ze Xr (ze mc zn)) (by kernel_rfl)
theorem zaN(a0)(a1):XL (a0,a1,())=Ml a0 a1:=zA (by kernel_rfl)
abbrev Ud:List VT:=[⟨true,qh⟩]
abbrev Ue:List VT:=[⟨false,.bool⟩]
def Uf(a0:jP):Option (Bool×Unit):=opt (XL (a0.2.1,(a0.2.2,()))) fun x0=>opt (qZ (a0.1,(0,(47,())))) fun x1=>bif x1.1 then some ((zj x0.2.1 0),())else some (false,())
abbrev rW:Type:=(jP×Unit)->Option (Bool×Unit)
def gf:rW:=opq (sF prg [(156,np),(88,ZR)] (zG [cdF qh,cdF zY,cdF zr] [] [] [] [156,88]) (zy []) 30 154 Ud Ue)
abbrev Ug:Con:=⟨Ud,Ue,gf⟩
theorem iJ:Con.Ok prg 154 Ug:=okF (ze oQ (ze uQ zn)) (by kernel_rfl)
theorem iK(a0):gf (a0,())=Uf a0:=zA (by kernel_rfl)
abbrev me:List VT:=[⟨false,(.list zV)⟩,⟨false,(.list qh)⟩]
abbrev mf:List VT:=[⟨false,.bool⟩]
def mg(a0:(List qu))(a1:(List jP)):Option (Bool×Unit):=opt (bif(zg 64 ((a0.length:Nat):Int))then some (1,((false,()),()))else bif(zg 64 ((a1.length:Nat):Int))then some (1,((false,()),()))else some (0,((false,()),()))) fun x0=>bif Nat.beq x0.1 0 then opt (zJ (fun s1:((Bool×(Int×Unit))×Unit)=>bif(zg s1.1.2.1 ((a0.length:Nat):Int))then opt (atI a0 s1.1.2.1) fun x2=>opt (opt (gb (x2,())) fun x3=>bif !x3.1 then some (1,((x2,(false,())),()))else opt (zJ (fun s4:(((Int×(Int×(Int×(Int×(Int×(Int×Int))))))×(Int×(Int×Unit)))×Unit)=>bif(zg s4.1.2.2.1 ((a0.length:Nat):Int))then opt (atI a0 s4.1.2.2.1) fun x5=>bif zj x5.1 s4.1.1.1 then bif zj x5.2.1 s4.1.1.2.1 then some (.inl (1,((s4.1.1,(s4.1.2.2.1,(s4.1.2.2.1,()))),())))else some (.inr ((s4.1.1,(s4.1.2.1,((wrF .i64 (s4.1.2.2.1+1)),()))),()))else some (.inr ((s4.1.1,(s4.1.2.1,((wrF .i64 (s4.1.2.2.1+1)),()))),()))else some (.inl (0,((s4.1.1,(s4.1.2.1,(s4.1.2.2.1,()))),())))) zR ((x2,(0,(0,()))),())) fun x6=>bif Nat.beq x6.1 0 then bif(!(zj (-1) s1.1.2.1))then some (1,((x6.2.1.1,(false,())),()))else some (0,((x6.2.1.1,(s1.1.1,())),()))else bif !(zj x6.2.1.2.1 s1.1.2.1)then some (1,((x6.2.1.1,(false,())),()))else some (0,((x6.2.1.1,(s1.1.1,())),()))) fun x7=>bif Nat.beq x7.1 0 then some (.inr ((x7.2.1.2.1,((wrF .i64 (s1.1.2.1+1)),())),()))else some (.inl (1,((x7.2.1.2.1,(s1.1.2.1,())),())))else some (.inl (0,((s1.1.1,(s1.1.2.1,())),())))) zR ((x0.2.1.1,(0,())),())) fun x8=>bif Nat.beq x8.1 0 then opt (zJ (fun s9:((Bool×(Int×Unit))×Unit)=>bif(zg s9.1.2.1 ((a1.length:Nat):Int))then opt (atI a1 s9.1.2.1) fun x10=>opt (opt (gf (x10,())) fun x11=>bif !x11.1 then some (1,((x10,(false,())),()))else opt (zJ (fun s12:(((Int×((Int×Int)×(Int×Int)))×(Int×(Int×Unit)))×Unit)=>bif(zg s12.1.2.2.1 ((a1.length:Nat):Int))then opt (atI a1 s12.1.2.2.1) fun x13=>bif zj x13.1 s12.1.1.1 then some (.inl (1,((s12.1.1,(s12.1.2.2.1,(s12.1.2.2.1,()))),())))else some (.inr ((s12.1.1,(s12.1.2.1,((wrF .i64 (s12.1.2.2.1+1)),()))),()))else some (.inl (0,((s12.1.1,(s12.1.2.1,(s12.1.2.2.1,()))),())))) zR ((x10,(0,(0,()))),())) fun x14=>bif Nat.beq x14.1 0 then bif(!(zj (-1) s9.1.2.1))then some (1,((x14.2.1.1,(false,())),()))else some (0,((x14.2.1.1,(s9.1.1,())),()))else bif !(zj x14.2.1.2.1 s9.1.2.1)then some (1,((x14.2.1.1,(false,())),()))else some (0,((x14.2.1.1,(s9.1.1,())),()))) fun x15=>bif Nat.beq x15.1 0 then some (.inr ((x15.2.1.2.1,((wrF .i64 (s9.1.2.1+1)),())),()))else some (.inl (1,((x15.2.1.2.1,(s9.1.2.1,())),())))else some (.inl (0,((s9.1.1,(s9.1.2.1,())),())))) zR ((x8.2.1.1,(0,())),())) fun x16=>bif Nat.beq x16.1 0 then some (true,())else some (x16.2.1.1,())else some (x8.2.1.1,())else some (x0.2.1.1,())
abbrev SE:Type:=((List qu)×(List jP)×Unit)->Option (Bool×Unit)
def Wy:SE:=opq (sF prg [(151,Ub),(154,Ug)] (zG [cdF zV,cdF qh,cdF zr] [] [] [] [151,154]) (zy []) 30 87 me mf)
abbrev mh:Con:=⟨me,mf,Wy⟩
theorem EP:Con.Ok prg 87 mh:=okF (ze iH (ze iJ zn)) (by kernel_rfl)
theorem ER(a0)(a1):Wy (a0,a1,())=mg a0 a1:=zA (by kernel_rfl)
abbrev Vn:List VT:=[⟨true,zr⟩,⟨true,zr⟩,⟨true,zY⟩]
abbrev Vo:List VT:=[⟨false,I⟩]
def AM(a0:zC)(a1:zC)(a2:qK):Option (Int×Unit):=opt (XL (a0,(a1,()))) fun x0=>bif !(zj x0.2.1 0)then some (x0.2.1,())else opt (bif zg a2.1 0 then some (1,((420,()),()))else bif zg 1099511627776 a2.1 then some (1,((420,()),()))else bif zg a2.2.1 0 then some (1,((420,()),()))else bif zg x0.1.2.1 a2.2.1 then some (1,((420,()),()))else bif zg a2.2.2 0 then some (1,((420,()),()))else bif zg x0.1.2.2 a2.2.2 then some (1,((420,()),()))else some (0,((0,()),()))) fun x1=>bif Nat.beq x1.1 0 then some (0,())else some (x1.2.1.1,())
abbrev AN:Type:=(zC×zC×qK×Unit)->Option (Int×Unit)
def kF:AN:=opq (sF prg [(156,np)] (zG [cdF zY,cdF zr] [] [] [] [156]) (zy []) 30 89 Vn Vo)
abbrev AO:Con:=⟨Vn,Vo,kF⟩
theorem fv:Con.Ok prg 89 AO:=okF (ze oQ zn) (by kernel_rfl)
theorem NX(a0)(a1)(a2):kF (a0,a1,a2,())=AM a0 a1 a2:=zA (by kernel_rfl)
abbrev YX:List VT:=[⟨true,qv⟩]
abbrev YY:List VT:=[⟨false,I⟩]
def oR(a0:zH):Option (Int×Unit):=opt (opt (Wy (a0.1,(a0.2.1,()))) fun x0=>bif !x0.1 then some (1,((430,()),()))else opt (qZ (a0.2.2.1,((-1000),(549755813888,())))) fun x1=>bif !x1.1 then some (1,((430,()),()))else some (0,((0,()),()))) fun x2=>bif Nat.beq x2.1 0 then opt (bif(!(zj ((a0.2.2.2.1.length:Nat):Int) ((a0.1.length:Nat):Int)))then some (1,((430,()),()))else bif(!(zj ((a0.2.2.2.2.length:Nat):Int) ((a0.2.1.length:Nat):Int)))then some (1,((430,()),()))else some (0,((x2.2.1.1,()),()))) fun x3=>bif Nat.beq x3.1 0 then opt (zJ (fun s4:((Int×(Int×Unit))×Unit)=>bif(zg s4.1.2.1 ((a0.1.length:Nat):Int))then opt (atI a0.1 s4.1.2.1) fun x5=>opt (opt (atI a0.2.2.2.1 s4.1.2.1) fun x6=>bif zg x6 (-1)then some (1,((430,()),()))else bif zj x5.2.2.1 6 then opt (atI a0.2.2.2.1 s4.1.2.1) fun x7=>bif(!(zj x7 (-1)))then some (1,((430,()),()))else some (0,((s4.1.1,()),()))else some (0,((s4.1.1,()),()))) fun x8=>bif Nat.beq x8.1 0 then some (.inr ((x8.2.1.1,((wrF .i64 (s4.1.2.1+1)),())),()))else some (.inl (1,((x8.2.1.1,(s4.1.2.1,())),())))else some (.inl (0,((s4.1.1,(s4.1.2.1,())),())))) zR ((x3.2.1.1,(0,())),())) fun x9=>bif Nat.beq x9.1 0 then opt (zJ (fun s10:((Int×(Int×Unit))×Unit)=>bif(zg s10.1.2.1 ((a0.2.1.length:Nat):Int))then opt (atI a0.2.1 s10.1.2.1) fun x11=>opt (atI a0.2.2.2.2 s10.1.2.1) fun x12=>opt (opt (kF (x11.2.1,(x11.2.2,(x12,())))) fun x13=>bif !(zj x13.1 0)then some (1,((430,()),()))else bif(zg (wrF .i64 (a0.2.2.1+1000)) x12.1)then some (1,((430,()),()))else some (0,((s10.1.1,()),()))) fun x14=>bif Nat.beq x14.1 0 then some (.inr ((x14.2.1.1,((wrF .i64 (s10.1.2.1+1)),())),()))else some (.inl (1,((x14.2.1.1,(s10.1.2.1,())),())))else some (.inl (0,((s10.1.1,(s10.1.2.1,())),())))) zR ((x9.2.1.1,(0,())),())) fun x15=>bif Nat.beq x15.1 0 then some (0,())else some (x15.2.1.1,())else some (x9.2.1.1,())else some (x3.2.1.1,())else some (x2.2.1.1,())
abbrev oS:Type:=(zH×Unit)->Option (Int×Unit)
def ve:oS:=opq (sF prg [(87,mh),(88,ZR),(89,AO)] (zG [cdF qv,cdF zV,cdF qh,cdF zY,cdF zr] [] [] [] [87,88,89]) (zy []) 30 43 YX YY)
abbrev GP:Con:=⟨YX,YY,ve⟩
theorem Xt:Con.Ok prg 43 GP:=okF (ze EP (ze uQ (ze fv zn))) (by kernel_rfl)
theorem HY(a0):ve (a0,())=oR a0:=zA (by kernel_rfl)
abbrev Mm:List VT:=[⟨true,zr⟩]
abbrev Mn:List VT:=[⟨true,xe⟩,⟨false,I⟩]
def Mo(a0:zC):Option (jw×Int×Unit):=opt (uq (a0,())) fun x0=>bif !(zj x0.1 0)then some ((0,0),(x0.1,()))else some ((0,(wrF .i64 (a0.1*1048576))),(0,()))
abbrev zgP:Type:=(zC×Unit)->Option (jw×Int×Unit)
def aD:zgP:=opq (sF prg [(90,YW)] (zG [cdF zr] [] [] [] [90]) (zy []) 30 158 Mm Mn)
abbrev Mp:Con:=⟨Mm,Mn,aD⟩
theorem zaO:Con.Ok prg 158 Mp:=okF (ze Xr zn) (by kernel_rfl)
theorem zaP(a0):aD (a0,())=Mo a0:=zA (by kernel_rfl)
abbrev AP:List VT:=[⟨true,zr⟩,⟨true,xe⟩]
abbrev AQ:List VT:=[⟨false,I⟩]
def AR(a0:zC)(a1:jw):Option (Int×Unit):=opt (aD (a0,())) fun x0=>bif !(zj x0.2.1 0)then some (x0.2.1,())else bif(!((zj a1.1 (jY 0 (wN a1.1 1099511627776)))&&((zj a1.2 (jY 0 (wN a1.2 x0.1.2)))&&true)))then some (440,())else some (0,())
abbrev zc5:Type:=(zC×jw×Unit)->Option (Int×Unit)
def JK:zc5:=opq (sF prg [(158,Mp)] (zG [cdF zr] [] [] [] [158]) (zy []) 30 91 AP AQ)
abbrev bJ:Con:=⟨AP,AQ,JK⟩
theorem fx:Con.Ok prg 91 bJ:=okF (ze zaO zn) (by kernel_rfl)
theorem NY(a0)(a1):JK (a0,a1,())=AR a0 a1:=zA (by kernel_rfl)
abbrev bW:List VT:=[⟨true,zV⟩,⟨true,jc⟩]
abbrev bX:List VT:=[⟨false,.bool⟩]
def bY(a0:qu)(a1:jl):Option (Bool×Unit):=opt (bif zg a1.1 0 then some (1,((false,()),()))else bif !(zg a1.1 48)then some (1,((false,()),()))else some (0,((false,()),()))) fun x0=>bif Nat.beq x0.1 0 then bif !(zj a0.2.2.1 6)then some (((zj a1.1 a1.1)&&(((zj a1.2.1.1 0)&&((zj a1.2.1.2 0)&&true))&&((zj a1.2.2.1 0)&&(((zj a1.2.2.2.1 0)&&((zj a1.2.2.2.2 0)&&true))&&true)))),())else opt (uq (a1.2.1,())) fun x1=>bif zj x1.1 0 then bif !(zg a1.2.1.1 a0.2.2.2.1)then bif !(zg a1.2.2.1 0)then bif !(zg 1099511627776 a1.2.2.1)then opt (JK (a1.2.1,(a1.2.2.2,()))) fun x2=>some ((zj x2.1 0),())else some (false,())else some (false,())else some (false,())else some (false,())else some (x0.2.1.1,())
abbrev HZ:Type:=(qu×jl×Unit)->Option (Bool×Unit)
def Qj:HZ:=opq (sF prg [(90,YW),(91,bJ)] (zG [cdF zV,cdF jc,cdF zr] [] [] [] [90,91]) (zy []) 30 44 bW bX)
abbrev bZ:Con:=⟨bW,bX,Qj⟩
theorem rX:Con.Ok prg 44 bZ:=okF (ze Xr (ze fx zn)) (by kernel_rfl)
theorem rY(a0)(a1):Qj (a0,a1,())=bY a0 a1:=zA (by kernel_rfl)
abbrev oT:List VT:=[⟨true,wP⟩,⟨false,I⟩]
abbrev oU:List VT:=[⟨false,.bool⟩]
def oV(a0:yf)(a1:Int):Option (Bool×Unit):=bif !(zg a0.1 0)then bif zg a0.1 48 then bif !(zg a0.2.1 1)then bif !(zg 4095 a0.2.1)then bif zj a0.2.2.1 7 then bif !(zg a0.2.2.2 0)then some ((zg a0.2.2.2 a1),())else some (false,())else bif zj a0.2.2.1 6 then bif !(zg a0.2.2.2 0)then some ((zg a0.2.2.2 a1),())else some (false,())else some (false,())else some (false,())else some (false,())else some (false,())else some (false,())
abbrev zaQ:Type:=(yf×Int×Unit)->Option (Bool×Unit)
def YZ:zaQ:=opq (sF prg [] (zG [cdF wP] [] [] [] []) (zy []) 30 45 oT oU)
abbrev oW:Con:=⟨oT,oU,YZ⟩
theorem Ia:Con.Ok prg 45 oW:=okF zn (by kernel_rfl)
theorem Ib(a0)(a1):YZ (a0,a1,())=oV a0 a1:=zA (by kernel_rfl)
abbrev fy:List VT:=[⟨false,I⟩,⟨false,I⟩]
abbrev fA:List VT:=[⟨false,.bool⟩]
def fB(a0:Int)(a1:Int):Option (Bool×Unit):=bif !(zg a0 1)then bif !(zg 64 a0)then bif !(zg a1 1)then some ((!(zg 1099511627776 a1)),())else some (false,())else some (false,())else some (false,())
abbrev NZ:Type:=(Int×Int×Unit)->Option (Bool×Unit)
def Jf:NZ:=opq (sF prg [] (zG [] [] [] [] []) (zy []) 30 92 fy fA)
abbrev fC:Con:=⟨fy,fA,Jf⟩
theorem BP:Con.Ok prg 92 fC:=okF zn (by kernel_rfl)
theorem BQ(a0)(a1):Jf (a0,a1,())=fB a0 a1:=zA (by kernel_rfl)
abbrev Yn:List VT:=[⟨true,qV⟩]
abbrev Yo:List VT:=[⟨false,(.int .u64)⟩]
def Yp(a0:qM):Option (Int×Unit):=bif zg (wrF .u64 a0.1.1) 0 then none else some ((wrF .u64 ((wk .u64 1 (wrF .u64 a0.1.1)) - 1)),())
abbrev fD:Type:=(qM×Unit)->Option (Int×Unit)
def yi:fD:=opq (sF prg [] (zG [cdF qV,cdF qj] [] [] [] []) (zy []) 30 93 Yn Yo)
abbrev gS:Con:=⟨Yn,Yo,yi⟩
theorem QL:Con.Ok prg 93 gS:=okF zn (by kernel_rfl)
theorem aW(a0):yi (a0,())=Yp a0:=zA (by kernel_rfl)
abbrev mj:List VT:=[⟨true,qj⟩]
abbrev ml:List VT:=[⟨false,I⟩]
def mm(a0:qg):Option (Int×Unit):=opt (Jf (a0.1,(a0.2.1,()))) fun x0=>bif !x0.1 then some (500,())else bif a0.2.2.1 then bif(!((zj a0.1 a0.1)&&((zj a0.2.1 a0.2.1)&&((a0.2.2.1 == true)&&((zj a0.2.2.2.1 0)&&((zj a0.2.2.2.2.1 0)&&((zj a0.2.2.2.2.2 0)&&true)))))))then some (500,())else some (0,())else opt (bif zg a0.2.2.2.1 0 then some (1,((500,()),()))else bif !(zg a0.2.2.2.1 65536)then some (1,((500,()),()))else bif zg a0.2.2.2.2.1 0 then some (1,((500,()),()))else bif zg 1099511627776 a0.2.2.2.2.1 then some (1,((500,()),()))else bif zj (wR .and .u64 a0.2.2.2.2.2 1) 0 then some (1,((500,()),()))else opt (yi ((a0,(0,0)),())) fun x1=>bif(!(zj (wR .andNot .u64 a0.2.2.2.2.2 x1.1) 0))then some (1,((500,()),()))else some (0,((0,()),()))) fun x2=>bif Nat.beq x2.1 0 then some (0,())else some (x2.2.1.1,())
abbrev SF:Type:=(qg×Unit)->Option (Int×Unit)
def ka:SF:=opq (sF prg [(92,fC),(93,gS)] (zG [cdF qV,cdF qj] [] [] [] [92,93]) (zy []) 30 46 mj ml)
abbrev Uh:Con:=⟨mj,ml,ka⟩
theorem aX:Con.Ok prg 46 Uh:=okF (ze BP (ze QL zn)) (by kernel_rfl)
theorem ES(a0):ka (a0,())=mm a0:=zA (by kernel_rfl)
abbrev ur:List VT:=[⟨true,qR⟩]
abbrev uu:List VT:=[⟨false,I⟩]
def fE(a0:zI):Option (Int×Unit):=opt (bif zg a0.1 (-1000)then some (1,((521,()),()))else bif zg 1000 a0.1 then some (1,((521,()),()))else opt (ve (a0.2.1,())) fun x0=>bif !(zj x0.1 0)then some (1,((521,()),()))else bif(!(zj ((a0.2.2.1.length:Nat):Int) ((a0.2.1.1.length:Nat):Int)))then some (1,((521,()),()))else bif(zg 24 ((a0.2.2.2.1.length:Nat):Int))then some (1,((521,()),()))else some (0,((0,()),()))) fun x1=>bif Nat.beq x1.1 0 then opt (zJ (fun s2:((Int×(Int×Unit))×Unit)=>bif(zg s2.1.2.1 ((a0.2.2.1.length:Nat):Int))then opt (atI a0.2.2.1 s2.1.2.1) fun x3=>opt (atI a0.2.1.1 s2.1.2.1) fun x4=>opt (Qj (x4,(x3,()))) fun x5=>bif !x5.1 then some (.inl (1,((521,(s2.1.2.1,())),())))else some (.inr ((s2.1.1,((wrF .i64 (s2.1.2.1+1)),())),()))else some (.inl (0,((s2.1.1,(s2.1.2.1,())),())))) zR ((x1.2.1.1,(0,())),())) fun x6=>bif Nat.beq x6.1 0 then opt (zJ (fun s7:((Int×(Int×Unit))×Unit)=>bif(zg s7.1.2.1 ((a0.2.2.2.1.length:Nat):Int))then opt (atI a0.2.2.2.1 s7.1.2.1) fun x8=>opt (YZ (x8,(((a0.2.2.2.2.length:Nat):Int),()))) fun x9=>bif !x9.1 then some (.inl (1,((521,(s7.1.2.1,())),())))else some (.inr ((s7.1.1,((wrF .i64 (s7.1.2.1+1)),())),()))else some (.inl (0,((s7.1.1,(s7.1.2.1,())),())))) zR ((x6.2.1.1,(0,())),())) fun x10=>bif Nat.beq x10.1 0 then opt (zJ (fun s11:((Int×(Int×Unit))×Unit)=>bif(zg s11.1.2.1 ((a0.2.2.2.2.length:Nat):Int))then opt (atI a0.2.2.2.2 s11.1.2.1) fun x12=>opt (ka (x12,())) fun x13=>bif !(zj x13.1 0)then some (.inl (1,((521,(s11.1.2.1,())),())))else some (.inr ((s11.1.1,((wrF .i64 (s11.1.2.1+1)),())),()))else some (.inl (0,((s11.1.1,(s11.1.2.1,())),())))) zR ((x10.2.1.1,(0,())),())) fun x14=>bif Nat.beq x14.1 0 then some (0,())else some (x14.2.1.1,())else some (x10.2.1.1,())else some (x6.2.1.1,())else some (x1.2.1.1,())
abbrev fF:Type:=(zI×Unit)->Option (Int×Unit)
def wS:fF:=opq (sF prg [(43,GP),(44,bZ),(45,oW),(46,Uh)] (zG [cdF qR,cdF qv,cdF zV,cdF jc,cdF qj,cdF qh,cdF wP,cdF zY,cdF zr] [] [] [] [43,44,45,46]) (zy []) 30 12 ur uu)
abbrev Oa:Con:=⟨ur,uu,wS⟩
theorem Gg:Con.Ok prg 12 Oa:=okF (ze Xt (ze rX (ze Ia (ze aX zn)))) (by kernel_rfl)
theorem BR(a0):wS (a0,())=fE a0:=zA (by kernel_rfl)
abbrev ET:List VT:=[⟨false,I⟩]
abbrev EU:List VT:=[⟨false,.bool⟩]
def EV(a0:Int):Option (Bool×Unit):=bif !(zg a0 0)then some ((zg a0 48),())else some (false,())
abbrev zfM:Type:=(Int×Unit)->Option (Bool×Unit)
def Qz:zfM:=opq (sF prg [] (zG [] [] [] [] []) (zy []) 30 33 ET EU)
abbrev Ui:Con:=⟨ET,EU,Qz⟩
theorem Uj:Con.Ok prg 33 Ui:=okF zn (by kernel_rfl)
theorem SG(a0):Qz (a0,())=EV a0:=zA (by kernel_rfl)
abbrev AS:List VT:=[⟨true,zr⟩,⟨true,xe⟩]
abbrev AT:List VT:=[⟨false,I⟩]
def AU(a0:zC)(a1:jw):Option (Int×Unit):=opt (yb (a0,())) fun x0=>bif !x0.1 then some (130,())else opt (bif zg a1.1 0 then some (1,((440,()),()))else bif zg 1099511627776 a1.1 then some (1,((440,()),()))else bif zg a1.2 0 then some (1,((440,()),()))else bif(zg (wrF .i64 (a0.1*1048576)) a1.2)then some (1,((440,()),()))else some (0,((0,()),()))) fun x1=>bif Nat.beq x1.1 0 then some (0,())else some (x1.2.1.1,())
abbrev zc6:Type:=(zC×jw×Unit)->Option (Int×Unit)
def JL:zc6:=opq (sF prg [(60,kB)] (zG [cdF zr] [] [] [] [60]) (zy []) 30 126 AS AT)
abbrev bK:Con:=⟨AS,AT,JL⟩
theorem fG:Con.Ok prg 126 bK:=okF (ze um zn) (by kernel_rfl)
theorem Ob(a0)(a1):JL (a0,a1,())=AU a0 a1:=zA (by kernel_rfl)
abbrev oX:List VT:=[⟨true,zV⟩,⟨true,jc⟩]
abbrev oY:List VT:=[⟨false,.bool⟩]
def oZ(a0:qu)(a1:jl):Option (Bool×Unit):=opt (Qz (a1.1,())) fun x0=>bif !x0.1 then some (false,())else bif !(zj a0.2.2.1 6)then some (((zj a1.1 a1.1)&&(((zj a1.2.1.1 0)&&((zj a1.2.1.2 0)&&true))&&((zj a1.2.2.1 0)&&(((zj a1.2.2.2.1 0)&&((zj a1.2.2.2.2 0)&&true))&&true)))),())else opt (yb (a1.2.1,())) fun x1=>bif x1.1 then bif !(zg a1.2.1.1 a0.2.2.2.1)then bif !(zg a1.2.2.1 0)then bif !(zg 1099511627776 a1.2.2.1)then opt (JL (a1.2.1,(a1.2.2.2,()))) fun x2=>some ((zj x2.1 0),())else some (false,())else some (false,())else some (false,())else some (false,())
abbrev zaR:Type:=(qu×jl×Unit)->Option (Bool×Unit)
def Xa:zaR:=opq (sF prg [(33,Ui),(60,kB),(126,bK)] (zG [cdF zV,cdF jc,cdF zr] [] [] [] [33,60,126]) (zy []) 30 75 oX oY)
abbrev pa:Con:=⟨oX,oY,Xa⟩
theorem Ic:Con.Ok prg 75 pa:=okF (ze Uj (ze um (ze fG zn))) (by kernel_rfl)
theorem Ie(a0)(a1):Xa (a0,a1,())=oZ a0 a1:=zA (by kernel_rfl)
abbrev AV:List VT:=[⟨true,qR⟩]
abbrev AW:List VT:=[⟨false,.bool⟩]
def AX(a0:zI):Option (Bool×Unit):=opt (bif zg a0.1 (-1000)then some (1,((false,()),()))else bif zg 1000 a0.1 then some (1,((false,()),()))else opt (JJ (a0.2.1,())) fun x0=>bif !x0.1 then some (1,((false,()),()))else bif(!(zj ((a0.2.2.1.length:Nat):Int) ((a0.2.1.1.length:Nat):Int)))then some (1,((false,()),()))else bif(zg 24 ((a0.2.2.2.1.length:Nat):Int))then some (1,((false,()),()))else some (0,((false,()),()))) fun x1=>bif Nat.beq x1.1 0 then opt (zJ (fun s2:((Bool×(Int×Unit))×Unit)=>bif(zg s2.1.2.1 ((a0.2.2.1.length:Nat):Int))then opt (atI a0.2.1.1 s2.1.2.1) fun x3=>opt (atI a0.2.2.1 s2.1.2.1) fun x4=>opt (Xa (x3,(x4,()))) fun x5=>bif !x5.1 then some (.inl (1,((false,(s2.1.2.1,())),())))else some (.inr ((s2.1.1,((wrF .i64 (s2.1.2.1+1)),())),()))else some (.inl (0,((s2.1.1,(s2.1.2.1,())),())))) zR ((x1.2.1.1,(0,())),())) fun x6=>bif Nat.beq x6.1 0 then opt (zJ (fun s7:((Bool×(Int×Unit))×Unit)=>bif(zg s7.1.2.1 ((a0.2.2.2.1.length:Nat):Int))then opt (atI a0.2.2.2.1 s7.1.2.1) fun x8=>opt (opt (Qz (x8.1,())) fun x9=>bif !x9.1 then some (1,((false,()),()))else bif zg x8.2.1 1 then some (1,((false,()),()))else bif zg 4095 x8.2.1 then some (1,((false,()),()))else bif !(zj x8.2.2.1 7)then bif !(zj x8.2.2.1 6)then some (1,((false,()),()))else bif zg x8.2.2.2 0 then some (1,((false,()),()))else bif(!(zg x8.2.2.2 ((a0.2.2.2.2.length:Nat):Int)))then some (1,((false,()),()))else some (0,((s7.1.1,()),()))else bif zg x8.2.2.2 0 then some (1,((false,()),()))else bif(!(zg x8.2.2.2 ((a0.2.2.2.2.length:Nat):Int)))then some (1,((false,()),()))else some (0,((s7.1.1,()),()))) fun x10=>bif Nat.beq x10.1 0 then some (.inr ((x10.2.1.1,((wrF .i64 (s7.1.2.1+1)),())),()))else some (.inl (1,((x10.2.1.1,(s7.1.2.1,())),())))else some (.inl (0,((s7.1.1,(s7.1.2.1,())),())))) zR ((x6.2.1.1,(0,())),())) fun x11=>bif Nat.beq x11.1 0 then opt (zJ (fun s12:((Bool×(Int×Unit))×Unit)=>bif(zg s12.1.2.1 ((a0.2.2.2.2.length:Nat):Int))then opt (atI a0.2.2.2.2 s12.1.2.1) fun x13=>opt (kD (x13,())) fun x14=>bif !x14.1 then some (.inl (1,((false,(s12.1.2.1,())),())))else some (.inr ((s12.1.1,((wrF .i64 (s12.1.2.1+1)),())),()))else some (.inl (0,((s12.1.1,(s12.1.2.1,())),())))) zR ((x11.2.1.1,(0,())),())) fun x15=>bif Nat.beq x15.1 0 then some (true,())else some (x15.2.1.1,())else some (x11.2.1.1,())else some (x6.2.1.1,())else some (x1.2.1.1,())
abbrev zc7:Type:=(zI×Unit)->Option (Bool×Unit)
def JM:zc7:=opq (sF prg [(63,bI),(75,pa),(33,Ui),(61,bG)] (zG [cdF qR,cdF qv,cdF zV,cdF jc,cdF qj,cdF qh,cdF wP,cdF zY,cdF zr] [] [] [] [63,75,33,61]) (zy []) 30 32 AV AW)
abbrev bL:Con:=⟨AV,AW,JM⟩
theorem fH:Con.Ok prg 32 bL:=okF (ze fm (ze Ic (ze Uj (ze fj zn)))) (by kernel_rfl)
theorem Oc(a0):JM (a0,())=AX a0:=zA (by kernel_rfl)
abbrev Qk:List VT:=[⟨true,qR⟩]
abbrev Ql:List VT:=[⟨false,I⟩]
def cd(a0:zI):Option (Int×Unit):=opt (JM (a0,())) fun x0=>bif x0.1 then some (0,())else some (521,())
abbrev Ig:Type:=(zI×Unit)->Option (Int×Unit)
def xw:Ig:=opq (sF prg [(32,bL)] (zG [cdF qR,cdF qv,cdF zV,cdF jc,cdF qj,cdF qh,cdF wP,cdF zY,cdF zr] [] [] [] [32]) (zy []) 30 13 Qk Ql)
abbrev Ih:Con:=⟨Qk,Ql,xw⟩
theorem rZ:Con.Ok prg 13 Ih:=okF (ze fH zn) (by kernel_rfl)
theorem sb(a0):xw (a0,())=cd a0:=zA (by kernel_rfl)
abbrev pb:List VT:=[⟨false,I⟩,⟨false,I⟩,⟨false,I⟩]
abbrev pc:List VT:=[⟨false,.bool⟩]
def pd(a0:Int)(a1:Int)(a2:Int):Option (Bool×Unit):=bif !(zg a0 a1)then some ((!(zg a2 a0)),())else some (false,())
abbrev zaS:Type:=(Int×Int×Int×Unit)->Option (Bool×Unit)
def vf:zaS:=opq (sF prg [] (zG [] [] [] [] []) (zy []) 30 64 pb pc)
abbrev pe:Con:=⟨pb,pc,vf⟩
theorem Ii:Con.Ok prg 64 pe:=okF zn (by kernel_rfl)
theorem Ij(a0)(a1)(a2):vf (a0,a1,a2,())=pd a0 a1 a2:=zA (by kernel_rfl)
abbrev Qm:List VT:=[⟨true,qL⟩]
abbrev Qn:List VT:=[⟨false,I⟩]
def cg(a0:zM):Option (Int×Unit):=opt (opt (vf (a0.1,(0,(1099511627776,())))) fun x0=>bif !x0.1 then some (1,((460,()),()))else opt (vf (a0.2.1,(0,(1099511627776,())))) fun x1=>bif !x1.1 then some (1,((460,()),()))else opt (vf (a0.2.2.2.2,(0,(1099511627776,())))) fun x2=>bif !x2.1 then some (1,((460,()),()))else opt (vf (a0.2.2.1,(0,(7,())))) fun x3=>bif !x3.1 then some (1,((460,()),()))else opt (vf (a0.2.2.2.1,(84,(1542,())))) fun x4=>bif !x4.1 then some (1,((460,()),()))else some (0,((0,()),()))) fun x5=>bif Nat.beq x5.1 0 then some (0,())else some (x5.2.1.1,())
abbrev cj:Type:=(zM×Unit)->Option (Int×Unit)
def vL:cj:=opq (sF prg [(64,pe)] (zG [cdF qL] [] [] [] [64]) (zy []) 30 26 Qm Qn)
abbrev Ik:Con:=⟨Qm,Qn,vL⟩
theorem se:Con.Ok prg 26 Ik:=okF (ze Ii zn) (by kernel_rfl)
theorem sf(a0):vL (a0,())=cg a0:=zA (by kernel_rfl)
abbrev Jg:List VT:=[⟨true,qR⟩,⟨false,I⟩]
abbrev Jh:List VT:=[⟨false,I⟩]
def fI(a0:zI)(a1:Int):Option (Int×Unit):=opt (bif zg a1 0 then some (1,((2,()),()))else bif zg 274877906944 a1 then some (1,((2,()),()))else bif(zg (wrF .i64 (a1+a0.1)) a0.2.1.2.2.1)then some (1,((2,()),()))else some (0,((0,()),()))) fun x0=>bif Nat.beq x0.1 0 then opt (zJ (fun s1:((Int×(Int×Unit))×Unit)=>bif(zg s1.1.2.1 ((a0.2.2.2.2.length:Nat):Int))then opt (atI a0.2.2.2.2 s1.1.2.1) fun x2=>bif zg a1 x2.2.2.2.2.1 then some (.inl (1,((2,(s1.1.2.1,())),())))else some (.inr ((s1.1.1,((wrF .i64 (s1.1.2.1+1)),())),()))else some (.inl (0,((s1.1.1,(s1.1.2.1,())),())))) zR ((x0.2.1.1,(0,())),())) fun x3=>bif Nat.beq x3.1 0 then some (0,())else some (x3.2.1.1,())else some (x0.2.1.1,())
abbrev fJ:Type:=(zI×Int×Unit)->Option (Int×Unit)
def uv:fJ:=opq (sF prg [] (zG [cdF qR,cdF qv,cdF zV,cdF jc,cdF qj,cdF qh,cdF wP,cdF zY,cdF zr] [] [] [] []) (zy []) 30 27 Jg Jh)
abbrev Od:Con:=⟨Jg,Jh,uv⟩
theorem BS:Con.Ok prg 27 Od:=okF zn (by kernel_rfl)
theorem BT(a0)(a1):uv (a0,a1,())=fI a0 a1:=zA (by kernel_rfl)
abbrev yr:List VT:=[⟨false,I⟩]
abbrev yu:List VT:=[⟨false,.bool⟩]
def cm:yp:=zG [cdF qz,cdF qR,cdF qv,cdF zV,cdF jc,cdF qj,cdF qh,cdF qL,cdF Kd,cdF zY,cdF zr] [] [] [] []
def fK(s:zO)(a0:Int):Option (zO×(Bool×Unit)):=some ((s.1,(s.2.1,(s.2.2.1,(s.2.2.2.1,(1,(0,(0,a0))))))),(true,()))
theorem Oe  (s:zO) (a0:Int):sP prg ⟨[],[],[]⟩ [] cm (zy []) 30 67 qz yr yu s (a0,())=fK  s a0:=by kernel_rfl
def wH:zO->(Int×Unit)->Option (zO×(Bool×Unit)):=sP prg ⟨[],[],[]⟩ [] cm (zy []) 30 67 qz yr yu
theorem Wj:QW.Ok prg 67 ⟨qz,yr,yu,wH⟩:=db ⟨yT,uV,uW⟩ zn qP (by kernel_rfl)
theorem Zh(s:zO)(a0:Int):wH s (a0,())=fK  s a0:=Oe  s a0
abbrev XM:List VT:=[⟨true,qV⟩]
abbrev XN:List VT:=[⟨true,qV⟩,⟨false,I⟩]
def XO(a0:qM):Option (qM×Int×Unit):=opt (bif !a0.1.2.2.1 then bif(!(zg a0.1.2.1 (wrF .i64 (a0.2.2 - a0.1.2.2.2.2.1))))then some (1,((a0,(0,())),()))else some (0,((((0,(0,(false,(0,(0,0))))),(0,0)),(0,())),()))else some (0,((((0,(0,(false,(0,(0,0))))),(0,0)),(0,())),()))) fun x0=>bif Nat.beq x0.1 0 then some (((a0.1.1,(a0.1.2.1,(false,(a0.2.1,(a0.2.2,1))))),a0.2),(1,()))else some (x0.2.1.1,(x0.2.1.2.1,()))
abbrev nq:Type:=(qM×Unit)->Option (qM×Int×Unit)
def uF:nq:=opq (sF prg [] (zG [cdF qV,cdF qj] [] [] [] []) (zy []) 30 182 XM XN)
abbrev XP:Con:=⟨XM,XN,uF⟩
theorem dh:Con.Ok prg 182 XP:=okF zn (by kernel_rfl)
theorem di(a0):uF (a0,())=XO a0:=zA (by kernel_rfl)
abbrev EW:List VT:=[⟨false,I⟩]
abbrev EX:List VT:=[⟨false,.bool⟩]
def EY(a0:Int):Option (Bool×Unit):=bif !(zg a0 0)then some ((zg a0 65536),())else some (false,())
abbrev zfN:Type:=(Int×Unit)->Option (Bool×Unit)
def Yq:zfN:=opq (sF prg [] (zG [] [] [] [] []) (zy []) 30 292 EW EX)
abbrev EZ:Con:=⟨EW,EX,Yq⟩
theorem SI:Con.Ok prg 292 EZ:=okF zn (by kernel_rfl)
theorem SJ(a0):Yq (a0,())=EY a0:=zA (by kernel_rfl)
abbrev SK:List VT:=[⟨false,I⟩]
abbrev SM:List VT:=[⟨false,I⟩]
def SN(a0:Int):Option (Int×Unit):=opt (bif zg (Int.tmod a0 65536) 0 then some (0,(((wrF .i64 ((Int.tmod a0 65536)+65536)),()),()))else some (0,(((Int.tmod a0 65536),()),()))) fun x0=>some (x0.2.1.1,())
abbrev zi8:Type:=(Int×Unit)->Option (Int×Unit)
def dj:zi8:=opq (sF prg [] (zG [] [] [] [] []) (zy []) 30 293 SK SM)
abbrev SO:Con:=⟨SK,SM,dj⟩
theorem zc8:Con.Ok prg 293 SO:=okF zn (by kernel_rfl)
theorem zc9(a0):dj (a0,())=SN a0:=zA (by kernel_rfl)
abbrev Mq:List VT:=[⟨false,I⟩,⟨false,I⟩]
abbrev Mr:List VT:=[⟨false,I⟩,⟨false,I⟩]
def Ms(a0:Int)(a1:Int):Option (Int×Int×Unit):=opt (opt (Yq (a0,())) fun x0=>bif !x0.1 then some (1,((0,(2,())),()))else opt (Yq (a1,())) fun x1=>bif !x1.1 then some (1,((0,(2,())),()))else some (0,((0,(0,())),()))) fun x2=>bif Nat.beq x2.1 0 then opt (dj ((wrF .i64 ((wrF .i64 (a1 - a0))+32768)),())) fun x3=>some ((wrF .i64 (x3.1 - 32768)),(0,()))else some (x2.2.1.1,(x2.2.1.2.1,()))
abbrev zgQ:Type:=(Int×Int×Unit)->Option (Int×Int×Unit)
def XQ:zgQ:=opq (sF prg [(292,EZ),(293,SO)] (zG [] [] [] [] [292,293]) (zy []) 30 255 Mq Mr)
abbrev Mt:Con:=⟨Mq,Mr,XQ⟩
theorem zaT:Con.Ok prg 255 Mt:=okF (ze SI (ze zc8 zn)) (by kernel_rfl)
theorem zaU(a0)(a1):XQ (a0,a1,())=Ms a0 a1:=zA (by kernel_rfl)
abbrev Wz:List VT:=[⟨true,qV⟩]
abbrev WA:List VT:=[⟨false,I⟩]
def WB(a0:qM):Option (Int×Unit):=opt (XQ (a0.1.2.2.2.1,(a0.2.1,()))) fun x0=>some (x0.1,())
abbrev dk:Type:=(qM×Unit)->Option (Int×Unit)
def wY:dk:=opq (sF prg [(255,Mt)] (zG [cdF qV,cdF qj] [] [] [] [255]) (zy []) 30 232 Wz WA)
abbrev vh:Con:=⟨Wz,WA,wY⟩
theorem uw:Con.Ok prg 232 vh:=okF (ze zaT zn) (by kernel_rfl)
theorem GQ(a0):wY (a0,())=WB a0:=zA (by kernel_rfl)
abbrev Uk:List VT:=[⟨true,qV⟩]
abbrev Ul:List VT:=[⟨true,qV⟩,⟨false,I⟩]
def Um(a0:qM):Option (qM×Int×Unit):=opt (wY (a0,())) fun x0=>opt (bif(zg (wrF .i64 (0 - a0.1.1)) x0.1)then bif zg x0.1 a0.1.1 then some (1,((a0,(0,())),()))else some (0,((((0,(0,(false,(0,(0,0))))),(0,0)),(0,())),()))else some (0,((((0,(0,(false,(0,(0,0))))),(0,0)),(0,())),()))) fun x1=>bif Nat.beq x1.1 0 then some (a0,(2,()))else some (x1.2.1.1,(x1.2.1.2.1,()))
abbrev sg:Type:=(qM×Unit)->Option (qM×Int×Unit)
def gg:sg:=opq (sF prg [(232,vh)] (zG [cdF qV,cdF qj] [] [] [] [232]) (zy []) 30 183 Uk Ul)
abbrev Un:Con:=⟨Uk,Ul,gg⟩
theorem iL:Con.Ok prg 183 Un:=okF (ze uw zn) (by kernel_rfl)
theorem iM(a0):gg (a0,())=Um a0:=zA (by kernel_rfl)
abbrev Kf:List VT:=[⟨true,qV⟩]
abbrev Kg:List VT:=[⟨true,qV⟩,⟨false,I⟩]
def Kh(a0:qM):Option (qM×Int×Unit):=opt (wY (a0,())) fun x0=>bif zg 0 x0.1 then some (a0,(0,()))else bif(zg (wrF .u64 (wrF .i64 (0 - x0.1))) 0)then none else bif(!(zj (wR .and .u64 a0.1.2.2.2.2.2 (wk .u64 1 (wrF .u64 (wrF .i64 (0 - x0.1))))) 0))then some (a0,(2,()))else some (((a0.1.1,(a0.1.2.1,(a0.1.2.2.1,(a0.1.2.2.2.1,(a0.2.2,(wR .or .u64 a0.1.2.2.2.2.2 (wk .u64 1 (wrF .u64 (wrF .i64 (0 - x0.1)))))))))),a0.2),(1,()))
abbrev pg:Type:=(qM×Unit)->Option (qM×Int×Unit)
def ke:pg:=opq (sF prg [(232,vh)] (zG [cdF qV,cdF qj] [] [] [] [232]) (zy []) 30 184 Kf Kg)
abbrev Ki:Con:=⟨Kf,Kg,ke⟩
theorem fL:Con.Ok prg 184 Ki:=okF (ze uw zn) (by kernel_rfl)
theorem fM(a0):ke (a0,())=Kh a0:=zA (by kernel_rfl)
abbrev XR:List VT:=[⟨true,qV⟩]
abbrev XS:List VT:=[⟨true,qV⟩,⟨false,I⟩]
def XT(a0:qM):Option (qM×Int×Unit):=opt (wY (a0,())) fun x0=>bif zg (wrF .u64 x0.1) 0 then none else opt (yi (a0,())) fun x1=>some (((a0.1.1,(a0.1.2.1,(a0.1.2.2.1,(a0.2.1,(a0.2.2,(wR .and .u64 (wR .or .u64 (wk .u64 a0.1.2.2.2.2.2 (wrF .u64 x0.1)) 1) x1.1)))))),a0.2),(1,()))
abbrev nr:Type:=(qM×Unit)->Option (qM×Int×Unit)
def uG:nr:=opq (sF prg [(232,vh),(93,gS)] (zG [cdF qV,cdF qj] [] [] [] [232,93]) (zy []) 30 185 XR XS)
abbrev XU:Con:=⟨XR,XS,uG⟩
theorem dm:Con.Ok prg 185 XU:=okF (ze uw (ze QL zn)) (by kernel_rfl)
theorem dn(a0):uG (a0,())=XT a0:=zA (by kernel_rfl)
abbrev Xk:List VT:=[⟨true,qV⟩]
abbrev Xl:List VT:=[⟨true,qV⟩,⟨false,I⟩]
def Xm(a0:qM):Option (qM×Int×Unit):=opt (uF (a0,())) fun x0=>bif !(zj x0.2.1 0)then some (x0.1,(x0.2.1,()))else opt (gg (a0,())) fun x1=>bif !(zj x1.2.1 0)then some (x1.1,(x1.2.1,()))else opt (ke (a0,())) fun x2=>bif !(zj x2.2.1 0)then some (x2.1,(x2.2.1,()))else opt (uG (a0,())) fun x3=>bif !(zj x3.2.1 0)then some (x3.1,(x3.2.1,()))else some (a0,(2,()))
abbrev iN:Type:=(qM×Unit)->Option (qM×Int×Unit)
def xr:iN:=opq (sF prg [(182,XP),(183,Un),(184,Ki),(185,XU)] (zG [cdF qV,cdF qj] [(3,27)] [] [] [182,183,184,185]) (zy []) 30 120 Xk Xl)
abbrev Xn:Con:=⟨Xk,Xl,xr⟩
theorem bM:Con.Ok prg 120 Xn:=okF (ze dh (ze iL (ze fL (ze dm zn)))) (by kernel_rfl)
theorem bN(a0):xr (a0,())=Xm a0:=zA (by kernel_rfl)
abbrev Ji:List VT:=[⟨true,qj⟩,⟨false,I⟩,⟨false,I⟩]
abbrev Jj:List VT:=[⟨true,qj⟩,⟨false,.bool⟩,⟨false,I⟩]
def fN(a0:qg)(a1:Int)(a2:Int):Option (qg×Bool×Int×Unit):=opt (ka (a0,())) fun x0=>bif !(zj x0.1 0)then some ((0,(0,(false,(0,(0,0))))),(false,(x0.1,())))else opt (bif zg a1 0 then some (1,(((0,(0,(false,(0,(0,0))))),(false,(2,()))),()))else bif !(zg a1 65536)then some (1,(((0,(0,(false,(0,(0,0))))),(false,(2,()))),()))else bif zg a2 0 then some (1,(((0,(0,(false,(0,(0,0))))),(false,(2,()))),()))else bif zg 1099511627776 a2 then some (1,(((0,(0,(false,(0,(0,0))))),(false,(2,()))),()))else bif zg a2 a0.2.2.2.2.1 then some (1,(((0,(0,(false,(0,(0,0))))),(false,(2,()))),()))else some (0,(((0,(0,(false,(0,(0,0))))),(false,(0,()))),()))) fun x1=>bif Nat.beq x1.1 0 then opt (xr ((a0,(a1,a2)),())) fun x2=>some (x2.1.1,((zj x2.2.1 1),(0,())))else some (x1.2.1.1,(x1.2.1.2.1,(x1.2.1.2.2.1,())))
abbrev fO:Type:=(qg×Int×Int×Unit)->Option (qg×Bool×Int×Unit)
def yX:fO:=opq (sF prg [(46,Uh),(120,Xn)] (zG [cdF qV,cdF qj] [] [] [] [46,120]) (zy []) 30 68 Ji Jj)
abbrev Og:Con:=⟨Ji,Jj,yX⟩
theorem BU:Con.Ok prg 68 Og:=okF (ze aX (ze bM zn)) (by kernel_rfl)
theorem BV(a0)(a1)(a2):yX (a0,a1,a2,())=fN a0 a1 a2:=zA (by kernel_rfl)
abbrev ZS:List VT:=[]
abbrev ZT:List VT:=[⟨false,.bool⟩]
def fP:yp:=zG [cdF qz,cdF qR,cdF qv,cdF zV,cdF jc,cdF qj,cdF qh,cdF qL,cdF wP,cdF zY,cdF zr] [] [⟨1,8,some 2,qj,true⟩] [] [67,68]
def WC(jy:zO->(Int×Unit)->Option (zO×(Bool×Unit)))(Jr:fO)(s:zO):Option (zO×(Bool×Unit)):=opt (zJ (fun s0:((((Int×(((List (Int×(Int×(Int×(Int×(Int×(Int×Int)))))))×((List (Int×((Int×Int)×(Int×Int))))×(Int×((List Int)×(List (Int×(Int×Int)))))))×((List (Int×((Int×Int)×(Int×(Int×Int)))))×((List (Int×(Int×(Int×Int))))×(List (Int×(Int×(Bool×(Int×(Int×Int))))))))))×(Int×((Int×(Int×(Int×(Int×Int))))×(Int×(Int×(Int×(Int×Int)))))))×(Int×(Int×Unit)))×Unit)=>bif(zg s0.1.2.2.1 ((s.1.2.2.2.1.length:Nat):Int))then opt (atI s.1.2.2.2.1 s0.1.2.2.1) fun x1=>bif zj x1.1 s0.1.1.2.1 then bif zj x1.2.1 s0.1.1.2.2.1.1 then bif zj x1.2.2.1 s0.1.1.2.2.1.2.2.1 then some (.inl (1,((s0.1.1,(s0.1.2.2.1,(s0.1.2.2.1,()))),())))else some (.inr ((s0.1.1,(s0.1.2.1,((wrF .i64 (s0.1.2.2.1+1)),()))),()))else some (.inr ((s0.1.1,(s0.1.2.1,((wrF .i64 (s0.1.2.2.1+1)),()))),()))else some (.inr ((s0.1.1,(s0.1.2.1,((wrF .i64 (s0.1.2.2.1+1)),()))),()))else some (.inl (0,((s0.1.1,(s0.1.2.1,(s0.1.2.2.1,()))),())))) zR ((s,(0,(0,()))),())) fun x2=>bif Nat.beq x2.1 0 then some (x2.2.1.1,(false,()))else bif zg x2.2.1.2.1 0 then some (x2.2.1.1,(false,()))else bif !(zg x2.2.1.1.2.2.1.2.1 65536)then opt (jy x2.2.1.1 (20,())) fun x3=>some (x3.1,(x3.2.1,()))else opt (atI x2.2.1.1.1.2.2.2.1 x2.2.1.2.1) fun x4=>opt (atI x2.2.1.1.1.2.2.2.2 x4.2.2.2) fun x5=>opt (Jr (x5,(x2.2.1.1.2.2.1.2.1,(x2.2.1.1.2.2.2.1,())))) fun x6=>bif !x6.2.1 then some ((x2.2.1.1.1,(x2.2.1.1.2.1,(x2.2.1.1.2.2.1,(x2.2.1.1.2.2.2.1,(4,(0,(0,0))))))),(true,()))else bif dQ x2.2.1.1.1.2.2.2.2 then bif zX 0 x2.2.1.1.1.2.2.2.2.length 48 then opt (atI x2.2.1.1.1.2.2.2.2 x4.2.2.2) fun x7=>opt (gl x2.2.1.1.1.2.2.2.2 (Int.toNat x4.2.2.2)) fun x8=>some (((x2.2.1.1.1.1,(x2.2.1.1.1.2.1,(x2.2.1.1.1.2.2.1,(x2.2.1.1.1.2.2.2.1,(x2.2.1.1.1.2.2.2.2.set (Int.toNat x4.2.2.2) x6.1))))),(x2.2.1.1.2.1,(x2.2.1.1.2.2.1,(x2.2.1.1.2.2.2.1,(3,(0,(0,0))))))),(true,()))else none else none
theorem SP(jy:zO->(Int×Unit)->Option (zO×(Bool×Unit)))(Jr:(qg×Int×Int×Unit)->Option (qg×Bool×Int×Unit))(s:zO):sP prg ⟨[],[(67,⟨qz,yr,yu,jy⟩)],[]⟩ [(68,⟨Ji,Jj,Jr⟩)] fP (zy []) 30 28 qz ZS ZT s ()=WC jy Jr s:=by kernel_rfl
def xB:zO->(Unit)->Option (zO×(Bool×Unit)):=sP prg ⟨[],[(67,⟨qz,yr,yu,wH⟩)],[]⟩ [(68,⟨Ji,Jj,yX⟩)] fP (zy []) 30 28 qz ZS ZT
theorem Fa:QW.Ok prg 28 ⟨qz,ZS,ZT,xB⟩:=db ⟨yT,(gN Wj uV),uW⟩ (ze BU zn) qP (by kernel_rfl)
theorem aY(s:zO):xB s ()=WC wH yX s:=SP wH yX s
abbrev ZU:List VT:=[⟨true,qL⟩]
abbrev ZV:List VT:=[⟨false,.bool⟩]
def aZ(a0:zM):Option (Bool×Unit):=opt (qZ (a0.1,(0,(1099511627776,())))) fun x0=>bif x0.1 then opt (qZ (a0.2.1,(0,(1099511627776,())))) fun x1=>bif x1.1 then opt (qZ (a0.2.2.1,(0,(7,())))) fun x2=>bif x2.1 then opt (qZ (a0.2.2.2.1,(84,(1542,())))) fun x3=>bif x3.1 then opt (qZ (a0.2.2.2.2,(0,(1099511627776,())))) fun x4=>some (x4.1,())else some (false,())else some (false,())else some (false,())else some (false,())
abbrev bc:Type:=(zM×Unit)->Option (Bool×Unit)
def yY:bc:=opq (sF prg [(88,ZR)] (zG [cdF qL] [] [] [] [88]) (zy []) 30 121 ZU ZV)
abbrev bd:Con:=⟨ZU,ZV,yY⟩
theorem Kj:Con.Ok prg 121 bd:=okF (ze uQ zn) (by kernel_rfl)
theorem ph(a0):yY (a0,())=aZ a0:=zA (by kernel_rfl)
abbrev gh:List VT:=[⟨true,gC⟩,⟨true,zr⟩,⟨true,zr⟩,⟨false,I⟩]
abbrev gi:List VT:=[⟨true,gC⟩]
def Uo(a0:xP)(a1:zC)(a2:zC)(a3:Int):Option (xP×Unit):=opt (Uc (a1,(a2,()))) fun x0=>some (((wN x0.1.1 (wrF .i64 (a0.1+(wrF .i64 (a1.2*a3))))),(wN x0.1.2 (wrF .i64 (a0.2+(wrF .i64 (a2.2*a3)))))),())
abbrev Up:Type:=(xP×zC×zC×Int×Unit)->Option (xP×Unit)
def yv:Up:=opq (sF prg [(223,fu)] (zG [cdF gC] [] [] [] [223]) (zy []) 30 256 gh gi)
abbrev si:Con:=⟨gh,gi,yv⟩
theorem iO:Con.Ok prg 256 si:=okF (ze mc zn) (by kernel_rfl)
theorem iP(a0)(a1)(a2)(a3):yv (a0,a1,a2,a3,())=Uo a0 a1 a2 a3:=zA (by kernel_rfl)
abbrev vV:List VT:=[⟨false,I⟩,⟨false,I⟩]
abbrev vW:List VT:=[⟨false,I⟩]
def Uq:yp:=zG [cdF ui,cdF gC] [] [] [] [256]
def Wk(gq:Up)(s:xf)(a0:Int)(a1:Int):Option (xf×(Int×Unit)):=opt (gq (s.1,(s.2.2.1,(s.2.2.2,((wrF .i64 (a0 - s.2.1)),()))))) fun x0=>bif(zg x0.1.2 (wrF .i64 (a1*1048576)))then opt (some (0,(((x0.1,(a0,s.2.2)),()),()))) fun x1=>opt (some (0,((x1.2.1.1,()),()))) fun x2=>some (x2.2.1.1,(2,()))else bif(zg x0.1.1 (wrF .i64 (a1*1048576)))then opt (some (0,((((x0.1.1,(wrF .i64 (x0.1.2 - (wrF .i64 (a1*1048576))))),(a0,s.2.2)),()),()))) fun x3=>opt (some (0,((x3.2.1.1,()),()))) fun x4=>some (x4.2.1.1,(1,()))else opt (some (0,((((x0.1.1,(wrF .i64 (x0.1.2 - (wrF .i64 (a1*1048576))))),(a0,s.2.2)),()),()))) fun x5=>opt (some (0,(((((wrF .i64 (x5.2.1.1.1.1 - (wrF .i64 (a1*1048576)))),x5.2.1.1.1.2),x5.2.1.1.2),()),()))) fun x6=>some (x6.2.1.1,(0,()))
theorem BW(gq:(xP×zC×zC×Int×Unit)->Option (xP×Unit))(s:xf)(a0:Int)(a1:Int):sP prg ⟨[],[],[]⟩ [(256,⟨gh,gi,gq⟩)] Uq (zy []) 30 233 ui vV vW s (a0,a1,())=Wk gq s a0 a1:=by kernel_rfl
def vX:xf->(Int×Int×Unit)->Option (xf×(Int×Unit)):=sP prg ⟨[],[],[]⟩ [(256,⟨gh,gi,yv⟩)] Uq (zy []) 30 233 ui vV vW
theorem nt:QW.Ok prg 233 ⟨ui,vV,vW,vX⟩:=db ⟨yT,uV,uW⟩ (ze iO zn) qP (by kernel_rfl)
theorem nu(s:xf)(a0:Int)(a1:Int):vX s (a0,a1,())=Wk yv s a0 a1:=BW yv s a0 a1
abbrev Yr:List VT:=[⟨true,zr⟩,⟨true,zr⟩,⟨true,zY⟩,⟨false,I⟩,⟨false,I⟩]
abbrev Ys:List VT:=[⟨false,I⟩,⟨true,zY⟩,⟨false,I⟩]
def AY:yp:=zG [cdF ui,cdF zY,cdF zr] [] [] [] [89,233]
def fQ(Vt:AN)(Zl:xf->(Int×Int×Unit)->Option (xf×(Int×Unit)))(a0:zC)(a1:zC)(a2:qK)(a3:Int)(a4:Int):Option (Int×qK×Int×Unit):=opt (Vt (a0,(a1,(a2,())))) fun x0=>bif !(zj x0.1 0)then some (0,((0,(0,0)),(x0.1,())))else opt (bif zg a3 a2.1 then some (1,(((0,(0,0)),(0,(2,()))),()))else bif zg 1099511627776 a3 then some (1,(((0,(0,0)),(0,(2,()))),()))else bif zg a4 1 then some (1,(((0,(0,0)),(0,(2,()))),()))else bif zg 1048576 a4 then some (1,(((0,(0,0)),(0,(2,()))),()))else some (0,(((0,(0,0)),(0,(0,()))),()))) fun x1=>bif Nat.beq x1.1 0 then opt (Zl (a2.2,(a2.1,(a0,a1))) (a3,(a4,()))) fun x2=>some (x2.2.1,((x2.1.2.1,x2.1.1),(0,())))else some (x1.2.1.2.1,(x1.2.1.1,(x1.2.1.2.2.1,())))
theorem zfO(Vt:(zC×zC×qK×Unit)->Option (Int×Unit))(Zl:xf->(Int×Int×Unit)->Option (xf×(Int×Unit)))(a0:zC)(a1:zC)(a2:qK)(a3:Int)(a4:Int):sFl prg ⟨[],[(233,⟨ui,vV,vW,Zl⟩)],[]⟩ [(89,⟨Vn,Vo,Vt⟩)] AY (zy []) 30 187 Yr Ys (a0,a1,a2,a3,a4,())=fQ Vt Zl a0 a1 a2 a3 a4:=by kernel_rfl
def QA:(zC×zC×qK×Int×Int×Unit)->Option (Int×qK×Int×Unit):=sFl prg ⟨[],[(233,⟨ui,vV,vW,vX⟩)],[]⟩ [(89,⟨Vn,Vo,kF⟩)] AY (zy []) 30 187 Yr Ys
theorem SQ:Con.Ok prg 187 ⟨Yr,Ys,QA⟩:=Dx ⟨yT,(gN nt uV),uW⟩ (ze fv zn) qP (by kernel_rfl)
theorem SR(a0:zC)(a1:zC)(a2:qK)(a3:Int)(a4:Int):QA (a0,a1,a2,a3,a4,())=fQ kF vX a0 a1 a2 a3 a4:=zfO kF vX a0 a1 a2 a3 a4
abbrev xC:List VT:=[⟨false,(.list zY)⟩,⟨false,I⟩,⟨true,zY⟩]
abbrev xD:List VT:=[⟨false,(.list zY)⟩]
def QM(a0:(List qK))(a1:Int)(a2:qK):Option ((List qK)×Unit):=bif(rr ((a0.length:Nat):Int) ((a0.length:Nat):Int) 24)then opt (atI (Wp (List.replicate (Int.toNat ((a0.length:Nat):Int)) (0,(0,0))) a0) a1) fun x0=>opt (gl (Wp (List.replicate (Int.toNat ((a0.length:Nat):Int)) (0,(0,0))) a0) (Int.toNat a1)) fun x1=>some (((Wp (List.replicate (Int.toNat ((a0.length:Nat):Int)) (0,(0,0))) a0).set (Int.toNat a1) a2),())else none
abbrev QN:Type:=((List qK)×Int×qK×Unit)->Option ((List qK)×Unit)
def wg:QN:=opq (sF prg [] (zG [cdF zY] [] [] [] []) (zy []) 30 188 xC xD)
abbrev bf:Con:=⟨xC,xD,wg⟩
theorem Ur:Con.Ok prg 188 bf:=okF zn (by kernel_rfl)
theorem Ut(a0)(a1)(a2):wg (a0,a1,a2,())=QM a0 a1 a2:=zA (by kernel_rfl)
abbrev xM:List VT:=[⟨false,I⟩,⟨true,qL⟩,⟨false,I⟩]
abbrev xN:List VT:=[⟨false,I⟩]
def Xo:yp:=zG [cdF wo,cdF qh,cdF qL,cdF zY,cdF zr] [] [] [] [187]
def uH(UQ:(zC×zC×qK×Int×Int×Unit)->Option (Int×qK×Int×Unit))(xG:QN)(s:jd)(a0:Int)(a1:zM)(a2:Int):Option (jd×(Int×Unit)):=opt (zJ (fun s0:((Int×(Int×(Int×Unit)))×Unit)=>bif(zg s0.1.2.2.1 ((s.2.1.length:Nat):Int))then opt (atI s.2.1 s0.1.2.2.1) fun x1=>bif zj x1.1 s0.1.1 then some (.inl (1,((s0.1.1,(s0.1.2.2.1,(s0.1.2.2.1,()))),())))else some (.inr ((s0.1.1,(s0.1.2.1,((wrF .i64 (s0.1.2.2.1+1)),()))),()))else some (.inl (0,((s0.1.1,(s0.1.2.1,(s0.1.2.2.1,()))),())))) zR ((a0,(0,(0,()))),())) fun x2=>bif Nat.beq x2.1 0 then some (s,(0,()))else bif zg x2.2.1.2.1 0 then some (s,(0,()))else opt (atI s.2.1 x2.2.1.2.1) fun x3=>opt (atI s.2.2.2.2 x2.2.1.2.1) fun x4=>opt (UQ (x3.2.1,(x3.2.2,(x4,((wrF .i64 (a2+1000)),(a1.2.2.2.1,())))))) fun x5=>bif !(zj x5.2.2.1 0)then some (s,(5,()))else opt (xG (s.2.2.2.2,(x2.2.1.2.1,(x5.2.1,())))) fun x6=>bif zj x5.1 2 then some ((s.1,(s.2.1,(s.2.2.1,(s.2.2.2.1,x6.1)))),(5,()))else some ((s.1,(s.2.1,(s.2.2.1,(s.2.2.2.1,x6.1)))),(0,()))
theorem nv(UQ:(zC×zC×qK×Int×Int×Unit)->Option (Int×qK×Int×Unit))(xG:((List qK)×Int×qK×Unit)->Option ((List qK)×Unit))(s:jd)(a0:Int)(a1:zM)(a2:Int):sP prg ⟨[],[],[]⟩ [(187,⟨Yr,Ys,UQ⟩),(188,⟨xC,xD,xG⟩)] Xo (zy []) 30 122 wo xM xN s (a0,a1,a2,())=uH UQ xG s a0 a1 a2:=by kernel_rfl
def jG:jd->(Int×zM×Int×Unit)->Option (jd×(Int×Unit)):=sP prg ⟨[],[],[]⟩ [(187,⟨Yr,Ys,QA⟩),(188,⟨xC,xD,wg⟩)] Xo (zy []) 30 122 wo xM xN
theorem dp:QW.Ok prg 122 ⟨wo,xM,xN,jG⟩:=db ⟨yT,uV,uW⟩ (ze SQ (ze Ur zn)) qP (by kernel_rfl)
theorem WD(s:jd)(a0:Int)(a1:zM)(a2:Int):jG s (a0,a1,a2,())=uH QA wg s a0 a1 a2:=nv QA wg s a0 a1 a2
abbrev xE:List VT:=[⟨true,wo⟩,⟨false,I⟩,⟨true,qL⟩]
abbrev xF:List VT:=[⟨false,I⟩]
def QO(a0:jd)(a1:Int)(a2:zM):Option (Int×Unit):=opt (zJ (fun s0:((Int×((Int×(Int×(Int×(Int×Int))))×(Int×(Int×Unit))))×Unit)=>bif(zg s0.1.2.2.2.1 ((a0.1.length:Nat):Int))then opt (atI a0.1 s0.1.2.2.2.1) fun x1=>bif zj x1.1 s0.1.1 then bif zj x1.2.1 s0.1.2.1.1 then bif zj x1.2.2.1 s0.1.2.1.2.2.1 then some (.inl (1,((s0.1.1,(s0.1.2.1,(s0.1.2.2.2.1,(s0.1.2.2.2.1,())))),())))else some (.inr ((s0.1.1,(s0.1.2.1,(s0.1.2.2.1,((wrF .i64 (s0.1.2.2.2.1+1)),())))),()))else some (.inr ((s0.1.1,(s0.1.2.1,(s0.1.2.2.1,((wrF .i64 (s0.1.2.2.2.1+1)),())))),()))else some (.inr ((s0.1.1,(s0.1.2.1,(s0.1.2.2.1,((wrF .i64 (s0.1.2.2.2.1+1)),())))),()))else some (.inl (0,((s0.1.1,(s0.1.2.1,(s0.1.2.2.1,(s0.1.2.2.2.1,())))),())))) zR ((a1,(a2,(0,(0,())))),())) fun x2=>bif Nat.beq x2.1 0 then some ((-1),())else some (x2.2.1.2.2.1,())
abbrev QP:Type:=(jd×Int×zM×Unit)->Option (Int×Unit)
def wi:QP:=opq (sF prg [] (zG [cdF wo,cdF zV,cdF qL] [] [] [] []) (zy []) 30 124 xE xF)
abbrev QQ:Con:=⟨xE,xF,wi⟩
theorem ZW:Con.Ok prg 124 QQ:=okF zn (by kernel_rfl)
theorem Uu(a0)(a1)(a2):wi (a0,a1,a2,())=QO a0 a1 a2:=zA (by kernel_rfl)
abbrev Uv:List VT:=[⟨false,I⟩,⟨false,I⟩]
abbrev Uw:List VT:=[⟨false,I⟩]
def Fb(a0:Int)(a1:Int):Option (Int×Unit):=bif zj a1 0 then none else bif zj a1 0 then none else some ((Int.tmod (wrF .i64 ((Int.tmod a0 a1)+a1)) a1),())
abbrev Fc:Type:=(Int×Int×Unit)->Option (Int×Unit)
def QB:Fc:=opq (sF prg [] (zG [] [] [] [] []) (zy []) 30 189 Uv Uw)
abbrev zfP:Con:=⟨Uv,Uw,QB⟩
theorem SS:Con.Ok prg 189 zfP:=okF zn (by kernel_rfl)
theorem SU(a0)(a1):QB (a0,a1,())=Fb a0 a1:=zA (by kernel_rfl)
abbrev kf:List VT:=[⟨false,(.list I)⟩,⟨false,I⟩,⟨false,I⟩]
abbrev kg:List VT:=[⟨false,(.list I)⟩]
def Kk(a0:(List Int))(a1:Int)(a2:Int):Option ((List Int)×Unit):=bif(rr ((a0.length:Nat):Int) ((a0.length:Nat):Int) 8)then opt (atI (Wp (List.replicate (Int.toNat ((a0.length:Nat):Int)) 0) a0) a1) fun x0=>opt (gl (Wp (List.replicate (Int.toNat ((a0.length:Nat):Int)) 0) a0) (Int.toNat a1)) fun x1=>some (((Wp (List.replicate (Int.toNat ((a0.length:Nat):Int)) 0) a0).set (Int.toNat a1) a2),())else none
abbrev Kl:Type:=((List Int)×Int×Int×Unit)->Option ((List Int)×Unit)
def yj:Kl:=opq (sF prg [] (zG [] [] [] [] []) (zy []) 30 193 kf kg)
abbrev pj:Con:=⟨kf,kg,yj⟩
theorem fR:Con.Ok prg 193 pj:=okF zn (by kernel_rfl)
theorem fS(a0)(a1)(a2):yj (a0,a1,a2,())=Kk a0 a1 a2:=zA (by kernel_rfl)
abbrev yH:List VT:=[⟨false,I⟩,⟨true,qL⟩,⟨false,I⟩]
abbrev yI:List VT:=[⟨false,I⟩]
def JN:yp:=zG [cdF wo,cdF zV,cdF qL] [] [] [] [124,189]
def vi(xH:QP)(UR:Fc)(kn:Kl)(s:jd)(a0:Int)(a1:zM)(a2:Int):Option (jd×(Int×Unit)):=opt (xH (s,(a0,(a1,())))) fun x0=>bif zg x0.1 0 then some (s,(1,()))else opt (atI s.1 x0.1) fun x1=>bif zj x1.2.2.1 6 then bif zg x1.2.2.2.1 a1.2.2.2.1 then some (s,(2,()))else some (s,(0,()))else opt (UR ((wrF .i64 (a2 - x1.2.2.2.2.2.1)),(x1.2.2.2.2.1,()))) fun x2=>bif zj x1.2.2.2.2.1 0 then none else opt (zJ (fun s3:((Int×(Int×Unit))×Unit)=>bif zg s3.1.2.1 3 then bif zj s3.1.2.1 0 then bif !(zj a1.2.2.2.1 x1.2.2.2.1)then some (.inl (0,((2,(s3.1.2.1,())),())))else some (.inr ((s3.1.1,((wrF .i64 (s3.1.2.1+1)),())),()))else bif zj s3.1.2.1 1 then bif(zg (wrF .i64 (Int.tdiv (wrF .i64 ((wrF .i64 (a2 - x1.2.2.2.2.2.1)) - x2.1)) x1.2.2.2.2.1)) 0)then some (.inl (0,((3,(s3.1.2.1,())),())))else bif(zg (wrF .i64 (x1.2.2.2.2.2.2 - x1.2.2.2.2.2.1)) x2.1)then some (.inl (0,((3,(s3.1.2.1,())),())))else some (.inr ((s3.1.1,((wrF .i64 (s3.1.2.1+1)),())),()))else bif zj s3.1.2.1 2 then opt (atI s.2.2.2.1 x0.1) fun x4=>bif(!(zg x4 (wrF .i64 (Int.tdiv (wrF .i64 ((wrF .i64 (a2 - x1.2.2.2.2.2.1)) - x2.1)) x1.2.2.2.2.1))))then some (.inl (0,((4,(s3.1.2.1,())),())))else some (.inr ((s3.1.1,((wrF .i64 (s3.1.2.1+1)),())),()))else none else some (.inl (0,((s3.1.1,(s3.1.2.1,())),())))) zR ((0,(0,())),())) fun x5=>opt (bif zj x5.2.1.1 0 then opt (kn (s.2.2.2.1,(x0.1,((wrF .i64 (Int.tdiv (wrF .i64 ((wrF .i64 (a2 - x1.2.2.2.2.2.1)) - x2.1)) x1.2.2.2.2.1)),())))) fun x6=>some (0,((x0.1,((wrF .i64 (Int.tdiv (wrF .i64 ((wrF .i64 (a2 - x1.2.2.2.2.2.1)) - x2.1)) x1.2.2.2.2.1)),((s.1,(s.2.1,(s.2.2.1,(x6.1,s.2.2.2.2)))),()))),()))else some (0,((x0.1,((wrF .i64 (Int.tdiv (wrF .i64 ((wrF .i64 (a2 - x1.2.2.2.2.2.1)) - x2.1)) x1.2.2.2.2.1)),(s,()))),()))) fun x7=>some (x7.2.1.2.2.1,(x5.2.1.1,()))
theorem dq(xH:(jd×Int×zM×Unit)->Option (Int×Unit))(UR:(Int×Int×Unit)->Option (Int×Unit))(kn:((List Int)×Int×Int×Unit)->Option ((List Int)×Unit))(s:jd)(a0:Int)(a1:zM)(a2:Int):sP prg ⟨[],[],[]⟩ [(124,⟨xE,xF,xH⟩),(189,⟨Uv,Uw,UR⟩),(193,⟨kf,kg,kn⟩)] JN (zy []) 30 123 wo yH yI s (a0,a1,a2,())=vi xH UR kn s a0 a1 a2:=by kernel_rfl
def jf:jd->(Int×zM×Int×Unit)->Option (jd×(Int×Unit)):=sP prg ⟨[],[],[]⟩ [(124,⟨xE,xF,wi⟩),(189,⟨Uv,Uw,QB⟩),(193,⟨kf,kg,yj⟩)] JN (zy []) 30 123 wo yH yI
theorem GR:QW.Ok prg 123 ⟨wo,yH,yI,jf⟩:=db ⟨yT,uV,uW⟩ (ze ZW (ze SS (ze fR zn))) qP (by kernel_rfl)
theorem QC(s:jd)(a0:Int)(a1:zM)(a2:Int):jf s (a0,a1,a2,())=vi wi QB yj s a0 a1 a2:=dq wi QB yj s a0 a1 a2
abbrev JO:List VT:=[⟨true,qv⟩,⟨false,I⟩,⟨true,qL⟩,⟨false,I⟩]
abbrev JP:List VT:=[⟨true,qv⟩,⟨false,I⟩,⟨false,I⟩]
def pk:yp:=zG [cdF qv,cdF zV,cdF qh,cdF qL,cdF zY,cdF zr] [] [] [] [43,88,121,122,123]
def bO(Xi:oS)(Qb:ma)(Qc:bc)(uI:jd->(Int×zM×Int×Unit)->Option (jd×(Int×Unit)))(yJ:jd->(Int×zM×Int×Unit)->Option (jd×(Int×Unit)))(a0:zH)(a1:Int)(a2:zM)(a3:Int):Option (zH×Int×Int×Unit):=opt (Xi (a0,())) fun x0=>bif !(zj x0.1 0)then some (([],([],(0,([],[])))),(0,(x0.1,())))else opt (Qb (a1,(0,(47,())))) fun x1=>bif !x1.1 then some (([],([],(0,([],[])))),(0,(2,())))else opt (Qc (a2,())) fun x2=>bif !x2.1 then some (([],([],(0,([],[])))),(0,(460,())))else opt (Qb (a3,(a0.2.2.1,(549755813888,())))) fun x3=>bif !x3.1 then some (([],([],(0,([],[])))),(0,(2,())))else bif zj a2.2.2.1 7 then opt (yJ (a0.1,(a0.2.1,(a3,a0.2.2.2))) (a1,(a2,(a3,())))) fun x4=>some (x4.1,(x4.2.1,(0,())))else bif zj a2.2.2.1 6 then opt (yJ (a0.1,(a0.2.1,(a3,a0.2.2.2))) (a1,(a2,(a3,())))) fun x5=>some (x5.1,(x5.2.1,(0,())))else opt (uI (a0.1,(a0.2.1,(a3,a0.2.2.2))) (a1,(a2,(a3,())))) fun x6=>some (x6.1,(x6.2.1,(0,())))
theorem zda(Xi:(zH×Unit)->Option (Int×Unit))(Qb:(Int×Int×Int×Unit)->Option (Bool×Unit))(Qc:(zM×Unit)->Option (Bool×Unit))(uI:jd->(Int×zM×Int×Unit)->Option (jd×(Int×Unit)))(yJ:jd->(Int×zM×Int×Unit)->Option (jd×(Int×Unit)))(a0:zH)(a1:Int)(a2:zM)(a3:Int):sFl prg ⟨[],[(122,⟨wo,xM,xN,uI⟩),(123,⟨wo,yH,yI,yJ⟩)],[]⟩ [(43,⟨YX,YY,Xi⟩),(88,⟨Ww,Wx,Qb⟩),(121,⟨ZU,ZV,Qc⟩)] pk (fun _ _=>false) 30 70 JO JP (a0,a1,a2,a3,())=bO Xi Qb Qc uI yJ a0 a1 a2 a3:=by kernel_rfl
def vR:(zH×Int×zM×Int×Unit)->Option (zH×Int×Int×Unit):=sFl prg ⟨[],[(122,⟨wo,xM,xN,jG⟩),(123,⟨wo,yH,yI,jf⟩)],[]⟩ [(43,⟨YX,YY,ve⟩),(88,⟨Ww,Wx,qZ⟩),(121,⟨ZU,ZV,yY⟩)] pk (fun _ _=>false) 30 70 JO JP
theorem Oh:Con.Ok prg 70 ⟨JO,JP,vR⟩:=Dx ⟨yT,(gN dp (gN GR uV)),uW⟩ (ze Xt (ze uQ (ze Kj zn))) qP (by kernel_rfl)
theorem Oi(a0:zH)(a1:Int)(a2:zM)(a3:Int):vR (a0,a1,a2,a3,())=bO ve qZ yY jG jf a0 a1 a2 a3:=zda ve qZ yY jG jf a0 a1 a2 a3
abbrev gT:List VT:=[]
abbrev gU:List VT:=[⟨false,.bool⟩]
def cn:yp:=zG [cdF qz,cdF qR,cdF qv,cdF zV,cdF jc,cdF qj,cdF qh,cdF qL,cdF wP,cdF zY,cdF zr] [] [] [] [67]
def VR(Vu:(zH×Int×zM×Int×Unit)->Option (zH×Int×Int×Unit))(jy:zO->(Int×Unit)->Option (zO×(Bool×Unit)))(s:zO):Option (zO×(Bool×Unit)):=opt (Vu (s.1.2.1,(s.2.1,(s.2.2.1,((wrF .i64 (s.2.2.2.1+s.1.1)),()))))) fun x0=>bif !(zj x0.2.2.1 0)then some (s,(false,()))else bif !(zj x0.2.1 0)then opt (jy ((s.1.1,(x0.1,s.1.2.2)),s.2) (x0.2.1,())) fun x1=>some (x1.1,(x1.2.1,()))else some (((s.1.1,(x0.1,s.1.2.2)),s.2),(false,()))
theorem Oj(Vu:(zH×Int×zM×Int×Unit)->Option (zH×Int×Int×Unit))(jy:zO->(Int×Unit)->Option (zO×(Bool×Unit)))(s:zO):sP prg ⟨[],[(67,⟨qz,yr,yu,jy⟩)],[]⟩ [(70,⟨JO,JP,Vu⟩)] cn (zy []) 30 29 qz gT gU s ()=VR Vu jy s:=by kernel_rfl
def xU:zO->(Unit)->Option (zO×(Bool×Unit)):=sP prg ⟨[],[(67,⟨qz,yr,yu,wH⟩)],[]⟩ [(70,⟨JO,JP,vR⟩)] cn (zy []) 30 29 qz gT gU
theorem BX:QW.Ok prg 29 ⟨qz,gT,gU,xU⟩:=db ⟨yT,(gN Wj uV),uW⟩ (ze Oh zn) qP (by kernel_rfl)
theorem BY(s:zO):xU s ()=VR vR wH s:=Oj vR wH s
abbrev gV:List VT:=[]
abbrev gW:List VT:=[⟨false,.bool⟩]
def cp:yp:=zG [cdF qz,cdF qR,cdF qv,cdF zV,cdF jc,cdF qj,cdF qh,cdF qL,cdF wP,cdF zY,cdF zr] [] [] [] []
def VS(s:zO):Option (zO×(Bool×Unit)):=bif !(zg s.2.2.1.2.2.1 6)then some (s,(false,()))else some ((s.1,(s.2.1,(s.2.2.1,(s.2.2.2.1,(5,(0,(0,0))))))),(true,()))
theorem Ol  (s:zO):sP prg ⟨[],[],[]⟩ [] cp (zy []) 30 30 qz gV gW s ()=VS  s:=by kernel_rfl
def yZ:zO->(Unit)->Option (zO×(Bool×Unit)):=sP prg ⟨[],[],[]⟩ [] cp (zy []) 30 30 qz gV gW
theorem BZ:QW.Ok prg 30 ⟨qz,gV,gW,yZ⟩:=db ⟨yT,uV,uW⟩ zn qP (by kernel_rfl)
theorem Ca(s:zO):yZ s ()=VS  s:=Ol  s
abbrev Vp:List VT:=[⟨true,qv⟩,⟨false,I⟩,⟨true,qL⟩]
abbrev Vq:List VT:=[⟨false,I⟩,⟨false,I⟩]
def AZ(a0:zH)(a1:Int)(a2:zM):Option (Int×Int×Unit):=opt (ve (a0,())) fun x0=>bif !(zj x0.1 0)then some (0,(x0.1,()))else opt (yY (a2,())) fun x1=>bif !x1.1 then some (0,(460,()))else opt (wi (a0,(a1,(a2,())))) fun x2=>some (x2.1,(0,()))
abbrev Ba:Type:=(zH×Int×zM×Unit)->Option (Int×Int×Unit)
def kG:Ba:=opq (sF prg [(43,GP),(121,bd),(124,QQ)] (zG [cdF qv,cdF zV,cdF qh,cdF qL,cdF zY,cdF zr] [] [] [] [43,121,124]) (zy []) 30 71 Vp Vq)
abbrev zdb:Con:=⟨Vp,Vq,kG⟩
theorem Om:Con.Ok prg 71 zdb:=okF (ze Xt (ze Kj (ze ZW zn))) (by kernel_rfl)
theorem On(a0)(a1)(a2):kG (a0,a1,a2,())=AZ a0 a1 a2:=zA (by kernel_rfl)
abbrev vY:List VT:=[⟨false,I⟩,⟨false,I⟩]
abbrev vZ:List VT:=[⟨false,.bool⟩]
def Ux:yp:=zG [cdF qz,cdF qR,cdF qv,cdF zV,cdF jc,cdF qj,cdF qh,cdF qL,cdF Kd,cdF zY,cdF zr] [] [] [] []
def Gh(s:zO)(a0:Int)(a1:Int):Option (zO×(Bool×Unit)):=some ((s.1,(s.2.1,(s.2.2.1,(s.2.2.2.1,(2,(a0,(a1,0))))))),(true,()))
theorem Cb  (s:zO) (a0:Int) (a1:Int):sP prg ⟨[],[],[]⟩ [] Ux (zy []) 30 72 qz vY vZ s (a0,a1,())=Gh  s a0 a1:=by kernel_rfl
def ub:zO->(Int×Int×Unit)->Option (zO×(Bool×Unit)):=sP prg ⟨[],[],[]⟩ [] Ux (zy []) 30 72 qz vY vZ
theorem nw:QW.Ok prg 72 ⟨qz,vY,vZ,ub⟩:=db ⟨yT,uV,uW⟩ zn qP (by kernel_rfl)
theorem XV(s:zO)(a0:Int)(a1:Int):ub s (a0,a1,())=Gh  s a0 a1:=Cb  s a0 a1
abbrev Bb:List VT:=[⟨false,(.list I)⟩]
abbrev Bc:List VT:=[⟨false,.bool⟩]
def Bd(a0:(List Int)):Option (Bool×Unit):=opt (zJ (fun s0:((Bool×(Int×Unit))×Unit)=>bif(zg s0.1.2.1 ((a0.length:Nat):Int))then opt (atI a0 s0.1.2.1) fun x1=>opt (bif zg x1 (-1125899906842624)then some (1,((false,()),()))else bif zg 1125899906842624 x1 then some (1,((false,()),()))else some (0,((s0.1.1,()),()))) fun x2=>bif Nat.beq x2.1 0 then some (.inr ((x2.2.1.1,((wrF .i64 (s0.1.2.1+1)),())),()))else some (.inl (1,((x2.2.1.1,(s0.1.2.1,())),())))else some (.inl (0,((s0.1.1,(s0.1.2.1,())),())))) zR ((false,(0,())),())) fun x3=>bif Nat.beq x3.1 0 then some (true,())else some (x3.2.1.1,())
abbrev zdc:Type:=((List Int)×Unit)->Option (Bool×Unit)
def JQ:zdc:=opq (sF prg [] (zG [] [] [] [] []) (zy []) 30 257 Bb Bc)
abbrev bP:Con:=⟨Bb,Bc,JQ⟩
theorem fT:Con.Ok prg 257 bP:=okF zn (by kernel_rfl)
theorem Oo(a0):JQ (a0,())=Bd a0:=zA (by kernel_rfl)
abbrev mn:List VT:=[⟨false,I⟩]
abbrev mq:List VT:=[⟨false,(.int .u64)⟩]
def Uy(a0:Int):Option (Int×Unit):=bif zg a0 0 then some ((wrF .u64 (wrF .i64 (0 - a0))),())else some ((wrF .u64 a0),())
abbrev SW:Type:=(Int×Unit)->Option (Int×Unit)
def kh:SW:=opq (sF prg [] (zG [] [] [] [] []) (zy []) 30 259 mn mq)
abbrev mr:Con:=⟨mn,mq,kh⟩
theorem Fe:Con.Ok prg 259 mr:=okF zn (by kernel_rfl)
theorem bg(a0):kh (a0,())=Uy a0:=zA (by kernel_rfl)
abbrev cq:List VT:=[⟨false,(.int .u64)⟩,⟨false,(.int .u64)⟩]
abbrev cr:List VT:=[⟨false,(.int .u64)⟩,⟨false,(.int .u64)⟩]
def cu(a0:Int)(a1:Int):Option (Int×Int×Unit):=some ((wrF .u64 ((wrF .u64 ((wrF .u64 ((wG .u64 a0 32)*(wG .u64 a1 32)))+(wG .u64 (wrF .u64 ((wrF .u64 ((wG .u64 a0 32)*(wR .and .u64 a1 4294967295)))+(wG .u64 (wrF .u64 ((wR .and .u64 a0 4294967295)*(wR .and .u64 a1 4294967295))) 32))) 32)))+(wG .u64 (wrF .u64 ((wR .and .u64 (wrF .u64 ((wrF .u64 ((wG .u64 a0 32)*(wR .and .u64 a1 4294967295)))+(wG .u64 (wrF .u64 ((wR .and .u64 a0 4294967295)*(wR .and .u64 a1 4294967295))) 32))) 4294967295)+(wrF .u64 ((wR .and .u64 a0 4294967295)*(wG .u64 a1 32))))) 32))),((wrF .u64 (a0*a1)),()))
abbrev Il:Type:=(Int×Int×Unit)->Option (Int×Int×Unit)
def Qo:Il:=opq (sF prg [] (zG [] [] [] [] []) (zy []) 30 258 cq cr)
abbrev cv:Con:=⟨cq,cr,Qo⟩
theorem sj:Con.Ok prg 258 cv:=okF zn (by kernel_rfl)
theorem sk(a0)(a1):Qo (a0,a1,())=cu a0 a1:=zA (by kernel_rfl)
abbrev Xu:List VT:=[⟨false,(.int .u64)⟩]
abbrev Xv:List VT:=[⟨false,I⟩]
def Ff:yp:=zG [] [] [] [] []
def cw:(Int×Unit)->Option (Int×Unit):=sF prg [] Ff (zy []) 30 323 Xu Xv
theorem sm:Con.Ok prg 323 ⟨Xu,Xv,cw⟩:=Rm zn qP (by kernel_rfl)
abbrev kI:List VT:=[⟨false,(.int .u64)⟩]
abbrev kJ:List VT:=[⟨false,I⟩]
def bh:yp:=zG [] [] [] [] [323]
def kK:(Int×Unit)->Option (Int×Unit):=sF prg [(323,⟨Xu,Xv,cw⟩)] bh (zy []) 30 294 kI kJ
theorem UT:Con.Ok prg 294 ⟨kI,kJ,kK⟩:=Rm (ze sm zn) qP (by kernel_rfl)
abbrev cA:List VT:=[⟨false,(.int .u64)⟩,⟨false,(.int .u64)⟩,⟨false,(.int .u64)⟩]
abbrev cB:List VT:=[⟨false,(.int .u64)⟩,⟨false,(.int .u64)⟩]
def cC(a0:Int)(a1:Int)(a2:Int):Option (Int×Int×Unit):=opt (bif zj a2 0 then none else some (0,((),()))) fun x0=>opt (bif !(zg a0 a2)then none else some (0,((),()))) fun x1=>bif zj a0 0 then bif zj a2 0 then none else bif zj a2 0 then none else some ((wrF .u64 (Int.tdiv a1 a2)),((Int.tmod a1 a2),()))else opt (kK (a2,())) fun x2=>bif zg (wrF .u64 x2.1) 0 then none else bif zg (wrF .u64 x2.1) 0 then none else bif(zg (wrF .u64 (64 - (wrF .u64 x2.1))) 0)then none else bif zg (wrF .u64 x2.1) 0 then none else bif(zj (wG .u64 (wk .u64 a2 (wrF .u64 x2.1)) 32) 0)then none else opt (zJ (fun s3:((Int×(Int×Unit))×Unit)=>bif !(zg s3.1.1 4294967296)then bif(!(zg (wrF .u64 (s3.1.2.1+(wG .u64 (wk .u64 a2 (wrF .u64 x2.1)) 32))) 4294967296))then some (.inl (0,(((wrF .u64 (s3.1.1 - 1)),((wrF .u64 (s3.1.2.1+(wG .u64 (wk .u64 a2 (wrF .u64 x2.1)) 32))),())),())))else some (.inr (((wrF .u64 (s3.1.1 - 1)),((wrF .u64 (s3.1.2.1+(wG .u64 (wk .u64 a2 (wrF .u64 x2.1)) 32))),())),()))else bif(zg (wrF .u64 ((wrF .u64 (4294967296*s3.1.2.1))+(wG .u64 (wk .u64 a1 (wrF .u64 x2.1)) 32))) (wrF .u64 (s3.1.1*(wR .and .u64 (wk .u64 a2 (wrF .u64 x2.1)) 4294967295))))then bif(!(zg (wrF .u64 (s3.1.2.1+(wG .u64 (wk .u64 a2 (wrF .u64 x2.1)) 32))) 4294967296))then some (.inl (0,(((wrF .u64 (s3.1.1 - 1)),((wrF .u64 (s3.1.2.1+(wG .u64 (wk .u64 a2 (wrF .u64 x2.1)) 32))),())),())))else some (.inr (((wrF .u64 (s3.1.1 - 1)),((wrF .u64 (s3.1.2.1+(wG .u64 (wk .u64 a2 (wrF .u64 x2.1)) 32))),())),()))else some (.inl (0,((s3.1.1,(s3.1.2.1,())),())))) zR (((wrF .u64 (Int.tdiv (wR .or .u64 (wk .u64 a0 (wrF .u64 x2.1)) (wG .u64 a1 (wrF .u64 (64 - (wrF .u64 x2.1))))) (wG .u64 (wk .u64 a2 (wrF .u64 x2.1)) 32))),((wrF .u64 ((wR .or .u64 (wk .u64 a0 (wrF .u64 x2.1)) (wG .u64 a1 (wrF .u64 (64 - (wrF .u64 x2.1))))) - (wrF .u64 ((wrF .u64 (Int.tdiv (wR .or .u64 (wk .u64 a0 (wrF .u64 x2.1)) (wG .u64 a1 (wrF .u64 (64 - (wrF .u64 x2.1))))) (wG .u64 (wk .u64 a2 (wrF .u64 x2.1)) 32)))*(wG .u64 (wk .u64 a2 (wrF .u64 x2.1)) 32))))),())),())) fun x4=>bif(zj (wG .u64 (wk .u64 a2 (wrF .u64 x2.1)) 32) 0)then none else opt (zJ (fun s5:((Int×(Int×Unit))×Unit)=>bif !(zg s5.1.1 4294967296)then bif(!(zg (wrF .u64 (s5.1.2.1+(wG .u64 (wk .u64 a2 (wrF .u64 x2.1)) 32))) 4294967296))then some (.inl (0,(((wrF .u64 (s5.1.1 - 1)),((wrF .u64 (s5.1.2.1+(wG .u64 (wk .u64 a2 (wrF .u64 x2.1)) 32))),())),())))else some (.inr (((wrF .u64 (s5.1.1 - 1)),((wrF .u64 (s5.1.2.1+(wG .u64 (wk .u64 a2 (wrF .u64 x2.1)) 32))),())),()))else bif(zg (wrF .u64 ((wrF .u64 (4294967296*s5.1.2.1))+(wR .and .u64 (wk .u64 a1 (wrF .u64 x2.1)) 4294967295))) (wrF .u64 (s5.1.1*(wR .and .u64 (wk .u64 a2 (wrF .u64 x2.1)) 4294967295))))then bif(!(zg (wrF .u64 (s5.1.2.1+(wG .u64 (wk .u64 a2 (wrF .u64 x2.1)) 32))) 4294967296))then some (.inl (0,(((wrF .u64 (s5.1.1 - 1)),((wrF .u64 (s5.1.2.1+(wG .u64 (wk .u64 a2 (wrF .u64 x2.1)) 32))),())),())))else some (.inr (((wrF .u64 (s5.1.1 - 1)),((wrF .u64 (s5.1.2.1+(wG .u64 (wk .u64 a2 (wrF .u64 x2.1)) 32))),())),()))else some (.inl (0,((s5.1.1,(s5.1.2.1,())),())))) zR (((wrF .u64 (Int.tdiv (wrF .u64 ((wrF .u64 ((wrF .u64 ((wR .or .u64 (wk .u64 a0 (wrF .u64 x2.1)) (wG .u64 a1 (wrF .u64 (64 - (wrF .u64 x2.1)))))*4294967296))+(wG .u64 (wk .u64 a1 (wrF .u64 x2.1)) 32))) - (wrF .u64 (x4.2.1.1*(wk .u64 a2 (wrF .u64 x2.1)))))) (wG .u64 (wk .u64 a2 (wrF .u64 x2.1)) 32))),((wrF .u64 ((wrF .u64 ((wrF .u64 ((wrF .u64 ((wR .or .u64 (wk .u64 a0 (wrF .u64 x2.1)) (wG .u64 a1 (wrF .u64 (64 - (wrF .u64 x2.1)))))*4294967296))+(wG .u64 (wk .u64 a1 (wrF .u64 x2.1)) 32))) - (wrF .u64 (x4.2.1.1*(wk .u64 a2 (wrF .u64 x2.1)))))) - (wrF .u64 ((wrF .u64 (Int.tdiv (wrF .u64 ((wrF .u64 ((wrF .u64 ((wR .or .u64 (wk .u64 a0 (wrF .u64 x2.1)) (wG .u64 a1 (wrF .u64 (64 - (wrF .u64 x2.1)))))*4294967296))+(wG .u64 (wk .u64 a1 (wrF .u64 x2.1)) 32))) - (wrF .u64 (x4.2.1.1*(wk .u64 a2 (wrF .u64 x2.1)))))) (wG .u64 (wk .u64 a2 (wrF .u64 x2.1)) 32)))*(wG .u64 (wk .u64 a2 (wrF .u64 x2.1)) 32))))),())),())) fun x6=>bif zg (wrF .u64 x2.1) 0 then none else some ((wrF .u64 ((wrF .u64 (x4.2.1.1*4294967296))+x6.2.1.1)),((wG .u64 (wrF .u64 ((wrF .u64 ((wrF .u64 ((wrF .u64 ((wrF .u64 ((wrF .u64 ((wR .or .u64 (wk .u64 a0 (wrF .u64 x2.1)) (wG .u64 a1 (wrF .u64 (64 - (wrF .u64 x2.1)))))*4294967296))+(wG .u64 (wk .u64 a1 (wrF .u64 x2.1)) 32))) - (wrF .u64 (x4.2.1.1*(wk .u64 a2 (wrF .u64 x2.1))))))*4294967296))+(wR .and .u64 (wk .u64 a1 (wrF .u64 x2.1)) 4294967295))) - (wrF .u64 (x6.2.1.1*(wk .u64 a2 (wrF .u64 x2.1)))))) (wrF .u64 x2.1)),()))
abbrev Im:Type:=(Int×Int×Int×Unit)->Option (Int×Int×Unit)
def Qp:Im:=opq (sF prg [(294,⟨kI,kJ,kK⟩)] (zG [] [] [] [] [294]) (zy []) 30 260 cA cB)
abbrev cD:Con:=⟨cA,cB,Qp⟩
theorem sn:Con.Ok prg 260 cD:=okF (ze UT zn) (by kernel_rfl)
theorem sq(a0)(a1)(a2):Qp (a0,a1,a2,())=cC a0 a1 a2:=zA (by kernel_rfl)
abbrev Be:List VT:=[⟨false,I⟩]
abbrev Bf:List VT:=[⟨false,I⟩,⟨false,.bool⟩]
def Bg(a0:Int):Option (Int×Bool×Unit):=opt (JQ ((a0::[]),())) fun x0=>bif !x0.1 then some (0,(false,()))else some (a0,(true,()))
abbrev zdd:Type:=(Int×Unit)->Option (Int×Bool×Unit)
def Zw:zdd:=opq (sF prg [(257,bP)] (zG [] [] [] [] [257]) (zy []) 30 261 Be Bf)
abbrev Bh:Con:=⟨Be,Bf,Zw⟩
theorem Oq:Con.Ok prg 261 Bh:=okF (ze fT zn) (by kernel_rfl)
theorem Ot(a0):Zw (a0,())=Bg a0:=zA (by kernel_rfl)
abbrev Fg:List VT:=[⟨false,I⟩,⟨false,I⟩,⟨false,I⟩]
abbrev Fh:List VT:=[⟨false,I⟩,⟨false,.bool⟩]
def Fi(a0:Int)(a1:Int)(a2:Int):Option (Int×Bool×Unit):=opt (opt (JQ ((a0::(a1::(a2::[]))),())) fun x0=>bif !x0.1 then some (1,((0,(false,())),()))else bif zg a2 1 then some (1,((0,(false,())),()))else some (0,((0,(false,())),()))) fun x1=>bif Nat.beq x1.1 0 then opt (kh (a0,())) fun x2=>opt (kh (a1,())) fun x3=>opt (Qo (x2.1,(x3.1,()))) fun x4=>bif(!(zg x4.1 (wrF .u64 a2)))then some (0,(false,()))else opt (Qp (x4.1,(x4.2.1,((wrF .u64 a2),())))) fun x5=>bif zg 1125899906842624 x5.1 then some (0,(false,()))else opt (bif(!((zg a0 0) == (zg a1 0)))then opt (bif !(zj x5.2.1 0)then some (0,(((wrF .i64 ((wrF .i64 (0 - (wrF .i64 x5.1))) - 1)),()),()))else some (0,(((wrF .i64 (0 - (wrF .i64 x5.1))),()),()))) fun x6=>some (0,((x6.2.1.1,()),()))else some (0,(((wrF .i64 x5.1),()),()))) fun x7=>opt (Zw (x7.2.1.1,())) fun x8=>some (x8.1,(x8.2.1,()))else some (x1.2.1.1,(x1.2.1.2.1,()))
abbrev zfQ:Type:=(Int×Int×Int×Unit)->Option (Int×Bool×Unit)
def Uz:zfQ:=opq (sF prg [(257,bP),(259,mr),(258,cv),(260,cD),(261,Bh)] (zG [] [] [] [] [257,259,258,260,261]) (zy []) 30 234 Fg Fh)
abbrev Fj:Con:=⟨Fg,Fh,Uz⟩
theorem SX:Con.Ok prg 234 Fj:=okF (ze fT (ze Fe (ze sj (ze sn (ze Oq zn))))) (by kernel_rfl)
theorem SY(a0)(a1)(a2):Uz (a0,a1,a2,())=Fi a0 a1 a2:=zA (by kernel_rfl)
abbrev Bi:List VT:=[⟨false,I⟩,⟨false,I⟩]
abbrev Bj:List VT:=[⟨false,I⟩,⟨false,.bool⟩]
def Bk(a0:Int)(a1:Int):Option (Int×Bool×Unit):=opt (Uz (a0,((-1),(a1,())))) fun x0=>some ((wrF .i64 (0 - x0.1)),(x0.2.1,()))
abbrev zde:Type:=(Int×Int×Unit)->Option (Int×Bool×Unit)
def JR:zde:=opq (sF prg [(234,Fj)] (zG [] [] [] [] [234]) (zy []) 30 197 Bi Bj)
abbrev Bl:Con:=⟨Bi,Bj,JR⟩
theorem Ou:Con.Ok prg 197 Bl:=okF (ze SX zn) (by kernel_rfl)
theorem Ov(a0)(a1):JR (a0,a1,())=Bk a0 a1:=zA (by kernel_rfl)
abbrev fU:List VT:=[⟨true,zr⟩,⟨true,xe⟩,⟨false,I⟩,⟨false,I⟩]
abbrev fV:List VT:=[⟨false,I⟩,⟨true,xe⟩]
def fW(a0:zC)(a1:jw)(a2:Int)(a3:Int):Option (Int×jw×Unit):=opt (JR ((jY 0 (wrF .i64 ((wrF .i64 (a3*1048576)) - (wN (wrF .i64 (a0.1*1048576)) (wrF .i64 (a1.2+(wrF .i64 (a0.2*(wrF .i64 ((jY a2 a1.1) - a1.1)))))))))),(a0.2,()))) fun x0=>some ((wrF .i64 ((jY a2 a1.1)+x0.1)),(((wrF .i64 ((jY a2 a1.1)+x0.1)),(wrF .i64 ((wN (wrF .i64 (a0.1*1048576)) (wrF .i64 (a1.2+(wrF .i64 (a0.2*(wrF .i64 ((wrF .i64 ((jY a2 a1.1)+x0.1)) - a1.1))))))) - (wrF .i64 (a3*1048576))))),()))
abbrev Ow:Type:=(zC×jw×Int×Int×Unit)->Option (Int×jw×Unit)
def Jk:Ow:=opq (sF prg [(197,Bl)] (zG [cdF zr] [] [] [] [197]) (zy []) 30 125 fU fV)
abbrev fX:Con:=⟨fU,fV,Jk⟩
theorem Cc:Con.Ok prg 125 fX:=okF (ze Ou zn) (by kernel_rfl)
theorem Cd(a0)(a1)(a2)(a3):Jk (a0,a1,a2,a3,())=fW a0 a1 a2 a3:=zA (by kernel_rfl)
abbrev Jl:List VT:=[⟨true,zr⟩,⟨true,xe⟩,⟨false,I⟩,⟨false,I⟩]
abbrev Jm:List VT:=[⟨false,I⟩,⟨true,xe⟩,⟨false,I⟩]
def fY(a0:zC)(a1:jw)(a2:Int)(a3:Int):Option (Int×jw×Int×Unit):=opt (JK (a0,(a1,()))) fun x0=>bif !(zj x0.1 0)then some (0,((0,0),(x0.1,())))else opt (bif zg a2 0 then some (1,(((0,0),(0,(2,()))),()))else bif zg 1099511627776 a2 then some (1,(((0,0),(0,(2,()))),()))else bif zg a3 1 then some (1,(((0,0),(0,(2,()))),()))else bif zg 1048576 a3 then some (1,(((0,0),(0,(2,()))),()))else some (0,(((0,0),(0,(0,()))),()))) fun x1=>bif Nat.beq x1.1 0 then bif zg a0.1 a3 then some (0,((0,0),(4,())))else opt (Jk (a0,(a1,(a2,(a3,()))))) fun x2=>bif zg 1099511627776 x2.1 then some (0,((0,0),(6,())))else some (x2.1,(x2.2.1,(0,())))else some (x1.2.1.2.1,(x1.2.1.1,(x1.2.1.2.2.1,())))
abbrev fZ:Type:=(zC×jw×Int×Int×Unit)->Option (Int×jw×Int×Unit)
def xV:fZ:=opq (sF prg [(91,bJ),(125,fX)] (zG [cdF zr] [] [] [] [91,125]) (zy []) 30 73 Jl Jm)
abbrev Ox:Con:=⟨Jl,Jm,xV⟩
theorem Ce:Con.Ok prg 73 Ox:=okF (ze fx (ze Cc zn)) (by kernel_rfl)
theorem Cf(a0)(a1)(a2)(a3):xV (a0,a1,a2,a3,())=fY a0 a1 a2 a3:=zA (by kernel_rfl)
abbrev gX:List VT:=[]
abbrev gY:List VT:=[⟨false,.bool⟩]
def cE:yp:=zG [cdF qz,cdF qR,cdF qv,cdF zV,cdF jc,cdF qj,cdF qh,cdF qL,cdF wP,cdF zY,cdF zr] [] [⟨1,8,some 2,jc,true⟩] [] [71,72,73,67]
def VU(Vv:Ba)(ud:zO->(Int×Int×Unit)->Option (zO×(Bool×Unit)))(Js:fZ)(jy:zO->(Int×Unit)->Option (zO×(Bool×Unit)))(s:zO):Option (zO×(Bool×Unit)):=opt (Vv (s.1.2.1,(s.2.1,(s.2.2.1,())))) fun x0=>opt (bif !(zj x0.2.1 0)then some (1,((false,()),()))else bif zg x0.1 0 then some (1,((false,()),()))else bif(!(zg x0.1 ((s.1.2.2.1.length:Nat):Int)))then some (1,((false,()),()))else some (0,((false,()),()))) fun x1=>bif Nat.beq x1.1 0 then opt (atI s.1.2.2.1 x0.1) fun x2=>bif zj s.2.2.1.2.2.1 7 then opt (ud s (x2.1,(s.2.2.2.1,()))) fun x3=>some (x3.1,(x3.2.1,()))else opt (Js (x2.2.1,(x2.2.2.2,(s.2.2.2.1,(s.2.2.1.2.2.2.1,()))))) fun x4=>opt (bif !(zj x4.2.2.1 0)then opt (jy s (21,())) fun x5=>some (1,((x5.1,(x5.2.1,())),()))else bif(zg x2.2.2.1 (wrF .i64 (x4.1 - s.2.2.2.1)))then opt (jy s (21,())) fun x6=>some (1,((x6.1,(x6.2.1,())),()))else some (0,((s,(x1.2.1.1,())),()))) fun x7=>bif Nat.beq x7.1 0 then bif dQ x7.2.1.1.1.2.2.1 then bif zX 0 x7.2.1.1.1.2.2.1.length 48 then opt (atI x7.2.1.1.1.2.2.1 x0.1) fun x8=>opt (gl x7.2.1.1.1.2.2.1 (Int.toNat x0.1)) fun x9=>opt (ud ((x7.2.1.1.1.1,(x7.2.1.1.1.2.1,((x7.2.1.1.1.2.2.1.set (Int.toNat x0.1) (x2.1,(x2.2.1,(x2.2.2.1,x4.2.1)))),x7.2.1.1.1.2.2.2))),x7.2.1.1.2) (x2.1,(x4.1,()))) fun x10=>some (x10.1,(x10.2.1,()))else none else none else some (x7.2.1.1,(x7.2.1.2.1,()))else some (s,(x1.2.1.1,()))
theorem Oy(Vv:(zH×Int×zM×Unit)->Option (Int×Int×Unit))(ud:zO->(Int×Int×Unit)->Option (zO×(Bool×Unit)))(Js:(zC×jw×Int×Int×Unit)->Option (Int×jw×Int×Unit))(jy:zO->(Int×Unit)->Option (zO×(Bool×Unit)))(s:zO):sP prg ⟨[],[(72,⟨qz,vY,vZ,ud⟩),(67,⟨qz,yr,yu,jy⟩)],[]⟩ [(71,⟨Vp,Vq,Vv⟩),(73,⟨Jl,Jm,Js⟩)] cE (zy []) 30 31 qz gX gY s ()=VU Vv ud Js jy s:=by kernel_rfl
def yw:zO->(Unit)->Option (zO×(Bool×Unit)):=sP prg ⟨[],[(72,⟨qz,vY,vZ,ub⟩),(67,⟨qz,yr,yu,wH⟩)],[]⟩ [(71,⟨Vp,Vq,kG⟩),(73,⟨Jl,Jm,xV⟩)] cE (zy []) 30 31 qz gX gY
theorem Cg:QW.Ok prg 31 ⟨qz,gX,gY,yw⟩:=db ⟨yT,(gN nw (gN Wj uV)),uW⟩ (ze Om (ze Ce zn)) qP (by kernel_rfl)
theorem Ch(s:zO):yw s ()=VU kG ub xV wH s:=Oy kG ub xV wH s
abbrev JS:List VT:=[⟨true,qR⟩,⟨false,I⟩,⟨true,qL⟩,⟨false,I⟩]
abbrev JT:List VT:=[⟨true,qR⟩,⟨true,Kd⟩,⟨false,I⟩]
def pq:yp:=zG [cdF qz,cdF qR,cdF qv,cdF zV,cdF jc,cdF qj,cdF qh,cdF qL,cdF wP,cdF zY,cdF zr] [(14,76)] [] [] [12,26,27,28,29,30,31]
def kL(yz:fF)(Qr:cj)(Jt:fJ)(WN:zO->(Unit)->Option (zO×(Bool×Unit)))(Ju:zO->(Unit)->Option (zO×(Bool×Unit)))(Jv:zO->(Unit)->Option (zO×(Bool×Unit)))(Jw:zO->(Unit)->Option (zO×(Bool×Unit)))(a0:zI)(a1:Int)(a2:zM)(a3:Int):Option (zI×yV×Int×Unit):=opt (yz (a0,())) fun x0=>bif !(zj x0.1 0)then some ((0,(([],([],(0,([],[])))),([],([],[])))),((0,(0,(0,0))),(x0.1,())))else opt (bif zg a1 0 then some (1,(((0,(([],([],(0,([],[])))),([],([],[])))),((0,(0,(0,0))),(2,()))),()))else bif !(zg a1 48)then some (1,(((0,(([],([],(0,([],[])))),([],([],[])))),((0,(0,(0,0))),(2,()))),()))else some (0,(((0,(([],([],(0,([],[])))),([],([],[])))),((0,(0,(0,0))),(0,()))),()))) fun x1=>bif Nat.beq x1.1 0 then opt (Qr (a2,())) fun x2=>bif !(zj x2.1 0)then some ((0,(([],([],(0,([],[])))),([],([],[])))),((0,(0,(0,0))),(x2.1,())))else opt (Jt (a0,(a3,()))) fun x3=>bif !(zj x3.1 0)then some ((0,(([],([],(0,([],[])))),([],([],[])))),((0,(0,(0,0))),(x3.1,())))else opt (WN (a0,(a1,(a2,(a3,(0,(0,(0,0))))))) ()) fun x4=>bif x4.2.1 then some (x4.1.1,(x4.1.2.2.2.2,(0,())))else opt (Ju x4.1 ()) fun x5=>bif x5.2.1 then some (x5.1.1,(x5.1.2.2.2.2,(0,())))else opt (Jv x5.1 ()) fun x6=>bif x6.2.1 then some (x6.1.1,(x6.1.2.2.2.2,(0,())))else opt (Jw x6.1 ()) fun x7=>bif x7.2.1 then some (x7.1.1,(x7.1.2.2.2.2,(0,())))else some (x7.1.1,(x7.1.2.2.2.2,(0,())))else some (x1.2.1.1,(x1.2.1.2.1,(x1.2.1.2.2.1,())))
theorem zdf(yz:(zI×Unit)->Option (Int×Unit))(Qr:(zM×Unit)->Option (Int×Unit))(Jt:(zI×Int×Unit)->Option (Int×Unit))(WN:zO->(Unit)->Option (zO×(Bool×Unit)))(Ju:zO->(Unit)->Option (zO×(Bool×Unit)))(Jv:zO->(Unit)->Option (zO×(Bool×Unit)))(Jw:zO->(Unit)->Option (zO×(Bool×Unit)))(a0:zI)(a1:Int)(a2:zM)(a3:Int):sFl prg ⟨[],[(28,⟨qz,ZS,ZT,WN⟩),(29,⟨qz,gT,gU,Ju⟩),(30,⟨qz,gV,gW,Jv⟩),(31,⟨qz,gX,gY,Jw⟩)],[]⟩ [(12,⟨ur,uu,yz⟩),(26,⟨Qm,Qn,Qr⟩),(27,⟨Jg,Jh,Jt⟩)] pq (zy []) 30 8 JS JT (a0,a1,a2,a3,())=kL yz Qr Jt WN Ju Jv Jw a0 a1 a2 a3:=by kernel_rfl
def xR:(zI×Int×zM×Int×Unit)->Option (zI×yV×Int×Unit):=sFl prg ⟨[],[(28,⟨qz,ZS,ZT,xB⟩),(29,⟨qz,gT,gU,xU⟩),(30,⟨qz,gV,gW,yZ⟩),(31,⟨qz,gX,gY,yw⟩)],[]⟩ [(12,⟨ur,uu,wS⟩),(26,⟨Qm,Qn,vL⟩),(27,⟨Jg,Jh,uv⟩)] pq (zy []) 30 8 JS JT
theorem Oz:Con.Ok prg 8 ⟨JS,JT,xR⟩:=Dx ⟨yT,(gN Fa (gN BX (gN BZ (gN Cg uV)))),uW⟩ (ze Gg (ze se (ze BS zn))) qP (by kernel_rfl)
theorem gZ(a0:zI)(a1:Int)(a2:zM)(a3:Int):xR (a0,a1,a2,a3,())=kL wS vL uv xB xU yZ yw a0 a1 a2 a3:=zdf wS vL uv xB xU yZ yw a0 a1 a2 a3
abbrev Bm:List VT:=[⟨false,I⟩]
abbrev Bn:List VT:=[⟨false,.bool⟩]
def Bo(a0:Int):Option (Bool×Unit):=bif !(zg a0 0)then some ((!(zg 1099511627776 a0)),())else some (false,())
abbrev zdg:Type:=(Int×Unit)->Option (Bool×Unit)
def Zx:zdg:=opq (sF prg [] (zG [] [] [] [] []) (zy []) 30 76 Bm Bn)
abbrev Bp:Con:=⟨Bm,Bn,Zx⟩
theorem OA:Con.Ok prg 76 Bp:=okF zn (by kernel_rfl)
theorem OB(a0):Zx (a0,())=Bo a0:=zA (by kernel_rfl)
abbrev Fk:List VT:=[⟨true,qL⟩]
abbrev Fl:List VT:=[⟨false,.bool⟩]
def Fm(a0:zM):Option (Bool×Unit):=opt (Zx (a0.1,())) fun x0=>bif x0.1 then opt (Zx (a0.2.1,())) fun x1=>bif x1.1 then opt (Zx (a0.2.2.2.2,())) fun x2=>bif x2.1 then bif !(zg a0.2.2.1 0)then bif !(zg 7 a0.2.2.1)then bif !(zg a0.2.2.2.1 84)then some ((!(zg 1542 a0.2.2.2.1)),())else some (false,())else some (false,())else some (false,())else some (false,())else some (false,())else some (false,())
abbrev zfR:Type:=(zM×Unit)->Option (Bool×Unit)
def UA:zfR:=opq (sF prg [(76,Bp)] (zG [cdF qL] [] [] [] [76]) (zy []) 30 34 Fk Fl)
abbrev Fo:Con:=⟨Fk,Fl,UA⟩
theorem SZ:Con.Ok prg 34 Fo:=okF (ze OA zn) (by kernel_rfl)
theorem Ta(a0):UA (a0,())=Fm a0:=zA (by kernel_rfl)
abbrev Bq:List VT:=[⟨true,qR⟩,⟨false,I⟩]
abbrev Br:List VT:=[⟨false,.bool⟩]
def Bs(a0:zI)(a1:Int):Option (Bool×Unit):=bif(zg (wrF .i64 (a1+a0.1)) a0.2.1.2.2.1)then some (true,())else opt (zJ (fun s0:((Bool×(Int×Unit))×Unit)=>bif(zg s0.1.2.1 ((a0.2.2.2.2.length:Nat):Int))then opt (atI a0.2.2.2.2 s0.1.2.1) fun x1=>bif zg a1 x1.2.2.2.2.1 then some (.inl (1,((true,(s0.1.2.1,())),())))else some (.inr ((s0.1.1,((wrF .i64 (s0.1.2.1+1)),())),()))else some (.inl (0,((s0.1.1,(s0.1.2.1,())),())))) zR ((false,(0,())),())) fun x2=>bif Nat.beq x2.1 0 then some (false,())else some (x2.2.1.1,())
abbrev zdh:Type:=(zI×Int×Unit)->Option (Bool×Unit)
def Vr:zdh:=opq (sF prg [] (zG [cdF qR,cdF qv,cdF zV,cdF jc,cdF qj,cdF qh,cdF wP,cdF zY,cdF zr] [] [] [] []) (zy []) 30 35 Bq Br)
abbrev Bt:Con:=⟨Bq,Br,Vr⟩
theorem OC:Con.Ok prg 35 Bt:=okF zn (by kernel_rfl)
theorem OD(a0)(a1):Vr (a0,a1,())=Bs a0 a1:=zA (by kernel_rfl)
abbrev Bu:List VT:=[⟨false,I⟩,⟨false,I⟩]
abbrev Bv:List VT:=[⟨false,I⟩]
def Bw(a0:Int)(a1:Int):Option (Int×Unit):=opt (bif(zg (Int.tmod (wrF .i64 (a0+(Int.tmod a1 65536))) 65536) 0)then some (0,(((wrF .i64 ((Int.tmod (wrF .i64 (a0+(Int.tmod a1 65536))) 65536)+65536)),()),()))else some (0,(((Int.tmod (wrF .i64 (a0+(Int.tmod a1 65536))) 65536),()),()))) fun x0=>some (x0.2.1.1,())
abbrev zdi:Type:=(Int×Int×Unit)->Option (Int×Unit)
def Zy:zdi:=opq (sF prg [] (zG [] [] [] [] []) (zy []) 30 128 Bu Bv)
abbrev bQ:Con:=⟨Bu,Bv,Zy⟩
theorem hX:Con.Ok prg 128 bQ:=okF zn (by kernel_rfl)
theorem OE(a0)(a1):Zy (a0,a1,())=Bw a0 a1:=zA (by kernel_rfl)
abbrev Bx:List VT:=[⟨false,I⟩,⟨false,I⟩]
abbrev By:List VT:=[⟨false,I⟩]
def Bz(a0:Int)(a1:Int):Option (Int×Unit):=opt (Zy (a1,((wrF .i64 (0 - a0)),()))) fun x0=>opt (bif !(zg x0.1 32768)then some (0,(((wrF .i64 (x0.1 - 65536)),()),()))else some (0,((x0.1,()),()))) fun x1=>some (x1.2.1.1,())
abbrev zdj:Type:=(Int×Int×Unit)->Option (Int×Unit)
def kM:zdj:=opq (sF prg [(128,bQ)] (zG [] [] [] [] [128]) (zy []) 30 127 Bx By)
abbrev BA:Con:=⟨Bx,By,kM⟩
theorem OF:Con.Ok prg 127 BA:=okF (ze hX zn) (by kernel_rfl)
theorem OG(a0)(a1):kM (a0,a1,())=Bz a0 a1:=zA (by kernel_rfl)
abbrev pv:List VT:=[⟨true,qj⟩,⟨false,I⟩,⟨false,I⟩]
abbrev pw:List VT:=[⟨true,qj⟩,⟨false,.bool⟩]
def px(a0:qg)(a1:Int)(a2:Int):Option (qg×Bool×Unit):=opt (bif a0.2.2.1 then some (1,(((a0.1,(a0.2.1,(false,(a1,(a2,1))))),(true,())),()))else bif(zg a0.2.1 (wrF .i64 (a2 - a0.2.2.2.2.1)))then some (1,(((a0.1,(a0.2.1,(false,(a1,(a2,1))))),(true,())),()))else some (0,(((0,(0,(false,(0,(0,0))))),(false,())),()))) fun x0=>bif Nat.beq x0.1 0 then opt (kM (a0.2.2.2.1,(a1,()))) fun x1=>opt (bif(!(zg (wrF .i64 (0 - a0.1)) x1.1))then some (1,((a0,(false,())),()))else bif !(zg x1.1 a0.1)then some (1,((a0,(false,())),()))else some (0,((x0.2.1.1,(x0.2.1.2.1,())),()))) fun x2=>bif Nat.beq x2.1 0 then opt (bif !(zg 0 x1.1)then opt (xj (a0.2.2.2.2.2,((wrF .i64 (0 - x1.1)),()))) fun x3=>bif x3.1 then some (1,((a0,(false,())),()))else some (0,((x2.2.1.1,(x2.2.1.2.1,())),()))else some (0,((x2.2.1.1,(x2.2.1.2.1,())),()))) fun x4=>bif Nat.beq x4.1 0 then opt (bif zg 0 x1.1 then some (0,((a1,()),()))else some (0,((a0.2.2.2.1,()),()))) fun x5=>opt (zJ (fun s6:((Int×(Int×Unit))×Unit)=>bif !(zg s6.1.2.1 0)then opt (Zy (x5.2.1.1,((wrF .i64 (0 - s6.1.2.1)),()))) fun x7=>opt (kM (a0.2.2.2.1,(x7.1,()))) fun x8=>bif(!(zg (wrF .i64 (0 - x8.1)) 0))then bif(zg (wrF .i64 (0 - x8.1)) a0.1)then opt (xj (a0.2.2.2.2.2,((wrF .i64 (0 - x8.1)),()))) fun x9=>opt (bif zj x7.1 a1 then some (0,(((wrF .u64 ((wrF .u64 (s6.1.1*2))+1)),()),()))else bif x9.1 then some (0,(((wrF .u64 ((wrF .u64 (s6.1.1*2))+1)),()),()))else some (0,(((wrF .u64 (s6.1.1*2)),()),()))) fun x10=>some (.inr ((x10.2.1.1,((wrF .i64 (s6.1.2.1 - 1)),())),()))else opt (bif zj x7.1 a1 then some (0,(((wrF .u64 ((wrF .u64 (s6.1.1*2))+1)),()),()))else some (0,(((wrF .u64 (s6.1.1*2)),()),()))) fun x11=>some (.inr ((x11.2.1.1,((wrF .i64 (s6.1.2.1 - 1)),())),()))else opt (bif zj x7.1 a1 then some (0,(((wrF .u64 ((wrF .u64 (s6.1.1*2))+1)),()),()))else some (0,(((wrF .u64 (s6.1.1*2)),()),()))) fun x12=>some (.inr ((x12.2.1.1,((wrF .i64 (s6.1.2.1 - 1)),())),()))else some (.inl (0,((s6.1.1,(s6.1.2.1,())),())))) zR ((0,((wrF .i64 (a0.1 - 1)),())),())) fun x13=>some ((a0.1,(a0.2.1,(false,(x5.2.1.1,(a2,x13.2.1.1))))),(true,()))else some (x4.2.1.1,(x4.2.1.2.1,()))else some (x2.2.1.1,(x2.2.1.2.1,()))else some (x0.2.1.1,(x0.2.1.2.1,()))
abbrev zaV:Type:=(qg×Int×Int×Unit)->Option (qg×Bool×Unit)
def gF:zaV:=opq (sF prg [(127,BA),(116,ni),(128,bQ)] (zG [cdF qj] [] [] [] [127,116,128]) (zy []) 30 77 pv pw)
abbrev py:Con:=⟨pv,pw,gF⟩
theorem Io:Con.Ok prg 77 py:=okF (ze OF (ze oH (ze hX zn))) (by kernel_rfl)
theorem Ip(a0)(a1)(a2):gF (a0,a1,a2,())=px a0 a1 a2:=zA (by kernel_rfl)
abbrev Fp:List VT:=[⟨true,qv⟩,⟨false,I⟩,⟨true,qL⟩]
abbrev Fq:List VT:=[⟨false,I⟩]
def Fs(a0:zH)(a1:Int)(a2:zM):Option (Int×Unit):=opt (zJ (fun s0:((Int×(Int×Unit))×Unit)=>bif(zg s0.1.2.1 ((a0.1.length:Nat):Int))then opt (atI a0.1 s0.1.2.1) fun x1=>opt (bif zj x1.1 a1 then bif zj x1.2.1 a2.1 then bif zj x1.2.2.1 a2.2.2.1 then some (1,((s0.1.2.1,()),()))else some (0,((s0.1.1,()),()))else some (0,((s0.1.1,()),()))else some (0,((s0.1.1,()),()))) fun x2=>bif Nat.beq x2.1 0 then some (.inr ((x2.2.1.1,((wrF .i64 (s0.1.2.1+1)),())),()))else some (.inl (1,((x2.2.1.1,(s0.1.2.1,())),())))else some (.inl (0,((s0.1.1,(s0.1.2.1,())),())))) zR ((0,(0,())),())) fun x3=>bif Nat.beq x3.1 0 then some ((-1),())else some (x3.2.1.1,())
abbrev zfS:Type:=(zH×Int×zM×Unit)->Option (Int×Unit)
def uR:zfS:=opq (sF prg [] (zG [cdF qv,cdF zV,cdF qh,cdF qL,cdF zY,cdF zr] [] [] [] []) (zy []) 30 78 Fp Fq)
abbrev hY:Con:=⟨Fp,Fq,uR⟩
theorem mu:Con.Ok prg 78 hY:=okF zn (by kernel_rfl)
theorem Tb(a0)(a1)(a2):uR (a0,a1,a2,())=Fs a0 a1 a2:=zA (by kernel_rfl)
abbrev Ft:List VT:=[⟨true,zr⟩,⟨true,zr⟩,⟨true,zY⟩,⟨false,I⟩,⟨false,I⟩]
abbrev Fu:List VT:=[⟨false,I⟩,⟨true,zY⟩,⟨false,I⟩]
def Fv(a0:zC)(a1:zC)(a2:qK)(a3:Int)(a4:Int):Option (Int×qK×Int×Unit):=opt (JI (a0,(a1,(a2,())))) fun x0=>bif !(zj x0.1 0)then some (0,((0,(0,0)),(x0.1,())))else opt (opt (ZQ (a3,(a2.1,(1099511627776,())))) fun x1=>bif !x1.1 then some (1,(((0,(0,0)),(0,(2,()))),()))else opt (ZQ (a4,(1,(1048576,())))) fun x2=>bif !x2.1 then some (1,(((0,(0,0)),(0,(2,()))),()))else some (0,(((0,(0,0)),(0,(0,()))),()))) fun x3=>bif Nat.beq x3.1 0 then bif(zg (wN (wrF .i64 (a1.1*1048576)) (wrF .i64 (a2.2.2+(wrF .i64 (a1.2*(wrF .i64 (a3 - a2.1))))))) (wrF .i64 (a4*1048576)))then some (2,((a3,((wN (wrF .i64 (a0.1*1048576)) (wrF .i64 (a2.2.1+(wrF .i64 (a0.2*(wrF .i64 (a3 - a2.1))))))),(wN (wrF .i64 (a1.1*1048576)) (wrF .i64 (a2.2.2+(wrF .i64 (a1.2*(wrF .i64 (a3 - a2.1))))))))),(0,())))else bif(zg (wN (wrF .i64 (a0.1*1048576)) (wrF .i64 (a2.2.1+(wrF .i64 (a0.2*(wrF .i64 (a3 - a2.1))))))) (wrF .i64 (a4*1048576)))then some (1,((a3,((wN (wrF .i64 (a0.1*1048576)) (wrF .i64 (a2.2.1+(wrF .i64 (a0.2*(wrF .i64 (a3 - a2.1))))))),(wrF .i64 ((wN (wrF .i64 (a1.1*1048576)) (wrF .i64 (a2.2.2+(wrF .i64 (a1.2*(wrF .i64 (a3 - a2.1))))))) - (wrF .i64 (a4*1048576)))))),(0,())))else some (0,((a3,((wrF .i64 ((wN (wrF .i64 (a0.1*1048576)) (wrF .i64 (a2.2.1+(wrF .i64 (a0.2*(wrF .i64 (a3 - a2.1))))))) - (wrF .i64 (a4*1048576)))),(wrF .i64 ((wN (wrF .i64 (a1.1*1048576)) (wrF .i64 (a2.2.2+(wrF .i64 (a1.2*(wrF .i64 (a3 - a2.1))))))) - (wrF .i64 (a4*1048576)))))),(0,())))else some (x3.2.1.2.1,(x3.2.1.1,(x3.2.1.2.2.1,())))
abbrev zfT:Type:=(zC×zC×qK×Int×Int×Unit)->Option (Int×qK×Int×Unit)
def Yt:zfT:=opq (sF prg [(119,bH),(181,rU)] (zG [cdF zY,cdF zr] [] [] [] [119,181]) (zy []) 30 129 Ft Fu)
abbrev Fw:Con:=⟨Ft,Fu,Yt⟩
theorem Tc:Con.Ok prg 129 Fw:=okF (ze fk (ze AF zn)) (by kernel_rfl)
theorem Td(a0)(a1)(a2)(a3)(a4):Yt (a0,a1,a2,a3,a4,())=Fv a0 a1 a2 a3 a4:=zA (by kernel_rfl)
abbrev cF:List VT:=[⟨true,zV⟩,⟨false,I⟩,⟨true,qL⟩,⟨false,I⟩]
abbrev cG:List VT:=[⟨false,I⟩,⟨false,I⟩]
def cH(a0:qu)(a1:Int)(a2:zM)(a3:Int):Option (Int×Int×Unit):=bif !(zj a2.2.2.2.1 a0.2.2.2.1)then some (0,(2,()))else bif zj a0.2.2.2.2.1 0 then none else opt (bif zg a3 a0.2.2.2.2.2.1 then some (1,((0,(3,())),()))else bif(zg (wrF .i64 (a0.2.2.2.2.2.2+(wrF .i64 ((wrF .i64 (Int.tdiv (wrF .i64 (a3 - a0.2.2.2.2.2.1)) a0.2.2.2.2.1))*a0.2.2.2.2.1)))) a3)then some (1,((0,(3,())),()))else some (0,((0,(0,())),()))) fun x0=>bif Nat.beq x0.1 0 then bif(!(zg a1 (wrF .i64 (Int.tdiv (wrF .i64 (a3 - a0.2.2.2.2.2.1)) a0.2.2.2.2.1))))then some (0,(4,()))else some ((wrF .i64 (Int.tdiv (wrF .i64 (a3 - a0.2.2.2.2.2.1)) a0.2.2.2.2.1)),(0,()))else some (x0.2.1.1,(x0.2.1.2.1,()))
abbrev Iq:Type:=(qu×Int×zM×Int×Unit)->Option (Int×Int×Unit)
def Qq:Iq:=opq (sF prg [] (zG [cdF zV,cdF qL] [] [] [] []) (zy []) 30 130 cF cG)
abbrev cI:Con:=⟨cF,cG,Qq⟩
theorem sr:Con.Ok prg 130 cI:=okF zn (by kernel_rfl)
theorem su(a0)(a1)(a2)(a3):Qq (a0,a1,a2,a3,())=cH a0 a1 a2 a3:=zA (by kernel_rfl)
abbrev Fx:List VT:=[⟨true,qv⟩,⟨false,I⟩,⟨true,qL⟩,⟨false,I⟩]
abbrev Fy:List VT:=[⟨true,qv⟩,⟨false,I⟩]
def Yu(a0:zH)(a1:Int)(a2:zM)(a3:Int):Option (zH×Int×Unit):=bif !(zg 5 a2.2.2.1)then opt (zJ (fun s0:((((List (Int×(Int×(Int×(Int×(Int×(Int×Int)))))))×((List (Int×((Int×Int)×(Int×Int))))×(Int×((List Int)×(List (Int×(Int×Int)))))))×(((List (Int×(Int×(Int×(Int×(Int×(Int×Int)))))))×((List (Int×((Int×Int)×(Int×Int))))×(Int×((List Int)×(List (Int×(Int×Int)))))))×(Int×(Int×Unit))))×Unit)=>bif(zg s0.1.2.2.2.1 ((s0.1.1.2.1.length:Nat):Int))then opt (atI s0.1.1.2.1 s0.1.2.2.2.1) fun x1=>bif !(zj x1.1 a1)then some (.inr ((s0.1.1,(s0.1.2.1,(s0.1.2.2.1,((wrF .i64 (s0.1.2.2.2.1+1)),())))),()))else opt (atI s0.1.1.2.2.2.2 s0.1.2.2.2.1) fun x2=>opt (Yt (x1.2.1,(x1.2.2,(x2,((wrF .i64 (a3+1000)),(a2.2.2.2.1,())))))) fun x3=>bif zX 0 s0.1.1.2.2.2.2.length 24 then opt (atI s0.1.1.2.2.2.2 s0.1.2.2.2.1) fun x4=>opt (gl s0.1.1.2.2.2.2 (Int.toNat s0.1.2.2.2.1)) fun x5=>bif zj x3.1 2 then some (.inl (1,(((s0.1.1.1,(s0.1.1.2.1,(s0.1.1.2.2.1,(s0.1.1.2.2.2.1,(s0.1.1.2.2.2.2.set (Int.toNat s0.1.2.2.2.1) x3.2.1))))),((s0.1.1.1,(s0.1.1.2.1,(s0.1.1.2.2.1,(s0.1.1.2.2.2.1,(s0.1.1.2.2.2.2.set (Int.toNat s0.1.2.2.2.1) x3.2.1))))),(5,(s0.1.2.2.2.1,())))),())))else some (.inr (((s0.1.1.1,(s0.1.1.2.1,(s0.1.1.2.2.1,(s0.1.1.2.2.2.1,(s0.1.1.2.2.2.2.set (Int.toNat s0.1.2.2.2.1) x3.2.1))))),(s0.1.2.1,(s0.1.2.2.1,((wrF .i64 (s0.1.2.2.2.1+1)),())))),()))else none else some (.inl (0,((s0.1.1,(s0.1.2.1,(s0.1.2.2.1,(s0.1.2.2.2.1,())))),())))) zR (((a0.1,(a0.2.1,(a3,a0.2.2.2))),(([],([],(0,([],[])))),(0,(0,())))),())) fun x6=>bif Nat.beq x6.1 0 then some (x6.2.1.1,(0,()))else some (x6.2.1.2.1,(x6.2.1.2.2.1,()))else opt (uR ((a0.1,(a0.2.1,(a3,a0.2.2.2))),(a1,(a2,())))) fun x7=>bif zg x7.1 0 then some ((a0.1,(a0.2.1,(a3,a0.2.2.2))),(1,()))else opt (atI a0.1 x7.1) fun x8=>bif zj x8.2.2.1 6 then bif zg x8.2.2.2.1 a2.2.2.2.1 then some ((a0.1,(a0.2.1,(a3,a0.2.2.2))),(2,()))else some ((a0.1,(a0.2.1,(a3,a0.2.2.2))),(0,()))else opt (atI a0.2.2.2.1 x7.1) fun x9=>opt (Qq (x8,(x9,(a2,(a3,()))))) fun x10=>opt (bif zj x10.2.1 0 then bif zX 0 a0.2.2.2.1.length 8 then opt (atI a0.2.2.2.1 x7.1) fun x11=>opt (gl a0.2.2.2.1 (Int.toNat x7.1)) fun x12=>some (0,(((a0.1,(a0.2.1,(a3,((a0.2.2.2.1.set (Int.toNat x7.1) x10.1),a0.2.2.2.2)))),()),()))else none else some (0,(((a0.1,(a0.2.1,(a3,a0.2.2.2))),()),()))) fun x13=>some (x13.2.1.1,(x10.2.1,()))
abbrev zfU:Type:=(zH×Int×zM×Int×Unit)->Option (zH×Int×Unit)
def xa:zfU:=opq (sF prg [(129,Fw),(78,hY),(130,cI)] (zG [cdF qv,cdF zV,cdF qh,cdF qL,cdF zY,cdF zr] [] [⟨2,122,some 15,zY,true⟩,⟨2,122,some 20,I,true⟩,⟨4,122,some 15,zY,true⟩,⟨4,122,some 20,I,true⟩,⟨7,122,some 15,zY,true⟩,⟨7,122,some 20,I,true⟩,⟨13,122,some 15,zY,true⟩,⟨13,122,some 20,I,true⟩,⟨17,122,some 15,zY,true⟩,⟨17,122,some 20,I,true⟩,⟨20,122,some 15,zY,true⟩,⟨20,122,some 20,I,true⟩,⟨21,122,some 15,zY,true⟩,⟨21,122,some 20,I,true⟩,⟨25,122,some 15,zY,true⟩,⟨25,122,some 20,I,true⟩] [] [129,78,130]) (zy []) 30 79 Fx Fy)
abbrev FA:Con:=⟨Fx,Fy,xa⟩
theorem Te:Con.Ok prg 79 FA:=okF (ze Tc (ze mu (ze sr zn))) (by kernel_rfl)
theorem WE(a0)(a1)(a2)(a3):xa (a0,a1,a2,a3,())=Yu a0 a1 a2 a3:=zA (by kernel_rfl)
abbrev BB:List VT:=[⟨true,zr⟩,⟨true,xe⟩,⟨false,I⟩]
abbrev BC:List VT:=[⟨false,I⟩]
def BD(a0:zC)(a1:jw)(a2:Int):Option (Int×Unit):=some ((wN (wrF .i64 (a0.1*1048576)) (wrF .i64 (a1.2+(wrF .i64 (a0.2*(wrF .i64 (a2 - a1.1))))))),())
abbrev zdk:Type:=(zC×jw×Int×Unit)->Option (Int×Unit)
def Zz:zdk:=opq (sF prg [] (zG [cdF zr] [] [] [] []) (zy []) 30 131 BB BC)
abbrev BE:Con:=⟨BB,BC,Zz⟩
theorem OH:Con.Ok prg 131 BE:=okF zn (by kernel_rfl)
theorem OI(a0)(a1)(a2):Zz (a0,a1,a2,())=BD a0 a1 a2:=zA (by kernel_rfl)
abbrev hZ:List VT:=[⟨true,zr⟩,⟨true,xe⟩,⟨false,I⟩,⟨false,I⟩]
abbrev ia:List VT:=[⟨false,I⟩,⟨true,xe⟩,⟨false,I⟩]
def ic(a0:zC)(a1:jw)(a2:Int)(a3:Int):Option (Int×jw×Int×Unit):=opt (JL (a0,(a1,()))) fun x0=>bif !(zj x0.1 0)then some (0,((0,0),(x0.1,())))else opt (bif zg a2 0 then some (1,(((0,0),(0,(2,()))),()))else bif zg 1099511627776 a2 then some (1,(((0,0),(0,(2,()))),()))else bif zg a3 1 then some (1,(((0,0),(0,(2,()))),()))else bif zg 1048576 a3 then some (1,(((0,0),(0,(2,()))),()))else some (0,(((0,0),(0,(0,()))),()))) fun x1=>bif Nat.beq x1.1 0 then bif zg a0.1 a3 then some (0,((0,0),(4,())))else opt (Zz (a0,(a1,((jY a2 a1.1),())))) fun x2=>opt (bif(zg 0 (wrF .i64 ((wrF .i64 (a3*1048576)) - x2.1)))then opt (uO ((wrF .i64 ((wrF .i64 (a3*1048576)) - x2.1)),(a0.2,()))) fun x3=>some (0,(((wrF .i64 ((jY a2 a1.1)+x3.1)),()),()))else some (0,(((jY a2 a1.1),()),()))) fun x4=>bif zg 1099511627776 x4.2.1.1 then some (0,((0,0),(6,())))else opt (Zz (a0,(a1,(x4.2.1.1,())))) fun x5=>some (x4.2.1.1,((x4.2.1.1,(wrF .i64 (x5.1 - (wrF .i64 (a3*1048576))))),(0,())))else some (x1.2.1.2.1,(x1.2.1.1,(x1.2.1.2.2.1,())))
abbrev OJ:Type:=(zC×jw×Int×Int×Unit)->Option (Int×jw×Int×Unit)
def Za:OJ:=opq (sF prg [(126,bK),(131,BE),(132,KT)] (zG [cdF zr] [] [] [] [126,131,132]) (zy []) 30 80 hZ ia)
abbrev ig:Con:=⟨hZ,ia,Za⟩
theorem Ci:Con.Ok prg 80 ig:=okF (ze fG (ze OH (ze KU zn))) (by kernel_rfl)
theorem Cj(a0)(a1)(a2)(a3):Za (a0,a1,a2,a3,())=ic a0 a1 a2 a3:=zA (by kernel_rfl)
abbrev FB:List VT:=[⟨true,qR⟩,⟨false,I⟩,⟨true,qL⟩,⟨false,I⟩]
abbrev FC:List VT:=[⟨true,qR⟩,⟨true,Kd⟩]
def Yv(a0:zI)(a1:Int)(a2:zM)(a3:Int):Option (zI×yV×Unit):=opt (zJ (fun s0:(((Int×(((List (Int×(Int×(Int×(Int×(Int×(Int×Int)))))))×((List (Int×((Int×Int)×(Int×Int))))×(Int×((List Int)×(List (Int×(Int×Int)))))))×((List (Int×((Int×Int)×(Int×(Int×Int)))))×((List (Int×(Int×(Int×Int))))×(List (Int×(Int×(Bool×(Int×(Int×Int))))))))))×((Int×(((List (Int×(Int×(Int×(Int×(Int×(Int×Int)))))))×((List (Int×((Int×Int)×(Int×Int))))×(Int×((List Int)×(List (Int×(Int×Int)))))))×((List (Int×((Int×Int)×(Int×(Int×Int)))))×((List (Int×(Int×(Int×Int))))×(List (Int×(Int×(Bool×(Int×(Int×Int))))))))))×((Int×(Int×(Int×Int)))×(Int×Unit))))×Unit)=>bif(zg s0.1.2.2.2.1 ((s0.1.1.2.2.2.1.length:Nat):Int))then opt (atI s0.1.1.2.2.2.1 s0.1.2.2.2.1) fun x1=>bif !(zj x1.1 a1)then some (.inr ((s0.1.1,(s0.1.2.1,(s0.1.2.2.1,((wrF .i64 (s0.1.2.2.2.1+1)),())))),()))else opt (atI s0.1.1.2.2.2.1 s0.1.2.2.2.1) fun x2=>bif !(zj x2.2.1 a2.1)then some (.inr ((s0.1.1,(s0.1.2.1,(s0.1.2.2.1,((wrF .i64 (s0.1.2.2.2.1+1)),())))),()))else opt (atI s0.1.1.2.2.2.1 s0.1.2.2.2.1) fun x3=>bif !(zj x3.2.2.1 a2.2.2.1)then some (.inr ((s0.1.1,(s0.1.2.1,(s0.1.2.2.1,((wrF .i64 (s0.1.2.2.2.1+1)),())))),()))else bif !(zg a2.2.1 65536)then some (.inl (1,((s0.1.1,(s0.1.1,((1,(0,(0,20))),(s0.1.2.2.2.1,())))),())))else opt (atI s0.1.1.2.2.2.1 s0.1.2.2.2.1) fun x4=>opt (atI s0.1.1.2.2.2.2 x4.2.2.2) fun x5=>opt (gF (x5,(a2.2.1,(a3,())))) fun x6=>bif zX 0 s0.1.1.2.2.2.2.length 48 then opt (atI s0.1.1.2.2.2.2 x4.2.2.2) fun x7=>opt (gl s0.1.1.2.2.2.2 (Int.toNat x4.2.2.2)) fun x8=>bif x6.2.1 then some (.inl (1,(((s0.1.1.1,(s0.1.1.2.1,(s0.1.1.2.2.1,(s0.1.1.2.2.2.1,(s0.1.1.2.2.2.2.set (Int.toNat x4.2.2.2) x6.1))))),((s0.1.1.1,(s0.1.1.2.1,(s0.1.1.2.2.1,(s0.1.1.2.2.2.1,(s0.1.1.2.2.2.2.set (Int.toNat x4.2.2.2) x6.1))))),((3,(0,(0,0))),(s0.1.2.2.2.1,())))),())))else some (.inl (1,(((s0.1.1.1,(s0.1.1.2.1,(s0.1.1.2.2.1,(s0.1.1.2.2.2.1,(s0.1.1.2.2.2.2.set (Int.toNat x4.2.2.2) x6.1))))),((s0.1.1.1,(s0.1.1.2.1,(s0.1.1.2.2.1,(s0.1.1.2.2.2.1,(s0.1.1.2.2.2.2.set (Int.toNat x4.2.2.2) x6.1))))),((4,(0,(0,0))),(s0.1.2.2.2.1,())))),())))else none else some (.inl (0,((s0.1.1,(s0.1.2.1,(s0.1.2.2.1,(s0.1.2.2.2.1,())))),())))) zR ((a0,((0,(([],([],(0,([],[])))),([],([],[])))),((0,(0,(0,0))),(0,())))),())) fun x9=>bif Nat.beq x9.1 0 then opt (uR (x9.2.1.1.2.1,(a1,(a2,())))) fun x10=>opt (xa (x9.2.1.1.2.1,(a1,(a2,((wrF .i64 (a3+x9.2.1.1.1)),()))))) fun x11=>bif !(zj x11.2.1 0)then some ((x9.2.1.1.1,(x11.1,x9.2.1.1.2.2)),((1,(0,(0,x11.2.1))),()))else bif zg a2.2.2.1 6 then some ((x9.2.1.1.1,(x11.1,x9.2.1.1.2.2)),((5,(0,(0,0))),()))else opt (atI x9.2.1.1.2.2.1 x10.1) fun x12=>bif zj a2.2.2.1 7 then some ((x9.2.1.1.1,(x11.1,x9.2.1.1.2.2)),((2,(x12.1,(a3,0))),()))else opt (Za (x12.2.1,(x12.2.2.2,(a3,(a2.2.2.2.1,()))))) fun x13=>opt (bif !(zj x13.2.2.1 0)then some (1,(((x9.2.1.1.1,(x11.1,x9.2.1.1.2.2)),((1,(0,(0,21))),())),()))else bif(zg x12.2.2.1 (wrF .i64 (x13.1 - a3)))then some (1,(((x9.2.1.1.1,(x11.1,x9.2.1.1.2.2)),((1,(0,(0,21))),())),()))else some (0,((x9.2.1.2.1,(x9.2.1.2.2.1,())),()))) fun x14=>bif Nat.beq x14.1 0 then bif zX 0 x9.2.1.1.2.2.1.length 48 then opt (atI x9.2.1.1.2.2.1 x10.1) fun x15=>opt (gl x9.2.1.1.2.2.1 (Int.toNat x10.1)) fun x16=>some ((x9.2.1.1.1,(x11.1,((x9.2.1.1.2.2.1.set (Int.toNat x10.1) (x12.1,(x12.2.1,(x12.2.2.1,x13.2.1)))),x9.2.1.1.2.2.2))),((2,(x12.1,(x13.1,0))),()))else none else some (x14.2.1.1,(x14.2.1.2.1,()))else some (x9.2.1.2.1,(x9.2.1.2.2.1,()))
abbrev zfV:Type:=(zI×Int×zM×Int×Unit)->Option (zI×yV×Unit)
def UB:zfV:=opq (sF prg [(77,py),(78,hY),(79,FA),(80,ig)] (zG [⟨qR,wB qR,[6,8]⟩,cdF qv,cdF zV,cdF jc,cdF qj,cdF qh,cdF qL,cdF wP,cdF zY,cdF zr] [] [] [(2,179,4,[8])] [77,78,80]) (zy []) 30 36 FB FC)
abbrev FD:Con:=⟨FB,FC,UB⟩
theorem Tf:Con.Ok prg 36 FD:=okF (ze Io (ze mu (ze Te (ze Ci zn)))) (by kernel_rfl)
theorem WG(a0)(a1)(a2)(a3):UB (a0,a1,a2,a3,())=Yv a0 a1 a2 a3:=zA (by kernel_rfl)
abbrev Xb:List VT:=[⟨true,qR⟩,⟨false,I⟩,⟨true,qL⟩,⟨false,I⟩]
abbrev Xc:List VT:=[⟨true,qR⟩,⟨true,Kd⟩,⟨false,I⟩]
def gG(a0:zI)(a1:Int)(a2:zM)(a3:Int):Option (zI×yV×Int×Unit):=opt (JM (a0,())) fun x0=>bif !x0.1 then some ((0,(([],([],(0,([],[])))),([],([],[])))),((0,(0,(0,0))),(521,())))else opt (Qz (a1,())) fun x1=>bif !x1.1 then some ((0,(([],([],(0,([],[])))),([],([],[])))),((0,(0,(0,0))),(2,())))else opt (UA (a2,())) fun x2=>bif !x2.1 then some ((0,(([],([],(0,([],[])))),([],([],[])))),((0,(0,(0,0))),(460,())))else opt (bif zg a3 0 then some (1,(((0,(([],([],(0,([],[])))),([],([],[])))),((0,(0,(0,0))),(2,()))),()))else bif zg 274877906944 a3 then some (1,(((0,(([],([],(0,([],[])))),([],([],[])))),((0,(0,(0,0))),(2,()))),()))else opt (Vr (a0,(a3,()))) fun x3=>bif x3.1 then some (1,(((0,(([],([],(0,([],[])))),([],([],[])))),((0,(0,(0,0))),(2,()))),()))else some (0,(((0,(([],([],(0,([],[])))),([],([],[])))),((0,(0,(0,0))),(0,()))),()))) fun x4=>bif Nat.beq x4.1 0 then opt (UB (a0,(a1,(a2,(a3,()))))) fun x5=>some (x5.1,(x5.2.1,(0,())))else some (x4.2.1.1,(x4.2.1.2.1,(x4.2.1.2.2.1,())))
abbrev zaW:Type:=(zI×Int×zM×Int×Unit)->Option (zI×yV×Int×Unit)
def vg:zaW:=opq (sF prg [(32,bL),(33,Ui),(34,Fo),(35,Bt),(36,FD)] (zG [cdF qR,cdF qv,cdF zV,cdF jc,cdF qj,cdF qh,cdF qL,cdF wP,cdF zY,cdF zr] [] [] [] [32,33,34,35]) (zy []) 30 9 Xb Xc)
abbrev zaX:Con:=⟨Xb,Xc,vg⟩
theorem Ir:Con.Ok prg 9 zaX:=okF (ze fH (ze Uj (ze SZ (ze OC (ze Tf zn))))) (by kernel_rfl)
theorem kN(a0)(a1)(a2)(a3):vg (a0,a1,a2,a3,())=gG a0 a1 a2 a3:=zA (by kernel_rfl)
abbrev FE:List VT:=[⟨true,qv⟩,⟨true,qv⟩]
abbrev FF:List VT:=[⟨false,.bool⟩]
def FG(a0:zH)(a1:zH):Option (Bool×Unit):=opt (bif !(zj a0.2.2.1 a1.2.2.1)then some (1,((false,()),()))else bif(!(zj ((a0.1.length:Nat):Int) ((a1.1.length:Nat):Int)))then some (1,((false,()),()))else bif(!(zj ((a0.2.1.length:Nat):Int) ((a1.2.1.length:Nat):Int)))then some (1,((false,()),()))else bif(!(zj ((a0.2.2.2.1.length:Nat):Int) ((a1.2.2.2.1.length:Nat):Int)))then some (1,((false,()),()))else bif(!(zj ((a0.2.2.2.2.length:Nat):Int) ((a1.2.2.2.2.length:Nat):Int)))then some (1,((false,()),()))else some (0,((false,()),()))) fun x0=>bif Nat.beq x0.1 0 then opt (zJ (fun s1:((Bool×(Int×Unit))×Unit)=>bif(zg s1.1.2.1 ((a0.1.length:Nat):Int))then opt (atI a0.1 s1.1.2.1) fun x2=>opt (atI a1.1 s1.1.2.1) fun x3=>bif(!((zj x2.1 x3.1)&&((zj x2.2.1 x3.2.1)&&((zj x2.2.2.1 x3.2.2.1)&&((zj x2.2.2.2.1 x3.2.2.2.1)&&((zj x2.2.2.2.2.1 x3.2.2.2.2.1)&&((zj x2.2.2.2.2.2.1 x3.2.2.2.2.2.1)&&((zj x2.2.2.2.2.2.2 x3.2.2.2.2.2.2)&&true))))))))then some (.inl (1,((false,(s1.1.2.1,())),())))else some (.inr ((s1.1.1,((wrF .i64 (s1.1.2.1+1)),())),()))else some (.inl (0,((s1.1.1,(s1.1.2.1,())),())))) zR ((x0.2.1.1,(0,())),())) fun x4=>bif Nat.beq x4.1 0 then opt (zJ (fun s5:((Bool×(Int×Unit))×Unit)=>bif(zg s5.1.2.1 ((a0.2.2.2.1.length:Nat):Int))then opt (atI a0.2.2.2.1 s5.1.2.1) fun x6=>opt (atI a1.2.2.2.1 s5.1.2.1) fun x7=>bif !(zj x6 x7)then some (.inl (1,((false,(s5.1.2.1,())),())))else some (.inr ((s5.1.1,((wrF .i64 (s5.1.2.1+1)),())),()))else some (.inl (0,((s5.1.1,(s5.1.2.1,())),())))) zR ((x4.2.1.1,(0,())),())) fun x8=>bif Nat.beq x8.1 0 then opt (zJ (fun s9:((Bool×(Int×Unit))×Unit)=>bif(zg s9.1.2.1 ((a0.2.1.length:Nat):Int))then opt (atI a0.2.1 s9.1.2.1) fun x10=>opt (atI a1.2.1 s9.1.2.1) fun x11=>bif(!((zj x10.1 x11.1)&&(((zj x10.2.1.1 x11.2.1.1)&&((zj x10.2.1.2 x11.2.1.2)&&true))&&(((zj x10.2.2.1 x11.2.2.1)&&((zj x10.2.2.2 x11.2.2.2)&&true))&&true))))then some (.inl (1,((false,(s9.1.2.1,())),())))else some (.inr ((s9.1.1,((wrF .i64 (s9.1.2.1+1)),())),()))else some (.inl (0,((s9.1.1,(s9.1.2.1,())),())))) zR ((x8.2.1.1,(0,())),())) fun x12=>bif Nat.beq x12.1 0 then opt (zJ (fun s13:((Bool×(Int×Unit))×Unit)=>bif(zg s13.1.2.1 ((a0.2.2.2.2.length:Nat):Int))then opt (atI a0.2.2.2.2 s13.1.2.1) fun x14=>opt (atI a1.2.2.2.2 s13.1.2.1) fun x15=>bif(!((zj x14.1 x15.1)&&((zj x14.2.1 x15.2.1)&&((zj x14.2.2 x15.2.2)&&true))))then some (.inl (1,((false,(s13.1.2.1,())),())))else some (.inr ((s13.1.1,((wrF .i64 (s13.1.2.1+1)),())),()))else some (.inl (0,((s13.1.1,(s13.1.2.1,())),())))) zR ((x12.2.1.1,(0,())),())) fun x16=>bif Nat.beq x16.1 0 then some (true,())else some (x16.2.1.1,())else some (x12.2.1.1,())else some (x8.2.1.1,())else some (x4.2.1.1,())else some (x0.2.1.1,())
abbrev zfW:Type:=(zH×zH×Unit)->Option (Bool×Unit)
def UC:zfW:=opq (sF prg [] (zG [cdF qv,cdF zV,cdF qh,cdF zY,cdF zr] [] [] [] []) (zy []) 30 37 FE FF)
abbrev FH:Con:=⟨FE,FF,UC⟩
theorem Tg:Con.Ok prg 37 FH:=okF zn (by kernel_rfl)
theorem Th(a0)(a1):UC (a0,a1,())=FG a0 a1:=zA (by kernel_rfl)
abbrev Jn:List VT:=[⟨true,qR⟩,⟨true,qR⟩]
abbrev Jo:List VT:=[⟨false,.bool⟩]
def ij(a0:zI)(a1:zI):Option (Bool×Unit):=opt (bif !(zj a0.1 a1.1)then some (1,((false,()),()))else opt (UC (a0.2.1,(a1.2.1,()))) fun x0=>bif !x0.1 then some (1,((false,()),()))else bif(!(zj ((a0.2.2.1.length:Nat):Int) ((a1.2.2.1.length:Nat):Int)))then some (1,((false,()),()))else bif(!(zj ((a0.2.2.2.1.length:Nat):Int) ((a1.2.2.2.1.length:Nat):Int)))then some (1,((false,()),()))else bif(!(zj ((a0.2.2.2.2.length:Nat):Int) ((a1.2.2.2.2.length:Nat):Int)))then some (1,((false,()),()))else some (0,((false,()),()))) fun x1=>bif Nat.beq x1.1 0 then opt (zJ (fun s2:((Bool×(Int×Unit))×Unit)=>bif(zg s2.1.2.1 ((a0.2.2.1.length:Nat):Int))then opt (atI a0.2.2.1 s2.1.2.1) fun x3=>opt (atI a1.2.2.1 s2.1.2.1) fun x4=>bif(!((zj x3.1 x4.1)&&(((zj x3.2.1.1 x4.2.1.1)&&((zj x3.2.1.2 x4.2.1.2)&&true))&&((zj x3.2.2.1 x4.2.2.1)&&(((zj x3.2.2.2.1 x4.2.2.2.1)&&((zj x3.2.2.2.2 x4.2.2.2.2)&&true))&&true)))))then some (.inl (1,((false,(s2.1.2.1,())),())))else some (.inr ((s2.1.1,((wrF .i64 (s2.1.2.1+1)),())),()))else some (.inl (0,((s2.1.1,(s2.1.2.1,())),())))) zR ((x1.2.1.1,(0,())),())) fun x5=>bif Nat.beq x5.1 0 then opt (zJ (fun s6:((Bool×(Int×Unit))×Unit)=>bif(zg s6.1.2.1 ((a0.2.2.2.1.length:Nat):Int))then opt (atI a0.2.2.2.1 s6.1.2.1) fun x7=>opt (atI a1.2.2.2.1 s6.1.2.1) fun x8=>bif(!((zj x7.1 x8.1)&&((zj x7.2.1 x8.2.1)&&((zj x7.2.2.1 x8.2.2.1)&&((zj x7.2.2.2 x8.2.2.2)&&true)))))then some (.inl (1,((false,(s6.1.2.1,())),())))else some (.inr ((s6.1.1,((wrF .i64 (s6.1.2.1+1)),())),()))else some (.inl (0,((s6.1.1,(s6.1.2.1,())),())))) zR ((x5.2.1.1,(0,())),())) fun x9=>bif Nat.beq x9.1 0 then opt (zJ (fun s10:((Bool×(Int×Unit))×Unit)=>bif(zg s10.1.2.1 ((a0.2.2.2.2.length:Nat):Int))then opt (atI a0.2.2.2.2 s10.1.2.1) fun x11=>opt (atI a1.2.2.2.2 s10.1.2.1) fun x12=>bif(!((zj x11.1 x12.1)&&((zj x11.2.1 x12.2.1)&&((x11.2.2.1 == x12.2.2.1)&&((zj x11.2.2.2.1 x12.2.2.2.1)&&((zj x11.2.2.2.2.1 x12.2.2.2.2.1)&&((zj x11.2.2.2.2.2 x12.2.2.2.2.2)&&true)))))))then some (.inl (1,((false,(s10.1.2.1,())),())))else some (.inr ((s10.1.1,((wrF .i64 (s10.1.2.1+1)),())),()))else some (.inl (0,((s10.1.1,(s10.1.2.1,())),())))) zR ((x9.2.1.1,(0,())),())) fun x13=>bif Nat.beq x13.1 0 then some (true,())else some (x13.2.1.1,())else some (x9.2.1.1,())else some (x5.2.1.1,())else some (x1.2.1.1,())
abbrev OK:Type:=(zI×zI×Unit)->Option (Bool×Unit)
def xW:OK:=opq (sF prg [(37,FH)] (zG [cdF qR,cdF qv,cdF zV,cdF jc,cdF qj,cdF qh,cdF wP,cdF zY,cdF zr] [] [] [] [37]) (zy []) 30 10 Jn Jo)
abbrev OL:Con:=⟨Jn,Jo,xW⟩
theorem Ck:Con.Ok prg 10 OL:=okF (ze Tg zn) (by kernel_rfl)
theorem Cl(a0)(a1):xW (a0,a1,())=ij a0 a1:=zA (by kernel_rfl)
end Go.Proofs.YtlfkgkedfciccaaGreat.nd
namespace Go.Fz.Sy
theorem wJ{α:Type}{l:List α}{z:Int}{Q:α->Prop}(h0:0<=z)(h1:z < l.length)(hq:∀x,l[z.toNat]?=some x->Q x):zt (atI l z) Q:=by obtain⟨x,e,e2⟩:=Rp h0 h1;exact⟨x,e,hq x e2⟩
theorem jM{α:Type}{l:List α}{i:Nat}{Q:α->Prop}(h1:i < l.length)(hq:∀x,l[i]?=some x->Q x):zt (gl l i) Q:=by have hx:l[i]?=some l[i]:=FL h1;exact⟨l[i],by rw[xk,hx],hq _ hx⟩
def Nxt{X S:Type}(J:X->Prop)(I:S->Prop)(r:X ⊕ S):Prop:=(∀x,r=.inl x->J x)∧∀s',r=.inr s'->I s'
theorem zw{X S:Type}{J:X->Prop}{I:S->Prop}{x:X}(h:J x):Nxt J I (.inl x:X ⊕ S):=⟨fun y e=>by cases e;exact h,fun s' e=>by cases e⟩
theorem qn{X S:Type}{J:X->Prop}{I:S->Prop}{s:S}(h:I s):Nxt J I (.inr s:X ⊕ S):=⟨fun y e=>by(cases e),fun s' e=>by cases e;exact h⟩
theorem qb{X S:Type}{B:S->Option (X ⊕ S)}{s:S}{J:X->Prop}(n:Nat)(I:Nat->S->Prop)(hn:n < 1180591620717411303424)(h0:I 0 s)(h:∀i s,i < n->I i s->zt (B s) (Nxt J (I (i+1))))(he:∀s,I n s->zt (B s) (Nxt J fun _=>False)):zt (zJ B zR s) J:=by
 have key:∀(k i N:Nat) (s:S),i+k=n->k < N->I i s->zt (zJ B N s) J:=by
  intro k;induction k with
  |zero=>
   intro i N s hi hN hI;obtain⟨N,rfl⟩:∃M,N=M+1:=⟨N - 1,by omega⟩;have hi':i=n:=by omega
   obtain⟨r,e,h1,h2⟩:=he s (hi'▸hI);rw[QX,e];cases r with
   |inl x=>exact⟨x,rfl,h1 x rfl⟩
   |inr s'=>grind
  |succ k ih=>
   intro i N s hi hN hI;obtain⟨N,rfl⟩:∃M,N=M+1:=⟨N - 1,by omega⟩;obtain⟨r,e,h1,h2⟩:=h i s (by omega) hI;rw[QX,e];cases r with
   |inl x=>exact⟨x,rfl,h1 x rfl⟩
   |inr s'=>grind
 exact key n 0 zR s (by omega) (zqC hn zhl) h0
noncomputable def tv (p:Prop):Bool:=@decide p (Classical.propDecidable p)
theorem QD{p:Prop}:tv p=true↔p:=@decide_eq_true_iff p (Classical.propDecidable p)
theorem qX{p:Prop}(h:p):tv p=true:=QD.2 h
theorem wj{p:Prop}(h:¬p):tv p=false:=by grind[tv,QD]
theorem zpj{p:Prop}[inst:Decidable p]:tv p=decide p:=by grind[qX,decide_eq_true,wj,decide_eq_false]
theorem jj{o:Option (Bool×Unit)}{p:Prop}(h:zt o fun r=>(r.1=true↔p)):o=some (tv p,()):=by obtain⟨⟨b,⟨⟩⟩,e,h⟩:=h;grind[qX,wj]
theorem Zb{α:Type}{o:Option (α×Unit)}{v:α}(h:zt o fun r=>r.1=v):o=some (v,()):=by obtain⟨⟨b,⟨⟩⟩,e,rfl⟩:=h;exact e
theorem jR{α:Type}{o:Option α}{a:α}{Q:α->Prop}(e:o=some a)(h:Q a):zt o Q:=⟨a,e,h⟩
theorem zfX{n:Nat}(h:n<=1000000000000000000):n < 1180591620717411303424:=by omega
theorem zQ{i:Nat}(h:i<=1000000000000000000):wrF .i64 ((i:Int)+1)=((i+1:Nat):Int):=by rw[zU]<;>omega
theorem zL{a b:Int}(h:a < b):zg a b=true:=by rw[wO];grind
theorem zE{a b:Int}(h:¬a < b):zg a b=false:=by rw[wO];grind
theorem wZ{a b:Int}(h:a=b):zj a b=true:=by rw[yB,h];simp
theorem jm{a b:Int}(h:a≠b):zj a b=false:=by rw[yB];simp[h]
theorem zZ{a b:Int}(h:zg a b=true):a < b:=by grind[wO]
theorem zP{a b:Int}(h:zg a b=false):b<=a:=by grind[wO,of_decide_eq_false]
theorem ql{a b:Int}(h:zj a b=true):a=b:=by grind[yB]
theorem qt{a b:Int}(h:zj a b=false):a≠b:=by grind[yB]
theorem HA(a b:Int):jY a b=max a b:=by grind[jY,wO,decide_eq_true,decide_eq_false]
theorem Km(a b:Int):wN a b=min a b:=by grind[wN,wO,decide_eq_true,decide_eq_false]
theorem zf{α:Type}{b:Bool}{x y:Option α}{Q:α->Prop}(hb:b=true)(h:zt x Q):zt (bif b then x else y) Q:=by subst hb;exact h
theorem zi{α:Type}{b:Bool}{x y:Option α}{Q:α->Prop}(hb:b=false)(h:zt y Q):zt (bif b then x else y) Q:=by subst hb;exact h
theorem wK{X V:Type}{B:((V×(Int×Unit))×Unit)->Option (X ⊕ ((V×(Int×Unit))×Unit))}{v:V}{J:X->Prop}(n:Nat)(P:Nat->Prop)(hn:n<=1000000000000000000)(h:∀i,i < n->(∀k,k < i->P k)->zt (B ((v,((i:Int),())),())) (Nxt J fun s=>s=((v,(((i+1:Nat):Int),())),())∧P i))(he:(∀k,k < n->P k)->zt (B ((v,((n:Int),())),())) (Nxt J fun _=>False)):zt (zJ B zR ((v,(0,())),())) J:=by
 refine qb n (fun i s=>s=((v,((i:Int),())),())∧∀k,k < i->P k) (zfX hn) ⟨rfl,fun k hk=>by omega⟩ ?_ ?_
 ·rintro i _ hi ⟨rfl,hp⟩;obtain⟨r,e,h1,h2⟩:=h i hi hp;refine⟨r,e,h1,fun s' hs=>?_⟩;obtain⟨h3,h4⟩:=h2 s' hs;refine⟨h3,fun k hk=>?_⟩;rcases zry k i with hk' | hk'
  ·exact hp k hk'
  ·have:k=i:=by omega
   exact this▸h4
 grind
theorem vG{X V:Type}{v:V}{i:Nat}{J:X->Prop}{p:Prop}(hi:i<=1000000000000000000)(hp:p):Nxt J (fun s=>s=((v,(((i+1:Nat):Int),())),())∧p) (.inr ((v,(wrF .i64 ((i:Int)+1),())),())):=qn ⟨by rw[zQ hi],hp⟩
theorem aE{p:Prop}(h:tv p=true):p:=QD.1 h
theorem il{p:Prop}(h:tv p=false):¬p:=by grind[qX]
theorem jZ{p:Prop}(h:(!tv p)=true):¬p:=il (by simpa using h)
theorem wD{p:Prop}(h:(!tv p)=false):p:=aE (by simpa using h)
theorem zhn{α:Type}(l:List α)(lo hi mx:Option Int)(h p:Nat)(h1:hiI l.length hi=some h)(h2:loI h lo=some p)(h3:mxI h mx=true):Yc l lo hi mx=some ((l.take h).drop p):=by grind[Yc]
theorem zow{n q:Nat}(h:q<=n):hiI n (some (q:Int))=some q:=by show(bif Nat.ble q n then some q else none)=_;rw[zsu h];rfl
theorem zox{n q:Nat}(h:q<=n):loI n (some (q:Int))=some q:=by show(bif Nat.ble q n then some q else none)=_;rw[zsu h];rfl
theorem zkJ{α:Type}(l:List α)(n:Nat)(h:n<=l.length):Yc l (some (n:Int)) none none=some (l.drop n):=by rw[zhn l _ _ _ l.length n rfl (zox h) rfl];simp
theorem zho{α:Type}(l:List α)(n:Nat)(h:n<=l.length):Yc l none (some (n:Int)) none=some (l.take n):=by rw[zhn l _ _ _ n 0 (zow h) rfl rfl];simp
theorem zaY{a b:Int}{k:Nat}(h0:0<=a)(h1:a<=b)(h2:(k:Int)*b<=281474976710656):rr a b k=true:=by grind[rr,zE]
theorem qF{n m k:Nat}(h:(n+m)*k<=140737488355328)(h2:n+m<=9223372036854775807):zX n m k=true:=by grind[zX,maxLen,Nat.ble_eq_true_of_le]
end Go.Fz.Sy
namespace Go.Proofs.YtlfkgkedfciccaaGreat.ad
open Go Go.Fz Go.Fz.Sy Go.Proofs.YtlfkgkedfciccaaGreat.nd
abbrev wT:=Int×Int×Int×Int
abbrev qT:=Int×List Bool×List wT
def jW(t:qT)(n:Int):Prop:=0<=n∧n < t.1
def stn(t:qT)(n:Int):Bool:=(t.2.1[n.toNat]?).getD false
def im(t:qT)(l:wT):Prop:=jW t l.1∧jW t l.2.1∧l.1≠l.2.1∧¬(stn t l.1=true∧stn t l.2.1=true)∧1<=l.2.2.1∧l.2.2.1<=1000∧0<=l.2.2.2∧l.2.2.2<=10000
def ZX(o:wT)(a b:Int):Prop:=(o.1=a∧o.2.1=b)∨(o.1=b∧o.2.1=a)
structure szP(t:qT):Prop where
 n0:2<=t.1
 n1:t.1<=12
 st:(t.2.1.length:Int)=t.1
 ls:t.2.2.length<=24
def HB(t:qT):Prop:=∀(i:Nat) l,t.2.2[i]?=some l->im t l∧∀(k:Nat) o,k < i->t.2.2[k]?=some o->¬ZX o l.1 l.2.1
def one(a:Int)(n:Nat):Int:=if a=(n:Int)then 1 else 0
def cnt(ls:List wT)(n:Nat):Int:=(ls.map fun l=>one l.1 n+one l.2.1 n).sum
def stp(r:List Bool)(l:wT):List Bool:=bif(r[l.1.toNat]?).getD false||(r[l.2.1.toNat]?).getD false then(r.set l.1.toNat true).set l.2.1.toNat true else r
def UD(ls:List wT):Nat->List Bool->List Bool
 |0,r=>r
 |n+1,r=>UD ls n (ls.foldl stp r)
def reachS(t:qT)(a:Nat):List Bool:=UD t.2.2 t.1.toNat ((List.replicate t.1.toNat false).set a true)
structure ya(t:qT):Prop where
 sz:szP t
 ls:HB t
 re:∀(n:Nat),(n:Int) < t.1->(reachS t 0)[n]?=some true
 ct:∀(n:Nat),(n:Int) < t.1->stn t n=true->1<=cnt t.2.2 n∧cnt t.2.2 n<=2
theorem zpk{t:qT}{n:Nat}{b:Bool}(h:t.2.1[n]?=some b):stn t n=b:=by unfold stn;simp[h]
theorem zaZ{t:qT}{n:Int}{b:Bool}(h:t.2.1[n.toNat]?=some b):stn t n=b:=by unfold stn;simp[h]
theorem za0(t:qT)(n:Int):Yl (t,n,())=some (tv (jW t n),()):=by rw[Ru];unfold DJ jW;refine jj ?_;grind[za,wO]
theorem UE(l:wT)(a b:Int):wb (l,a,b,())=some (tv (ZX l a b),()):=by rw[Ng];unfold sV ZX;refine jj ?_;grind[za,yB]
theorem jW.lt{t:qT}{n:Int}(h:jW t n)(hs:szP t):n.toNat < t.2.1.length:=by have:=hs.st;have:=h.1;have:=h.2;omega
theorem jW.lt'{t:qT}{n:Int}(h:jW t n)(hs:szP t):n < (t.2.1.length:Int):=by have:=hs.st;have:=h.1;have:=h.2;omega
theorem pA{t:qT}(hs:szP t)(l:wT):xK (t,l,())=some (tv (im t l),()):=by
 rw[Rv];unfold DN;simp only[za0,zq];refine jj (zk (J:=fun x=>(x.1=0∧jW t l.1∧jW t l.2.1∧l.1≠l.2.1∧¬(stn t l.1=true∧stn t l.2.1=true))∨(x.1=1∧x.2.1.1=false∧¬(jW t l.1∧jW t l.2.1∧l.1≠l.2.1∧¬(stn t l.1=true∧stn t l.2.1=true)))) ?_ ?_)
 ·refine zd (fun h=>?_) (fun h=>?_)
  ·have:¬jW t l.1:=by intro hn;rw[qX hn]at h;cases h
   exact za (.inr ⟨rfl,rfl,by grind⟩)
  have h1:jW t l.1:=wD h;refine zd (fun h=>?_) (fun h=>?_)
  ·have:¬jW t l.2.1:=by intro hn;rw[qX hn]at h;cases h
   exact za (.inr ⟨rfl,rfl,by grind⟩)
  have h2:jW t l.2.1:=wD h;refine zd (fun h=>?_) (fun h=>?_)
  ·have:=ql h;exact za (.inr ⟨rfl,rfl,by grind⟩)
  have h3:=qt h;refine zb (wJ h1.1 (h1.lt' hs) fun x hx=>?_);have e1:=zaZ hx;refine zd (fun h=>?_) (fun h=>?_)
  ·refine zb (wJ h2.1 (h2.lt' hs) fun y hy=>?_);have e2:=zaZ hy;refine zd (fun h=>?_) (fun h=>?_)
   ·exact za (.inr ⟨rfl,rfl,by grind⟩)
   ·exact za (.inl ⟨rfl,by grind⟩)
  ·exact za (.inl ⟨rfl,by grind⟩)
 grind[Nat.beq,im,za,wO]
theorem UF{l:List Int}(hn:l.length<=1000000000000000000)(x:Int):vB (l,x,())=some (tv (x∈l),()):=by
 rw[zcq];unfold RD;refine jj (zk (J:=fun r=>(r.1=0∧¬x∈l)∨(r.1=1∧r.2.1.1=true∧x∈l)) (wK l.length (fun i=>l[i]?≠some x) hn ?_ ?_) ?_)
 ·intro i hi hp;have hx:l[i]?=some l[i]:=FL hi;refine zf (zL (show(i:Int) < _ by omega)) (zb (zm (n:=i) hx (zd (fun h=>?_) (fun h=>?_))))
  ·grind[ql,za,zw,List.getElem_mem]
  ·have:=qt h;exact za (vG (by omega) (by grind))
 ·grind[zE,za,zw,List.getElem?_of_mem]
 ·rintro⟨j,⟨v,w,⟨⟩⟩,⟨⟩⟩ (⟨rfl,hp⟩ | ⟨rfl,rfl,hp⟩)
  ·exact za (by simp[hp])
  ·exact za (by simp[hp])
theorem zoy(r:List Bool)(l:wT):(stp r l).length=r.length:=by grind[stp]
theorem sw(ls:List wT):∀r:List Bool,(ls.foldl stp r).length=r.length:=by induction ls<;>grind[zoy]
theorem OM(ls:List wT):∀(n:Nat) (r:List Bool),(UD ls n r).length=r.length
 |0,r=>rfl
 |n+1,r=>by rw[UD,OM ls n,sw]
theorem zb1(ls:List wT):∀(n:Nat) (r:List Bool),UD ls (n+1) r=ls.foldl stp (UD ls n r)
 |0,r=>rfl
 |n+1,r=>by rw[UD,zb1 ls n,UD]
theorem Ti{t:qT}(hs:szP t)(hl:∀(i:Nat) l,t.2.2[i]?=some l->jW t l.1∧jW t l.2.1){a:Nat}(ha:(a:Int) < t.1):Ve (t,(a:Int),[],())=some (reachS t a,()):=by
 have h0:=hs.n0;have h1:=hs.n1;have h3:=hs.ls;have h4:=hs.st;have e1:t.1.toNat=t.2.1.length:=by omega
 rw[No];unfold tx;simp only[UF (l:=[]) (by simp),zq];refine Zb ?_;refine zf (by unfold rr;rw[zE (by omega),zE (by omega),zE (by omega)];rfl) ?_;refine zb (wJ (by omega) (by simp;omega) fun _ _=>zb (jM (by simp;omega) fun _ _=>?_));refine zk (J:=fun x=>x.2.2.1=reachS t a) (qb t.1.toNat (fun i s=>s=(((i:Int),()),(UD t.2.2 i ((List.replicate t.1.toNat false).set a true),()))) (by omega) rfl ?_ ?_) ?_
 ·rintro i _ hi rfl;refine zf (zL (show(i:Int) < _ by omega)) ?_;generalize hr:UD t.2.2 i ((List.replicate t.1.toNat false).set a true)=r;have hrl:r.length=t.1.toNat:=by rw[<-hr,OM];simp
  refine zk (J:=fun x=>x.2.2.1=t.2.2.foldl stp r) (qb t.2.2.length (fun i s=>s=(((i:Int),()),((t.2.2.take i).foldl stp r,()))) (by omega) rfl ?_ ?_) ?_
  ·rintro k _ hk rfl;refine zf (zL (show(k:Int) < _ by omega)) ?_;have hx:t.2.2[k]?=some t.2.2[k]:=FL hk;obtain⟨⟨a0,a1⟩,⟨b0,b1⟩⟩:=hl k _ hx;have hnx:(t.2.2.take (k+1)).foldl stp r=stp ((t.2.2.take k).foldl stp r) t.2.2[k]:=by rw[zrk,hx,List.foldl_append];rfl
   have hlen:((t.2.2.take k).foldl stp r).length=t.1.toNat:=by rw[sw,hrl]
   generalize (t.2.2.take k).foldl stp r=q at hnx hlen;refine zb (zm (n:=k) hx ?_);refine zk (J:=fun x=>x.2.2.1=stp q t.2.2[k]) ?_ ?_
   ·refine zf (by rw[wj (by simp)];rfl) ?_;refine zb (wJ a0 (by show _ < ((q.length:Nat):Int);omega) fun x hx=>zb (jM (by show _ < q.length;omega) fun x' hx'=>?_));have ex:x'=x:=zsc (hx'.symm.trans hx);subst ex;refine zd (fun h=>?_) (fun h=>?_)
    ·subst h;refine zb (wJ a0 (by show _ < ((q.length:Nat):Int);omega) fun _ _=>zb (jM (by show _ < q.length;omega) fun _ _=>?_));refine zb (wJ b0 (by show _ < (((q.set _ _).length:Nat):Int);simp;omega) fun _ _=>zb (jM (by show _ < (q.set _ _).length;simp;omega) fun _ _=>?_));refine za ?_;show _=stp q _;unfold stp;simp only at hx';rw[hx'];rfl
    ·subst h;refine zb (wJ b0 (by show _ < ((q.length:Nat):Int);omega) fun y hy=>zb (jM (by show _ < q.length;omega) fun y' hy'=>?_));have ey:y'=y:=zsc (hy'.symm.trans hy);subst ey;refine zd (fun h=>?_) (fun h=>?_)
     ·subst h;refine zb (wJ a0 (by show _ < ((q.length:Nat):Int);omega) fun _ _=>zb (jM (by show _ < q.length;omega) fun _ _=>?_));refine zb (wJ b0 (by show _ < (((q.set _ _).length:Nat):Int);simp;omega) fun _ _=>zb (jM (by show _ < (q.set _ _).length;simp;omega) fun _ _=>?_));refine za ?_;show _=stp q _;unfold stp;simp only at hx' hy';rw[hx',hy'];rfl
     ·subst h;refine za ?_;show q=stp q _;unfold stp;simp only at hx' hy';rw[hx',hy'];rfl
   ·rintro⟨j,⟨⟩,q',⟨⟩⟩ hq;refine za (qn ?_);simp only at hq;rw[hnx,<-hq];exact zqR (fun z=>(((z,()),(q',())):(Int×Unit)×(List Bool×Unit))) (zQ (by omega))
  ·rintro _ rfl;refine zi (zE (show ¬(t.2.2.length:Int) < _ by omega)) (za (zw ?_));simp
  ·rintro⟨j,⟨z,⟨⟩⟩,q',⟨⟩⟩ hq;refine za (qn ?_);simp only at hq;rw[zb1,hr,<-hq];exact zqR (fun z=>(((z,()),(q',())):(Int×Unit)×(List Bool×Unit))) (zQ (by omega))
 ·rintro _ rfl;exact zi (zE (show ¬((t.1.toNat:Nat):Int) < _ by omega)) (za (zw rfl))
 grind[za]
def Zc(t:qT)(i:Nat):List Int:=(List.range t.1.toNat).map (cnt (t.2.2.take i))
theorem zkK(a:Int)(n:Nat):0<=one a n∧one a n<=1:=by grind[one]
theorem zkL(ls:List wT)(n:Nat):0<=cnt ls n∧cnt ls n<=2*ls.length:=by
 unfold cnt;induction ls with
 |nil=>simp
 |cons l ls ih=>
  have:=zkK l.1 n;have:=zkK l.2.1 n;grind
theorem zfY{ls:List wT}{i:Nat}{l:wT}(h:ls[i]?=some l)(n:Nat):cnt (ls.take (i+1)) n=cnt (ls.take i) n+(one l.1 n+one l.2.1 n):=by unfold cnt;rw[zrk,h];simp
theorem iq(t:qT)(i:Nat):(Zc t i).length=t.1.toNat:=by simp[Zc]
theorem ir{t:qT}{i n:Nat}(h:n < t.1.toNat):(Zc t i)[n]?=some (cnt (t.2.2.take i) n):=by simp[Zc,h]
theorem zkM{t:qT}{i:Nat}{l:wT}(h:t.2.2[i]?=some l)(hl:t.2.2.length<=24)(ha:jW t l.1)(hb:jW t l.2.1)(hab:l.1≠l.2.1){u v:Int}(hu:(Zc t i)[l.1.toNat]?=some u)(hv:((Zc t i).set l.1.toNat (wrF .i64 (u+1)))[l.2.1.toNat]?=some v) : ((Zc t i).set l.1.toNat (wrF .i64 (u+1))).set l.2.1.toNat (wrF .i64 (v+1))=Zc t (i+1):=by
 obtain⟨a0,a1⟩:=ha;obtain⟨b0,b1⟩:=hb;have hne:l.1.toNat≠l.2.1.toNat:=by omega
 rw[ir (by omega)]at hu;rw[List.getElem?_set_ne hne,ir (by omega)]at hv;have hu:=zsc hu;have hv:=zsc hv;have k1:=zkL (t.2.2.take i) l.1.toNat;have k2:=zkL (t.2.2.take i) l.2.1.toNat
 have k3:(t.2.2.take i).length<=24:=by simp;omega
 rw[zU (by omega) (by omega),zU (by omega) (by omega)];apply zrj;grind[ir,zfY,one,List.length_set,iq,List.getElem?_eq_none]
theorem zpl(t:qT):List.replicate t.1.toNat (0:Int)=Zc t 0:=by apply zrj;grind[ir,cnt,List.getElem?_eq_none,iq]
theorem zmY(t:qT){n:Nat}(h:n < t.1.toNat):(Zc t t.2.2.length)[n]?=some (cnt t.2.2 n):=by rw[ir h,zrU]
theorem im.nodes{t:qT}{l:wT}(h:im t l):jW t l.1∧jW t l.2.1:=⟨h.1,h.2.1⟩
theorem zgR{t:qT}(h:¬szP t):¬ya t:=fun h'=>h h'.sz
theorem zgS{t:qT}(h:¬HB t):¬ya t:=fun h'=>h h'.ls
theorem WH(t:qT):kx (t,())=some (tv (ya t),()):=by
 rw[Np];unfold tC;refine jj (zk (J:=fun x=>(x.1=0∧x.2.1.1=false∧szP t)∨(x.1=1∧x.2.1.1=false∧¬szP t)) ?_ ?_)
 ·refine zd (fun h=>za (.inr ⟨rfl,rfl,fun hs=>?_⟩)) (fun h1=>zd (fun h=>za (.inr ⟨rfl,rfl,fun hs=>?_⟩)) (fun h2=>zd (fun h=>za (.inr ⟨rfl,rfl,fun hs=>?_⟩)) (fun h3=>zd (fun h=>za (.inr ⟨rfl,rfl,fun hs=>?_⟩)) (fun h4=>za (.inl ⟨rfl,rfl,?_⟩)))))
  ·have:=zZ h;have:=hs.n0;omega
  ·have:=zZ h;have:=hs.n1;omega
  ·have:=hs.st;grind[wZ]
  ·have:=zZ h;have:=hs.ls;omega
  ·have h1:=zP h1;have h2:=zP h2;have h4:=zP h4;have h3:=ql (by simpa using h3);exact⟨h1,h2,h3,by omega⟩
 rintro⟨j,⟨v,⟨⟩⟩,⟨⟩⟩ (⟨rfl,rfl,hs⟩ | ⟨rfl,rfl,hs⟩);rotate_left
 ·exact zi rfl (za ⟨fun h=>(by cases h),fun h=>absurd h (zgR hs)⟩)
 have n0:=hs.n0;have n1:=hs.n1;have h3:=hs.ls;have h4:=hs.st;refine zf rfl (zf (zaY (by omega) (by omega) (by omega)) ?_);refine zk (J:=fun x=>(x.1=0∧x.2.1.1=false∧x.2.2.1=Zc t t.2.2.length∧HB t)∨(x.1=1∧x.2.1.1=false∧¬HB t))
  (qb t.2.2.length (fun i s=>s=((false,((i:Int),())),(Zc t i,()))∧∀(k:Nat),k < i->∀l,t.2.2[k]?=some l->im t l∧∀(k':Nat) o,k' < k->t.2.2[k']?=some o->¬ZX o l.1 l.2.1) (by omega) ⟨by rw[zpl];rfl,fun k hk=>by omega⟩ ?_ ?_) ?_
 ·rintro i _ hi ⟨rfl,hp⟩;have hx:t.2.2[i]?=some t.2.2[i]:=FL hi;refine zf (zL (show(i:Int) < _ by omega)) (zb (zm (n:=i) hx ?_));rw[pA hs];generalize hgl:t.2.2[i]=l at hx;refine zd (fun h=>?_) (fun h=>?_)
  ·have hn:=jZ h;exact za (zw (.inr ⟨rfl,rfl,fun hq=>hn (hq i l hx).1⟩))
  have hl:=wD h;refine zk (J:=fun x=>(x.1=0∧x.2.1.1=false∧∀(k':Nat) o,k' < i->t.2.2[k']?=some o->¬ZX o l.1 l.2.1)∨(x.1=1∧x.2.1.1=false∧∃(k':Nat) (o:wT),k' < i∧t.2.2[k']?=some o∧ZX o l.1 l.2.1))
   (wK i (fun k=>∀o,t.2.2[k]?=some o->¬ZX o l.1 l.2.1) (by omega) ?_ ?_) ?_
  ·intro k hk hpk;have hy:t.2.2[k]?=some t.2.2[k]:=FL (by omega);refine zf (zL (show(k:Int) < (i:Int) by omega)) (zb (zm (n:=k) hy ?_));rw[UE];refine zd (fun h=>?_) (fun h=>?_)
   ·grind[za,zw,aE]
   ·exact za (vG (by omega) fun o ho=>by grind)
  ·grind[zE,za,zw]
  ·rintro⟨j,⟨v,w,⟨⟩⟩,⟨⟩⟩ (⟨rfl,rfl,hpk⟩ | ⟨rfl,rfl,k',o,hk',ho,hj⟩)
   ·refine zf rfl ?_;obtain⟨⟨a0,a1⟩,⟨b0,b1⟩⟩:=hl.nodes;have lc:=iq t i;refine zb (wJ a0 (by show _ < (((Zc t i).length:Nat):Int);omega) fun _ _=>zb (jM (by show _ < (Zc t i).length;omega) fun u hu=>zb (wJ a0 (by show _ < (((Zc t i).length:Nat):Int);omega) fun _ _=>zb (jM (by show _ < (Zc t i).length;omega) fun _ _=>?_))));refine zb (wJ b0 (by show _ < ((((Zc t i).set _ _).length:Nat):Int);simp;omega) fun _ _=>zb (jM (by show _ < ((Zc t i).set _ _).length;simp;omega) fun w hw=>zb (wJ b0 (by show _ < ((((Zc t i).set _ _).length:Nat):Int);simp;omega) fun _ _=>zb (jM (by show _ < ((Zc t i).set _ _).length;simp;omega) fun _ _=>?_))));refine za (qn ⟨?_,?_⟩)
    ·have e:=zkM hx hs.ls hl.1 hl.2.1 hl.2.2.1 hu hw;show((false,(wrF .i64 ((i:Int)+1),())),((((Zc t i).set l.1.toNat (wrF .i64 (u+1))).set l.2.1.toNat (wrF .i64 (w+1))),()))=_;rw[e,zQ (by omega)]
    grind
   ·exact zi rfl (za (zw (.inr ⟨rfl,rfl,fun hq=>(hq i l hx).2 k' o hk' ho hj⟩)))
 ·rintro _ ⟨rfl,hp⟩;exact zi (zE (show ¬(t.2.2.length:Int) < _ by omega)) (za (zw (.inl ⟨rfl,rfl,rfl,fun i l hl=>hp i (by grind) l hl⟩)))
 rintro⟨j,⟨v,w,⟨⟩⟩,c,⟨⟩⟩ (⟨rfl,rfl,rfl,hls⟩ | ⟨rfl,rfl,hls⟩);rotate_left
 ·exact zi rfl (za ⟨fun h=>(by cases h),fun h=>absurd h (zgS hls)⟩)
 refine zf rfl ?_;have hre:=Ti (a:=0) hs (fun i l hl=>(hls i l hl).1.nodes) (by omega);simp only[Int.natCast_zero]at hre;rw[hre,zq];have hrl:(reachS t 0).length=t.1.toNat:=by unfold reachS;rw[OM];simp
 refine zk (J:=fun x=>(x.1=0∧ya t)∨(x.1=1∧x.2.1.1=false∧¬ya t)) (wK t.1.toNat (fun n=>(reachS t 0)[n]?=some true∧(stn t n=true->1<=cnt t.2.2 n∧cnt t.2.2 n<=2)) (by omega) ?_ ?_) ?_
 ·intro n hn hp;refine zf (zL (show(n:Int) < _ by omega)) ?_;have hr:(reachS t 0)[n]?=some (reachS t 0)[n]:=FL (by omega);have hst:t.2.1[n]?=some t.2.1[n]:=FL (by omega);have e1:=zpk hst;have e2:=zmY t hn;refine zk (J:=fun x=>(x.1=0∧x.2.1.1=false∧(reachS t 0)[n]?=some true∧(stn t n=true->1<=cnt t.2.2 n∧cnt t.2.2 n<=2))∨(x.1=1∧x.2.1.1=false∧¬ya t)) ?_ ?_
  ·refine zb (zm (n:=n) hr ?_);refine zd (fun h=>?_) (fun h=>?_)
   ·exact za (.inr ⟨rfl,rfl,fun ht=>by have:=ht.re n (by omega);grind⟩)
   refine zb (zm (n:=n) hst (zd (fun h5=>?_) (fun h5=>?_)))
   ·refine zb (zm (n:=n) e2 (zb (jM (by show n < _;rw[iq];exact hn) fun u hu=>?_)));have hu:u=cnt t.2.2 n:=by have hu:(Zc t t.2.2.length)[n]?=some u:=hu;rw[e2]at hu;exact(zsc hu).symm
    subst hu;refine zd (fun h6=>?_) (fun h6=>?_)
    ·have:=zZ h6;exact za (.inr ⟨rfl,rfl,fun ht=>by have:=ht.ct n (by omega) (by grind);omega⟩)
    refine zb (zm (n:=n) e2 (zb (jM (by show n < _;rw[iq];exact hn) fun u hu=>?_)));have hu:u=cnt t.2.2 n:=by have hu:(Zc t t.2.2.length)[n]?=some u:=hu;rw[e2]at hu;exact(zsc hu).symm
    subst hu;refine zd (fun h7=>?_) (fun h7=>?_)
    ·have:=zZ h7;exact za (.inr ⟨rfl,rfl,fun ht=>by have:=ht.ct n (by omega) (by grind);omega⟩)
    ·have:=zP h6;have:=zP h7;exact za (.inl ⟨rfl,rfl,by grind,fun _=>⟨by omega,by omega⟩⟩)
   grind[za]
  ·rintro⟨j,⟨v,⟨⟩⟩,⟨⟩⟩ (⟨rfl,rfl,hq⟩ | ⟨rfl,rfl,hq⟩)
   ·exact zf rfl (za (vG (by omega) hq))
   ·exact zi rfl (za (zw (.inr ⟨rfl,rfl,hq⟩)))
 ·intro hp;exact zi (zE (show ¬((t.1.toNat:Nat):Int) < _ by omega)) (za (zw (.inl ⟨rfl,⟨hs,hls,fun n hn=>(hp n (by omega)).1,fun n hn=>(hp n (by omega)).2⟩⟩)))
 ·rintro⟨j,⟨v,w,⟨⟩⟩,⟨⟩⟩ (⟨rfl,hq⟩ | ⟨rfl,rfl,hq⟩)
  ·exact zf rfl (za ⟨fun _=>hq,fun _=>rfl⟩)
  ·exact zi rfl (za ⟨fun h=>(by cases h),fun h=>absurd h hq⟩)
def yx(t:qT)(p:Int):Prop:=0<=p∧p < 2*(t.2.2.length:Int)
def lnk(t:qT)(p:Int):wT:=(t.2.2[p.toNat / 2]?).getD (0,0,0,0)
def frm(t:qT)(p:Int):Int:=if p % 2=1 then(lnk t p).2.1 else(lnk t p).1
def too(t:qT)(p:Int):Int:=if p % 2=1 then(lnk t p).1 else(lnk t p).2.1
theorem zi9{p:Int}(h:0<=p)(h2:p<=1000000000000000000):wrF .i64 (Int.tdiv p 2)=((p.toNat / 2:Nat):Int):=by grind[Int.tdiv_eq_ediv_of_nonneg,zU]
theorem par{p:Int}(h:0<=p):Int.tmod p 2=p % 2:=by grind
theorem GS{t:qT}{p:Int}(h:yx t p):t.2.2[p.toNat / 2]?=some (lnk t p):=by have:=h.1;have:=h.2;grind[List.getElem?_eq_getElem,lnk]
theorem tw(t:qT)(h:t.2.2.length<=1000000000000000):wrF .i64 (2*(t.2.2.length:Int))=2*(t.2.2.length:Int):=by grind[zU]
theorem iu{t:qT}(hl:HB t){p:Int}(h:yx t p):jW t (frm t p)∧jW t (too t p)∧frm t p≠too t p:=by have:=(hl _ _ (GS h)).1;have h1:=this.1;have h2:=this.2.1;have h3:=this.2.2.1;grind[frm,too]
theorem za1{t:qT}(h:t.2.2.length<=1000000000000000)(p:Int):KK (t,p,())=some (tv (yx t p),()):=by rw[RH];unfold Eb yx;refine jj (zd (fun h=>?_) (fun h=>?_))<;>refine za ?_<;>simp only[wO]at *;all_goals grind[tw]
theorem ux{t:qT}(h:t.2.2.length<=1000000000000000){p:Int}(hp:yx t p):yg (t,p,())=some (frm t p,()):=by have:=hp.1;have:=hp.2;rw[Rx];unfold DU;simp only[zi9 hp.1 (by omega),par hp.1,gz (GS hp),zq,yB];grind[frm]
theorem uS{t:qT}(h:t.2.2.length<=1000000000000000){p:Int}(hp:yx t p):jQ (t,p,())=some (too t p,()):=by have:=hp.1;have:=hp.2;rw[zcp];unfold RA;simp only[zi9 hp.1 (by omega),par hp.1,gz (GS hp),zq,yB];grind[too]
theorem bR{t:qT}(h:t.2.2.length<=1000000000000000){p:Int}(hp:yx t p):JZ (t,p,())=some ((lnk t p).2.2.1,()):=by have:=hp.1;have:=hp.2;rw[zag];unfold IX;simp only[zi9 hp.1 (by omega),gz (GS hp),zq]
theorem UG{t:qT}(h:t.2.2.length<=1000000000000000){p:Int}(hp:yx t p):ky (t,p,())=some ((lnk t p).2.2.2,()):=by have:=hp.1;have:=hp.2;rw[Ns];unfold tJ;simp only[zi9 hp.1 (by omega),gz (GS hp),zq]
def wC(t:qT)(r:List Int):List Int:=match r with
 |[]=>[]
 |p::_=>frm t p::r.map (too t)
theorem bj(t:qT){r:List Int}(h:r≠[]):(wC t r).length=r.length+1:=by cases r<;>grind[wC]
theorem zoz(t:qT){r:List Int}{p:Int}(h:r[0]?=some p):(wC t r)[0]?=some (frm t p):=by
 cases r with
 |nil=>cases h
 |cons q r=>simp at h;subst h;rfl
theorem sx(t:qT){r:List Int}{i:Nat}{p:Int}(h:r[i]?=some p):(wC t r)[i+1]?=some (too t p):=by cases r<;>grind[wC,List.getElem?_cons_succ]
theorem UH{t:qT}(h:t.2.2.length<=1000000000000000){r:List Int}(h0:r≠[])(h8:r.length<=8)(hp:∀p∈r,yx t p):vQ (t,r,())=some (wC t r,()):=by
 have hl:0 < r.length:=zrT.2 h0;have hx0:r[0]?=some r[0]:=FL hl;rw[Nj];unfold te;refine Zb (zb (zm (n:=0) hx0 ?_));rw[ux h (hp _ (zqq hl)),zq];refine zk (J:=fun x=>x.2.2.1=wC t r) (qb r.length (fun i s=>s=(((i:Int),()),((wC t r).take (i+1),()))) (by omega) ?_ ?_ ?_) ?_
 ·have:=zoz t hx0;have e:(wC t r).take 1=[frm t r[0]]:=by rw[show(1:Nat)=0+1 from rfl,zrk,this];simp
  rw[show(0:Nat)+1=1 from rfl,e];rfl
 ·rintro i _ hi rfl;have hx:r[i]?=some r[i]:=FL hi;refine zf (zL (show(i:Int) < (r.length:Int) by omega)) (zb (zm (n:=i) hx ?_));rw[uS h (hp _ (zqq hi)),zq];have hl:=bj t h0;refine zf (qF (by show(((wC t r).take (i+1)).length+1)*8<=_;simp;omega) (by show((wC t r).take (i+1)).length+1<=_;simp;omega)) ?_;refine za (qn ?_);have e:(wC t r).take (i+1+1)=(wC t r).take (i+1)++[too t r[i]]:=by rw[zrk,sx t hx];rfl
  rw[e,<-zQ (by omega)]
 all_goals grind[zE,za,zw,wC,List.take_of_length_le,bj]
def zpS(t:qT)(r:List Int)(i:Nat)(p:Int):Prop:=¬too t p∈(wC t r).take (i+1)∧(0 < i->∀n,(wC t r)[i]?=some n->stn t n=false∧frm t p=n)
structure xb(t:qT)(r:List Int):Prop where
 n0:1<=r.length
 n1:r.length<=8
 pt:∀p∈r,yx t p
 st:∀(i:Nat) p,r[i]?=some p->zpS t r i p
theorem xb.ne{t:qT}{r:List Int}(h:xb t r):r≠[]:=by intro e;have:=h.n0;grind
theorem ya.ll{t:qT}(h:ya t):t.2.2.length<=1000000000000000:=by have:=h.sz.ls;omega
theorem zoA{t:qT}(ht:ya t){r:List Int}(hp:∀p∈r,yx t p):∀n∈wC t r,jW t n:=by
 intro n hn;cases r with
 |nil=>cases hn
 |cons q r=>
  simp only[wC,zqA,zrQ]at hn;rcases hn with rfl | ⟨p,hp',rfl⟩
  ·exact(iu ht.ls (hp q (by simp))).1
  ·exact(iu ht.ls (hp p (by simpa using hp'))).2.1
theorem jW.get{t:qT}(hs:szP t){n:Int}(h:jW t n):t.2.1[n.toNat]?=some (stn t n):=by have hx:t.2.1[n.toNat]?=some (t.2.1[n.toNat]'(h.lt hs)):=FL (h.lt hs);rw[hx,zaZ hx]
theorem mw{t:qT}(ht:ya t)(r:List Int):ku (t,r,())=some (tv (xb t r),()):=by
 have hll:=ht.ll;rw[Nk];unfold th;refine jj (zk (J:=fun x=>(x.1=0∧x.2.1.1=false∧1<=r.length∧r.length<=8)∨(x.1=1∧x.2.1.1=false∧¬xb t r)) ?_ ?_)
 ·refine zd (fun h=>za (.inr ⟨rfl,rfl,fun hs=>?_⟩)) (fun h1=>zd (fun h=>za (.inr ⟨rfl,rfl,fun hs=>?_⟩)) (fun h2=>za (.inl ⟨rfl,rfl,?_⟩)))
  ·have:=zZ h;have:=hs.n0;omega
  ·have:=zZ h;have:=hs.n1;omega
  ·have h1:=zP h1;have h2:=zP h2;omega
 rintro⟨j,⟨v,⟨⟩⟩,⟨⟩⟩ (⟨rfl,rfl,h1,h8⟩ | ⟨rfl,rfl,hq⟩);rotate_left
 ·exact zi rfl (za ⟨fun h=>(by cases h),fun h=>absurd h hq⟩)
 refine zf rfl (zk (J:=fun x=>(x.1=0∧x.2.1.1=false∧∀p∈r,yx t p)∨(x.1=1∧x.2.1.1=false∧¬xb t r)) (wK r.length (fun i=>∀p,r[i]?=some p->yx t p) (by omega) ?_ ?_) ?_)
 ·intro i hi hp;have hx:r[i]?=some r[i]:=FL hi;refine zf (zL (show(i:Int) < (r.length:Int) by omega)) (zb (zm (n:=i) hx ?_));rw[za1 hll];refine zd (fun h=>?_) (fun h=>?_)
  ·exact za (zw (.inr ⟨rfl,rfl,fun hr=>jZ h (hr.pt _ (zqq hi))⟩))
  ·exact za (vG (by omega) fun p hp=>by grind[wD])
 ·grind[zE,za,zw,List.getElem?_of_mem]
 rintro⟨j,⟨v,w,⟨⟩⟩,⟨⟩⟩ (⟨rfl,rfl,hpt⟩ | ⟨rfl,rfl,hq⟩);rotate_left
 ·exact zi rfl (za ⟨fun h=>(by cases h),fun h=>absurd h hq⟩)
 have hne:r≠[]:=by grind
 have hnl:=bj t hne;have hnP:=zoA ht hpt;refine zf rfl ?_;rw[UH hll hne h8 hpt,zq];refine zk (J:=fun x=>(x.1=0∧xb t r)∨(x.1=1∧x.2.1.1=false∧¬xb t r)) (wK (wC t r).length (fun i=>(∀n,(wC t r)[i]?=some n->¬n∈(wC t r).take i)∧∀p,r[i]?=some p->0 < i->∀n,(wC t r)[i]?=some n->stn t n=false∧frm t p=n) (by omega) ?_ ?_) ?_
 ·intro i hi hp;have hx:(wC t r)[i]?=some (wC t r)[i]:=FL hi;have hn:=hnP _ (zqq hi);generalize (wC t r)[i]=n at hx hn;refine zf (zL (show(i:Int) < ((wC t r).length:Int) by omega)) (zb (jR (zho (wC t r) i (by omega)) (zb (zm (n:=i) hx ?_))));rw[UF (by simp;omega)];refine zd (fun h=>?_) (fun h=>?_)
  ·refine za (zw (.inr ⟨rfl,rfl,fun hr=>?_⟩));have hm:=aE h;cases i with
   |zero=>simp at hm
   |succ i=>
    have hy:r[i]?=some r[i]:=FL (by omega);have e:=sx t hy;rw[hx]at e;have:=(hr.st i _ hy).1;grind
  have hin:=il h;refine zk (J:=fun x=>(x.1=0∧x.2.1.1=false∧∀p,r[i]?=some p->0 < i->stn t n=false∧frm t p=n)∨(x.1=1∧x.2.1.1=false∧¬xb t r)) ?_ ?_
  ·refine zd (fun h2=>?_) (fun h2=>?_)
   ·have h2:=zZ (show zg 0 (i:Int)=true from h2);refine zd (fun h3=>?_) (fun h3=>?_)
    ·have h3:=zZ (show zg (i:Int) (r.length:Int)=true from h3);have hy:r[i]?=some r[i]:=FL (by omega);have hpy:=hpt _ (zqq (show i < r.length by omega));generalize r[i]=p at hy hpy;refine zb (zm (n:=i) hx (zb (jR (a:=stn t n) (by rw[show n=((n.toNat:Nat):Int) from(by have:=hn.1;omega),gz (n:=n.toNat)];exact hn.get ht.sz) ?_)));refine zd (fun h4=>?_) (fun h4=>?_)
     ·refine za (.inr ⟨rfl,rfl,fun hr=>?_⟩);have:=((hr.st i p hy).2 (by omega) n hx).1;grind
     ·refine zb (zm (n:=i) hy ?_);rw[ux hll hpy,zq];refine zb (zm (n:=i) hx (zd (fun h5=>?_) (fun h5=>?_)))
      ·refine za (.inr ⟨rfl,rfl,fun hr=>?_⟩);have:=((hr.st i p hy).2 (by omega) n hx).2;rw[wZ this]at h5;cases h5
      grind[ql,zj,frm,za]
    ·have h3:=zP (show zg (i:Int) (r.length:Int)=false from h3);grind[za,List.getElem?_eq_none]
   ·have h2:=zP (show zg 0 (i:Int)=false from h2);grind[za]
  ·rintro⟨j,⟨v,⟨⟩⟩,⟨⟩⟩ (⟨rfl,rfl,hq⟩ | ⟨rfl,rfl,hq⟩)
   ·exact zf rfl (za (vG (by omega) ⟨fun m hm=>by grind,fun p hp h0 m hm=>by grind⟩))
   ·exact zi rfl (za (zw (.inr ⟨rfl,rfl,hq⟩)))
 ·intro hp;refine zi (zE (show ¬((wC t r).length:Int) < ((wC t r).length:Int) by omega)) (za (zw (.inl ⟨rfl,h1,h8,hpt,fun i p hi=>⟨?_,fun h0 n hn=>?_⟩⟩)));all_goals grind[sx]
 ·rintro⟨j,⟨v,w,⟨⟩⟩,⟨⟩⟩ (⟨rfl,hq⟩ | ⟨rfl,rfl,hq⟩)
  ·exact zf rfl (za ⟨fun _=>hq,fun _=>rfl⟩)
  ·exact zi rfl (za ⟨fun h=>(by cases h),fun h=>absurd h hq⟩)
def za2(a b:List Int):Prop:=∃p∈a,∃q∈b,Int.tdiv p 2=Int.tdiv q 2
def HC(a:List Int):List Int:=(a.take (a.length - 1)).drop 1
def Tj(a b:List Int):Prop:=∃n∈HC a,n∈b
def zkN(t:qT)(a b:List Int):Prop:=¬za2 a b∧¬Tj (wC t a) (wC t b)∧¬Tj (wC t b) (wC t a)
theorem zpT{p:Int}(h : -9223372036854775808<=p)(h2:p<=9223372036854775807):wrF .i64 (Int.tdiv p 2)=Int.tdiv p 2:=by rcases Int.le_total 0 p with h0 | h0;all_goals grind[Int.tdiv_eq_ediv_of_nonneg,zU,Int.tdiv,Int.neg_tdiv]
theorem zhp{t:qT}(h:t.2.2.length<=1000000000000000){p:Int}(hp:yx t p):wrF .i64 (Int.tdiv p 2)=Int.tdiv p 2:=zpT (by have:=hp.1;omega) (by have:=hp.2;omega)
theorem uz{α:Type}{l:List α}{x:α}(h:x∈l):∃i,i < l.length∧l[i]?=some x:=by grind[List.getElem?_of_mem]
theorem zb2{a:List Int}{i:Nat}(h:1<=i)(h2:i < a.length - 1):(HC a)[i - 1]?=a[i]?:=by grind[HC]
theorem zkO(a:List Int):(HC a).length=a.length - 1 - 1:=by unfold HC;simp
theorem zb3{a:List Int}{n:Int}:n∈HC a↔∃i,1<=i∧i < a.length - 1∧a[i]?=some n:=by
 constructor
 ·intro h;obtain⟨k,hk,hk2⟩:=uz h;rw[zkO]at hk;refine⟨k+1,by omega,by omega,?_⟩;rw[<-zb2 (by omega) (by omega)];exact hk2
 ·rintro⟨i,h1,h2,h3⟩;rw[<-zb2 h1 h2]at h3;grind
theorem cJ{a b:List Int}(la:1<=a.length)(la2:a.length<=100)(lb:b.length<=100):ZN (a,b,())=some (tv (Tj a b),()):=by
 have e1:wrF .i64 ((a.length:Int) - 1)=(a.length:Int) - 1:=zU (by omega) (by omega);rw[Ee];unfold lI;rw[e1];refine jj (zk (J:=fun x=>(x.1=0∧¬Tj a b)∨(x.1=1∧x.2.1.1=true∧Tj a b))
  (qb (a.length - 1 - 1) (fun i s=>s=((false,(((i+1:Nat):Int),())),())∧∀k,1<=k->k < i+1->∀n,a[k]?=some n->¬n∈b) (by omega) ⟨rfl,fun k h1 h2=>by omega⟩ ?_ ?_) ?_)
 ·rintro i _ hi ⟨rfl,hp⟩;have hx:a[i+1]?=some a[i+1]:=FL (by omega);generalize a[i+1]=n at hx;refine zf (zL (show((i+1:Nat):Int) < (a.length:Int) - 1 by omega)) (zb (zm (n:=i+1) hx ?_));rw[UF (by omega)];refine zd (fun h=>?_) (fun h=>?_)
  ·exact za (zw (.inr ⟨rfl,rfl,n,zb3.2 ⟨i+1,by omega,by omega,hx⟩,aE h⟩))
  ·refine za (qn ⟨zqR (fun z=>((false,(z,())),())) (zQ (i:=i+1) (by omega)),fun k h1 h2 m hm=>?_⟩);grind[Nat.lt_or_ge,il]
 ·rintro _ ⟨rfl,hp⟩;refine zi (zE (show ¬((a.length - 1 - 1+1:Nat):Int) < (a.length:Int) - 1 by omega)) (za (zw (.inl ⟨rfl,fun⟨n,h1,h2⟩=>?_⟩)));grind[zb3]
 ·rintro⟨j,⟨v,w,⟨⟩⟩,⟨⟩⟩ (⟨rfl,hq⟩ | ⟨rfl,rfl,hq⟩)
  ·exact zf rfl (za ⟨fun h=>(by cases h),fun h=>absurd h hq⟩)
  ·exact zi rfl (za ⟨fun _=>hq,fun _=>rfl⟩)
theorem my{t:qT}(ht:ya t){a b:List Int}(ha:xb t a)(hb:xb t b):JB (t,a,b,())=some (tv (zkN t a b),()):=by
 have hll:=ht.ll;have na:=bj t ha.ne;have nb:=bj t hb.ne;have a0:=ha.n0;have a8:=ha.n1;have b0:=hb.n0;have b8:=hb.n1;rw[Nl];unfold tk;refine jj (zk (J:=fun x=>(x.1=0∧¬za2 a b)∨(x.1=1∧x.2.1.1=false∧za2 a b)) (wK a.length (fun i=>∀p,a[i]?=some p->¬∃q∈b,Int.tdiv p 2=Int.tdiv q 2) (by omega) ?_ ?_) ?_)
 ·intro i hi hp;have hx:a[i]?=some a[i]:=FL hi;have hm:=zqq hi;generalize a[i]=p at hx hm;refine zf (zL (show(i:Int) < (a.length:Int) by omega)) ?_;refine zk (J:=fun x=>(x.1=0∧x.2.1.1=false∧¬∃q∈b,Int.tdiv p 2=Int.tdiv q 2)∨(x.1=1∧x.2.1.1=false∧∃q∈b,Int.tdiv p 2=Int.tdiv q 2)) (wK b.length (fun k=>∀q,b[k]?=some q->Int.tdiv p 2≠Int.tdiv q 2) (by omega) ?_ ?_) ?_
  ·intro k hk hq;have hy:b[k]?=some b[k]:=FL hk;have hmk:=zqq hk;generalize b[k]=q at hy hmk;refine zf (zL (show(k:Int) < (b.length:Int) by omega)) (zb (zm (n:=i) hx (zb (zm (n:=k) hy ?_))));rw[zhp hll (ha.pt p hm),zhp hll (hb.pt q hmk)];refine zd (fun h=>?_) (fun h=>?_)
   ·grind[za,zw,ql]
   ·exact za (vG (by omega) fun q' hq'=>by grind[qt])
  ·intro hq;refine zi (zE (show ¬(b.length:Int) < (b.length:Int) by omega)) (za (zw (.inl ⟨rfl,rfl,fun⟨q,hq1,hq2⟩=>?_⟩)));obtain⟨k,hk,hk2⟩:=uz hq1;grind
  ·rintro⟨j,⟨v,w,⟨⟩⟩,⟨⟩⟩ (⟨rfl,rfl,hq⟩ | ⟨rfl,rfl,hq⟩)
   ·exact zf rfl (za (vG (by omega) fun p' hp'=>by simp_all))
   ·exact zi rfl (za (zw (.inr ⟨rfl,rfl,p,hm,hq⟩)))
 ·intro hp;refine zi (zE (show ¬(a.length:Int) < (a.length:Int) by omega)) (za (zw (.inl ⟨rfl,fun⟨p,hp1,hp2⟩=>?_⟩)));grind[uz]
 ·rintro⟨j,⟨v,w,⟨⟩⟩,⟨⟩⟩ (⟨rfl,hq⟩ | ⟨rfl,rfl,hq⟩)
  ·refine zf rfl ?_;simp only[UH hll ha.ne ha.n1 ha.pt,UH hll hb.ne hb.n1 hb.pt,zq];rw[cJ (by omega) (by omega) (by omega)];refine zd (fun h=>?_) (fun h=>?_)
   ·rw[cJ (by omega) (by omega) (by omega)];refine za ⟨fun h2=>⟨hq,jZ h,jZ h2⟩,fun h2=>?_⟩;show(!tv _)=true;rw[wj h2.2.2];rfl
   ·exact za ⟨fun h2=>(by cases h2),fun h2=>absurd (wD h) h2.2.1⟩
  ·exact zi rfl (za ⟨fun h=>(by cases h),fun h=>absurd hq h.1⟩)
def pB(t:qT)(r:List Int):Int:=frm t ((r[0]?).getD 0)
def HD(t:qT)(r:List Int):Int:=too t ((r[r.length - 1]?).getD 0)
abbrev wI:=Int×Int×Int×Int×Int×Int×(Int×Int)×Int×List (List Int)
structure ZA(t:qT)(s:wI):Prop where
 id:1<=s.1∧s.1<=4095
 ta:jW t s.2.1∧stn t s.2.1=true
 li:jW t s.2.2.1∧stn t s.2.2.1=true
 tl:s.2.1≠s.2.2.1
 sz:84<=s.2.2.2.2.1∧s.2.2.2.2.1<=1542
 dl:1<=s.2.2.2.2.2.2.2.1∧s.2.2.2.2.2.2.2.1<=1099511627776
 cl:(s.2.2.2.1=7∧(1<=s.2.2.2.2.2.1∧s.2.2.2.2.2.1<=240)∧s.2.2.2.2.2.2.1=(0,0))∨(s.2.2.2.1=6∧s.2.2.2.2.2.1=0∧(s.2.2.2.2.1<=s.2.2.2.2.2.2.1.1∧s.2.2.2.2.2.2.1.1<=1048576)∧(1<=s.2.2.2.2.2.2.1.2∧s.2.2.2.2.2.2.1.2<=2097152))
 rn:1<=s.2.2.2.2.2.2.2.2.length∧s.2.2.2.2.2.2.2.2.length<=2
 rt:∀r∈s.2.2.2.2.2.2.2.2,xb t r∧pB t r=s.2.1∧HD t r=s.2.2.1
 ap:∀a b,s.2.2.2.2.2.2.2.2[0]?=some a->s.2.2.2.2.2.2.2.2[1]?=some b->zkN t a b
theorem zja{a b c:Int}{R:Int->Int->Int->Option (Bool×Unit)}(hR:R a b c=(bif(!(zg (a) (b)))then some ((!(zg (c) (a))),())else some (false,()))):R a b c=some (tv (b<=a∧a<=c),()):=by rw[hR];refine jj (zd (fun h=>?_) (fun h=>?_))<;>refine za ?_<;>simp only[wO]at *<;>grind
theorem iv(a b c:Int):yG (a,b,c,())=some (tv (b<=a∧a<=c),()):=by rw[zcu];exact zja (R:=RL) rfl
theorem zoB{n:Int}(h : -1000000<=n)(h2:n<=1000000):wrF .i64 (n - 1)=n - 1:=by grind[zU]
theorem Is{t:qT}(hs:szP t)(n:Int):ZO (t,n,())=some (tv (jW t n∧stn t n=true),()):=by
 have h0:=hs.n0;have h1:=hs.n1;rw[Eg];unfold lM;simp only[iv,zq,zoB (show -1000000<=t.1 by omega) (by omega)];refine jj (zd (fun h=>?_) (fun h=>?_))
 ·obtain⟨h2,h3⟩:=aE h;have hn:jW t n:=⟨h2,by omega⟩;refine zb (jR (a:=stn t n) (by show atI t.2.1 n=_;rw[show n=((n.toNat:Nat):Int) from(by omega),gz (n:=n.toNat)];exact hn.get hs) ?_);grind[za]
 ·have:=il h;exact za ⟨fun h=>(by cases h),fun h=>absurd ⟨h.1.1,by have:=h.1.2;omega⟩ this⟩
def kj(b:Int×Int):Prop:=(1<=b.1∧b.1<=1048576)∧(1<=b.2∧b.2<=2097152)
theorem zpm(b:Int×Int):((zj b.1 0)&&((zj b.2 0)&&true))=tv (b=(0,0)):=by grind[zpj,yB,Prod.ext_iff]
theorem UI{t:qT}(ht:ya t)(s:wI):Zr (t,s,())=some (tv (ZA t s),()):=by
 have hll:=ht.ll;rw[Nm];unfold tq;simp only[iv,Is ht.sz,zq,zpm];refine jj (zk (J:=fun x=>(x.1=0∧x.2.1.1=false∧(1<=s.1∧s.1<=4095)∧(jW t s.2.1∧stn t s.2.1=true)∧(jW t s.2.2.1∧stn t s.2.2.1=true)∧s.2.1≠s.2.2.1∧(84<=s.2.2.2.2.1∧s.2.2.2.2.1<=1542)∧(1<=s.2.2.2.2.2.2.2.1∧s.2.2.2.2.2.2.2.1<=1099511627776))∨(x.1=1∧x.2.1.1=false∧¬ZA t s)) ?_ ?_)
 ·refine zd (fun h=>za (.inr ⟨rfl,rfl,fun hs=>jZ h hs.id⟩)) fun h1=>zd (fun h=>za (.inr ⟨rfl,rfl,fun hs=>jZ h hs.ta⟩)) fun h2=>zd (fun h=>za (.inr ⟨rfl,rfl,fun hs=>jZ h hs.li⟩)) fun h3=>zd (fun h=>za (.inr ⟨rfl,rfl,fun hs=>hs.tl (ql h)⟩)) fun h4=>zd (fun h=>za (.inr ⟨rfl,rfl,fun hs=>jZ h hs.sz⟩)) fun h5=>zd (fun h=>za (.inr ⟨rfl,rfl,fun hs=>jZ h hs.dl⟩)) fun h6=>?_;grind[za,wD,qt]
 rintro⟨j,⟨v,⟨⟩⟩,⟨⟩⟩ (⟨rfl,rfl,h1,h2,h3,h4,h5,h6⟩ | ⟨rfl,rfl,hq⟩);rotate_left
 ·exact zi rfl (za ⟨fun h=>(by cases h),fun h=>absurd h hq⟩)
 refine zf rfl (zk (J:=fun x=>(x.1=0∧x.2.1.1=false∧((s.2.2.2.1=7∧(1<=s.2.2.2.2.2.1∧s.2.2.2.2.2.1<=240)∧s.2.2.2.2.2.2.1=(0,0))∨(s.2.2.2.1=6∧s.2.2.2.2.2.1=0∧(s.2.2.2.2.1<=s.2.2.2.2.2.2.1.1∧s.2.2.2.2.2.2.1.1<=1048576)∧(1<=s.2.2.2.2.2.2.1.2∧s.2.2.2.2.2.2.1.2<=2097152))))∨(x.1=1∧x.2.1.1=false∧¬ZA t s)) ?_ ?_)
 ·refine zd (fun c7=>?_) (fun c7=>zd (fun c6=>?_) (fun c6=>za (.inr ⟨rfl,rfl,fun hs=>?_⟩)))
  ·have c7:=ql c7;refine zk (J:=fun x=>(x.1=0∧x.2.1.1=false∧(1<=s.2.2.2.2.2.1∧s.2.2.2.2.2.1<=240)∧s.2.2.2.2.2.2.1=(0,0))∨(x.1=1∧x.2.1.1=false∧¬ZA t s)) ?_ ?_
   ·refine zd (fun h=>za (.inr ⟨rfl,rfl,fun hs=>?_⟩)) fun h7=>zd (fun h=>za (.inr ⟨rfl,rfl,fun hs=>?_⟩)) fun h8=>za (.inl ⟨rfl,rfl,wD h7,wD h8⟩)
    ·rcases hs.cl with⟨_,hb,_⟩ | ⟨h6',_⟩
     ·exact jZ h hb
     ·omega
    ·rcases hs.cl with⟨_,_,hb⟩ | ⟨h6',_⟩;all_goals grind
   ·rintro⟨j,⟨v,⟨⟩⟩,⟨⟩⟩ (⟨rfl,rfl,h7,h8⟩ | ⟨rfl,rfl,hq⟩)
    ·exact zf rfl (za (.inl ⟨rfl,rfl,.inl ⟨c7,h7,h8⟩⟩))
    ·exact zi rfl (za (.inr ⟨rfl,rfl,hq⟩))
  ·have c6:=ql c6;refine zk (J:=fun x=>(x.1=0∧x.2.1.1=false∧s.2.2.2.2.2.1=0∧(s.2.2.2.2.1<=s.2.2.2.2.2.2.1.1∧s.2.2.2.2.2.2.1.1<=1048576)∧(1<=s.2.2.2.2.2.2.1.2∧s.2.2.2.2.2.2.1.2<=2097152))∨(x.1=1∧x.2.1.1=false∧¬ZA t s)) ?_ ?_
   ·refine zd (fun h=>za (.inr ⟨rfl,rfl,fun hs=>?_⟩)) fun h7=>zd (fun h=>za (.inr ⟨rfl,rfl,fun hs=>?_⟩)) fun h8=>zd (fun h=>za (.inr ⟨rfl,rfl,fun hs=>?_⟩)) fun h9=>za (.inl ⟨rfl,rfl,ql (by simpa using h7),wD h8,wD h9⟩)
    ·rcases hs.cl with⟨h7',_⟩ | ⟨_,hp,_⟩;all_goals grind[wZ]
    ·rcases hs.cl with⟨h7',_⟩ | ⟨_,_,hb,_⟩
     ·omega
     ·exact jZ h hb
    ·rcases hs.cl with⟨h7',_⟩ | ⟨_,_,_,hb⟩;all_goals grind
   ·rintro⟨j,⟨v,⟨⟩⟩,⟨⟩⟩ (⟨rfl,rfl,h7,h8⟩ | ⟨rfl,rfl,hq⟩)
    ·exact zf rfl (za (.inl ⟨rfl,rfl,.inr ⟨c6,h7,h8⟩⟩))
    ·exact zi rfl (za (.inr ⟨rfl,rfl,hq⟩))
  ·rcases hs.cl with⟨h7,_⟩ | ⟨h6',_⟩;all_goals grind[qt]
 rintro⟨j,⟨v,⟨⟩⟩,⟨⟩⟩ (⟨rfl,rfl,hcl⟩ | ⟨rfl,rfl,hq⟩);rotate_left
 ·exact zi rfl (za ⟨fun h=>(by cases h),fun h=>absurd h hq⟩)
 refine zf rfl (zk (J:=fun x=>(x.1=0∧x.2.1.1=false∧1<=s.2.2.2.2.2.2.2.2.length∧s.2.2.2.2.2.2.2.2.length<=2)∨(x.1=1∧x.2.1.1=false∧¬ZA t s)) ?_ ?_)
 ·refine zd (fun h=>za (.inr ⟨rfl,rfl,fun hs=>?_⟩)) fun h7=>zd (fun h=>za (.inr ⟨rfl,rfl,fun hs=>?_⟩)) fun h8=>za (.inl ⟨rfl,rfl,?_⟩)
  ·have:=zZ h;have:=hs.rn;omega
  ·have:=zZ h;have:=hs.rn;omega
  ·have h7:=zP h7;have h8:=zP h8;omega
 rintro⟨j,⟨v,⟨⟩⟩,⟨⟩⟩ (⟨rfl,rfl,n0,n2⟩ | ⟨rfl,rfl,hq⟩);rotate_left
 ·exact zi rfl (za ⟨fun h=>(by cases h),fun h=>absurd h hq⟩)
 refine zf rfl (zk (J:=fun x=>(x.1=0∧∀r∈s.2.2.2.2.2.2.2.2,xb t r∧pB t r=s.2.1∧HD t r=s.2.2.1)∨(x.1=1∧x.2.1.1=false∧¬ZA t s)) (wK s.2.2.2.2.2.2.2.2.length (fun i=>∀r,s.2.2.2.2.2.2.2.2[i]?=some r->xb t r∧pB t r=s.2.1∧HD t r=s.2.2.1) (by omega) ?_ ?_) ?_)
 ·intro i hi hp;have hx:s.2.2.2.2.2.2.2.2[i]?=some s.2.2.2.2.2.2.2.2[i]:=FL hi;have hm:=zqq hi;generalize s.2.2.2.2.2.2.2.2[i]=r at hx hm;refine zf (zL (show(i:Int) < (s.2.2.2.2.2.2.2.2.length:Int) by omega)) (zb (zm (n:=i) hx ?_));rw[mw ht];refine zk (J:=fun x=>(x.1=0∧x.2.1.1=false∧xb t r∧pB t r=s.2.1∧HD t r=s.2.2.1)∨(x.1=1∧x.2.1.1=false∧¬ZA t s)) ?_ ?_
  ·refine zd (fun h=>za (.inr ⟨rfl,rfl,fun hs=>jZ h (hs.rt r hm).1⟩)) fun h=>?_;have hr:=wD h;have r0:=hr.n0;have r8:=hr.n1;have hy0:r[0]?=some r[0]:=FL (by omega);have hy1:r[r.length - 1]?=some (r[r.length - 1]'(by omega)):=FL (by omega);have e0:pB t r=frm t r[0]:=by unfold pB;rw[hy0];rfl
   have e1:HD t r=too t (r[r.length - 1]'(by omega)):=by unfold HD;rw[hy1];rfl
   have p0:=hr.pt _ (zqq (show 0 < r.length by omega));have p1:=hr.pt _ (zqq (show r.length - 1 < r.length by omega));generalize r[0]=p at hy0 e0 p0;generalize (r[r.length - 1]'(by omega))=q at hy1 e1 p1;refine zb (zm (n:=0) hy0 ?_);rw[ux hll p0,zq];refine zd (fun h=>za (.inr ⟨rfl,rfl,fun hs=>?_⟩)) fun h7=>?_
   ·rw[<-e0,wZ (hs.rt r hm).2.1]at h;cases h
   have h7:=ql (show zj (frm t p) s.2.1=true by simpa using h7);rw[show wrF .i64 ((r.length:Int) - 1)=((r.length - 1:Nat):Int) from by rw[zU]<;>omega];refine zb (zm (n:=r.length - 1) hy1 ?_);rw[uS hll p1,zq];refine zd (fun h=>za (.inr ⟨rfl,rfl,fun hs=>?_⟩)) fun h8=>?_
   ·rw[<-e1,wZ (hs.rt r hm).2.2]at h;cases h
   grind[ql,zj,too,za]
  ·rintro⟨j,⟨v,⟨⟩⟩,⟨⟩⟩ (⟨rfl,rfl,hq⟩ | ⟨rfl,rfl,hq⟩)
   ·exact zf rfl (za (vG (by omega) fun r' hr'=>by grind))
   ·exact zi rfl (za (zw (.inr ⟨rfl,rfl,hq⟩)))
 ·grind[zE,za,zw,uz]
 ·rintro⟨j,⟨v,w,⟨⟩⟩,⟨⟩⟩ (⟨rfl,hrt⟩ | ⟨rfl,rfl,hq⟩);rotate_left
  ·exact zi rfl (za ⟨fun h=>(by cases h),fun h=>absurd h hq⟩)
  refine zf rfl (zd (fun h=>?_) (fun h=>?_))
  ·have h:=ql h;have h:s.2.2.2.2.2.2.2.2.length=1:=by omega
   exact za ⟨fun _=>⟨h1,h2,h3,h4,h5,h6,hcl,⟨n0,n2⟩,hrt,fun a b _ hb=>by grind⟩,fun _=>rfl⟩
  ·have h:=qt h;have h:s.2.2.2.2.2.2.2.2.length=2:=by omega
   have hx0:s.2.2.2.2.2.2.2.2[0]?=some s.2.2.2.2.2.2.2.2[0]:=FL (by omega);have hx1:s.2.2.2.2.2.2.2.2[1]?=some s.2.2.2.2.2.2.2.2[1]:=FL (by omega);have r0:=(hrt _ (zqq (show 0 < s.2.2.2.2.2.2.2.2.length by omega))).1;have r1:=(hrt _ (zqq (show 1 < s.2.2.2.2.2.2.2.2.length by omega))).1;generalize s.2.2.2.2.2.2.2.2[0]=a at hx0 r0;generalize s.2.2.2.2.2.2.2.2[1]=b at hx1 r1;refine zb (zm (n:=0) hx0 (zb (zm (n:=1) hx1 ?_)));rw[my ht r0 r1,zq];exact za ⟨fun h=>⟨h1,h2,h3,h4,h5,h6,hcl,⟨n0,n2⟩,hrt,fun a' b' ha hb=>by grind[aE]⟩,fun hs=>qX (hs.ap a b hx0 hx1)⟩
end Go.Proofs.YtlfkgkedfciccaaGreat.ad
end
