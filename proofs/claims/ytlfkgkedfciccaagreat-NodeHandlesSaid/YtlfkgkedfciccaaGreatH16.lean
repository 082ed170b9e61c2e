/- Parts of a proof, joined. -/
import Derived.Test.YtlfkgkedfciccaaGreatH15
set_option linter.unusedSectionVars false
set_option linter.unusedVariables false
set_option linter.unusedSimpArgs false
set_option maxHeartbeats 0
set_option maxRecDepth 100000
noncomputable section
namespace Go.Proofs.YtlfkgkedfciccaaGreat.nd
open Go Go.Fz Go.Fz.Sy
abbrev EI:List VT:=[⟨true,jB⟩,⟨false,(.list zN)⟩,⟨false,(.list I)⟩]
abbrev EJ:List VT:=[⟨false,I⟩,⟨false,I⟩]
def EK(a0:wL)(a1:(List qh))(a2:(List Int)):Option (Int×Int×Unit):=opt (zI (fun s0:((Int×(Int×(Int×(Int×Unit))))×Unit)=>bif(zg s0.1.2.2.2.1 ((a2.length:Nat):Int))then opt (atI a2 s0.1.2.2.2.1) fun x1=>opt (uB (a0,(a1,(x1,())))) fun x2=>bif !(zj x2.2.1 0)then some (.inl (1,((0,(x2.2.1,(s0.1.2.2.1,(s0.1.2.2.2.1,())))),())))else opt (atI a2 s0.1.2.2.2.1) fun x3=>opt (ku (a0.1,(x3,()))) fun x4=>some (.inr ((s0.1.1,(s0.1.2.1,((wrF .i64 ((wrF .i64 ((wrF .i64 (s0.1.2.2.1+x2.1.2.2.1))+x4.1))+a0.2.1.2.2.1)),((wrF .i64 (s0.1.2.2.2.1+1)),())))),()))else some (.inl (0,((s0.1.1,(s0.1.2.1,(s0.1.2.2.1,(s0.1.2.2.2.1,())))),())))) zR ((0,(0,(0,(0,())))),())) fun x5=>bif Nat.beq x5.1 0 then some (x5.2.1.2.2.1,(0,()))else some (x5.2.1.1,(x5.2.1.2.1,()))
abbrev zfJ:Type:=(wL×(List qh)×(List Int)×Unit)->Option (Int×Int×Unit)
def Qv:zfJ:=opq (sF prg [(59,aB),(57,Vc)] (zG [cdF jB,cdF Qg,cdF zS,cdF qA,cdF qF,cdF je] [] [] [] [59,57]) (zy []) 30 108 EI EJ)
abbrev EL:Con:=⟨EI,EJ,Qv⟩
theorem Su:Con.Ok prg 108 EL:=okF (ze GN (ze VP zn)) (by kernel_rfl)
theorem Sv(a0)(a1)(a2):Qv (a0,a1,a2,())=EK a0 a1 a2:=zA (by kernel_rfl)
abbrev Ap:List VT:=[⟨true,jB⟩,⟨false,(.list zN)⟩]
abbrev Aq:List VT:=[⟨false,I⟩]
def Ar(a0:wL)(a1:(List qh)):Option (Int×Unit):=opt (Yk (a0,(a1,()))) fun x0=>bif !(zj x0.1 0)then some (x0.1,())else opt (zI (fun s1:((Int×(Int×Unit))×Unit)=>bif(zg s1.1.2.1 ((a0.2.2.1.length:Nat):Int))then opt (uB (a0,(a1,(s1.1.2.1,())))) fun x2=>bif zj x2.2.1 4 then some (.inr ((s1.1.1,((wrF .i64 (s1.1.2.1+1)),())),()))else bif !(zj x2.2.1 0)then some (.inl (1,((x2.2.1,(s1.1.2.1,())),())))else bif zg a0.2.1.2.2.2 x2.1.2.2.2 then some (.inl (1,((7,(s1.1.2.1,())),())))else some (.inr ((s1.1.1,((wrF .i64 (s1.1.2.1+1)),())),()))else some (.inl (0,((s1.1.1,(s1.1.2.1,())),())))) zR ((0,(0,())),())) fun x3=>bif Nat.beq x3.1 0 then opt (zI (fun s4:((Int×(Int×Unit))×Unit)=>bif(zg s4.1.2.1 ((a1.length:Nat):Int))then opt (zI (fun s5:((Int×(Int×Unit))×Unit)=>opt (atI a1 s4.1.2.1) fun x6=>bif(zg s5.1.2.1 ((x6.2.2.2.2.2.2.2.2.length:Nat):Int))then opt (atI a1 s4.1.2.1) fun x7=>opt (atI x7.2.2.2.2.2.2.2.2 s5.1.2.1) fun x8=>opt (Qv (a0,(a1,(x8,())))) fun x9=>bif !(zj x9.2.1 0)then some (.inl (1,((x9.2.1,(s5.1.2.1,())),())))else opt (atI a1 s4.1.2.1) fun x10=>bif zg x10.2.2.2.2.2.2.2.1 x9.1 then some (.inl (1,((412,(s5.1.2.1,())),())))else some (.inr ((s5.1.1,((wrF .i64 (s5.1.2.1+1)),())),()))else some (.inl (0,((s5.1.1,(s5.1.2.1,())),())))) zR ((s4.1.1,(0,())),())) fun x11=>bif Nat.beq x11.1 0 then some (.inr ((x11.2.1.1,((wrF .i64 (s4.1.2.1+1)),())),()))else some (.inl (1,((x11.2.1.1,(s4.1.2.1,())),())))else some (.inl (0,((s4.1.1,(s4.1.2.1,())),())))) zR ((x3.2.1.1,(0,())),())) fun x12=>bif Nat.beq x12.1 0 then some (0,())else some (x12.2.1.1,())else some (x3.2.1.1,())
abbrev zcY:Type:=(wL×(List qh)×Unit)->Option (Int×Unit)
def kA:zcY:=opq (sF prg [(58,eQ),(59,aB),(108,EL)] (zG [cdF jB,cdF zN,cdF Qg,cdF zS,cdF qA,cdF qF,cdF je] [] [] [] [58,59,108]) (zy []) 30 54 Ap Aq)
abbrev As:Con:=⟨Ap,Aq,kA⟩
theorem NO:Con.Ok prg 54 As:=okF (ze lT (ze GN (ze Su zn))) (by kernel_rfl)
theorem NP(a0)(a1):kA (a0,a1,())=Ar a0 a1:=zA (by kernel_rfl)
abbrev At:List VT:=[⟨true,zS⟩,⟨true,zN⟩]
abbrev Au:List VT:=[⟨false,I⟩]
def Av(a0:qk)(a1:qh):Option (Int×Unit):=opt (kr (a0,())) fun x0=>bif !x0.1 then some (260,())else opt (Zo (a0,(a1,()))) fun x1=>bif !x1.1 then some (321,())else some (0,())
abbrev zcZ:Type:=(qk×qh×Unit)->Option (Int×Unit)
def Vh:zcZ:=opq (sF prg [(96,JC),(107,Va)] (zG [cdF zN,cdF zS,cdF qA,cdF zr] [] [] [] [96,107]) (zy []) 30 55 At Au)
abbrev Aw:Con:=⟨At,Au,Vh⟩
theorem NQ:Con.Ok prg 55 Aw:=okF (ze QY (ze VM zn)) (by kernel_rfl)
theorem NR(a0)(a1):Vh (a0,a1,())=Av a0 a1:=zA (by kernel_rfl)
abbrev Vi:List VT:=[⟨true,jB⟩,⟨false,(.list zN)⟩,⟨true,zN⟩]
abbrev Vj:List VT:=[⟨false,(.list zN)⟩,⟨false,I⟩]
def Ax(a0:wL)(a1:(List qh))(a2:qh):Option ((List qh)×Int×Unit):=opt (kA (a0,(a1,()))) fun x0=>opt (bif zj x0.1 0 then opt (Vh (a0.1,(a2,()))) fun x1=>some (0,((x1.1,()),()))else some (0,((x0.1,()),()))) fun x2=>bif !(zj x2.2.1.1 0)then some ([],(x2.2.1.1,()))else bif qe 0 a1.length 96 then bif(qe a1.length ((a2::[]).length) 96)then opt (kA (a0,((a1++(a2::[])),()))) fun x3=>bif !(zj x3.1 0)then some ([],(x3.1,()))else some ((a1++(a2::[])),(0,()))else none else none
abbrev Ay:Type:=(wL×(List qh)×qh×Unit)->Option ((List qh)×Int×Unit)
def xg:Ay:=opq (sF prg [(54,As),(55,Aw)] (zG [cdF jB,cdF zN,cdF zS,cdF qA,cdF qF,cdF je] [] [⟨2,35,some 6,zN,false⟩,⟨4,35,some 6,zN,false⟩,⟨8,35,some 6,zN,false⟩] [] [54,55]) (zy []) 30 16 Vi Vj)
abbrev zc0:Con:=⟨Vi,Vj,xg⟩
theorem NS:Con.Ok prg 16 zc0:=okF (ze NO (ze NQ zn)) (by kernel_rfl)
theorem NT(a0)(a1)(a2):xg (a0,a1,a2,())=Ax a0 a1 a2:=zA (by kernel_rfl)
abbrev vC:List VT:=[⟨true,yM⟩]
abbrev vD:List VT:=[⟨true,vy⟩]
def Ke:ym:=zG [⟨vy,wk vy,[9,11]⟩,cdF yM,cdF jB,cdF zN,cdF qy,cdF yK,cdF zS,cdF jb,cdF qg,cdF qA,⟨(.pair (.int .u8) (.pair (.int .u8) (.int .u8))),wk (.pair (.int .u8) (.pair (.int .u8) (.int .u8))),[]⟩,cdF qF,cdF je] [] [⟨4,122,some 4,qy,true⟩,⟨4,122,some 7,zN,false⟩,⟨6,122,some 4,qy,true⟩,⟨6,122,some 7,zN,false⟩,⟨11,122,some 4,qy,true⟩,⟨11,122,some 7,zN,false⟩,⟨16,122,some 4,qy,true⟩,⟨16,122,some 7,zN,false⟩,⟨20,122,some 4,qy,true⟩,⟨20,122,some 7,zN,false⟩,⟨23,122,some 4,qy,true⟩,⟨23,122,some 7,zN,false⟩,⟨26,122,some 4,qy,true⟩,⟨26,122,some 7,zN,false⟩,⟨3,125,some 6,qy,true⟩,⟨7,125,some 6,qy,true⟩,⟨9,125,some 6,qy,true⟩,⟨13,125,some 6,qy,true⟩,⟨16,125,some 6,qy,true⟩,⟨18,125,some 6,qy,true⟩] [(3,125,5,[11]),(13,125,5,[11]),(13,125,4,[11]),(11,122,3,[11]),(20,122,3,[11])] [48,52]
def Jb(ZZ:aU)(WL:lE)(kh:lO)(UP:RR)(JV:(qQ×Int×Unit)->Option ((List Int)×(List jN)×Int×Unit))(XU:Lp)(XV:Lw)(JW:Ay)(a0:we):Option (vl×Unit):=opt (ZZ (a0.1,())) fun x0=>opt (WL (a0.2.1.1,(a0.2.1.2.1,(a0.2.1.2.2,())))) fun x1=>opt (bif zg 0 a0.2.2.2.2.2 then bif !(zg 1000 a0.2.2.2.2.2)then some (0,(((),()),(((x0.1,((x1.1.1,(a0.2.2.2.2.2,x1.1.2.2)),([],339))),([],([],([],(([],(16,1099511627776)),()))))),())))else some (0,(((),()),(((x0.1,(x1.1,([],339))),([],([],([],(([],(16,1099511627776)),()))))),())))else some (0,(((),()),(((x0.1,(x1.1,([],339))),([],([],([],(([],(16,1099511627776)),()))))),())))) fun x2=>opt (zI (fun s3:((Int×Unit)×((List (Bool×(Bool×(Int×(Int×(Int×(Int×(Int×Int))))))))×Unit))=>bif(zg s3.1.1 ((a0.2.2.1.length:Nat):Int))then opt (opt (atI a0.2.2.1 s3.1.1) fun x4=>bif !x4.1 then opt (atI a0.2.2.1 s3.1.1) fun x5=>bif(qe s3.2.1.length ((x5::[]).length) 10)then some (0,((),((s3.2.1++(x5::[])),())))else none else some (0,((),(s3.2.1,())))) fun x6=>some (.inr (((wrF .i64 (s3.1.1+1)),()),(x6.2.2.1,())))else some (.inl (0,((s3.1.1,()),(s3.2.1,()))))) zR ((0,()),([],()))) fun x7=>opt (kh (x2.2.2.1.1.1,(x7.2.2.1,()))) fun x8=>opt (zI (fun s9:((Unit×(Unit×(Int×Unit)))×((((Int×((List Bool)×(List (Int×(Int×(Int×Int))))))×((Int×(Int×(Int×Int)))×((List ((List (Int×Int))×Int))×Int)))×((List (Int×(Int×(Int×(Int×(Int×(Int×((Int×Int)×(Int×(List (List Int)))))))))))×((List Int)×((List Int)×(((List (Int×((Int×Int)×(Int×Int))))×(Int×Int))×Unit)))))×((((Int×((List Bool)×(List (Int×(Int×(Int×Int))))))×((Int×(Int×(Int×Int)))×((List ((List (Int×Int))×Int))×Int)))×((List (Int×(Int×(Int×(Int×(Int×(Int×((Int×Int)×(Int×(List (List Int)))))))))))×((List Int)×((List Int)×(((List (Int×((Int×Int)×(Int×Int))))×(Int×Int))×Unit)))))×Unit)))=>bif !(zg s9.1.2.2.1 0)then opt (KB x8.1 none (some s9.1.2.2.1) none) fun x10=>opt (UP (s9.2.1.1.1,(s9.2.1.1.2.1,(x10,())))) fun x11=>bif !(zj x11.2.1 0)then some (.inr (((),((),((wrF .i64 (s9.1.2.2.1 - 1)),()))),((s9.2.1.1,(s9.2.1.2.1,(s9.2.1.2.2.1,(s9.2.1.2.2.2.1,(s9.2.1.2.2.2.2.1,()))))),((s9.2.2.1.1,(s9.2.2.1.2.1,(s9.2.2.1.2.2.1,(s9.2.2.1.2.2.2.1,(s9.2.2.1.2.2.2.2.1,()))))),()))))else opt (JV (x11.1,(60,()))) fun x12=>bif zj x12.2.2.1 0 then opt (KB x8.1 none (some s9.1.2.2.1) none) fun x13=>opt (XU (x11.1.1,())) fun x14=>opt (XV (s9.2.1.1.1,(s9.2.1.1.2.1,(x13,(x12.1,(x14.1,())))))) fun x15=>some (.inl s9)else some (.inr (((),((),((wrF .i64 (s9.1.2.2.1 - 1)),()))),((s9.2.1.1,(s9.2.1.2.1,(s9.2.1.2.2.1,(s9.2.1.2.2.2.1,(s9.2.1.2.2.2.2.1,()))))),((s9.2.2.1.1,(s9.2.2.1.2.1,(s9.2.2.1.2.2.1,(s9.2.2.1.2.2.2.1,(s9.2.2.1.2.2.2.2.1,()))))),()))))else some (.inl s9)) zR (((),((),((wN 3 ((x8.1.length:Nat):Int)),()))),((x2.2.2.1.1,(x2.2.2.1.2.1,(x2.2.2.1.2.2.1,(x2.2.2.1.2.2.2.1,(x2.2.2.1.2.2.2.2.1,()))))),((((0,([],[])),((0,(0,(0,0))),([],0))),([],([],([],(([],(0,0)),()))))),())))) fun x16=>bif !(zg x16.1.2.2.1 0)then opt (KB x8.1 none (some x16.1.2.2.1) none) fun x17=>opt (UP (x16.2.1.1.1,(x16.2.1.1.2.1,(x17,())))) fun x18=>bif !(zj x18.2.1 0)then none else opt (JV (x18.1,(60,()))) fun x19=>bif zj x19.2.2.1 0 then opt (KB x8.1 none (some x16.1.2.2.1) none) fun x20=>opt (XU (x18.1.1,())) fun x21=>opt (XV (x16.2.1.1.1,(x16.2.1.1.2.1,(x20,(x19.1,(x21.1,())))))) fun x22=>opt (zI (fun s23:((Int×Unit)×((List (Bool×(Bool×(Int×(Int×(Int×(Int×(Int×Int))))))))×Unit))=>bif(zg s23.1.1 ((a0.2.2.1.length:Nat):Int))then opt (opt (atI a0.2.2.1 s23.1.1) fun x24=>bif x24.1 then opt (atI a0.2.2.1 s23.1.1) fun x25=>bif(qe s23.2.1.length ((x25::[]).length) 10)then some (0,((),((s23.2.1++(x25::[])),())))else none else some (0,((),(s23.2.1,())))) fun x26=>some (.inr (((wrF .i64 (s23.1.1+1)),()),(x26.2.2.1,())))else some (.inl (0,((s23.1.1,()),(s23.2.1,()))))) zR ((0,()),([],()))) fun x27=>opt (kh (x16.2.1.1.1,(x27.2.2.1,()))) fun x28=>opt (zI (fun s29:((Unit×((List (Int×(Int×(Int×(Int×(Int×(Int×((Int×Int)×(Int×(List (List Int)))))))))))×(Int×Unit)))×((((Int×((List Bool)×(List (Int×(Int×(Int×Int))))))×((Int×(Int×(Int×Int)))×((List ((List (Int×Int))×Int))×Int)))×((List (Int×(Int×(Int×(Int×(Int×(Int×((Int×Int)×(Int×(List (List Int)))))))))))×((List Int)×((List Int)×(((List (Int×((Int×Int)×(Int×Int))))×(Int×Int))×Unit)))))×Unit))=>bif(zg s29.1.2.2.1 ((x28.1.length:Nat):Int))then bif(zg ((s29.1.2.1.length:Nat):Int) 3)then opt (atI x28.1 s29.1.2.2.1) fun x30=>opt (JW (s29.2.1.1,(s29.1.2.1,(((wrF .i64 (100+s29.1.2.2.1)),x30.2),())))) fun x31=>opt (bif zj x31.2.1 0 then some (0,((x31.1,()),()))else some (0,((s29.1.2.1,()),()))) fun x32=>some (.inr (((),(x32.2.1.1,((wrF .i64 (s29.1.2.2.1+1)),()))),((s29.2.1.1,(s29.2.1.2.1,(s29.2.1.2.2.1,(s29.2.1.2.2.2.1,(s29.2.1.2.2.2.2.1,()))))),())))else some (.inl (0,(((),(s29.1.2.1,(s29.1.2.2.1,()))),((s29.2.1.1,(s29.2.1.2.1,(s29.2.1.2.2.1,(s29.2.1.2.2.2.1,(s29.2.1.2.2.2.2.1,()))))),()))))else some (.inl (0,(((),(s29.1.2.1,(s29.1.2.2.1,()))),((s29.2.1.1,(s29.2.1.2.1,(s29.2.1.2.2.1,(s29.2.1.2.2.2.1,(s29.2.1.2.2.2.2.1,()))))),()))))) zR (((),([],(0,()))),(((x16.2.1.1.1,(x16.2.1.1.2.1,(x22.1,x16.2.1.1.2.2.2))),(x20,(x19.1,(x16.2.1.2.2.2.1,(x16.2.1.2.2.2.2.1,()))))),()))) fun x33=>bif qe 0 x33.2.2.1.2.1.length 96 then bif qe x33.2.2.1.2.1.length x33.2.1.2.1.length 96 then opt (zI (fun s34:((Unit×(Int×Unit))×((((Int×((List Bool)×(List (Int×(Int×(Int×Int))))))×((Int×(Int×(Int×Int)))×((List ((List (Int×Int))×Int))×Int)))×((List (Int×(Int×(Int×(Int×(Int×(Int×((Int×Int)×(Int×(List (List Int)))))))))))×((List Int)×((List Int)×(((List (Int×((Int×Int)×(Int×Int))))×(Int×Int))×Unit)))))×Unit))=>bif zg s34.1.2.1 s34.2.1.1.1.1 then opt (bif(zg s34.1.2.1 ((a0.2.2.2.1.length:Nat):Int))then opt (atI a0.2.2.2.1 s34.1.2.1) fun x35=>some (0,(((jV (wrF .i64 (0 - s34.2.1.1.2.1.2.1)) (wN (wrF .i64 x35) s34.2.1.1.2.1.2.1)),()),()))else some (0,((0,()),()))) fun x36=>bif(qe s34.2.1.2.2.2.1.length ((x36.2.1.1::[]).length) 8)then some (.inr (((),((wrF .i64 (s34.1.2.1+1)),())),((s34.2.1.1,(s34.2.1.2.1,(s34.2.1.2.2.1,((s34.2.1.2.2.2.1++(x36.2.1.1::[])),(s34.2.1.2.2.2.2.1,()))))),())))else none else some (.inl (0,(((),(s34.1.2.1,())),((s34.2.1.1,(s34.2.1.2.1,(s34.2.1.2.2.1,(s34.2.1.2.2.2.1,(s34.2.1.2.2.2.2.1,()))))),()))))) zR (((),(0,())),((x33.2.2.1.1,((x33.2.2.1.2.1++x33.2.1.2.1),(x33.2.2.1.2.2.1,(x33.2.2.1.2.2.2.1,(x33.2.2.1.2.2.2.2.1,()))))),()))) fun x37=>opt (bif a0.2.2.2.2.1 then some (0,(((x37.2.2.1.1,(x37.2.2.1.2.1,(x37.2.2.1.2.2.1,(x37.2.2.1.2.2.2.1,(((0,((400,1000),(800,2000)))::[]),x37.2.2.1.2.2.2.2.1.2))))),()),()))else some (0,(((x37.2.2.1.1,(x37.2.2.1.2.1,(x37.2.2.1.2.2.1,(x37.2.2.1.2.2.2.1,x37.2.2.1.2.2.2.2.1)))),()),()))) fun x38=>some (x38.2.1.1,())else none else none else none else opt (zI (fun s39:((Int×Unit)×((List (Bool×(Bool×(Int×(Int×(Int×(Int×(Int×Int))))))))×Unit))=>bif(zg s39.1.1 ((a0.2.2.1.length:Nat):Int))then opt (opt (atI a0.2.2.1 s39.1.1) fun x40=>bif x40.1 then opt (atI a0.2.2.1 s39.1.1) fun x41=>bif(qe s39.2.1.length ((x41::[]).length) 10)then some (0,((),((s39.2.1++(x41::[])),())))else none else some (0,((),(s39.2.1,())))) fun x42=>some (.inr (((wrF .i64 (s39.1.1+1)),()),(x42.2.2.1,())))else some (.inl (0,((s39.1.1,()),(s39.2.1,()))))) zR ((0,()),([],()))) fun x43=>opt (kh (x16.2.1.1.1,(x43.2.2.1,()))) fun x44=>opt (zI (fun s45:((Unit×((List (Int×(Int×(Int×(Int×(Int×(Int×((Int×Int)×(Int×(List (List Int)))))))))))×(Int×Unit)))×((((Int×((List Bool)×(List (Int×(Int×(Int×Int))))))×((Int×(Int×(Int×Int)))×((List ((List (Int×Int))×Int))×Int)))×((List (Int×(Int×(Int×(Int×(Int×(Int×((Int×Int)×(Int×(List (List Int)))))))))))×((List Int)×((List Int)×(((List (Int×((Int×Int)×(Int×Int))))×(Int×Int))×Unit)))))×Unit))=>bif(zg s45.1.2.2.1 ((x44.1.length:Nat):Int))then bif(zg ((s45.1.2.1.length:Nat):Int) 3)then opt (atI x44.1 s45.1.2.2.1) fun x46=>opt (JW (s45.2.1.1,(s45.1.2.1,(((wrF .i64 (100+s45.1.2.2.1)),x46.2),())))) fun x47=>opt (bif zj x47.2.1 0 then some (0,((x47.1,()),()))else some (0,((s45.1.2.1,()),()))) fun x48=>some (.inr (((),(x48.2.1.1,((wrF .i64 (s45.1.2.2.1+1)),()))),((s45.2.1.1,(s45.2.1.2.1,(s45.2.1.2.2.1,(s45.2.1.2.2.2.1,(s45.2.1.2.2.2.2.1,()))))),())))else some (.inl (0,(((),(s45.1.2.1,(s45.1.2.2.1,()))),((s45.2.1.1,(s45.2.1.2.1,(s45.2.1.2.2.1,(s45.2.1.2.2.2.1,(s45.2.1.2.2.2.2.1,()))))),()))))else some (.inl (0,(((),(s45.1.2.1,(s45.1.2.2.1,()))),((s45.2.1.1,(s45.2.1.2.1,(s45.2.1.2.2.1,(s45.2.1.2.2.2.1,(s45.2.1.2.2.2.2.1,()))))),()))))) zR (((),([],(0,()))),((x16.2.1.1,(x16.2.1.2.1,(x16.2.1.2.2.1,(x16.2.1.2.2.2.1,(x16.2.1.2.2.2.2.1,()))))),()))) fun x49=>bif qe 0 x49.2.2.1.2.1.length 96 then bif qe x49.2.2.1.2.1.length x49.2.1.2.1.length 96 then opt (zI (fun s50:((Unit×(Int×Unit))×((((Int×((List Bool)×(List (Int×(Int×(Int×Int))))))×((Int×(Int×(Int×Int)))×((List ((List (Int×Int))×Int))×Int)))×((List (Int×(Int×(Int×(Int×(Int×(Int×((Int×Int)×(Int×(List (List Int)))))))))))×((List Int)×((List Int)×(((List (Int×((Int×Int)×(Int×Int))))×(Int×Int))×Unit)))))×Unit))=>bif zg s50.1.2.1 s50.2.1.1.1.1 then opt (bif(zg s50.1.2.1 ((a0.2.2.2.1.length:Nat):Int))then opt (atI a0.2.2.2.1 s50.1.2.1) fun x51=>some (0,(((jV (wrF .i64 (0 - s50.2.1.1.2.1.2.1)) (wN (wrF .i64 x51) s50.2.1.1.2.1.2.1)),()),()))else some (0,((0,()),()))) fun x52=>bif(qe s50.2.1.2.2.2.1.length ((x52.2.1.1::[]).length) 8)then some (.inr (((),((wrF .i64 (s50.1.2.1+1)),())),((s50.2.1.1,(s50.2.1.2.1,(s50.2.1.2.2.1,((s50.2.1.2.2.2.1++(x52.2.1.1::[])),(s50.2.1.2.2.2.2.1,()))))),())))else none else some (.inl (0,(((),(s50.1.2.1,())),((s50.2.1.1,(s50.2.1.2.1,(s50.2.1.2.2.1,(s50.2.1.2.2.2.1,(s50.2.1.2.2.2.2.1,()))))),()))))) zR (((),(0,())),((x49.2.2.1.1,((x49.2.2.1.2.1++x49.2.1.2.1),(x49.2.2.1.2.2.1,(x49.2.2.1.2.2.2.1,(x49.2.2.1.2.2.2.2.1,()))))),()))) fun x53=>opt (bif a0.2.2.2.2.1 then some (0,(((x53.2.2.1.1,(x53.2.2.1.2.1,(x53.2.2.1.2.2.1,(x53.2.2.1.2.2.2.1,(((0,((400,1000),(800,2000)))::[]),x53.2.2.1.2.2.2.2.1.2))))),()),()))else some (0,(((x53.2.2.1.1,(x53.2.2.1.2.1,(x53.2.2.1.2.2.1,(x53.2.2.1.2.2.2.1,x53.2.2.1.2.2.2.2.1)))),()),()))) fun x54=>some (x54.2.1.1,())else none else none
theorem rT(ZZ:(kW×Unit)->Option (qk×Unit))(WL:(Int×Int×Int×Unit)->Option (wm×Unit))(kh:(qk×(List xl)×Unit)->Option ((List qh)×Unit))(UP:(qk×wm×(List qh)×Unit)->Option (qQ×Int×Unit))(JV:(qQ×Int×Unit)->Option ((List Int)×(List jN)×Int×Unit))(XU:((List Int)×Unit)->Option (Int×Unit))(XV:(qk×wm×(List qh)×(List Int)×Int×Unit)->Option ((List jC)×Unit))(JW:(wL×(List qh)×qh×Unit)->Option ((List qh)×Int×Unit))(a0:we):sF prg [(47,⟨ZI,ZJ,ZZ⟩),(48,⟨Wq,Wr,WL⟩),(15,⟨Ws,Wt,kh⟩),(49,⟨de,df,UP⟩),(50,⟨JF,JG,JV⟩),(52,⟨ar,au,XU⟩),(51,⟨aw,ay,XV⟩),(16,⟨Vi,Vj,JW⟩)] Ke (zy [] [(13,125)]) 40 5 vC vD (a0,())=Jb ZZ WL kh UP JV XU XV JW a0:=by kernel_rfl
def yn:(we×Unit)->Option (vl×Unit):=sF prg [(47,⟨ZI,ZJ,yU⟩),(48,⟨Wq,Wr,uV⟩),(15,⟨Ws,Wt,xx⟩),(49,⟨de,df,vB⟩),(50,⟨JF,JG,xf⟩),(52,⟨ar,au,xe⟩),(51,⟨aw,ay,uA⟩),(16,⟨Vi,Vj,xg⟩)] Ke (zy [] [(13,125)]) 40 5 vC vD
theorem iE:Con.Ok prg 5 ⟨vC,vD,yn⟩:=Ro (ze og (ze DQ (ze Ei (ze zcC (ze NC (ze GK (ze zas (ze NS zn)))))))) qP (by kernel_rfl)
theorem iF(a0:we):yn (a0,())=Jb yU uV xx vB xf xe uA xg a0:=rT yU uV xx vB xf xe uA xg a0
abbrev oy:List VT:=[⟨true,vy⟩,⟨false,I⟩]
abbrev oz:List VT:=[⟨false,I⟩]
def oA(a0:vl)(a1:Int):Option (Int×Unit):=opt (zI (fun s0:((Int×(Int×Unit))×Unit)=>bif zg s0.1.2.1 a1 then opt (opt (atI a0.2.1 s0.1.2.1) fun x1=>bif zj x1.2.2.2.1 7 then some (0,(((wrF .i64 (s0.1.1+1)),()),()))else some (0,((s0.1.1,()),()))) fun x2=>some (.inr ((x2.2.1.1,((wrF .i64 (s0.1.2.1+1)),())),()))else some (.inl (0,((s0.1.1,(s0.1.2.1,())),())))) zR ((0,(0,())),())) fun x3=>opt (atI a0.2.1 a1) fun x4=>bif !(zj x4.2.2.2.1 7)then some (0,())else opt (atI a0.2.2.1 x3.2.1.1) fun x5=>some (x5,())
abbrev zaB:Type:=(vl×Int×Unit)->Option (Int×Unit)
def gy:zaB:=opq (sF prg [] (zG [cdF vy,cdF jB,cdF zN,cdF zS,cdF qg,cdF qA,cdF qF,cdF je] [] [] [] []) (zy []) 30 17 oy oz)
abbrev oB:Con:=⟨oy,oz,gy⟩
theorem HQ:Con.Ok prg 17 oB:=okF zn (by kernel_rfl)
theorem HU(a0)(a1):gy (a0,a1,())=oA a0 a1:=zA (by kernel_rfl)
abbrev ff:List VT:=[⟨false,(.list zN)⟩]
abbrev fg:List VT:=[⟨false,(.list zN)⟩]
def fh(a0:(List qh)):Option ((List qh)×Unit):=opt (zI (fun s0:((Int×Unit)×((List (Int×(Int×(Int×(Int×(Int×(Int×((Int×Int)×(Int×(List (List Int)))))))))))×Unit))=>bif(zg s0.1.1 ((a0.length:Nat):Int))then opt (opt (atI a0 s0.1.1) fun x1=>bif zj x1.2.2.2.1 6 then opt (atI a0 s0.1.1) fun x2=>bif(qe s0.2.1.length ((x2::[]).length) 96)then some (0,((),((s0.2.1++(x2::[])),())))else none else some (0,((),(s0.2.1,())))) fun x3=>some (.inr (((wrF .i64 (s0.1.1+1)),()),(x3.2.2.1,())))else some (.inl (0,((s0.1.1,()),(s0.2.1,()))))) zR ((0,()),([],()))) fun x4=>some (x4.2.2.1,())
abbrev NU:Type:=((List qh)×Unit)->Option ((List qh)×Unit)
def um:NU:=opq (sF prg [] (zG [cdF zN,cdF zr] [] [⟨3,25,some 2,zN,false⟩,⟨3,25,some 3,zN,true⟩,⟨5,25,some 2,zN,false⟩,⟨5,25,some 3,zN,true⟩] [] []) (zy []) 30 21 ff fg)
abbrev fi:Con:=⟨ff,fg,um⟩
theorem BM:Con.Ok prg 21 fi:=okF zn (by kernel_rfl)
theorem BN(a0):um (a0,())=fh a0:=zA (by kernel_rfl)
abbrev LN:List VT:=[⟨true,jB⟩,⟨false,(.list zN)⟩,⟨false,I⟩]
abbrev LO:List VT:=[⟨true,Qg⟩,⟨false,I⟩]
def LP(a0:wL)(a1:(List qh))(a2:Int):Option (db×Int×Unit):=opt (Yk (a0,(a1,()))) fun x0=>bif !(zj x0.1 0)then some (((0,0),((0,0),(0,0))),(x0.1,()))else opt (bif zg a2 0 then some (1,((((0,0),((0,0),(0,0))),(2,())),()))else bif(!(zg a2 ((a0.2.2.1.length:Nat):Int)))then some (1,((((0,0),((0,0),(0,0))),(2,())),()))else some (0,((((0,0),((0,0),(0,0))),(0,())),()))) fun x1=>bif Nat.beq x1.1 0 then opt (uB (a0,(a1,(a2,())))) fun x2=>some (x2.1,(x2.2.1,()))else some (x1.2.1.1,(x1.2.1.2.1,()))
abbrev zgK:Type:=(wL×(List qh)×Int×Unit)->Option (db×Int×Unit)
def Wb:zgK:=opq (sF prg [(58,eQ),(59,aB)] (zG [cdF jB,cdF Qg,cdF zS,cdF qA,cdF qF,cdF je] [] [] [] [58,59]) (zy []) 30 20 LN LO)
abbrev LQ:Con:=⟨LN,LO,Wb⟩
theorem zaC:Con.Ok prg 20 LQ:=okF (ze lT (ze GN zn)) (by kernel_rfl)
theorem zaD(a0)(a1)(a2):Wb (a0,a1,a2,())=LP a0 a1 a2:=zA (by kernel_rfl)
abbrev LR:List VT:=[⟨true,zr⟩]
abbrev LS:List VT:=[⟨true,xc⟩,⟨false,I⟩]
def LU(a0:zC):Option (jv×Int×Unit):=opt (wZ (a0,())) fun x0=>bif !x0.1 then some ((0,0),(130,()))else some ((0,(wrF .i64 (a0.1*1048576))),(0,()))
abbrev zgL:Type:=(zC×Unit)->Option (jv×Int×Unit)
def XG:zgL:=opq (sF prg [(60,kz)] (zG [cdF zr] [] [] [] [60]) (zy []) 30 22 LR LS)
abbrev LV:Con:=⟨LR,LS,XG⟩
theorem zaE:Con.Ok prg 22 LV:=okF (ze uk zn) (by kernel_rfl)
theorem zaF(a0):XG (a0,())=LU a0:=zA (by kernel_rfl)
abbrev oC:List VT:=[⟨false,I⟩]
abbrev oD:List VT:=[⟨false,.bool⟩]
def oE(a0:Int):Option (Bool×Unit):=bif !(zg a0 0)then some ((!(zg 65535 a0)),())else some (false,())
abbrev zaG:Type:=(Int×Unit)->Option (Bool×Unit)
def YS:zaG:=opq (sF prg [] (zG [] [] [] [] []) (zy []) 30 115 oC oD)
abbrev oF:Con:=⟨oC,oD,YS⟩
theorem HV:Con.Ok prg 115 oF:=okF zn (by kernel_rfl)
theorem HW(a0):YS (a0,())=oE a0:=zA (by kernel_rfl)
abbrev LW:List VT:=[⟨false,(.int .u64)⟩,⟨false,I⟩]
abbrev LX:List VT:=[⟨false,.bool⟩]
def LY(a0:Int)(a1:Int):Option (Bool×Unit):=opt (zI (fun s0:((Int×(Int×Unit))×Unit)=>bif zg s0.1.2.1 a1 then some (.inr (((wrF .u64 (Int.tdiv s0.1.1 2)),((wrF .i64 (s0.1.2.1+1)),())),()))else some (.inl (0,((s0.1.1,(s0.1.2.1,())),())))) zR ((a0,(0,())),())) fun x1=>some ((zj (Int.tmod x1.2.1.1 2) 1),())
abbrev zgM:Type:=(Int×Int×Unit)->Option (Bool×Unit)
def xh:zgM:=opq (sF prg [] (zG [] [] [] [] []) (zy []) 30 116 LW LX)
abbrev nh:Con:=⟨LW,LX,xh⟩
theorem oG:Con.Ok prg 116 nh:=okF zn (by kernel_rfl)
theorem zaH(a0)(a1):xh (a0,a1,())=LY a0 a1:=zA (by kernel_rfl)
abbrev Az:List VT:=[⟨true,qj⟩]
abbrev AA:List VT:=[⟨false,.bool⟩]
def AB(a0:qn):Option (Bool×Unit):=opt (bif zg a0.1 1 then some (1,((false,()),()))else bif zg 64 a0.1 then some (1,((false,()),()))else bif zg a0.2.1 1 then some (1,((false,()),()))else bif zg 1099511627776 a0.2.1 then some (1,((false,()),()))else some (0,((false,()),()))) fun x0=>bif Nat.beq x0.1 0 then bif a0.2.2.1 then bif zj a0.2.2.2.1 0 then bif zj a0.2.2.2.2.1 0 then some ((zj a0.2.2.2.2.2 0),())else some (false,())else some (false,())else opt (opt (YS (a0.2.2.2.1,())) fun x1=>bif !x1.1 then some (1,((false,()),()))else bif zg a0.2.2.2.2.1 0 then some (1,((false,()),()))else bif zg 1099511627776 a0.2.2.2.2.1 then some (1,((false,()),()))else opt (xh (a0.2.2.2.2.2,(0,()))) fun x2=>bif !x2.1 then some (1,((false,()),()))else some (0,((x0.2.1.1,()),()))) fun x3=>bif Nat.beq x3.1 0 then opt (zI (fun s4:((Bool×(Int×Unit))×Unit)=>bif zg s4.1.2.1 64 then opt (xh (a0.2.2.2.2.2,(s4.1.2.1,()))) fun x5=>bif x5.1 then some (.inl (1,((false,(s4.1.2.1,())),())))else some (.inr ((s4.1.1,((wrF .i64 (s4.1.2.1+1)),())),()))else some (.inl (0,((s4.1.1,(s4.1.2.1,())),())))) zR ((x3.2.1.1,(a0.1,())),())) fun x6=>bif Nat.beq x6.1 0 then some (true,())else some (x6.2.1.1,())else some (x3.2.1.1,())else some (x0.2.1.1,())
abbrev zc1:Type:=(qn×Unit)->Option (Bool×Unit)
def kB:zc1:=opq (sF prg [(115,oF),(116,nh)] (zG [cdF qj] [] [] [] [115,116]) (zy []) 30 61 Az AA)
abbrev bH:Con:=⟨Az,AA,kB⟩
theorem fj:Con.Ok prg 61 bH:=okF (ze HV (ze oG zn)) (by kernel_rfl)
theorem NV(a0):kB (a0,())=AB a0:=zA (by kernel_rfl)
abbrev LZ:List VT:=[⟨false,I⟩,⟨false,I⟩]
abbrev Ma:List VT:=[⟨true,qj⟩]
def Mb(a0:Int)(a1:Int):Option (qn×Unit):=opt (kB ((a0,(a1,(true,(0,(0,0))))),())) fun x0=>bif !x0.1 then some ((0,(0,(false,(0,(0,0))))),())else some ((a0,(a1,(true,(0,(0,0))))),())
abbrev zgN:Type:=(Int×Int×Unit)->Option (qn×Unit)
def XH:zgN:=opq (sF prg [(61,bH)] (zG [cdF qj] [] [] [] [61]) (zy []) 30 23 LZ Ma)
abbrev Mc:Con:=⟨LZ,Ma,XH⟩
theorem zaI:Con.Ok prg 23 Mc:=okF (ze fj zn) (by kernel_rfl)
theorem zaJ(a0)(a1):XH (a0,a1,())=Mb a0 a1:=zA (by kernel_rfl)
abbrev Md:List VT:=[⟨true,zr⟩,⟨true,zr⟩]
abbrev Me:List VT:=[⟨true,zY⟩,⟨false,I⟩]
def Mf(a0:zC)(a1:zC):Option (qK×Int×Unit):=opt (opt (wZ (a0,())) fun x0=>bif !x0.1 then some (1,(((0,(0,0)),(130,())),()))else opt (wZ (a1,())) fun x1=>bif !x1.1 then some (1,(((0,(0,0)),(130,())),()))else some (0,(((0,(0,0)),(0,())),()))) fun x2=>bif Nat.beq x2.1 0 then bif zg a1.2 a0.2 then some ((0,(0,0)),(2,()))else some ((0,((wrF .i64 (a0.1*1048576)),(wrF .i64 (a1.1*1048576)))),(0,()))else some (x2.2.1.1,(x2.2.1.2.1,()))
abbrev zgO:Type:=(zC×zC×Unit)->Option (qK×Int×Unit)
def Wc:zgO:=opq (sF prg [(60,kz)] (zG [cdF zY,cdF zr] [] [] [] [60]) (zy []) 30 62 Md Me)
abbrev ni:Con:=⟨Md,Me,Wc⟩
theorem oH:Con.Ok prg 62 ni:=okF (ze uk zn) (by kernel_rfl)
theorem zaK(a0)(a1):Wc (a0,a1,())=Mf a0 a1:=zA (by kernel_rfl)
abbrev Sw:List VT:=[⟨false,I⟩,⟨false,I⟩,⟨false,I⟩]
abbrev Sx:List VT:=[⟨false,.bool⟩]
def Sz(a0:Int)(a1:Int)(a2:Int):Option (Bool×Unit):=bif !(zg a0 a1)then some ((!(zg a2 a0)),())else some (false,())
abbrev zi6:Type:=(Int×Int×Int×Unit)->Option (Bool×Unit)
def vE:zi6:=opq (sF prg [] (zG [] [] [] [] []) (zy []) 30 117 Sw Sx)
abbrev rU:Con:=⟨Sw,Sx,vE⟩
theorem AD:Con.Ok prg 117 rU:=okF zn (by kernel_rfl)
theorem zc2(a0)(a1)(a2):vE (a0,a1,a2,())=Sz a0 a1 a2:=zA (by kernel_rfl)
abbrev oI:List VT:=[⟨true,zX⟩]
abbrev oJ:List VT:=[⟨false,.bool⟩]
def oK(a0:qu):Option (Bool×Unit):=opt (opt (vE (a0.1,(0,(47,())))) fun x0=>bif !x0.1 then some (1,((false,()),()))else opt (vE (a0.2.1,(1,(4095,())))) fun x1=>bif !x1.1 then some (1,((false,()),()))else opt (vE (a0.2.2.2.1,(84,(1542,())))) fun x2=>bif !x2.1 then some (1,((false,()),()))else some (0,((false,()),()))) fun x3=>bif Nat.beq x3.1 0 then bif zj a0.2.2.1 6 then bif zj a0.2.2.2.2.1 0 then bif zj a0.2.2.2.2.2.1 0 then some ((zj a0.2.2.2.2.2.2 0),())else some (false,())else some (false,())else opt (bif !(zj a0.2.2.1 7)then some (1,((false,()),()))else opt (vE (a0.2.2.2.2.1,(1,(2400000,())))) fun x4=>bif !x4.1 then some (1,((false,()),()))else opt (vE (a0.2.2.2.2.2.1,((-1099511627776),(1099511627776,())))) fun x5=>bif !x5.1 then some (1,((false,()),()))else opt (vE (a0.2.2.2.2.2.2,((-1099511627776),(1099511627776,())))) fun x6=>bif !x6.1 then some (1,((false,()),()))else some (0,((x3.2.1.1,()),()))) fun x7=>bif Nat.beq x7.1 0 then bif !(zg a0.2.2.2.2.2.2 a0.2.2.2.2.2.1)then some ((zg (wrF .i64 (a0.2.2.2.2.2.2 - a0.2.2.2.2.2.1)) a0.2.2.2.2.1),())else some (false,())else some (x7.2.1.1,())else some (x3.2.1.1,())
abbrev zaL:Type:=(qu×Unit)->Option (Bool×Unit)
def YT:zaL:=opq (sF prg [(117,rU)] (zG [cdF zX] [] [] [] [117]) (zy []) 30 118 oI oJ)
abbrev oL:Con:=⟨oI,oJ,YT⟩
theorem HY:Con.Ok prg 118 oL:=okF (ze AD zn) (by kernel_rfl)
theorem HZ(a0):YT (a0,())=oK a0:=zA (by kernel_rfl)
abbrev SA:List VT:=[⟨false,I⟩,⟨false,I⟩,⟨false,I⟩]
abbrev SC:List VT:=[⟨false,.bool⟩]
def SD(a0:Int)(a1:Int)(a2:Int):Option (Bool×Unit):=bif !(zg a0 a1)then some ((!(zg a2 a0)),())else some (false,())
abbrev zi7:Type:=(Int×Int×Int×Unit)->Option (Bool×Unit)
def ZN:zi7:=opq (sF prg [] (zG [] [] [] [] []) (zy []) 30 181 SA SC)
abbrev rV:Con:=⟨SA,SC,ZN⟩
theorem AE:Con.Ok prg 181 rV:=okF zn (by kernel_rfl)
theorem zc3(a0)(a1)(a2):ZN (a0,a1,a2,())=SD a0 a1 a2:=zA (by kernel_rfl)
abbrev AF:List VT:=[⟨true,zr⟩,⟨true,zr⟩,⟨true,zY⟩]
abbrev AG:List VT:=[⟨false,I⟩]
def AH(a0:zC)(a1:zC)(a2:qK):Option (Int×Unit):=opt (Wc (a0,(a1,()))) fun x0=>bif !(zj x0.2.1 0)then some (x0.2.1,())else opt (opt (ZN (a2.1,(0,(1099511627776,())))) fun x1=>bif !x1.1 then some (1,((420,()),()))else opt (ZN (a2.2.1,(0,(x0.1.2.1,())))) fun x2=>bif !x2.1 then some (1,((420,()),()))else opt (ZN (a2.2.2,(0,(x0.1.2.2,())))) fun x3=>bif !x3.1 then some (1,((420,()),()))else some (0,((0,()),()))) fun x4=>bif Nat.beq x4.1 0 then some (0,())else some (x4.2.1.1,())
abbrev zc4:Type:=(zC×zC×qK×Unit)->Option (Int×Unit)
def JI:zc4:=opq (sF prg [(62,ni),(181,rV)] (zG [cdF zY,cdF zr] [] [] [] [62,181]) (zy []) 30 119 AF AG)
abbrev bI:Con:=⟨AF,AG,JI⟩
theorem fk:Con.Ok prg 119 bI:=okF (ze oH (ze AE zn)) (by kernel_rfl)
theorem NW(a0)(a1)(a2):JI (a0,a1,a2,())=AH a0 a1 a2:=zA (by kernel_rfl)
abbrev AI:List VT:=[⟨true,qv⟩]
abbrev AJ:List VT:=[⟨false,.bool⟩]
def AK(a0:zH):Option (Bool×Unit):=opt (bif(zg 64 ((a0.1.length:Nat):Int))then some (1,((false,()),()))else bif(zg 64 ((a0.2.1.length:Nat):Int))then some (1,((false,()),()))else bif(!(zj ((a0.2.2.2.1.length:Nat):Int) ((a0.1.length:Nat):Int)))then some (1,((false,()),()))else bif(!(zj ((a0.2.2.2.2.length:Nat):Int) ((a0.2.1.length:Nat):Int)))then some (1,((false,()),()))else opt (vE (a0.2.2.1,((-1000),(549755813888,())))) fun x0=>bif !x0.1 then some (1,((false,()),()))else some (0,((false,()),()))) fun x1=>bif Nat.beq x1.1 0 then opt (zI (fun s2:((Bool×(Int×Unit))×Unit)=>bif(zg s2.1.2.1 ((a0.1.length:Nat):Int))then opt (atI a0.1 s2.1.2.1) fun x3=>opt (opt (YT (x3,())) fun x4=>bif !x4.1 then some (1,((false,()),()))else opt (atI a0.2.2.2.1 s2.1.2.1) fun x5=>bif zg x5 (-1)then some (1,((false,()),()))else bif zj x3.2.2.1 6 then opt (atI a0.2.2.2.1 s2.1.2.1) fun x6=>bif(!(zj x6 (-1)))then some (1,((false,()),()))else some (0,((s2.1.1,()),()))else some (0,((s2.1.1,()),()))) fun x7=>bif Nat.beq x7.1 0 then opt (zI (fun s8:((Bool×(Int×Unit))×Unit)=>bif zg s8.1.2.1 s2.1.2.1 then opt (opt (atI a0.1 s8.1.2.1) fun x9=>bif zj x9.1 x3.1 then opt (atI a0.1 s8.1.2.1) fun x10=>bif zj x10.2.1 x3.2.1 then some (1,((false,()),()))else some (0,((s8.1.1,()),()))else some (0,((s8.1.1,()),()))) fun x11=>bif Nat.beq x11.1 0 then some (.inr ((x11.2.1.1,((wrF .i64 (s8.1.2.1+1)),())),()))else some (.inl (1,((x11.2.1.1,(s8.1.2.1,())),())))else some (.inl (0,((s8.1.1,(s8.1.2.1,())),())))) zR ((x7.2.1.1,(0,())),())) fun x12=>bif Nat.beq x12.1 0 then some (.inr ((x12.2.1.1,((wrF .i64 (s2.1.2.1+1)),())),()))else some (.inl (1,((x12.2.1.1,(s2.1.2.1,())),())))else some (.inl (1,((x7.2.1.1,(s2.1.2.1,())),())))else some (.inl (0,((s2.1.1,(s2.1.2.1,())),())))) zR ((x1.2.1.1,(0,())),())) fun x13=>bif Nat.beq x13.1 0 then opt (zI (fun s14:((Bool×(Int×Unit))×Unit)=>bif(zg s14.1.2.1 ((a0.2.1.length:Nat):Int))then opt (atI a0.2.1 s14.1.2.1) fun x15=>opt (opt (vE (x15.1,(0,(47,())))) fun x16=>bif !x16.1 then some (1,((false,()),()))else opt (atI a0.2.2.2.2 s14.1.2.1) fun x17=>opt (JI (x15.2.1,(x15.2.2,(x17,())))) fun x18=>bif !(zj x18.1 0)then some (1,((false,()),()))else opt (atI a0.2.2.2.2 s14.1.2.1) fun x19=>bif(zg (wrF .i64 (a0.2.2.1+1000)) x19.1)then some (1,((false,()),()))else some (0,((s14.1.1,()),()))) fun x20=>bif Nat.beq x20.1 0 then opt (zI (fun s21:((Bool×(Int×Unit))×Unit)=>bif zg s21.1.2.1 s14.1.2.1 then opt (atI a0.2.1 s21.1.2.1) fun x22=>bif zj x22.1 x15.1 then some (.inl (1,((false,(s21.1.2.1,())),())))else some (.inr ((s21.1.1,((wrF .i64 (s21.1.2.1+1)),())),()))else some (.inl (0,((s21.1.1,(s21.1.2.1,())),())))) zR ((x20.2.1.1,(0,())),())) fun x23=>bif Nat.beq x23.1 0 then some (.inr ((x23.2.1.1,((wrF .i64 (s14.1.2.1+1)),())),()))else some (.inl (1,((x23.2.1.1,(s14.1.2.1,())),())))else some (.inl (1,((x20.2.1.1,(s14.1.2.1,())),())))else some (.inl (0,((s14.1.1,(s14.1.2.1,())),())))) zR ((x13.2.1.1,(0,())),())) fun x24=>bif Nat.beq x24.1 0 then some (true,())else some (x24.2.1.1,())else some (x13.2.1.1,())else some (x1.2.1.1,())
abbrev zc5:Type:=(zH×Unit)->Option (Bool×Unit)
def JJ:zc5:=opq (sF prg [(117,rU),(118,oL),(119,bI)] (zG [cdF qv,cdF zX,cdF qg,cdF zY,cdF zr] [] [] [] [117,118,119]) (zy []) 30 63 AI AJ)
abbrev bJ:Con:=⟨AI,AJ,JJ⟩
theorem fm:Con.Ok prg 63 bJ:=okF (ze AD (ze HY (ze fk zn))) (by kernel_rfl)
theorem NX(a0):JJ (a0,())=AK a0:=zA (by kernel_rfl)
abbrev Mg:List VT:=[⟨false,(.list zX)⟩,⟨false,(.list qg)⟩]
abbrev Mh:List VT:=[⟨true,qv⟩,⟨false,.bool⟩]
def Mi(a0:(List qu))(a1:(List jO)):Option (zH×Bool×Unit):=opt (zI (fun s0:((Unit×(Int×Unit))×(((List (Int×(Int×(Int×(Int×(Int×(Int×Int)))))))×((List (Int×((Int×Int)×(Int×Int))))×(Int×((List Int)×((List (Int×(Int×Int)))×Unit)))))×Unit))=>bif(zg s0.1.2.1 ((a0.length:Nat):Int))then bif(qe s0.2.1.2.2.2.1.length (((-1)::[]).length) 8)then some (.inr (((),((wrF .i64 (s0.1.2.1+1)),())),((s0.2.1.1,(s0.2.1.2.1,(s0.2.1.2.2.1,((s0.2.1.2.2.2.1++((-1)::[])),(s0.2.1.2.2.2.2.1,()))))),())))else none else some (.inl (0,(((),(s0.1.2.1,())),((s0.2.1.1,(s0.2.1.2.1,(s0.2.1.2.2.1,(s0.2.1.2.2.2.1,(s0.2.1.2.2.2.2.1,()))))),()))))) zR (((),(0,())),((a0,(a1,((-1000),([],([],()))))),()))) fun x1=>opt (zI (fun s2:((((List (Int×(Int×(Int×(Int×(Int×(Int×Int)))))))×((List (Int×((Int×Int)×(Int×Int))))×(Int×((List Int)×(List (Int×(Int×Int)))))))×(Unit×(Bool×(Int×Unit))))×(((List (Int×(Int×(Int×(Int×(Int×(Int×Int)))))))×((List (Int×((Int×Int)×(Int×Int))))×(Int×((List Int)×((List (Int×(Int×Int)))×Unit)))))×Unit))=>bif(zg s2.1.2.2.2.1 ((a1.length:Nat):Int))then opt (atI a1 s2.1.2.2.2.1) fun x3=>opt (atI a1 s2.1.2.2.2.1) fun x4=>opt (Wc (x3.2.1,(x4.2.2,()))) fun x5=>bif !(zj x5.2.1 0)then some (.inl (1,((([],([],(0,([],[])))),((),(false,(s2.1.2.2.2.1,())))),((s2.2.1.1,(s2.2.1.2.1,(s2.2.1.2.2.1,(s2.2.1.2.2.2.1,(s2.2.1.2.2.2.2.1,()))))),()))))else bif(qe s2.2.1.2.2.2.2.1.length ((x5.1::[]).length) 24)then some (.inr ((s2.1.1,((),(s2.1.2.2.1,((wrF .i64 (s2.1.2.2.2.1+1)),())))),((s2.2.1.1,(s2.2.1.2.1,(s2.2.1.2.2.1,(s2.2.1.2.2.2.1,((s2.2.1.2.2.2.2.1++(x5.1::[])),()))))),())))else none else some (.inl (0,((s2.1.1,((),(s2.1.2.2.1,(s2.1.2.2.2.1,())))),((s2.2.1.1,(s2.2.1.2.1,(s2.2.1.2.2.1,(s2.2.1.2.2.2.1,(s2.2.1.2.2.2.2.1,()))))),()))))) zR ((([],([],(0,([],[])))),((),(false,(0,())))),((x1.2.2.1.1,(x1.2.2.1.2.1,(x1.2.2.1.2.2.1,(x1.2.2.1.2.2.2.1,(x1.2.2.1.2.2.2.2.1,()))))),()))) fun x6=>bif Nat.beq x6.1 0 then opt (JJ ((x6.2.2.1.1,(x6.2.2.1.2.1,(x6.2.2.1.2.2.1,(x6.2.2.1.2.2.2.1,x6.2.2.1.2.2.2.2.1)))),())) fun x7=>bif !x7.1 then some (([],([],(0,([],[])))),(false,()))else some ((x6.2.2.1.1,(x6.2.2.1.2.1,(x6.2.2.1.2.2.1,(x6.2.2.1.2.2.2.1,x6.2.2.1.2.2.2.2.1)))),(true,()))else some (x6.2.1.1,(x6.2.1.2.2.1,()))
abbrev zgP:Type:=((List qu)×(List jO)×Unit)->Option (zH×Bool×Unit)
def Wd:zgP:=opq (sF prg [(62,ni),(63,bJ)] (zG [⟨qv,wk qv,[3,4]⟩,cdF zX,cdF qg,cdF zY,cdF zr] [] [] [(3,59,6,[3,4]),(7,59,6,[4]),(3,59,6,[3]),(7,59,6,[4])] [62,63]) (zy []) 30 25 Mg Mh)
abbrev Mj:Con:=⟨Mg,Mh,Wd⟩
theorem zaM:Con.Ok prg 25 Mj:=okF (ze oH (ze fm zn)) (by kernel_rfl)
theorem zaN(a0)(a1):Wd (a0,a1,())=Mi a0 a1:=zA (by kernel_rfl)
abbrev KW:List VT:=[⟨true,vy⟩,⟨false,I⟩]
abbrev KY:List VT:=[⟨true,qR⟩]
def EM(a0:vl)(a1:Int):Option (zK×Unit):=opt (atI a0.2.2.2.1 a1) fun x0=>opt (zI (fun s1:(((Int×((List Bool)×(List (Int×(Int×(Int×Int))))))×((Int×(Int×(Int×Int)))×((((Int×((List Bool)×(List (Int×(Int×(Int×Int))))))×((Int×(Int×(Int×Int)))×((List ((List (Int×Int))×Int))×Int)))×((List (Int×(Int×(Int×(Int×(Int×(Int×((Int×Int)×(Int×(List (List Int)))))))))))×((List Int)×((List Int)×((List (Int×((Int×Int)×(Int×Int))))×(Int×Int))))))×(Unit×(Int×Unit)))))×((Int×(((List (Int×(Int×(Int×(Int×(Int×(Int×Int)))))))×((List (Int×((Int×Int)×(Int×Int))))×(Int×((List Int)×(List (Int×(Int×Int)))))))×((List (Int×((Int×Int)×(Int×(Int×Int)))))×((List (Int×(Int×(Int×Int))))×((List (Int×(Int×(Bool×(Int×(Int×Int))))))×Unit)))))×((List (Int×(Int×(Int×(Int×(Int×(Int×Int)))))))×Unit)))=>bif(zg s1.1.2.2.2.2.1 ((s1.1.2.2.1.2.1.length:Nat):Int))then opt (atI s1.1.2.2.1.2.1 s1.1.2.2.2.2.1) fun x2=>opt (gy (s1.1.2.2.1,(s1.1.2.2.2.2.1,()))) fun x3=>opt (zI (fun s4:(((Int×((List Bool)×(List (Int×(Int×(Int×Int))))))×((Int×(Int×(Int×Int)))×((Int×(Int×(Int×(Int×(Int×(Int×((Int×Int)×(Int×(List (List Int))))))))))×((((Int×((List Bool)×(List (Int×(Int×(Int×Int))))))×((Int×(Int×(Int×Int)))×((List ((List (Int×Int))×Int))×Int)))×((List (Int×(Int×(Int×(Int×(Int×(Int×((Int×Int)×(Int×(List (List Int)))))))))))×((List Int)×((List Int)×((List (Int×((Int×Int)×(Int×Int))))×(Int×Int))))))×(Unit×(Int×Unit))))))×((Int×(((List (Int×(Int×(Int×(Int×(Int×(Int×Int)))))))×((List (Int×((Int×Int)×(Int×Int))))×(Int×((List Int)×(List (Int×(Int×Int)))))))×((List (Int×((Int×Int)×(Int×(Int×Int)))))×((List (Int×(Int×(Int×Int))))×((List (Int×(Int×(Bool×(Int×(Int×Int))))))×Unit)))))×((List (Int×(Int×(Int×(Int×(Int×(Int×Int)))))))×Unit)))=>bif(zg s4.1.2.2.2.2.2.1 ((s4.1.2.2.1.2.2.2.2.2.2.2.2.length:Nat):Int))then opt (atI s4.1.2.2.1.2.2.2.2.2.2.2.2 s4.1.2.2.2.2.2.1) fun x5=>opt (zI (fun s6:(((Int×((List Bool)×(List (Int×(Int×(Int×Int))))))×((Int×(Int×(Int×Int)))×((Int×(Int×(Int×(Int×(Int×(Int×((Int×Int)×(Int×(List (List Int))))))))))×((((Int×((List Bool)×(List (Int×(Int×(Int×Int))))))×((Int×(Int×(Int×Int)))×((List ((List (Int×Int))×Int))×Int)))×((List (Int×(Int×(Int×(Int×(Int×(Int×((Int×Int)×(Int×(List (List Int)))))))))))×((List Int)×((List Int)×((List (Int×((Int×Int)×(Int×Int))))×(Int×Int))))))×(Unit×(Int×Unit))))))×((Int×(((List (Int×(Int×(Int×(Int×(Int×(Int×Int)))))))×((List (Int×((Int×Int)×(Int×Int))))×(Int×((List Int)×(List (Int×(Int×Int)))))))×((List (Int×((Int×Int)×(Int×(Int×Int)))))×((List (Int×(Int×(Int×Int))))×((List (Int×(Int×(Bool×(Int×(Int×Int))))))×Unit)))))×((List (Int×(Int×(Int×(Int×(Int×(Int×Int)))))))×Unit)))=>bif(zg s6.1.2.2.2.2.2.1 ((x5.length:Nat):Int))then opt (atI x5 s6.1.2.2.2.2.2.1) fun x7=>opt (yd (s6.1.1,(x7,()))) fun x8=>bif !(zj x8.1 a1)then some (.inr ((s6.1.1,(s6.1.2.1,(s6.1.2.2.1,(s6.1.2.2.2.1,((),((wrF .i64 (s6.1.2.2.2.2.2.1+1)),())))))),((s6.2.1.1,(s6.2.1.2.1,(s6.2.1.2.2.1,(s6.2.1.2.2.2.1,(s6.2.1.2.2.2.2.1,()))))),(s6.2.2.1,()))))else opt (atI x5 (wrF .i64 (s6.1.2.2.2.2.2.1 - 1))) fun x9=>opt (atI x5 s6.1.2.2.2.2.2.1) fun x10=>opt (bif zj s6.1.2.2.1.2.2.2.1 7 then opt (xI (s6.1.1,(s6.1.2.1,(s6.1.2.2.1,(x5,()))))) fun x11=>opt (atI x11.1 s6.1.2.2.2.2.2.1) fun x12=>some (0,((s6.1.1,(s6.1.2.1,(s6.1.2.2.1,((x9,(s6.1.2.2.1.1,(s6.1.2.2.1.2.2.2.1,(s6.1.2.2.1.2.2.2.2.1,((wrF .i64 (s6.1.2.2.1.2.2.2.2.2.1*s6.1.2.1.1)),((wrF .i64 (x12.2.1+(wrF .i64 (x3.1*s6.1.2.1.1)))),(wrF .i64 (x12.2.2.1+(wrF .i64 (x3.1*s6.1.2.1.1)))))))))),(s6.1.2.2.2.1,(((x10,0),((0,0),(0,0))),())))))),()))else opt (um (s6.1.2.2.2.1.2.1,())) fun x13=>opt (atI x5 (wrF .i64 (s6.1.2.2.2.2.2.1 - 1))) fun x14=>opt (Wb (s6.1.2.2.2.1.1,(x13.1,(x14,())))) fun x15=>opt (XG (s6.1.2.2.1.2.2.2.2.2.2.1,())) fun x16=>some (0,((s6.1.1,(s6.1.2.1,(s6.1.2.2.1,((x9,(s6.1.2.2.1.1,(s6.1.2.2.1.2.2.2.1,(s6.1.2.2.1.2.2.2.2.1,(0,(0,0)))))),(s6.1.2.2.2.1,(((x10,s6.1.2.2.1.2.2.2.2.2.2.1.1),((s6.1.2.2.1.2.2.2.2.2.2.1.2,x15.1.2.2.1),x16.1)),())))))),()))) fun x17=>bif(qe s6.2.2.1.length ((x17.2.1.2.2.2.1::[]).length) 56)then bif(qe s6.2.1.2.2.1.length (((x17.2.1.2.2.2.2.2.1.1.1,((x17.2.1.2.2.2.2.2.1.1.2,x17.2.1.2.2.2.2.2.1.2.1.1),(x17.2.1.2.2.2.2.2.1.2.1.2,x17.2.1.2.2.2.2.2.1.2.2)))::[]).length) 48)then some (.inr ((x17.2.1.1,(x17.2.1.2.1,(x17.2.1.2.2.1,(x17.2.1.2.2.2.2.1,((),((wrF .i64 (s6.1.2.2.2.2.2.1+1)),())))))),((s6.2.1.1,(s6.2.1.2.1,((s6.2.1.2.2.1++((x17.2.1.2.2.2.2.2.1.1.1,((x17.2.1.2.2.2.2.2.1.1.2,x17.2.1.2.2.2.2.2.1.2.1.1),(x17.2.1.2.2.2.2.2.1.2.1.2,x17.2.1.2.2.2.2.2.1.2.2)))::[])),(s6.2.1.2.2.2.1,(s6.2.1.2.2.2.2.1,()))))),((s6.2.2.1++(x17.2.1.2.2.2.1::[])),()))))else none else none else some (.inl (0,((s6.1.1,(s6.1.2.1,(s6.1.2.2.1,(s6.1.2.2.2.1,((),(s6.1.2.2.2.2.2.1,())))))),((s6.2.1.1,(s6.2.1.2.1,(s6.2.1.2.2.1,(s6.2.1.2.2.2.1,(s6.2.1.2.2.2.2.1,()))))),(s6.2.2.1,())))))) zR ((s4.1.1,(s4.1.2.1,(s4.1.2.2.1,(s4.1.2.2.2.1,((),(1,())))))),((s4.2.1.1,(s4.2.1.2.1,(s4.2.1.2.2.1,(s4.2.1.2.2.2.1,(s4.2.1.2.2.2.2.1,()))))),(s4.2.2.1,())))) fun x18=>some (.inr ((x18.2.1.1,(x18.2.1.2.1,(x18.2.1.2.2.1,(x18.2.1.2.2.2.1,((),((wrF .i64 (s4.1.2.2.2.2.2.1+1)),())))))),((x18.2.2.1.1,(x18.2.2.1.2.1,(x18.2.2.1.2.2.1,(x18.2.2.1.2.2.2.1,(x18.2.2.1.2.2.2.2.1,()))))),(x18.2.2.2.1,()))))else some (.inl (0,((s4.1.1,(s4.1.2.1,(s4.1.2.2.1,(s4.1.2.2.2.1,((),(s4.1.2.2.2.2.2.1,())))))),((s4.2.1.1,(s4.2.1.2.1,(s4.2.1.2.2.1,(s4.2.1.2.2.2.1,(s4.2.1.2.2.2.2.1,()))))),(s4.2.2.1,())))))) zR ((s1.1.1,(s1.1.2.1,(x2,(s1.1.2.2.1,((),(0,())))))),((s1.2.1.1,(s1.2.1.2.1,(s1.2.1.2.2.1,(s1.2.1.2.2.2.1,(s1.2.1.2.2.2.2.1,()))))),(s1.2.2.1,())))) fun x19=>opt (bif zj x19.2.1.2.2.1.2.2.1 a1 then opt (zI (fun s20:((Unit×(Int×Unit))×((Int×(((List (Int×(Int×(Int×(Int×(Int×(Int×Int)))))))×((List (Int×((Int×Int)×(Int×Int))))×(Int×((List Int)×(List (Int×(Int×Int)))))))×((List (Int×((Int×Int)×(Int×(Int×Int)))))×((List (Int×(Int×(Int×Int))))×((List (Int×(Int×(Bool×(Int×(Int×Int))))))×Unit)))))×Unit))=>bif(zg s20.1.2.1 ((x19.2.1.2.2.1.2.2.2.2.2.2.2.2.length:Nat):Int))then opt (atI x19.2.1.2.2.1.2.2.2.2.2.2.2.2 s20.1.2.1) fun x21=>opt (atI x19.2.1.2.2.1.2.2.2.2.2.2.2.2 s20.1.2.1) fun x22=>opt (atI x21 (wrF .i64 (((x22.length:Nat):Int) - 1))) fun x23=>bif(qe s20.2.1.2.2.2.1.length (((x23,(x19.2.1.2.2.1.1,(x19.2.1.2.2.1.2.2.2.1,((s20.2.1.2.2.2.2.1.length:Nat):Int))))::[]).length) 32)then some (.inr (((),((wrF .i64 (s20.1.2.1+1)),())),((s20.2.1.1,(s20.2.1.2.1,(s20.2.1.2.2.1,((s20.2.1.2.2.2.1++((x23,(x19.2.1.2.2.1.1,(x19.2.1.2.2.1.2.2.2.1,((s20.2.1.2.2.2.2.1.length:Nat):Int))))::[])),(s20.2.1.2.2.2.2.1,()))))),())))else none else some (.inl (0,(((),(s20.1.2.1,())),((s20.2.1.1,(s20.2.1.2.1,(s20.2.1.2.2.1,(s20.2.1.2.2.2.1,(s20.2.1.2.2.2.2.1,()))))),()))))) zR (((),(0,())),((x19.2.2.1.1,(x19.2.2.1.2.1,(x19.2.2.1.2.2.1,(x19.2.2.1.2.2.2.1,(x19.2.2.1.2.2.2.2.1,()))))),()))) fun x24=>opt (XH (x19.2.1.2.2.2.1.2.2.2.2.2.1,(x19.2.1.2.2.2.1.2.2.2.2.2.2,()))) fun x25=>bif(qe x24.2.2.1.2.2.2.2.1.length ((x25.1::[]).length) 48)then some (0,(((),()),((x24.2.2.1.1,(x24.2.2.1.2.1,(x24.2.2.1.2.2.1,(x24.2.2.1.2.2.2.1,((x24.2.2.1.2.2.2.2.1++(x25.1::[])),()))))),())))else none else some (0,(((),()),((x19.2.2.1.1,(x19.2.2.1.2.1,(x19.2.2.1.2.2.1,(x19.2.2.1.2.2.2.1,(x19.2.2.1.2.2.2.2.1,()))))),())))) fun x26=>some (.inr ((x19.2.1.1,(x19.2.1.2.1,(x19.2.1.2.2.2.1,((),((wrF .i64 (s1.1.2.2.2.2.1+1)),()))))),((x26.2.2.1.1,(x26.2.2.1.2.1,(x26.2.2.1.2.2.1,(x26.2.2.1.2.2.2.1,(x26.2.2.1.2.2.2.2.1,()))))),(x19.2.2.2.1,()))))else some (.inl (0,((s1.1.1,(s1.1.2.1,(s1.1.2.2.1,((),(s1.1.2.2.2.2.1,()))))),((s1.2.1.1,(s1.2.1.2.1,(s1.2.1.2.2.1,(s1.2.1.2.2.2.1,(s1.2.1.2.2.2.2.1,()))))),(s1.2.2.1,())))))) zR ((a0.1.1,(a0.1.2.1,(a0,((),(0,()))))),((x0,(([],([],(0,([],[])))),([],([],([],()))))),([],())))) fun x27=>opt (zI (fun s28:((Int×Unit)×((List (Int×((Int×Int)×(Int×Int))))×Unit))=>bif(zg s28.1.1 ((x27.2.1.2.2.1.2.2.2.2.1.length:Nat):Int))then opt (opt (atI x27.2.1.2.2.1.2.2.2.2.1 s28.1.1) fun x29=>opt (jQ (x27.2.1.1,(x29.1,()))) fun x30=>bif zj x30.1 a1 then opt (atI x27.2.1.2.2.1.2.2.2.2.1 s28.1.1) fun x31=>bif(qe s28.2.1.length ((x31::[]).length) 40)then some (0,((),((s28.2.1++(x31::[])),())))else none else some (0,((),(s28.2.1,())))) fun x32=>some (.inr (((wrF .i64 (s28.1.1+1)),()),(x32.2.2.1,())))else some (.inl (0,((s28.1.1,()),(s28.2.1,()))))) zR ((0,()),([],()))) fun x33=>opt (Wd (x27.2.2.2.1,(x33.2.2.1,()))) fun x34=>some ((x27.2.2.1.1,(x34.1,(x27.2.2.1.2.2.1,(x27.2.2.1.2.2.2.1,x27.2.2.1.2.2.2.2.1)))),())
abbrev zfK:Type:=(vl×Int×Unit)->Option (zK×Unit)
def uM:zfK:=opq (sF prg [(17,oB),(18,gM),(19,XB),(21,fi),(20,LQ),(22,LV),(23,Mc),(24,YJ),(25,Mj)] (zG [⟨qR,wk qR,[6,7,8]⟩,cdF vy,cdF qv,cdF jB,cdF zN,cdF zX,cdF Qg,cdF zS,cdF jg,cdF qj,cdF qg,cdF gu,cdF qA,cdF qF,cdF zY,cdF je] [] [⟨5,247,some 8,zX,true⟩,⟨5,247,some 23,qg,true⟩,⟨10,247,some 8,zX,true⟩,⟨10,247,some 23,qg,true⟩,⟨14,247,some 8,zX,true⟩,⟨14,247,some 23,qg,true⟩,⟨16,247,some 8,zX,true⟩,⟨16,247,some 23,qg,true⟩,⟨19,247,some 8,zX,true⟩,⟨19,247,some 23,qg,true⟩,⟨27,247,some 8,zX,true⟩,⟨27,247,some 23,qg,true⟩,⟨29,247,some 8,zX,true⟩,⟨29,247,some 23,qg,true⟩,⟨35,247,some 8,zX,true⟩,⟨35,247,some 23,qg,true⟩,⟨37,247,some 8,zX,true⟩,⟨37,247,some 23,qg,true⟩] [(5,247,7,[6,7,8]),(10,247,7,[6,7,8]),(14,247,7,[6,7,8]),(27,247,7,[6,7,8]),(29,247,7,[6,7,8]),(5,247,7,[6,7,8]),(10,247,7,[6]),(14,247,7,[6]),(27,247,7,[7,8]),(29,247,7,[7])] [17,18,20,22,23,24]) (zy []) 40 6 KW KY)
abbrev zfL:Con:=⟨KW,KY,uM⟩
theorem SE:Con.Ok prg 6 zfL:=okF (ze HQ (ze uW (ze YK (ze BM (ze zaC (ze zaE (ze zaI (ze JA (ze zaM zn))))))))) (by kernel_rfl)
theorem SF(a0)(a1):uM (a0,a1,())=EM a0 a1:=zA (by kernel_rfl)
abbrev ZO:List VT:=[⟨true,vz⟩,⟨true,qR⟩]
abbrev ZP:List VT:=[⟨false,I⟩,⟨true,qI⟩]
def aV(a0:wu)(a1:zK):Option (Int×zM×Unit):=opt (bif zg 0 (Int.tmod a0.2.2.1 4)then bif(zg 0 ((a1.2.1.1.length:Nat):Int))then bif(zj ((a1.2.1.1.length:Nat):Int) 0)then none else opt (atI a1.2.1.1 (Int.tmod (wrF .i64 a0.2.1) ((a1.2.1.1.length:Nat):Int))) fun x0=>some (1,(((x0.2.1,(((wrF .i64 a0.2.2.1),x0.2.2.1),((wrF .i64 (x0.2.2.2.1 - (Int.tmod (wrF .i64 (Int.tdiv (wrF .i64 a0.2.2.1) 64)) 2))),0))),(x0.1,())),()))else some (0,(((0,((0,0),(0,0))),(0,())),()))else some (0,(((0,((0,0),(0,0))),(0,())),()))) fun x1=>bif Nat.beq x1.1 0 then opt (bif zj (Int.tmod a0.2.2.1 4) 1 then bif(zg 0 ((a1.2.2.2.1.length:Nat):Int))then bif(zj ((a1.2.2.2.1.length:Nat):Int) 0)then none else opt (atI a1.2.2.2.1 (Int.tmod (wrF .i64 a0.2.1) ((a1.2.2.2.1.length:Nat):Int))) fun x2=>some (1,(((x2.2.1,(((wrF .i64 (Int.tdiv (wrF .i64 a0.2.2.1) 16)),x2.2.2.1),(84,0))),(x2.1,())),()))else some (0,((x1.2.1.1,(x1.2.1.2.1,())),()))else some (0,((x1.2.1.1,(x1.2.1.2.1,())),()))) fun x3=>bif Nat.beq x3.1 0 then some ((Int.tmod (wrF .i64 a0.2.1) 50),(a0.2.2.2,()))else some (x3.2.1.2.1,((x3.2.1.1.1,(x3.2.1.1.2.1.1,(x3.2.1.1.2.1.2,x3.2.1.1.2.2))),()))else some (x1.2.1.2.1,((x1.2.1.1.1,(x1.2.1.1.2.1.1,(x1.2.1.1.2.1.2,x1.2.1.1.2.2))),()))
abbrev EN:Type:=(wu×zK×Unit)->Option (Int×zM×Unit)
def yj:EN:=opq (sF prg [] (zG [cdF qR,cdF qv,cdF vz,cdF zX,cdF jg,cdF qj,cdF qg,cdF qI,cdF yC,cdF zY,cdF zr] [] [] [] []) (zy []) 30 7 ZO ZP)
abbrev EO:Con:=⟨ZO,ZP,yj⟩
theorem oM:Con.Ok prg 7 EO:=okF zn (by kernel_rfl)
theorem oN(a0)(a1):yj (a0,a1,())=aV a0 a1:=zA (by kernel_rfl)
abbrev Wv:List VT:=[⟨false,I⟩,⟨false,I⟩,⟨false,I⟩]
abbrev Ww:List VT:=[⟨false,.bool⟩]
def lY(a0:Int)(a1:Int)(a2:Int):Option (Bool×Unit):=bif !(zg a0 a1)then some ((!(zg a2 a0)),())else some (false,())
abbrev lZ:Type:=(Int×Int×Int×Unit)->Option (Bool×Unit)
def qZ:lZ:=opq (sF prg [] (zG [] [] [] [] []) (zy []) 30 88 Wv Ww)
abbrev ZQ:Con:=⟨Wv,Ww,qZ⟩
theorem uN:Con.Ok prg 88 ZQ:=okF zn (by kernel_rfl)
theorem EP(a0)(a1)(a2):qZ (a0,a1,a2,())=lY a0 a1 a2:=zA (by kernel_rfl)
abbrev KZ:List VT:=[⟨true,zX⟩]
abbrev Ua:List VT:=[⟨false,.bool⟩]
def Ub(a0:qu):Option (Bool×Unit):=opt (opt (qZ (a0.1,(0,(47,())))) fun x0=>bif !x0.1 then some (1,((false,()),()))else opt (qZ (a0.2.1,(1,(4095,())))) fun x1=>bif !x1.1 then some (1,((false,()),()))else opt (qZ (a0.2.2.2.1,(84,(1542,())))) fun x2=>bif !x2.1 then some (1,((false,()),()))else some (0,((false,()),()))) fun x3=>bif Nat.beq x3.1 0 then bif zj a0.2.2.1 7 then opt (qZ (a0.2.2.2.2.1,(1,(2400000,())))) fun x4=>bif x4.1 then opt (qZ (a0.2.2.2.2.2.1,((-1099511627776),(1099511627776,())))) fun x5=>bif x5.1 then opt (qZ (a0.2.2.2.2.2.2,((-1099511627776),(1099511627776,())))) fun x6=>bif x6.1 then opt (qZ ((wrF .i64 (a0.2.2.2.2.2.2 - a0.2.2.2.2.2.1)),(0,((wrF .i64 (a0.2.2.2.2.1 - 1)),())))) fun x7=>some (x7.1,())else some (false,())else some (false,())else some (false,())else bif zj a0.2.2.1 6 then some (((zj a0.1 a0.1)&&((zj a0.2.1 a0.2.1)&&((zj a0.2.2.1 a0.2.2.1)&&((zj a0.2.2.2.1 a0.2.2.2.1)&&((zj a0.2.2.2.2.1 0)&&((zj a0.2.2.2.2.2.1 0)&&((zj a0.2.2.2.2.2.2 0)&&true))))))),())else some (false,())else some (x3.2.1.1,())
abbrev rW:Type:=(qu×Unit)->Option (Bool×Unit)
def kY:rW:=opq (sF prg [(88,ZQ)] (zG [cdF zX] [] [] [] [88]) (zy []) 30 151 KZ Ua)
abbrev Uc:Con:=⟨KZ,Ua,kY⟩
theorem iG:Con.Ok prg 151 Uc:=okF (ze uN zn) (by kernel_rfl)
theorem iH(a0):kY (a0,())=Ub a0:=zA (by kernel_rfl)
abbrev Gc:List VT:=[⟨false,I⟩,⟨false,I⟩,⟨false,I⟩]
abbrev Gd:List VT:=[⟨false,.bool⟩]
def Ge(a0:Int)(a1:Int)(a2:Int):Option (Bool×Unit):=bif !(zg a0 a1)then some ((!(zg a2 a0)),())else some (false,())
abbrev BO:Type:=(Int×Int×Int×Unit)->Option (Bool×Unit)
def vT:BO:=opq (sF prg [] (zG [] [] [] [] []) (zy []) 30 157 Gc Gd)
abbrev Gf:Con:=⟨Gc,Gd,vT⟩
theorem nj:Con.Ok prg 157 Gf:=okF zn (by kernel_rfl)
theorem nk(a0)(a1)(a2):vT (a0,a1,a2,())=Ge a0 a1 a2:=zA (by kernel_rfl)
abbrev oO:List VT:=[⟨true,zr⟩]
abbrev oP:List VT:=[⟨false,I⟩]
def oQ(a0:zC):Option (Int×Unit):=opt (opt (vT (a0.1,(1,(1048576,())))) fun x0=>bif !x0.1 then some (1,((130,()),()))else opt (vT (a0.2,(1,(2097152,())))) fun x1=>bif !x1.1 then some (1,((130,()),()))else some (0,((0,()),()))) fun x2=>bif Nat.beq x2.1 0 then some (0,())else some (x2.2.1.1,())
abbrev zaO:Type:=(zC×Unit)->Option (Int×Unit)
def uo:zaO:=opq (sF prg [(157,Gf)] (zG [cdF zr] [] [] [] [157]) (zy []) 30 90 oO oP)
abbrev YU:Con:=⟨oO,oP,uo⟩
theorem Xo:Con.Ok prg 90 YU:=okF (ze nj zn) (by kernel_rfl)
theorem Ia(a0):uo (a0,())=oQ a0:=zA (by kernel_rfl)
abbrev ER:List VT:=[⟨true,zr⟩,⟨true,zr⟩]
abbrev ES:List VT:=[⟨true,gx⟩]
def fo(a0:zC)(a1:zC):Option (xM×Unit):=some (((wrF .i64 (a0.1*1048576)),(wrF .i64 (a1.1*1048576))),())
abbrev zfM:Type:=(zC×zC×Unit)->Option (xM×Unit)
def Ud:zfM:=opq (sF prg [] (zG [cdF zr] [] [] [] []) (zy []) 30 223 ER ES)
abbrev fu:Con:=⟨ER,ES,Ud⟩
theorem ma:Con.Ok prg 223 fu:=okF zn (by kernel_rfl)
theorem mc(a0)(a1):Ud (a0,a1,())=fo a0 a1:=zA (by kernel_rfl)
abbrev Mk:List VT:=[⟨true,zr⟩,⟨true,zr⟩]
abbrev Ml:List VT:=[⟨true,zY⟩,⟨false,I⟩]
def Mm(a0:zC)(a1:zC):Option (qK×Int×Unit):=opt (uo (a0,())) fun x0=>bif !(zj x0.1 0)then some ((0,(0,0)),(x0.1,()))else opt (uo (a1,())) fun x1=>bif !(zj x1.1 0)then some ((0,(0,0)),(x1.1,()))else bif zg a1.2 a0.2 then some ((0,(0,0)),(2,()))else opt (Ud (a0,(a1,()))) fun x2=>some ((0,x2.1),(0,()))
abbrev zgQ:Type:=(zC×zC×Unit)->Option (qK×Int×Unit)
def XI:zgQ:=opq (sF prg [(90,YU),(223,fu)] (zG [cdF zY,cdF zr] [] [] [] [90,223]) (zy []) 30 156 Mk Ml)
abbrev nm:Con:=⟨Mk,Ml,XI⟩
theorem oR:Con.Ok prg 156 nm:=okF (ze Xo (ze ma zn)) (by kernel_rfl)
theorem zaP(a0)(a1):XI (a0,a1,())=Mm a0 a1:=zA (by kernel_rfl)
abbrev Ue:List VT:=[⟨true,qg⟩]
abbrev Uf:List VT:=[⟨false,.bool⟩]
def Ug(a0:jO):Option (Bool×Unit):=opt (XI (a0.2.1,(a0.2.2,()))) fun x0=>opt (qZ (a0.1,(0,(47,())))) fun x1=>bif x1.1 then some ((zj x0.2.1 0),())else some (false,())
abbrev rX:Type:=(jO×Unit)->Option (Bool×Unit)
def kZ:rX:=opq (sF prg [(156,nm),(88,ZQ)] (zG [cdF qg,cdF zY,cdF zr] [] [] [] [156,88]) (zy []) 30 154 Ue Uf)
abbrev Uh:Con:=⟨Ue,Uf,kZ⟩
theorem iI:Con.Ok prg 154 Uh:=okF (ze oR (ze uN zn)) (by kernel_rfl)
theorem iJ(a0):kZ (a0,())=Ug a0:=zA (by kernel_rfl)
abbrev md:List VT:=[⟨false,(.list zX)⟩,⟨false,(.list qg)⟩]
abbrev me:List VT:=[⟨false,.bool⟩]
def mf(a0:(List qu))(a1:(List jO)):Option (Bool×Unit):=opt (bif(zg 64 ((a0.length:Nat):Int))then some (1,((false,()),()))else bif(zg 64 ((a1.length:Nat):Int))then some (1,((false,()),()))else some (0,((false,()),()))) fun x0=>bif Nat.beq x0.1 0 then opt (zI (fun s1:((Bool×(Int×Unit))×Unit)=>bif(zg s1.1.2.1 ((a0.length:Nat):Int))then opt (atI a0 s1.1.2.1) fun x2=>opt (opt (kY (x2,())) fun x3=>bif !x3.1 then some (1,((x2,(false,())),()))else opt (zI (fun s4:(((Int×(Int×(Int×(Int×(Int×(Int×Int))))))×(Int×(Int×Unit)))×Unit)=>bif(zg s4.1.2.2.1 ((a0.length:Nat):Int))then opt (atI a0 s4.1.2.2.1) fun x5=>bif zj x5.1 s4.1.1.1 then bif zj x5.2.1 s4.1.1.2.1 then some (.inl (1,((s4.1.1,(s4.1.2.2.1,(s4.1.2.2.1,()))),())))else some (.inr ((s4.1.1,(s4.1.2.1,((wrF .i64 (s4.1.2.2.1+1)),()))),()))else some (.inr ((s4.1.1,(s4.1.2.1,((wrF .i64 (s4.1.2.2.1+1)),()))),()))else some (.inl (0,((s4.1.1,(s4.1.2.1,(s4.1.2.2.1,()))),())))) zR ((x2,(0,(0,()))),())) fun x6=>bif Nat.beq x6.1 0 then bif(!(zj (-1) s1.1.2.1))then some (1,((x6.2.1.1,(false,())),()))else some (0,((x6.2.1.1,(s1.1.1,())),()))else bif !(zj x6.2.1.2.1 s1.1.2.1)then some (1,((x6.2.1.1,(false,())),()))else some (0,((x6.2.1.1,(s1.1.1,())),()))) fun x7=>bif Nat.beq x7.1 0 then some (.inr ((x7.2.1.2.1,((wrF .i64 (s1.1.2.1+1)),())),()))else some (.inl (1,((x7.2.1.2.1,(s1.1.2.1,())),())))else some (.inl (0,((s1.1.1,(s1.1.2.1,())),())))) zR ((x0.2.1.1,(0,())),())) fun x8=>bif Nat.beq x8.1 0 then opt (zI (fun s9:((Bool×(Int×Unit))×Unit)=>bif(zg s9.1.2.1 ((a1.length:Nat):Int))then opt (atI a1 s9.1.2.1) fun x10=>opt (opt (kZ (x10,())) fun x11=>bif !x11.1 then some (1,((x10,(false,())),()))else opt (zI (fun s12:(((Int×((Int×Int)×(Int×Int)))×(Int×(Int×Unit)))×Unit)=>bif(zg s12.1.2.2.1 ((a1.length:Nat):Int))then opt (atI a1 s12.1.2.2.1) fun x13=>bif zj x13.1 s12.1.1.1 then some (.inl (1,((s12.1.1,(s12.1.2.2.1,(s12.1.2.2.1,()))),())))else some (.inr ((s12.1.1,(s12.1.2.1,((wrF .i64 (s12.1.2.2.1+1)),()))),()))else some (.inl (0,((s12.1.1,(s12.1.2.1,(s12.1.2.2.1,()))),())))) zR ((x10,(0,(0,()))),())) fun x14=>bif Nat.beq x14.1 0 then bif(!(zj (-1) s9.1.2.1))then some (1,((x14.2.1.1,(false,())),()))else some (0,((x14.2.1.1,(s9.1.1,())),()))else bif !(zj x14.2.1.2.1 s9.1.2.1)then some (1,((x14.2.1.1,(false,())),()))else some (0,((x14.2.1.1,(s9.1.1,())),()))) fun x15=>bif Nat.beq x15.1 0 then some (.inr ((x15.2.1.2.1,((wrF .i64 (s9.1.2.1+1)),())),()))else some (.inl (1,((x15.2.1.2.1,(s9.1.2.1,())),())))else some (.inl (0,((s9.1.1,(s9.1.2.1,())),())))) zR ((x8.2.1.1,(0,())),())) fun x16=>bif Nat.beq x16.1 0 then some (true,())else some (x16.2.1.1,())else some (x8.2.1.1,())else some (x0.2.1.1,())
abbrev SG:Type:=((List qu)×(List jO)×Unit)->Option (Bool×Unit)
def Wx:SG:=opq (sF prg [(151,Uc),(154,Uh)] (zG [cdF zX,cdF qg,cdF zr] [] [] [] [151,154]) (zy []) 30 87 md me)
abbrev mg:Con:=⟨md,me,Wx⟩
theorem ET:Con.Ok prg 87 mg:=okF (ze iG (ze iI zn)) (by kernel_rfl)
theorem EU(a0)(a1):Wx (a0,a1,())=mf a0 a1:=zA (by kernel_rfl)
abbrev Vk:List VT:=[⟨true,zr⟩,⟨true,zr⟩,⟨true,zY⟩]
abbrev Vl:List VT:=[⟨false,I⟩]
def AL(a0:zC)(a1:zC)(a2:qK):Option (Int×Unit):=opt (XI (a0,(a1,()))) fun x0=>bif !(zj x0.2.1 0)then some (x0.2.1,())else opt (bif zg a2.1 0 then some (1,((420,()),()))else bif zg 1099511627776 a2.1 then some (1,((420,()),()))else bif zg a2.2.1 0 then some (1,((420,()),()))else bif zg x0.1.2.1 a2.2.1 then some (1,((420,()),()))else bif zg a2.2.2 0 then some (1,((420,()),()))else bif zg x0.1.2.2 a2.2.2 then some (1,((420,()),()))else some (0,((0,()),()))) fun x1=>bif Nat.beq x1.1 0 then some (0,())else some (x1.2.1.1,())
abbrev AM:Type:=(zC×zC×qK×Unit)->Option (Int×Unit)
def kC:AM:=opq (sF prg [(156,nm)] (zG [cdF zY,cdF zr] [] [] [] [156]) (zy []) 30 89 Vk Vl)
abbrev AN:Con:=⟨Vk,Vl,kC⟩
theorem fv:Con.Ok prg 89 AN:=okF (ze oR zn) (by kernel_rfl)
theorem NY(a0)(a1)(a2):kC (a0,a1,a2,())=AL a0 a1 a2:=zA (by kernel_rfl)
abbrev YV:List VT:=[⟨true,qv⟩]
abbrev YW:List VT:=[⟨false,I⟩]
def oS(a0:zH):Option (Int×Unit):=opt (opt (Wx (a0.1,(a0.2.1,()))) fun x0=>bif !x0.1 then some (1,((430,()),()))else opt (qZ (a0.2.2.1,((-1000),(549755813888,())))) fun x1=>bif !x1.1 then some (1,((430,()),()))else some (0,((0,()),()))) fun x2=>bif Nat.beq x2.1 0 then opt (bif(!(zj ((a0.2.2.2.1.length:Nat):Int) ((a0.1.length:Nat):Int)))then some (1,((430,()),()))else bif(!(zj ((a0.2.2.2.2.length:Nat):Int) ((a0.2.1.length:Nat):Int)))then some (1,((430,()),()))else some (0,((x2.2.1.1,()),()))) fun x3=>bif Nat.beq x3.1 0 then opt (zI (fun s4:((Int×(Int×Unit))×Unit)=>bif(zg s4.1.2.1 ((a0.1.length:Nat):Int))then opt (atI a0.1 s4.1.2.1) fun x5=>opt (opt (atI a0.2.2.2.1 s4.1.2.1) fun x6=>bif zg x6 (-1)then some (1,((430,()),()))else bif zj x5.2.2.1 6 then opt (atI a0.2.2.2.1 s4.1.2.1) fun x7=>bif(!(zj x7 (-1)))then some (1,((430,()),()))else some (0,((s4.1.1,()),()))else some (0,((s4.1.1,()),()))) fun x8=>bif Nat.beq x8.1 0 then some (.inr ((x8.2.1.1,((wrF .i64 (s4.1.2.1+1)),())),()))else some (.inl (1,((x8.2.1.1,(s4.1.2.1,())),())))else some (.inl (0,((s4.1.1,(s4.1.2.1,())),())))) zR ((x3.2.1.1,(0,())),())) fun x9=>bif Nat.beq x9.1 0 then opt (zI (fun s10:((Int×(Int×Unit))×Unit)=>bif(zg s10.1.2.1 ((a0.2.1.length:Nat):Int))then opt (atI a0.2.1 s10.1.2.1) fun x11=>opt (atI a0.2.2.2.2 s10.1.2.1) fun x12=>opt (opt (kC (x11.2.1,(x11.2.2,(x12,())))) fun x13=>bif !(zj x13.1 0)then some (1,((430,()),()))else bif(zg (wrF .i64 (a0.2.2.1+1000)) x12.1)then some (1,((430,()),()))else some (0,((s10.1.1,()),()))) fun x14=>bif Nat.beq x14.1 0 then some (.inr ((x14.2.1.1,((wrF .i64 (s10.1.2.1+1)),())),()))else some (.inl (1,((x14.2.1.1,(s10.1.2.1,())),())))else some (.inl (0,((s10.1.1,(s10.1.2.1,())),())))) zR ((x9.2.1.1,(0,())),())) fun x15=>bif Nat.beq x15.1 0 then some (0,())else some (x15.2.1.1,())else some (x9.2.1.1,())else some (x3.2.1.1,())else some (x2.2.1.1,())
abbrev oT:Type:=(zH×Unit)->Option (Int×Unit)
def xY:oT:=opq (sF prg [(87,mg),(88,ZQ),(89,AN)] (zG [cdF qv,cdF zX,cdF qg,cdF zY,cdF zr] [] [] [] [87,88,89]) (zy []) 30 43 YV YW)
abbrev GO:Con:=⟨YV,YW,xY⟩
theorem Xp:Con.Ok prg 43 GO:=okF (ze ET (ze uN (ze fv zn))) (by kernel_rfl)
theorem Ib(a0):xY (a0,())=oS a0:=zA (by kernel_rfl)
abbrev Mn:List VT:=[⟨true,zr⟩]
abbrev Mo:List VT:=[⟨true,xc⟩,⟨false,I⟩]
def Mp(a0:zC):Option (jv×Int×Unit):=opt (uo (a0,())) fun x0=>bif !(zj x0.1 0)then some ((0,0),(x0.1,()))else some ((0,(wrF .i64 (a0.1*1048576))),(0,()))
abbrev zgR:Type:=(zC×Unit)->Option (jv×Int×Unit)
def aC:zgR:=opq (sF prg [(90,YU)] (zG [cdF zr] [] [] [] [90]) (zy []) 30 158 Mn Mo)
abbrev Mq:Con:=⟨Mn,Mo,aC⟩
theorem zaQ:Con.Ok prg 158 Mq:=okF (ze Xo zn) (by kernel_rfl)
theorem zaR(a0):aC (a0,())=Mp a0:=zA (by kernel_rfl)
abbrev AO:List VT:=[⟨true,zr⟩,⟨true,xc⟩]
abbrev AP:List VT:=[⟨false,I⟩]
def AQ(a0:zC)(a1:jv):Option (Int×Unit):=opt (aC (a0,())) fun x0=>bif !(zj x0.2.1 0)then some (x0.2.1,())else bif(!((zj a1.1 (jV 0 (wN a1.1 1099511627776)))&&((zj a1.2 (jV 0 (wN a1.2 x0.1.2)))&&true)))then some (440,())else some (0,())
abbrev zc6:Type:=(zC×jv×Unit)->Option (Int×Unit)
def JK:zc6:=opq (sF prg [(158,Mq)] (zG [cdF zr] [] [] [] [158]) (zy []) 30 91 AO AP)
abbrev bK:Con:=⟨AO,AP,JK⟩
theorem fx:Con.Ok prg 91 bK:=okF (ze zaQ zn) (by kernel_rfl)
theorem NZ(a0)(a1):JK (a0,a1,())=AQ a0 a1:=zA (by kernel_rfl)
abbrev bW:List VT:=[⟨true,zX⟩,⟨true,jg⟩]
abbrev bX:List VT:=[⟨false,.bool⟩]
def bY(a0:qu)(a1:jP):Option (Bool×Unit):=opt (bif zg a1.1 0 then some (1,((false,()),()))else bif !(zg a1.1 48)then some (1,((false,()),()))else some (0,((false,()),()))) fun x0=>bif Nat.beq x0.1 0 then bif !(zj a0.2.2.1 6)then some (((zj a1.1 a1.1)&&(((zj a1.2.1.1 0)&&((zj a1.2.1.2 0)&&true))&&((zj a1.2.2.1 0)&&(((zj a1.2.2.2.1 0)&&((zj a1.2.2.2.2 0)&&true))&&true)))),())else opt (uo (a1.2.1,())) fun x1=>bif zj x1.1 0 then bif !(zg a1.2.1.1 a0.2.2.2.1)then bif !(zg a1.2.2.1 0)then bif !(zg 1099511627776 a1.2.2.1)then opt (JK (a1.2.1,(a1.2.2.2,()))) fun x2=>some ((zj x2.1 0),())else some (false,())else some (false,())else some (false,())else some (false,())else some (x0.2.1.1,())
abbrev Ic:Type:=(qu×jP×Unit)->Option (Bool×Unit)
def Qj:Ic:=opq (sF prg [(90,YU),(91,bK)] (zG [cdF zX,cdF jg,cdF zr] [] [] [] [90,91]) (zy []) 30 44 bW bX)
abbrev bZ:Con:=⟨bW,bX,Qj⟩
theorem rY:Con.Ok prg 44 bZ:=okF (ze Xo (ze fx zn)) (by kernel_rfl)
theorem rZ(a0)(a1):Qj (a0,a1,())=bY a0 a1:=zA (by kernel_rfl)
abbrev oU:List VT:=[⟨true,yC⟩,⟨false,I⟩]
abbrev oV:List VT:=[⟨false,.bool⟩]
def oW(a0:xQ)(a1:Int):Option (Bool×Unit):=bif !(zg a0.1 0)then bif zg a0.1 48 then bif !(zg a0.2.1 1)then bif !(zg 4095 a0.2.1)then bif zj a0.2.2.1 7 then bif !(zg a0.2.2.2 0)then some ((zg a0.2.2.2 a1),())else some (false,())else bif zj a0.2.2.1 6 then bif !(zg a0.2.2.2 0)then some ((zg a0.2.2.2 a1),())else some (false,())else some (false,())else some (false,())else some (false,())else some (false,())else some (false,())
abbrev zaS:Type:=(xQ×Int×Unit)->Option (Bool×Unit)
def YX:zaS:=opq (sF prg [] (zG [cdF yC] [] [] [] []) (zy []) 30 45 oU oV)
abbrev oX:Con:=⟨oU,oV,YX⟩
theorem Ie:Con.Ok prg 45 oX:=okF zn (by kernel_rfl)
theorem Ig(a0)(a1):YX (a0,a1,())=oW a0 a1:=zA (by kernel_rfl)
abbrev fy:List VT:=[⟨false,I⟩,⟨false,I⟩]
abbrev fA:List VT:=[⟨false,.bool⟩]
def fB(a0:Int)(a1:Int):Option (Bool×Unit):=bif !(zg a0 1)then bif !(zg 64 a0)then bif !(zg a1 1)then some ((!(zg 1099511627776 a1)),())else some (false,())else some (false,())else some (false,())
abbrev Oa:Type:=(Int×Int×Unit)->Option (Bool×Unit)
def Jc:Oa:=opq (sF prg [] (zG [] [] [] [] []) (zy []) 30 92 fy fA)
abbrev fC:Con:=⟨fy,fA,Jc⟩
theorem BP:Con.Ok prg 92 fC:=okF zn (by kernel_rfl)
theorem BQ(a0)(a1):Jc (a0,a1,())=fB a0 a1:=zA (by kernel_rfl)
abbrev Yl:List VT:=[⟨true,qV⟩]
abbrev Ym:List VT:=[⟨false,(.int .u64)⟩]
def Yn(a0:qL):Option (Int×Unit):=bif zg (wrF .u64 a0.1.1) 0 then none else some ((wrF .u64 ((wj .u64 1 (wrF .u64 a0.1.1)) - 1)),())
abbrev fD:Type:=(qL×Unit)->Option (Int×Unit)
def ye:fD:=opq (sF prg [] (zG [cdF qV,cdF qj] [] [] [] []) (zy []) 30 93 Yl Ym)
abbrev gP:Con:=⟨Yl,Ym,ye⟩
theorem QI:Con.Ok prg 93 gP:=okF zn (by kernel_rfl)
theorem aW(a0):ye (a0,())=Yn a0:=zA (by kernel_rfl)
abbrev mh:List VT:=[⟨true,qj⟩]
abbrev mj:List VT:=[⟨false,I⟩]
def ml(a0:qn):Option (Int×Unit):=opt (Jc (a0.1,(a0.2.1,()))) fun x0=>bif !x0.1 then some (500,())else bif a0.2.2.1 then bif(!((zj a0.1 a0.1)&&((zj a0.2.1 a0.2.1)&&((a0.2.2.1 == true)&&((zj a0.2.2.2.1 0)&&((zj a0.2.2.2.2.1 0)&&((zj a0.2.2.2.2.2 0)&&true)))))))then some (500,())else some (0,())else opt (bif zg a0.2.2.2.1 0 then some (1,((500,()),()))else bif !(zg a0.2.2.2.1 65536)then some (1,((500,()),()))else bif zg a0.2.2.2.2.1 0 then some (1,((500,()),()))else bif zg 1099511627776 a0.2.2.2.2.1 then some (1,((500,()),()))else bif zj (wR .and .u64 a0.2.2.2.2.2 1) 0 then some (1,((500,()),()))else opt (ye ((a0,(0,0)),())) fun x1=>bif(!(zj (wR .andNot .u64 a0.2.2.2.2.2 x1.1) 0))then some (1,((500,()),()))else some (0,((0,()),()))) fun x2=>bif Nat.beq x2.1 0 then some (0,())else some (x2.2.1.1,())
abbrev SI:Type:=(qn×Unit)->Option (Int×Unit)
def uX:SI:=opq (sF prg [(92,fC),(93,gP)] (zG [cdF qV,cdF qj] [] [] [] [92,93]) (zy []) 30 46 mh mj)
abbrev Ui:Con:=⟨mh,mj,uX⟩
theorem aX:Con.Ok prg 46 Ui:=okF (ze BP (ze QI zn)) (by kernel_rfl)
theorem EV(a0):uX (a0,())=ml a0:=zA (by kernel_rfl)
abbrev Jd:List VT:=[⟨true,qR⟩]
abbrev Je:List VT:=[⟨false,I⟩]
def fE(a0:zK):Option (Int×Unit):=opt (bif zg a0.1 (-1000)then some (1,((521,()),()))else bif zg 1000 a0.1 then some (1,((521,()),()))else opt (xY (a0.2.1,())) fun x0=>bif !(zj x0.1 0)then some (1,((521,()),()))else bif(!(zj ((a0.2.2.1.length:Nat):Int) ((a0.2.1.1.length:Nat):Int)))then some (1,((521,()),()))else bif(zg 24 ((a0.2.2.2.1.length:Nat):Int))then some (1,((521,()),()))else some (0,((0,()),()))) fun x1=>bif Nat.beq x1.1 0 then opt (zI (fun s2:((Int×(Int×Unit))×Unit)=>bif(zg s2.1.2.1 ((a0.2.2.1.length:Nat):Int))then opt (atI a0.2.2.1 s2.1.2.1) fun x3=>opt (atI a0.2.1.1 s2.1.2.1) fun x4=>opt (Qj (x4,(x3,()))) fun x5=>bif !x5.1 then some (.inl (1,((521,(s2.1.2.1,())),())))else some (.inr ((s2.1.1,((wrF .i64 (s2.1.2.1+1)),())),()))else some (.inl (0,((s2.1.1,(s2.1.2.1,())),())))) zR ((x1.2.1.1,(0,())),())) fun x6=>bif Nat.beq x6.1 0 then opt (zI (fun s7:((Int×(Int×Unit))×Unit)=>bif(zg s7.1.2.1 ((a0.2.2.2.1.length:Nat):Int))then opt (atI a0.2.2.2.1 s7.1.2.1) fun x8=>opt (YX (x8,(((a0.2.2.2.2.length:Nat):Int),()))) fun x9=>bif !x9.1 then some (.inl (1,((521,(s7.1.2.1,())),())))else some (.inr ((s7.1.1,((wrF .i64 (s7.1.2.1+1)),())),()))else some (.inl (0,((s7.1.1,(s7.1.2.1,())),())))) zR ((x6.2.1.1,(0,())),())) fun x10=>bif Nat.beq x10.1 0 then opt (zI (fun s11:((Int×(Int×Unit))×Unit)=>bif(zg s11.1.2.1 ((a0.2.2.2.2.length:Nat):Int))then opt (atI a0.2.2.2.2 s11.1.2.1) fun x12=>opt (uX (x12,())) fun x13=>bif !(zj x13.1 0)then some (.inl (1,((521,(s11.1.2.1,())),())))else some (.inr ((s11.1.1,((wrF .i64 (s11.1.2.1+1)),())),()))else some (.inl (0,((s11.1.1,(s11.1.2.1,())),())))) zR ((x10.2.1.1,(0,())),())) fun x14=>bif Nat.beq x14.1 0 then some (0,())else some (x14.2.1.1,())else some (x10.2.1.1,())else some (x6.2.1.1,())else some (x1.2.1.1,())
abbrev fF:Type:=(zK×Unit)->Option (Int×Unit)
def uq:fF:=opq (sF prg [(43,GO),(44,bZ),(45,oX),(46,Ui)] (zG [cdF qR,cdF qv,cdF zX,cdF jg,cdF qj,cdF qg,cdF yC,cdF zY,cdF zr] [] [] [] [43,44,45,46]) (zy []) 30 12 Jd Je)
abbrev Ob:Con:=⟨Jd,Je,uq⟩
theorem BR:Con.Ok prg 12 Ob:=okF (ze Xp (ze rY (ze Ie (ze aX zn)))) (by kernel_rfl)
theorem BS(a0):uq (a0,())=fE a0:=zA (by kernel_rfl)
abbrev EW:List VT:=[⟨false,I⟩]
abbrev EX:List VT:=[⟨false,.bool⟩]
def EY(a0:Int):Option (Bool×Unit):=bif !(zg a0 0)then some ((zg a0 48),())else some (false,())
abbrev zfN:Type:=(Int×Unit)->Option (Bool×Unit)
def Qw:zfN:=opq (sF prg [] (zG [] [] [] [] []) (zy []) 30 33 EW EX)
abbrev Uj:Con:=⟨EW,EX,Qw⟩
theorem Uk:Con.Ok prg 33 Uj:=okF zn (by kernel_rfl)
theorem SJ(a0):Qw (a0,())=EY a0:=zA (by kernel_rfl)
abbrev AR:List VT:=[⟨true,zr⟩,⟨true,xc⟩]
abbrev AS:List VT:=[⟨false,I⟩]
def AT(a0:zC)(a1:jv):Option (Int×Unit):=opt (wZ (a0,())) fun x0=>bif !x0.1 then some (130,())else opt (bif zg a1.1 0 then some (1,((440,()),()))else bif zg 1099511627776 a1.1 then some (1,((440,()),()))else bif zg a1.2 0 then some (1,((440,()),()))else bif(zg (wrF .i64 (a0.1*1048576)) a1.2)then some (1,((440,()),()))else some (0,((0,()),()))) fun x1=>bif Nat.beq x1.1 0 then some (0,())else some (x1.2.1.1,())
abbrev zc7:Type:=(zC×jv×Unit)->Option (Int×Unit)
def JL:zc7:=opq (sF prg [(60,kz)] (zG [cdF zr] [] [] [] [60]) (zy []) 30 126 AR AS)
abbrev bL:Con:=⟨AR,AS,JL⟩
theorem fG:Con.Ok prg 126 bL:=okF (ze uk zn) (by kernel_rfl)
theorem Oc(a0)(a1):JL (a0,a1,())=AT a0 a1:=zA (by kernel_rfl)
abbrev oY:List VT:=[⟨true,zX⟩,⟨true,jg⟩]
abbrev oZ:List VT:=[⟨false,.bool⟩]
def pa(a0:qu)(a1:jP):Option (Bool×Unit):=opt (Qw (a1.1,())) fun x0=>bif !x0.1 then some (false,())else bif !(zj a0.2.2.1 6)then some (((zj a1.1 a1.1)&&(((zj a1.2.1.1 0)&&((zj a1.2.1.2 0)&&true))&&((zj a1.2.2.1 0)&&(((zj a1.2.2.2.1 0)&&((zj a1.2.2.2.2 0)&&true))&&true)))),())else opt (wZ (a1.2.1,())) fun x1=>bif x1.1 then bif !(zg a1.2.1.1 a0.2.2.2.1)then bif !(zg a1.2.2.1 0)then bif !(zg 1099511627776 a1.2.2.1)then opt (JL (a1.2.1,(a1.2.2.2,()))) fun x2=>some ((zj x2.1 0),())else some (false,())else some (false,())else some (false,())else some (false,())
abbrev zaT:Type:=(qu×jP×Unit)->Option (Bool×Unit)
def YY:zaT:=opq (sF prg [(33,Uj),(60,kz),(126,bL)] (zG [cdF zX,cdF jg,cdF zr] [] [] [] [33,60,126]) (zy []) 30 75 oY oZ)
abbrev pb:Con:=⟨oY,oZ,YY⟩
theorem Ih:Con.Ok prg 75 pb:=okF (ze Uk (ze uk (ze fG zn))) (by kernel_rfl)
theorem Ii(a0)(a1):YY (a0,a1,())=pa a0 a1:=zA (by kernel_rfl)
abbrev AU:List VT:=[⟨true,qR⟩]
abbrev AV:List VT:=[⟨false,.bool⟩]
def AW(a0:zK):Option (Bool×Unit):=opt (bif zg a0.1 (-1000)then some (1,((false,()),()))else bif zg 1000 a0.1 then some (1,((false,()),()))else opt (JJ (a0.2.1,())) fun x0=>bif !x0.1 then some (1,((false,()),()))else bif(!(zj ((a0.2.2.1.length:Nat):Int) ((a0.2.1.1.length:Nat):Int)))then some (1,((false,()),()))else bif(zg 24 ((a0.2.2.2.1.length:Nat):Int))then some (1,((false,()),()))else some (0,((false,()),()))) fun x1=>bif Nat.beq x1.1 0 then opt (zI (fun s2:((Bool×(Int×Unit))×Unit)=>bif(zg s2.1.2.1 ((a0.2.2.1.length:Nat):Int))then opt (atI a0.2.1.1 s2.1.2.1) fun x3=>opt (atI a0.2.2.1 s2.1.2.1) fun x4=>opt (YY (x3,(x4,()))) fun x5=>bif !x5.1 then some (.inl (1,((false,(s2.1.2.1,())),())))else some (.inr ((s2.1.1,((wrF .i64 (s2.1.2.1+1)),())),()))else some (.inl (0,((s2.1.1,(s2.1.2.1,())),())))) zR ((x1.2.1.1,(0,())),())) fun x6=>bif Nat.beq x6.1 0 then opt (zI (fun s7:((Bool×(Int×Unit))×Unit)=>bif(zg s7.1.2.1 ((a0.2.2.2.1.length:Nat):Int))then opt (atI a0.2.2.2.1 s7.1.2.1) fun x8=>opt (opt (Qw (x8.1,())) fun x9=>bif !x9.1 then some (1,((false,()),()))else bif zg x8.2.1 1 then some (1,((false,()),()))else bif zg 4095 x8.2.1 then some (1,((false,()),()))else bif !(zj x8.2.2.1 7)then bif !(zj x8.2.2.1 6)then some (1,((false,()),()))else bif zg x8.2.2.2 0 then some (1,((false,()),()))else bif(!(zg x8.2.2.2 ((a0.2.2.2.2.length:Nat):Int)))then some (1,((false,()),()))else some (0,((s7.1.1,()),()))else bif zg x8.2.2.2 0 then some (1,((false,()),()))else bif(!(zg x8.2.2.2 ((a0.2.2.2.2.length:Nat):Int)))then some (1,((false,()),()))else some (0,((s7.1.1,()),()))) fun x10=>bif Nat.beq x10.1 0 then some (.inr ((x10.2.1.1,((wrF .i64 (s7.1.2.1+1)),())),()))else some (.inl (1,((x10.2.1.1,(s7.1.2.1,())),())))else some (.inl (0,((s7.1.1,(s7.1.2.1,())),())))) zR ((x6.2.1.1,(0,())),())) fun x11=>bif Nat.beq x11.1 0 then opt (zI (fun s12:((Bool×(Int×Unit))×Unit)=>bif(zg s12.1.2.1 ((a0.2.2.2.2.length:Nat):Int))then opt (atI a0.2.2.2.2 s12.1.2.1) fun x13=>opt (kB (x13,())) fun x14=>bif !x14.1 then some (.inl (1,((false,(s12.1.2.1,())),())))else some (.inr ((s12.1.1,((wrF .i64 (s12.1.2.1+1)),())),()))else some (.inl (0,((s12.1.1,(s12.1.2.1,())),())))) zR ((x11.2.1.1,(0,())),())) fun x15=>bif Nat.beq x15.1 0 then some (true,())else some (x15.2.1.1,())else some (x11.2.1.1,())else some (x6.2.1.1,())else some (x1.2.1.1,())
abbrev zc8:Type:=(zK×Unit)->Option (Bool×Unit)
def Vm:zc8:=opq (sF prg [(63,bJ),(75,pb),(33,Uj),(61,bH)] (zG [cdF qR,cdF qv,cdF zX,cdF jg,cdF qj,cdF qg,cdF yC,cdF zY,cdF zr] [] [] [] [63,75,33,61]) (zy []) 30 32 AU AV)
abbrev AX:Con:=⟨AU,AV,Vm⟩
theorem Od:Con.Ok prg 32 AX:=okF (ze fm (ze Ih (ze Uk (ze fj zn)))) (by kernel_rfl)
theorem Oe(a0):Vm (a0,())=AW a0:=zA (by kernel_rfl)
abbrev pc:List VT:=[⟨false,I⟩,⟨false,I⟩,⟨false,I⟩]
abbrev pd:List VT:=[⟨false,.bool⟩]
def pe(a0:Int)(a1:Int)(a2:Int):Option (Bool×Unit):=bif !(zg a0 a1)then some ((!(zg a2 a0)),())else some (false,())
abbrev zaU:Type:=(Int×Int×Int×Unit)->Option (Bool×Unit)
def xZ:zaU:=opq (sF prg [] (zG [] [] [] [] []) (zy []) 30 64 pc pd)
abbrev pg:Con:=⟨pc,pd,xZ⟩
theorem Ij:Con.Ok prg 64 pg:=okF zn (by kernel_rfl)
theorem Ik(a0)(a1)(a2):xZ (a0,a1,a2,())=pe a0 a1 a2:=zA (by kernel_rfl)
abbrev Qk:List VT:=[⟨true,qI⟩]
abbrev Ql:List VT:=[⟨false,I⟩]
def cd(a0:zM):Option (Int×Unit):=opt (opt (xZ (a0.1,(0,(1099511627776,())))) fun x0=>bif !x0.1 then some (1,((460,()),()))else opt (xZ (a0.2.1,(0,(1099511627776,())))) fun x1=>bif !x1.1 then some (1,((460,()),()))else opt (xZ (a0.2.2.2.2,(0,(1099511627776,())))) fun x2=>bif !x2.1 then some (1,((460,()),()))else opt (xZ (a0.2.2.1,(0,(7,())))) fun x3=>bif !x3.1 then some (1,((460,()),()))else opt (xZ (a0.2.2.2.1,(84,(1542,())))) fun x4=>bif !x4.1 then some (1,((460,()),()))else some (0,((0,()),()))) fun x5=>bif Nat.beq x5.1 0 then some (0,())else some (x5.2.1.1,())
abbrev cg:Type:=(zM×Unit)->Option (Int×Unit)
def vK:cg:=opq (sF prg [(64,pg)] (zG [cdF qI] [] [] [] [64]) (zy []) 30 26 Qk Ql)
abbrev Il:Con:=⟨Qk,Ql,vK⟩
theorem sb:Con.Ok prg 26 Il:=okF (ze Ij zn) (by kernel_rfl)
theorem se(a0):vK (a0,())=cd a0:=zA (by kernel_rfl)
abbrev Jf:List VT:=[⟨true,qR⟩,⟨false,I⟩]
abbrev Jg:List VT:=[⟨false,I⟩]
def fH(a0:zK)(a1:Int):Option (Int×Unit):=opt (bif zg a1 0 then some (1,((2,()),()))else bif zg 274877906944 a1 then some (1,((2,()),()))else bif(zg (wrF .i64 (a1+a0.1)) a0.2.1.2.2.1)then some (1,((2,()),()))else some (0,((0,()),()))) fun x0=>bif Nat.beq x0.1 0 then opt (zI (fun s1:((Int×(Int×Unit))×Unit)=>bif(zg s1.1.2.1 ((a0.2.2.2.2.length:Nat):Int))then opt (atI a0.2.2.2.2 s1.1.2.1) fun x2=>bif zg a1 x2.2.2.2.2.1 then some (.inl (1,((2,(s1.1.2.1,())),())))else some (.inr ((s1.1.1,((wrF .i64 (s1.1.2.1+1)),())),()))else some (.inl (0,((s1.1.1,(s1.1.2.1,())),())))) zR ((x0.2.1.1,(0,())),())) fun x3=>bif Nat.beq x3.1 0 then some (0,())else some (x3.2.1.1,())else some (x0.2.1.1,())
abbrev fI:Type:=(zK×Int×Unit)->Option (Int×Unit)
def ur:fI:=opq (sF prg [] (zG [cdF qR,cdF qv,cdF zX,cdF jg,cdF qj,cdF qg,cdF yC,cdF zY,cdF zr] [] [] [] []) (zy []) 30 27 Jf Jg)
abbrev Og:Con:=⟨Jf,Jg,ur⟩
theorem BT:Con.Ok prg 27 Og:=okF zn (by kernel_rfl)
theorem BU(a0)(a1):ur (a0,a1,())=fH a0 a1:=zA (by kernel_rfl)
abbrev yp:List VT:=[⟨false,I⟩]
abbrev yq:List VT:=[⟨false,.bool⟩]
def cj:ym:=zG [cdF qz,cdF qR,cdF qv,cdF zX,cdF jg,cdF qj,cdF qg,cdF qI,cdF Kd,cdF zY,cdF zr] [] [] [] []
def fJ(s:zO)(a0:Int):Option (zO×(Bool×Unit)):=some ((s.1,(s.2.1,(s.2.2.1,(s.2.2.2.1,(1,(0,(0,a0))))))),(true,()))
theorem Oh  (s:zO) (a0:Int):sP prg ⟨[],[],[]⟩ [] cj (zy []) 30 67 qz yp yq s (a0,())=fJ  s a0:=by kernel_rfl
def wI:zO->(Int×Unit)->Option (zO×(Bool×Unit)):=sP prg ⟨[],[],[]⟩ [] cj (zy []) 30 67 qz yp yq
theorem Wi:QT.Ok prg 67 ⟨qz,yp,yq,wI⟩:=da ⟨yR,uS,uT⟩ zn qP (by kernel_rfl)
theorem Ze(s:zO)(a0:Int):wI s (a0,())=fJ  s a0:=Oh  s a0
abbrev XJ:List VT:=[⟨true,qV⟩]
abbrev XK:List VT:=[⟨true,qV⟩,⟨false,I⟩]
def XL(a0:qL):Option (qL×Int×Unit):=opt (bif !a0.1.2.2.1 then bif(!(zg a0.1.2.1 (wrF .i64 (a0.2.2 - a0.1.2.2.2.2.1))))then some (1,((a0,(0,())),()))else some (0,((((0,(0,(false,(0,(0,0))))),(0,0)),(0,())),()))else some (0,((((0,(0,(false,(0,(0,0))))),(0,0)),(0,())),()))) fun x0=>bif Nat.beq x0.1 0 then some (((a0.1.1,(a0.1.2.1,(false,(a0.2.1,(a0.2.2,1))))),a0.2),(1,()))else some (x0.2.1.1,(x0.2.1.2.1,()))
abbrev np:Type:=(qL×Unit)->Option (qL×Int×Unit)
def uC:np:=opq (sF prg [] (zG [cdF qV,cdF qj] [] [] [] []) (zy []) 30 182 XJ XK)
abbrev XM:Con:=⟨XJ,XK,uC⟩
theorem dg:Con.Ok prg 182 XM:=okF zn (by kernel_rfl)
theorem dh(a0):uC (a0,())=XL a0:=zA (by kernel_rfl)
abbrev EZ:List VT:=[⟨false,I⟩]
abbrev Fa:List VT:=[⟨false,.bool⟩]
def Fb(a0:Int):Option (Bool×Unit):=bif !(zg a0 0)then some ((zg a0 65536),())else some (false,())
abbrev zfO:Type:=(Int×Unit)->Option (Bool×Unit)
def Yo:zfO:=opq (sF prg [] (zG [] [] [] [] []) (zy []) 30 292 EZ Fa)
abbrev Fc:Con:=⟨EZ,Fa,Yo⟩
theorem SK:Con.Ok prg 292 Fc:=okF zn (by kernel_rfl)
theorem SM(a0):Yo (a0,())=Fb a0:=zA (by kernel_rfl)
abbrev SN:List VT:=[⟨false,I⟩]
abbrev SO:List VT:=[⟨false,I⟩]
def SP(a0:Int):Option (Int×Unit):=opt (bif zg (Int.tmod a0 65536) 0 then some (0,(((wrF .i64 ((Int.tmod a0 65536)+65536)),()),()))else some (0,(((Int.tmod a0 65536),()),()))) fun x0=>some (x0.2.1.1,())
abbrev zi8:Type:=(Int×Unit)->Option (Int×Unit)
def di:zi8:=opq (sF prg [] (zG [] [] [] [] []) (zy []) 30 293 SN SO)
abbrev SQ:Con:=⟨SN,SO,di⟩
theorem zc9:Con.Ok prg 293 SQ:=okF zn (by kernel_rfl)
theorem zda(a0):di (a0,())=SP a0:=zA (by kernel_rfl)
abbrev Mr:List VT:=[⟨false,I⟩,⟨false,I⟩]
abbrev Ms:List VT:=[⟨false,I⟩,⟨false,I⟩]
def Mt(a0:Int)(a1:Int):Option (Int×Int×Unit):=opt (opt (Yo (a0,())) fun x0=>bif !x0.1 then some (1,((0,(2,())),()))else opt (Yo (a1,())) fun x1=>bif !x1.1 then some (1,((0,(2,())),()))else some (0,((0,(0,())),()))) fun x2=>bif Nat.beq x2.1 0 then opt (di ((wrF .i64 ((wrF .i64 (a1 - a0))+32768)),())) fun x3=>some ((wrF .i64 (x3.1 - 32768)),(0,()))else some (x2.2.1.1,(x2.2.1.2.1,()))
abbrev zgS:Type:=(Int×Int×Unit)->Option (Int×Int×Unit)
def XN:zgS:=opq (sF prg [(292,Fc),(293,SQ)] (zG [] [] [] [] [292,293]) (zy []) 30 255 Mr Ms)
abbrev Mu:Con:=⟨Mr,Ms,XN⟩
theorem zaV:Con.Ok prg 255 Mu:=okF (ze SK (ze zc9 zn)) (by kernel_rfl)
theorem zaW(a0)(a1):XN (a0,a1,())=Mt a0 a1:=zA (by kernel_rfl)
abbrev Wy:List VT:=[⟨true,qV⟩]
abbrev Wz:List VT:=[⟨false,I⟩]
def WA(a0:qL):Option (Int×Unit):=opt (XN (a0.1.2.2.2.1,(a0.2.1,()))) fun x0=>some (x0.1,())
abbrev dj:Type:=(qL×Unit)->Option (Int×Unit)
def wX:dj:=opq (sF prg [(255,Mu)] (zG [cdF qV,cdF qj] [] [] [] [255]) (zy []) 30 232 Wy Wz)
abbrev vf:Con:=⟨Wy,Wz,wX⟩
theorem uu:Con.Ok prg 232 vf:=okF (ze zaV zn) (by kernel_rfl)
theorem GP(a0):wX (a0,())=WA a0:=zA (by kernel_rfl)
abbrev Ul:List VT:=[⟨true,qV⟩]
abbrev Um:List VT:=[⟨true,qV⟩,⟨false,I⟩]
def Un(a0:qL):Option (qL×Int×Unit):=opt (wX (a0,())) fun x0=>opt (bif(zg (wrF .i64 (0 - a0.1.1)) x0.1)then bif zg x0.1 a0.1.1 then some (1,((a0,(0,())),()))else some (0,((((0,(0,(false,(0,(0,0))))),(0,0)),(0,())),()))else some (0,((((0,(0,(false,(0,(0,0))))),(0,0)),(0,())),()))) fun x1=>bif Nat.beq x1.1 0 then some (a0,(2,()))else some (x1.2.1.1,(x1.2.1.2.1,()))
abbrev sf:Type:=(qL×Unit)->Option (qL×Int×Unit)
def gb:sf:=opq (sF prg [(232,vf)] (zG [cdF qV,cdF qj] [] [] [] [232]) (zy []) 30 183 Ul Um)
abbrev Uo:Con:=⟨Ul,Um,gb⟩
theorem iK:Con.Ok prg 183 Uo:=okF (ze uu zn) (by kernel_rfl)
theorem iL(a0):gb (a0,())=Un a0:=zA (by kernel_rfl)
abbrev Kf:List VT:=[⟨true,qV⟩]
abbrev Kg:List VT:=[⟨true,qV⟩,⟨false,I⟩]
def Kh(a0:qL):Option (qL×Int×Unit):=opt (wX (a0,())) fun x0=>bif zg 0 x0.1 then some (a0,(0,()))else bif(zg (wrF .u64 (wrF .i64 (0 - x0.1))) 0)then none else bif(!(zj (wR .and .u64 a0.1.2.2.2.2.2 (wj .u64 1 (wrF .u64 (wrF .i64 (0 - x0.1))))) 0))then some (a0,(2,()))else some (((a0.1.1,(a0.1.2.1,(a0.1.2.2.1,(a0.1.2.2.2.1,(a0.2.2,(wR .or .u64 a0.1.2.2.2.2.2 (wj .u64 1 (wrF .u64 (wrF .i64 (0 - x0.1)))))))))),a0.2),(1,()))
abbrev ph:Type:=(qL×Unit)->Option (qL×Int×Unit)
def uY:ph:=opq (sF prg [(232,vf)] (zG [cdF qV,cdF qj] [] [] [] [232]) (zy []) 30 184 Kf Kg)
abbrev Ki:Con:=⟨Kf,Kg,uY⟩
theorem fK:Con.Ok prg 184 Ki:=okF (ze uu zn) (by kernel_rfl)
theorem fL(a0):uY (a0,())=Kh a0:=zA (by kernel_rfl)
abbrev XO:List VT:=[⟨true,qV⟩]
abbrev XP:List VT:=[⟨true,qV⟩,⟨false,I⟩]
def XQ(a0:qL):Option (qL×Int×Unit):=opt (wX (a0,())) fun x0=>bif zg (wrF .u64 x0.1) 0 then none else opt (ye (a0,())) fun x1=>some (((a0.1.1,(a0.1.2.1,(a0.1.2.2.1,(a0.2.1,(a0.2.2,(wR .and .u64 (wR .or .u64 (wj .u64 a0.1.2.2.2.2.2 (wrF .u64 x0.1)) 1) x1.1)))))),a0.2),(1,()))
abbrev nq:Type:=(qL×Unit)->Option (qL×Int×Unit)
def uD:nq:=opq (sF prg [(232,vf),(93,gP)] (zG [cdF qV,cdF qj] [] [] [] [232,93]) (zy []) 30 185 XO XP)
abbrev XR:Con:=⟨XO,XP,uD⟩
theorem dk:Con.Ok prg 185 XR:=okF (ze uu (ze QI zn)) (by kernel_rfl)
theorem dm(a0):uD (a0,())=XQ a0:=zA (by kernel_rfl)
abbrev Xh:List VT:=[⟨true,qV⟩]
abbrev Xi:List VT:=[⟨true,qV⟩,⟨false,I⟩]
def Xj(a0:qL):Option (qL×Int×Unit):=opt (uC (a0,())) fun x0=>bif !(zj x0.2.1 0)then some (x0.1,(x0.2.1,()))else opt (gb (a0,())) fun x1=>bif !(zj x1.2.1 0)then some (x1.1,(x1.2.1,()))else opt (uY (a0,())) fun x2=>bif !(zj x2.2.1 0)then some (x2.1,(x2.2.1,()))else opt (uD (a0,())) fun x3=>bif !(zj x3.2.1 0)then some (x3.1,(x3.2.1,()))else some (a0,(2,()))
abbrev iM:Type:=(qL×Unit)->Option (qL×Int×Unit)
def xn:iM:=opq (sF prg [(182,XM),(183,Uo),(184,Ki),(185,XR)] (zG [cdF qV,cdF qj] [(3,27)] [] [] [182,183,184,185]) (zy []) 30 120 Xh Xi)
abbrev Xk:Con:=⟨Xh,Xi,xn⟩
theorem bM:Con.Ok prg 120 Xk:=okF (ze dg (ze iK (ze fK (ze dk zn)))) (by kernel_rfl)
theorem bN(a0):xn (a0,())=Xj a0:=zA (by kernel_rfl)
abbrev Jh:List VT:=[⟨true,qj⟩,⟨false,I⟩,⟨false,I⟩]
abbrev Ji:List VT:=[⟨true,qj⟩,⟨false,.bool⟩,⟨false,I⟩]
def fM(a0:qn)(a1:Int)(a2:Int):Option (qn×Bool×Int×Unit):=opt (uX (a0,())) fun x0=>bif !(zj x0.1 0)then some ((0,(0,(false,(0,(0,0))))),(false,(x0.1,())))else opt (bif zg a1 0 then some (1,(((0,(0,(false,(0,(0,0))))),(false,(2,()))),()))else bif !(zg a1 65536)then some (1,(((0,(0,(false,(0,(0,0))))),(false,(2,()))),()))else bif zg a2 0 then some (1,(((0,(0,(false,(0,(0,0))))),(false,(2,()))),()))else bif zg 1099511627776 a2 then some (1,(((0,(0,(false,(0,(0,0))))),(false,(2,()))),()))else bif zg a2 a0.2.2.2.2.1 then some (1,(((0,(0,(false,(0,(0,0))))),(false,(2,()))),()))else some (0,(((0,(0,(false,(0,(0,0))))),(false,(0,()))),()))) fun x1=>bif Nat.beq x1.1 0 then opt (xn ((a0,(a1,a2)),())) fun x2=>some (x2.1.1,((zj x2.2.1 1),(0,())))else some (x1.2.1.1,(x1.2.1.2.1,(x1.2.1.2.2.1,())))
abbrev fN:Type:=(qn×Int×Int×Unit)->Option (qn×Bool×Int×Unit)
def yV:fN:=opq (sF prg [(46,Ui),(120,Xk)] (zG [cdF qV,cdF qj] [] [] [] [46,120]) (zy []) 30 68 Jh Ji)
abbrev Oi:Con:=⟨Jh,Ji,yV⟩
theorem BV:Con.Ok prg 68 Oi:=okF (ze aX (ze bM zn)) (by kernel_rfl)
theorem BW(a0)(a1)(a2):yV (a0,a1,a2,())=fM a0 a1 a2:=zA (by kernel_rfl)
abbrev ZR:List VT:=[]
abbrev ZS:List VT:=[⟨false,.bool⟩]
def fO:ym:=zG [cdF qz,cdF qR,cdF qv,cdF zX,cdF jg,cdF qj,cdF qg,cdF qI,cdF yC,cdF zY,cdF zr] [] [⟨1,8,some 2,qj,true⟩] [] [67,68]
def WB(jx:zO->(Int×Unit)->Option (zO×(Bool×Unit)))(Jq:fN)(s:zO):Option (zO×(Bool×Unit)):=opt (zI (fun s0:((((Int×(((List (Int×(Int×(Int×(Int×(Int×(Int×Int)))))))×((List (Int×((Int×Int)×(Int×Int))))×(Int×((List Int)×(List (Int×(Int×Int)))))))×((List (Int×((Int×Int)×(Int×(Int×Int)))))×((List (Int×(Int×(Int×Int))))×(List (Int×(Int×(Bool×(Int×(Int×Int))))))))))×(Int×((Int×(Int×(Int×(Int×Int))))×(Int×(Int×(Int×(Int×Int)))))))×(Int×(Int×Unit)))×Unit)=>bif(zg s0.1.2.2.1 ((s.1.2.2.2.1.length:Nat):Int))then opt (atI s.1.2.2.2.1 s0.1.2.2.1) fun x1=>bif zj x1.1 s0.1.1.2.1 then bif zj x1.2.1 s0.1.1.2.2.1.1 then bif zj x1.2.2.1 s0.1.1.2.2.1.2.2.1 then some (.inl (1,((s0.1.1,(s0.1.2.2.1,(s0.1.2.2.1,()))),())))else some (.inr ((s0.1.1,(s0.1.2.1,((wrF .i64 (s0.1.2.2.1+1)),()))),()))else some (.inr ((s0.1.1,(s0.1.2.1,((wrF .i64 (s0.1.2.2.1+1)),()))),()))else some (.inr ((s0.1.1,(s0.1.2.1,((wrF .i64 (s0.1.2.2.1+1)),()))),()))else some (.inl (0,((s0.1.1,(s0.1.2.1,(s0.1.2.2.1,()))),())))) zR ((s,(0,(0,()))),())) fun x2=>bif Nat.beq x2.1 0 then some (x2.2.1.1,(false,()))else bif zg x2.2.1.2.1 0 then some (x2.2.1.1,(false,()))else bif !(zg x2.2.1.1.2.2.1.2.1 65536)then opt (jx x2.2.1.1 (20,())) fun x3=>some (x3.1,(x3.2.1,()))else opt (atI x2.2.1.1.1.2.2.2.1 x2.2.1.2.1) fun x4=>opt (atI x2.2.1.1.1.2.2.2.2 x4.2.2.2) fun x5=>opt (Jq (x5,(x2.2.1.1.2.2.1.2.1,(x2.2.1.1.2.2.2.1,())))) fun x6=>bif !x6.2.1 then some ((x2.2.1.1.1,(x2.2.1.1.2.1,(x2.2.1.1.2.2.1,(x2.2.1.1.2.2.2.1,(4,(0,(0,0))))))),(true,()))else bif dQ x2.2.1.1.1.2.2.2.2 then bif qe 0 x2.2.1.1.1.2.2.2.2.length 48 then opt (atI x2.2.1.1.1.2.2.2.2 x4.2.2.2) fun x7=>opt (gl x2.2.1.1.1.2.2.2.2 (Int.toNat x4.2.2.2)) fun x8=>some (((x2.2.1.1.1.1,(x2.2.1.1.1.2.1,(x2.2.1.1.1.2.2.1,(x2.2.1.1.1.2.2.2.1,(x2.2.1.1.1.2.2.2.2.set (Int.toNat x4.2.2.2) x6.1))))),(x2.2.1.1.2.1,(x2.2.1.1.2.2.1,(x2.2.1.1.2.2.2.1,(3,(0,(0,0))))))),(true,()))else none else none
theorem SR(jx:zO->(Int×Unit)->Option (zO×(Bool×Unit)))(Jq:(qn×Int×Int×Unit)->Option (qn×Bool×Int×Unit))(s:zO):sP prg ⟨[],[(67,⟨qz,yp,yq,jx⟩)],[]⟩ [(68,⟨Jh,Ji,Jq⟩)] fO (zy []) 30 28 qz ZR ZS s ()=WB jx Jq s:=by kernel_rfl
def xy:zO->(Unit)->Option (zO×(Bool×Unit)):=sP prg ⟨[],[(67,⟨qz,yp,yq,wI⟩)],[]⟩ [(68,⟨Jh,Ji,yV⟩)] fO (zy []) 30 28 qz ZR ZS
theorem Fe:QT.Ok prg 28 ⟨qz,ZR,ZS,xy⟩:=da ⟨yR,(gK Wi uS),uT⟩ (ze BV zn) qP (by kernel_rfl)
theorem aY(s:zO):xy s ()=WB wI yV s:=SR wI yV s
abbrev ZT:List VT:=[⟨true,qI⟩]
abbrev ZU:List VT:=[⟨false,.bool⟩]
def aZ(a0:zM):Option (Bool×Unit):=opt (qZ (a0.1,(0,(1099511627776,())))) fun x0=>bif x0.1 then opt (qZ (a0.2.1,(0,(1099511627776,())))) fun x1=>bif x1.1 then opt (qZ (a0.2.2.1,(0,(7,())))) fun x2=>bif x2.1 then opt (qZ (a0.2.2.2.1,(84,(1542,())))) fun x3=>bif x3.1 then opt (qZ (a0.2.2.2.2,(0,(1099511627776,())))) fun x4=>some (x4.1,())else some (false,())else some (false,())else some (false,())else some (false,())
abbrev bc:Type:=(zM×Unit)->Option (Bool×Unit)
def yW:bc:=opq (sF prg [(88,ZQ)] (zG [cdF qI] [] [] [] [88]) (zy []) 30 121 ZT ZU)
abbrev bf:Con:=⟨ZT,ZU,yW⟩
theorem Kj:Con.Ok prg 121 bf:=okF (ze uN zn) (by kernel_rfl)
theorem pj(a0):yW (a0,())=aZ a0:=zA (by kernel_rfl)
abbrev gf:List VT:=[⟨true,gx⟩,⟨true,zr⟩,⟨true,zr⟩,⟨false,I⟩]
abbrev gg:List VT:=[⟨true,gx⟩]
def Up(a0:xM)(a1:zC)(a2:zC)(a3:Int):Option (xM×Unit):=opt (Ud (a1,(a2,()))) fun x0=>some (((wN x0.1.1 (wrF .i64 (a0.1+(wrF .i64 (a1.2*a3))))),(wN x0.1.2 (wrF .i64 (a0.2+(wrF .i64 (a2.2*a3)))))),())
abbrev Uq:Type:=(xM×zC×zC×Int×Unit)->Option (xM×Unit)
def yr:Uq:=opq (sF prg [(223,fu)] (zG [cdF gx] [] [] [] [223]) (zy []) 30 256 gf gg)
abbrev sg:Con:=⟨gf,gg,yr⟩
theorem iN:Con.Ok prg 256 sg:=okF (ze ma zn) (by kernel_rfl)
theorem iO(a0)(a1)(a2)(a3):yr (a0,a1,a2,a3,())=Up a0 a1 a2 a3:=zA (by kernel_rfl)
abbrev vU:List VT:=[⟨false,I⟩,⟨false,I⟩]
abbrev vV:List VT:=[⟨false,I⟩]
def Ur:ym:=zG [cdF uh,cdF gx] [] [] [] [256]
def Wj(gm:Uq)(s:xd)(a0:Int)(a1:Int):Option (xd×(Int×Unit)):=opt (gm (s.1,(s.2.2.1,(s.2.2.2,((wrF .i64 (a0 - s.2.1)),()))))) fun x0=>bif(zg x0.1.2 (wrF .i64 (a1*1048576)))then opt (some (0,(((x0.1,(a0,s.2.2)),()),()))) fun x1=>opt (some (0,((x1.2.1.1,()),()))) fun x2=>some (x2.2.1.1,(2,()))else bif(zg x0.1.1 (wrF .i64 (a1*1048576)))then opt (some (0,((((x0.1.1,(wrF .i64 (x0.1.2 - (wrF .i64 (a1*1048576))))),(a0,s.2.2)),()),()))) fun x3=>opt (some (0,((x3.2.1.1,()),()))) fun x4=>some (x4.2.1.1,(1,()))else opt (some (0,((((x0.1.1,(wrF .i64 (x0.1.2 - (wrF .i64 (a1*1048576))))),(a0,s.2.2)),()),()))) fun x5=>opt (some (0,(((((wrF .i64 (x5.2.1.1.1.1 - (wrF .i64 (a1*1048576)))),x5.2.1.1.1.2),x5.2.1.1.2),()),()))) fun x6=>some (x6.2.1.1,(0,()))
theorem BX(gm:(xM×zC×zC×Int×Unit)->Option (xM×Unit))(s:xd)(a0:Int)(a1:Int):sP prg ⟨[],[],[]⟩ [(256,⟨gf,gg,gm⟩)] Ur (zy []) 30 233 uh vU vV s (a0,a1,())=Wj gm s a0 a1:=by kernel_rfl
def vW:xd->(Int×Int×Unit)->Option (xd×(Int×Unit)):=sP prg ⟨[],[],[]⟩ [(256,⟨gf,gg,yr⟩)] Ur (zy []) 30 233 uh vU vV
theorem nr:QT.Ok prg 233 ⟨uh,vU,vV,vW⟩:=da ⟨yR,uS,uT⟩ (ze iN zn) qP (by kernel_rfl)
theorem nt(s:xd)(a0:Int)(a1:Int):vW s (a0,a1,())=Wj yr s a0 a1:=BX yr s a0 a1
abbrev Yp:List VT:=[⟨true,zr⟩,⟨true,zr⟩,⟨true,zY⟩,⟨false,I⟩,⟨false,I⟩]
abbrev Yq:List VT:=[⟨false,I⟩,⟨true,zY⟩,⟨false,I⟩]
def AY:ym:=zG [cdF uh,cdF zY,cdF zr] [] [] [] [89,233]
def fP(Vt:AM)(Zi:xd->(Int×Int×Unit)->Option (xd×(Int×Unit)))(a0:zC)(a1:zC)(a2:qK)(a3:Int)(a4:Int):Option (Int×qK×Int×Unit):=opt (Vt (a0,(a1,(a2,())))) fun x0=>bif !(zj x0.1 0)then some (0,((0,(0,0)),(x0.1,())))else opt (bif zg a3 a2.1 then some (1,(((0,(0,0)),(0,(2,()))),()))else bif zg 1099511627776 a3 then some (1,(((0,(0,0)),(0,(2,()))),()))else bif zg a4 1 then some (1,(((0,(0,0)),(0,(2,()))),()))else bif zg 1048576 a4 then some (1,(((0,(0,0)),(0,(2,()))),()))else some (0,(((0,(0,0)),(0,(0,()))),()))) fun x1=>bif Nat.beq x1.1 0 then opt (Zi (a2.2,(a2.1,(a0,a1))) (a3,(a4,()))) fun x2=>some (x2.2.1,((x2.1.2.1,x2.1.1),(0,())))else some (x1.2.1.2.1,(x1.2.1.1,(x1.2.1.2.2.1,())))
theorem zfP(Vt:(zC×zC×qK×Unit)->Option (Int×Unit))(Zi:xd->(Int×Int×Unit)->Option (xd×(Int×Unit)))(a0:zC)(a1:zC)(a2:qK)(a3:Int)(a4:Int):sFl prg ⟨[],[(233,⟨uh,vU,vV,Zi⟩)],[]⟩ [(89,⟨Vk,Vl,Vt⟩)] AY (zy []) 30 187 Yp Yq (a0,a1,a2,a3,a4,())=fP Vt Zi a0 a1 a2 a3 a4:=by kernel_rfl
def Qx:(zC×zC×qK×Int×Int×Unit)->Option (Int×qK×Int×Unit):=sFl prg ⟨[],[(233,⟨uh,vU,vV,vW⟩)],[]⟩ [(89,⟨Vk,Vl,kC⟩)] AY (zy []) 30 187 Yp Yq
theorem SS:Con.Ok prg 187 ⟨Yp,Yq,Qx⟩:=Dy ⟨yR,(gK nr uS),uT⟩ (ze fv zn) qP (by kernel_rfl)
theorem SU(a0:zC)(a1:zC)(a2:qK)(a3:Int)(a4:Int):Qx (a0,a1,a2,a3,a4,())=fP kC vW a0 a1 a2 a3 a4:=zfP kC vW a0 a1 a2 a3 a4
abbrev xz:List VT:=[⟨false,(.list zY)⟩,⟨false,I⟩,⟨true,zY⟩]
abbrev xA:List VT:=[⟨false,(.list zY)⟩]
def QJ(a0:(List qK))(a1:Int)(a2:qK):Option ((List qK)×Unit):=bif(ru ((a0.length:Nat):Int) ((a0.length:Nat):Int) 24)then opt (atI (Wo (List.replicate (Int.toNat ((a0.length:Nat):Int)) (0,(0,0))) a0) a1) fun x0=>opt (gl (Wo (List.replicate (Int.toNat ((a0.length:Nat):Int)) (0,(0,0))) a0) (Int.toNat a1)) fun x1=>some (((Wo (List.replicate (Int.toNat ((a0.length:Nat):Int)) (0,(0,0))) a0).set (Int.toNat a1) a2),())else none
abbrev QK:Type:=((List qK)×Int×qK×Unit)->Option ((List qK)×Unit)
def wg:QK:=opq (sF prg [] (zG [cdF zY] [] [] [] []) (zy []) 30 188 xz xA)
abbrev bg:Con:=⟨xz,xA,wg⟩
theorem Ut:Con.Ok prg 188 bg:=okF zn (by kernel_rfl)
theorem Uu(a0)(a1)(a2):wg (a0,a1,a2,())=QJ a0 a1 a2:=zA (by kernel_rfl)
abbrev xJ:List VT:=[⟨false,I⟩,⟨true,qI⟩,⟨false,I⟩]
abbrev xK:List VT:=[⟨false,I⟩]
def Xl:ym:=zG [cdF wo,cdF qg,cdF qI,cdF zY,cdF zr] [] [] [] [187]
def uE(UQ:(zC×zC×qK×Int×Int×Unit)->Option (Int×qK×Int×Unit))(xD:QK)(s:jc)(a0:Int)(a1:zM)(a2:Int):Option (jc×(Int×Unit)):=opt (zI (fun s0:((Int×(Int×(Int×Unit)))×Unit)=>bif(zg s0.1.2.2.1 ((s.2.1.length:Nat):Int))then opt (atI s.2.1 s0.1.2.2.1) fun x1=>bif zj x1.1 s0.1.1 then some (.inl (1,((s0.1.1,(s0.1.2.2.1,(s0.1.2.2.1,()))),())))else some (.inr ((s0.1.1,(s0.1.2.1,((wrF .i64 (s0.1.2.2.1+1)),()))),()))else some (.inl (0,((s0.1.1,(s0.1.2.1,(s0.1.2.2.1,()))),())))) zR ((a0,(0,(0,()))),())) fun x2=>bif Nat.beq x2.1 0 then some (s,(0,()))else bif zg x2.2.1.2.1 0 then some (s,(0,()))else opt (atI s.2.1 x2.2.1.2.1) fun x3=>opt (atI s.2.2.2.2 x2.2.1.2.1) fun x4=>opt (UQ (x3.2.1,(x3.2.2,(x4,((wrF .i64 (a2+1000)),(a1.2.2.2.1,())))))) fun x5=>bif !(zj x5.2.2.1 0)then some (s,(5,()))else opt (xD (s.2.2.2.2,(x2.2.1.2.1,(x5.2.1,())))) fun x6=>bif zj x5.1 2 then some ((s.1,(s.2.1,(s.2.2.1,(s.2.2.2.1,x6.1)))),(5,()))else some ((s.1,(s.2.1,(s.2.2.1,(s.2.2.2.1,x6.1)))),(0,()))
theorem nu(UQ:(zC×zC×qK×Int×Int×Unit)->Option (Int×qK×Int×Unit))(xD:((List qK)×Int×qK×Unit)->Option ((List qK)×Unit))(s:jc)(a0:Int)(a1:zM)(a2:Int):sP prg ⟨[],[],[]⟩ [(187,⟨Yp,Yq,UQ⟩),(188,⟨xz,xA,xD⟩)] Xl (zy []) 30 122 wo xJ xK s (a0,a1,a2,())=uE UQ xD s a0 a1 a2:=by kernel_rfl
def jF:jc->(Int×zM×Int×Unit)->Option (jc×(Int×Unit)):=sP prg ⟨[],[],[]⟩ [(187,⟨Yp,Yq,Qx⟩),(188,⟨xz,xA,wg⟩)] Xl (zy []) 30 122 wo xJ xK
theorem dn:QT.Ok prg 122 ⟨wo,xJ,xK,jF⟩:=da ⟨yR,uS,uT⟩ (ze SS (ze Ut zn)) qP (by kernel_rfl)
theorem WC(s:jc)(a0:Int)(a1:zM)(a2:Int):jF s (a0,a1,a2,())=uE Qx wg s a0 a1 a2:=nu Qx wg s a0 a1 a2
abbrev xB:List VT:=[⟨true,wo⟩,⟨false,I⟩,⟨true,qI⟩]
abbrev xC:List VT:=[⟨false,I⟩]
def QL(a0:jc)(a1:Int)(a2:zM):Option (Int×Unit):=opt (zI (fun s0:((Int×((Int×(Int×(Int×(Int×Int))))×(Int×(Int×Unit))))×Unit)=>bif(zg s0.1.2.2.2.1 ((a0.1.length:Nat):Int))then opt (atI a0.1 s0.1.2.2.2.1) fun x1=>bif zj x1.1 s0.1.1 then bif zj x1.2.1 s0.1.2.1.1 then bif zj x1.2.2.1 s0.1.2.1.2.2.1 then some (.inl (1,((s0.1.1,(s0.1.2.1,(s0.1.2.2.2.1,(s0.1.2.2.2.1,())))),())))else some (.inr ((s0.1.1,(s0.1.2.1,(s0.1.2.2.1,((wrF .i64 (s0.1.2.2.2.1+1)),())))),()))else some (.inr ((s0.1.1,(s0.1.2.1,(s0.1.2.2.1,((wrF .i64 (s0.1.2.2.2.1+1)),())))),()))else some (.inr ((s0.1.1,(s0.1.2.1,(s0.1.2.2.1,((wrF .i64 (s0.1.2.2.2.1+1)),())))),()))else some (.inl (0,((s0.1.1,(s0.1.2.1,(s0.1.2.2.1,(s0.1.2.2.2.1,())))),())))) zR ((a1,(a2,(0,(0,())))),())) fun x2=>bif Nat.beq x2.1 0 then some ((-1),())else some (x2.2.1.2.2.1,())
abbrev QM:Type:=(jc×Int×zM×Unit)->Option (Int×Unit)
def wh:QM:=opq (sF prg [] (zG [cdF wo,cdF zX,cdF qI] [] [] [] []) (zy []) 30 124 xB xC)
abbrev QN:Con:=⟨xB,xC,wh⟩
theorem ZV:Con.Ok prg 124 QN:=okF zn (by kernel_rfl)
theorem Uv(a0)(a1)(a2):wh (a0,a1,a2,())=QL a0 a1 a2:=zA (by kernel_rfl)
abbrev Uw:List VT:=[⟨false,I⟩,⟨false,I⟩]
abbrev Ux:List VT:=[⟨false,I⟩]
def Ff(a0:Int)(a1:Int):Option (Int×Unit):=bif zj a1 0 then none else bif zj a1 0 then none else some ((Int.tmod (wrF .i64 ((Int.tmod a0 a1)+a1)) a1),())
abbrev Fg:Type:=(Int×Int×Unit)->Option (Int×Unit)
def Qy:Fg:=opq (sF prg [] (zG [] [] [] [] []) (zy []) 30 189 Uw Ux)
abbrev zfQ:Con:=⟨Uw,Ux,Qy⟩
theorem SW:Con.Ok prg 189 zfQ:=okF zn (by kernel_rfl)
theorem SX(a0)(a1):Qy (a0,a1,())=Ff a0 a1:=zA (by kernel_rfl)
abbrev uZ:List VT:=[⟨false,(.list I)⟩,⟨false,I⟩,⟨false,I⟩]
abbrev ka:List VT:=[⟨false,(.list I)⟩]
def Kk(a0:(List Int))(a1:Int)(a2:Int):Option ((List Int)×Unit):=bif(ru ((a0.length:Nat):Int) ((a0.length:Nat):Int) 8)then opt (atI (Wo (List.replicate (Int.toNat ((a0.length:Nat):Int)) 0) a0) a1) fun x0=>opt (gl (Wo (List.replicate (Int.toNat ((a0.length:Nat):Int)) 0) a0) (Int.toNat a1)) fun x1=>some (((Wo (List.replicate (Int.toNat ((a0.length:Nat):Int)) 0) a0).set (Int.toNat a1) a2),())else none
abbrev Kl:Type:=((List Int)×Int×Int×Unit)->Option ((List Int)×Unit)
def yf:Kl:=opq (sF prg [] (zG [] [] [] [] []) (zy []) 30 193 uZ ka)
abbrev pk:Con:=⟨uZ,ka,yf⟩
theorem fQ:Con.Ok prg 193 pk:=okF zn (by kernel_rfl)
theorem fR(a0)(a1)(a2):yf (a0,a1,a2,())=Kk a0 a1 a2:=zA (by kernel_rfl)
abbrev yF:List VT:=[⟨false,I⟩,⟨true,qI⟩,⟨false,I⟩]
abbrev yG:List VT:=[⟨false,I⟩]
def JM:ym:=zG [cdF wo,cdF zX,cdF qI] [] [] [] [124,189]
def vg(xE:QM)(UR:Fg)(kj:Kl)(s:jc)(a0:Int)(a1:zM)(a2:Int):Option (jc×(Int×Unit)):=opt (xE (s,(a0,(a1,())))) fun x0=>bif zg x0.1 0 then some (s,(1,()))else opt (atI s.1 x0.1) fun x1=>bif zj x1.2.2.1 6 then bif zg x1.2.2.2.1 a1.2.2.2.1 then some (s,(2,()))else some (s,(0,()))else opt (UR ((wrF .i64 (a2 - x1.2.2.2.2.2.1)),(x1.2.2.2.2.1,()))) fun x2=>bif zj x1.2.2.2.2.1 0 then none else opt (zI (fun s3:((Int×(Int×Unit))×Unit)=>bif zg s3.1.2.1 3 then bif zj s3.1.2.1 0 then bif !(zj a1.2.2.2.1 x1.2.2.2.1)then some (.inl (0,((2,(s3.1.2.1,())),())))else some (.inr ((s3.1.1,((wrF .i64 (s3.1.2.1+1)),())),()))else bif zj s3.1.2.1 1 then bif(zg (wrF .i64 (Int.tdiv (wrF .i64 ((wrF .i64 (a2 - x1.2.2.2.2.2.1)) - x2.1)) x1.2.2.2.2.1)) 0)then some (.inl (0,((3,(s3.1.2.1,())),())))else bif(zg (wrF .i64 (x1.2.2.2.2.2.2 - x1.2.2.2.2.2.1)) x2.1)then some (.inl (0,((3,(s3.1.2.1,())),())))else some (.inr ((s3.1.1,((wrF .i64 (s3.1.2.1+1)),())),()))else bif zj s3.1.2.1 2 then opt (atI s.2.2.2.1 x0.1) fun x4=>bif(!(zg x4 (wrF .i64 (Int.tdiv (wrF .i64 ((wrF .i64 (a2 - x1.2.2.2.2.2.1)) - x2.1)) x1.2.2.2.2.1))))then some (.inl (0,((4,(s3.1.2.1,())),())))else some (.inr ((s3.1.1,((wrF .i64 (s3.1.2.1+1)),())),()))else none else some (.inl (0,((s3.1.1,(s3.1.2.1,())),())))) zR ((0,(0,())),())) fun x5=>opt (bif zj x5.2.1.1 0 then opt (kj (s.2.2.2.1,(x0.1,((wrF .i64 (Int.tdiv (wrF .i64 ((wrF .i64 (a2 - x1.2.2.2.2.2.1)) - x2.1)) x1.2.2.2.2.1)),())))) fun x6=>some (0,((x0.1,((wrF .i64 (Int.tdiv (wrF .i64 ((wrF .i64 (a2 - x1.2.2.2.2.2.1)) - x2.1)) x1.2.2.2.2.1)),((s.1,(s.2.1,(s.2.2.1,(x6.1,s.2.2.2.2)))),()))),()))else some (0,((x0.1,((wrF .i64 (Int.tdiv (wrF .i64 ((wrF .i64 (a2 - x1.2.2.2.2.2.1)) - x2.1)) x1.2.2.2.2.1)),(s,()))),()))) fun x7=>some (x7.2.1.2.2.1,(x5.2.1.1,()))
theorem dp(xE:(jc×Int×zM×Unit)->Option (Int×Unit))(UR:(Int×Int×Unit)->Option (Int×Unit))(kj:((List Int)×Int×Int×Unit)->Option ((List Int)×Unit))(s:jc)(a0:Int)(a1:zM)(a2:Int):sP prg ⟨[],[],[]⟩ [(124,⟨xB,xC,xE⟩),(189,⟨Uw,Ux,UR⟩),(193,⟨uZ,ka,kj⟩)] JM (zy []) 30 123 wo yF yG s (a0,a1,a2,())=vg xE UR kj s a0 a1 a2:=by kernel_rfl
def jh:jc->(Int×zM×Int×Unit)->Option (jc×(Int×Unit)):=sP prg ⟨[],[],[]⟩ [(124,⟨xB,xC,wh⟩),(189,⟨Uw,Ux,Qy⟩),(193,⟨uZ,ka,yf⟩)] JM (zy []) 30 123 wo yF yG
theorem GQ:QT.Ok prg 123 ⟨wo,yF,yG,jh⟩:=da ⟨yR,uS,uT⟩ (ze ZV (ze SW (ze fQ zn))) qP (by kernel_rfl)
theorem Qz(s:jc)(a0:Int)(a1:zM)(a2:Int):jh s (a0,a1,a2,())=vg wh Qy yf s a0 a1 a2:=dp wh Qy yf s a0 a1 a2
abbrev JN:List VT:=[⟨true,qv⟩,⟨false,I⟩,⟨true,qI⟩,⟨false,I⟩]
abbrev JO:List VT:=[⟨true,qv⟩,⟨false,I⟩,⟨false,I⟩]
def pq:ym:=zG [cdF qv,cdF zX,cdF qg,cdF qI,cdF zY,cdF zr] [] [] [] [43,88,121,122,123]
def bO(Xf:oT)(Qa:lZ)(Qb:bc)(uF:jc->(Int×zM×Int×Unit)->Option (jc×(Int×Unit)))(yH:jc->(Int×zM×Int×Unit)->Option (jc×(Int×Unit)))(a0:zH)(a1:Int)(a2:zM)(a3:Int):Option (zH×Int×Int×Unit):=opt (Xf (a0,())) fun x0=>bif !(zj x0.1 0)then some (([],([],(0,([],[])))),(0,(x0.1,())))else opt (Qa (a1,(0,(47,())))) fun x1=>bif !x1.1 then some (([],([],(0,([],[])))),(0,(2,())))else opt (Qb (a2,())) fun x2=>bif !x2.1 then some (([],([],(0,([],[])))),(0,(460,())))else opt (Qa (a3,(a0.2.2.1,(549755813888,())))) fun x3=>bif !x3.1 then some (([],([],(0,([],[])))),(0,(2,())))else bif zj a2.2.2.1 7 then opt (yH (a0.1,(a0.2.1,(a3,a0.2.2.2))) (a1,(a2,(a3,())))) fun x4=>some (x4.1,(x4.2.1,(0,())))else bif zj a2.2.2.1 6 then opt (yH (a0.1,(a0.2.1,(a3,a0.2.2.2))) (a1,(a2,(a3,())))) fun x5=>some (x5.1,(x5.2.1,(0,())))else opt (uF (a0.1,(a0.2.1,(a3,a0.2.2.2))) (a1,(a2,(a3,())))) fun x6=>some (x6.1,(x6.2.1,(0,())))
theorem zdb(Xf:(zH×Unit)->Option (Int×Unit))(Qa:(Int×Int×Int×Unit)->Option (Bool×Unit))(Qb:(zM×Unit)->Option (Bool×Unit))(uF:jc->(Int×zM×Int×Unit)->Option (jc×(Int×Unit)))(yH:jc->(Int×zM×Int×Unit)->Option (jc×(Int×Unit)))(a0:zH)(a1:Int)(a2:zM)(a3:Int):sFl prg ⟨[],[(122,⟨wo,xJ,xK,uF⟩),(123,⟨wo,yF,yG,yH⟩)],[]⟩ [(43,⟨YV,YW,Xf⟩),(88,⟨Wv,Ww,Qa⟩),(121,⟨ZT,ZU,Qb⟩)] pq (fun _ _=>false) 30 70 JN JO (a0,a1,a2,a3,())=bO Xf Qa Qb uF yH a0 a1 a2 a3:=by kernel_rfl
def vQ:(zH×Int×zM×Int×Unit)->Option (zH×Int×Int×Unit):=sFl prg ⟨[],[(122,⟨wo,xJ,xK,jF⟩),(123,⟨wo,yF,yG,jh⟩)],[]⟩ [(43,⟨YV,YW,xY⟩),(88,⟨Wv,Ww,qZ⟩),(121,⟨ZT,ZU,yW⟩)] pq (fun _ _=>false) 30 70 JN JO
theorem Oj:Con.Ok prg 70 ⟨JN,JO,vQ⟩:=Dy ⟨yR,(gK dn (gK GQ uS)),uT⟩ (ze Xp (ze uN (ze Kj zn))) qP (by kernel_rfl)
theorem Ol(a0:zH)(a1:Int)(a2:zM)(a3:Int):vQ (a0,a1,a2,a3,())=bO xY qZ yW jF jh a0 a1 a2 a3:=zdb xY qZ yW jF jh a0 a1 a2 a3
abbrev gQ:List VT:=[]
abbrev gR:List VT:=[⟨false,.bool⟩]
def cm:ym:=zG [cdF qz,cdF qR,cdF qv,cdF zX,cdF jg,cdF qj,cdF qg,cdF qI,cdF yC,cdF zY,cdF zr] [] [] [] [67]
def VR(Vu:(zH×Int×zM×Int×Unit)->Option (zH×Int×Int×Unit))(jx:zO->(Int×Unit)->Option (zO×(Bool×Unit)))(s:zO):Option (zO×(Bool×Unit)):=opt (Vu (s.1.2.1,(s.2.1,(s.2.2.1,((wrF .i64 (s.2.2.2.1+s.1.1)),()))))) fun x0=>bif !(zj x0.2.2.1 0)then some (s,(false,()))else bif !(zj x0.2.1 0)then opt (jx ((s.1.1,(x0.1,s.1.2.2)),s.2) (x0.2.1,())) fun x1=>some (x1.1,(x1.2.1,()))else some (((s.1.1,(x0.1,s.1.2.2)),s.2),(false,()))
theorem Om(Vu:(zH×Int×zM×Int×Unit)->Option (zH×Int×Int×Unit))(jx:zO->(Int×Unit)->Option (zO×(Bool×Unit)))(s:zO):sP prg ⟨[],[(67,⟨qz,yp,yq,jx⟩)],[]⟩ [(70,⟨JN,JO,Vu⟩)] cm (zy []) 30 29 qz gQ gR s ()=VR Vu jx s:=by kernel_rfl
def xS:zO->(Unit)->Option (zO×(Bool×Unit)):=sP prg ⟨[],[(67,⟨qz,yp,yq,wI⟩)],[]⟩ [(70,⟨JN,JO,vQ⟩)] cm (zy []) 30 29 qz gQ gR
theorem BY:QT.Ok prg 29 ⟨qz,gQ,gR,xS⟩:=da ⟨yR,(gK Wi uS),uT⟩ (ze Oj zn) qP (by kernel_rfl)
theorem BZ(s:zO):xS s ()=VR vQ wI s:=Om vQ wI s
abbrev gS:List VT:=[]
abbrev gT:List VT:=[⟨false,.bool⟩]
def cn:ym:=zG [cdF qz,cdF qR,cdF qv,cdF zX,cdF jg,cdF qj,cdF qg,cdF qI,cdF yC,cdF zY,cdF zr] [] [] [] []
def VS(s:zO):Option (zO×(Bool×Unit)):=bif !(zg s.2.2.1.2.2.1 6)then some (s,(false,()))else some ((s.1,(s.2.1,(s.2.2.1,(s.2.2.2.1,(5,(0,(0,0))))))),(true,()))
theorem On  (s:zO):sP prg ⟨[],[],[]⟩ [] cn (zy []) 30 30 qz gS gT s ()=VS  s:=by kernel_rfl
def yX:zO->(Unit)->Option (zO×(Bool×Unit)):=sP prg ⟨[],[],[]⟩ [] cn (zy []) 30 30 qz gS gT
theorem Ca:QT.Ok prg 30 ⟨qz,gS,gT,yX⟩:=da ⟨yR,uS,uT⟩ zn qP (by kernel_rfl)
theorem Cb(s:zO):yX s ()=VS  s:=On  s
abbrev Vn:List VT:=[⟨true,qv⟩,⟨false,I⟩,⟨true,qI⟩]
abbrev Vo:List VT:=[⟨false,I⟩,⟨false,I⟩]
def AZ(a0:zH)(a1:Int)(a2:zM):Option (Int×Int×Unit):=opt (xY (a0,())) fun x0=>bif !(zj x0.1 0)then some (0,(x0.1,()))else opt (yW (a2,())) fun x1=>bif !x1.1 then some (0,(460,()))else opt (wh (a0,(a1,(a2,())))) fun x2=>some (x2.1,(0,()))
abbrev Ba:Type:=(zH×Int×zM×Unit)->Option (Int×Int×Unit)
def kD:Ba:=opq (sF prg [(43,GO),(121,bf),(124,QN)] (zG [cdF qv,cdF zX,cdF qg,cdF qI,cdF zY,cdF zr] [] [] [] [43,121,124]) (zy []) 30 71 Vn Vo)
abbrev zdc:Con:=⟨Vn,Vo,kD⟩
theorem Oo:Con.Ok prg 71 zdc:=okF (ze Xp (ze Kj (ze ZV zn))) (by kernel_rfl)
theorem Oq(a0)(a1)(a2):kD (a0,a1,a2,())=AZ a0 a1 a2:=zA (by kernel_rfl)
abbrev vX:List VT:=[⟨false,I⟩,⟨false,I⟩]
abbrev vY:List VT:=[⟨false,.bool⟩]
def Uy:ym:=zG [cdF qz,cdF qR,cdF qv,cdF zX,cdF jg,cdF qj,cdF qg,cdF qI,cdF Kd,cdF zY,cdF zr] [] [] [] []
def Gg(s:zO)(a0:Int)(a1:Int):Option (zO×(Bool×Unit)):=some ((s.1,(s.2.1,(s.2.2.1,(s.2.2.2.1,(2,(a0,(a1,0))))))),(true,()))
theorem Cc  (s:zO) (a0:Int) (a1:Int):sP prg ⟨[],[],[]⟩ [] Uy (zy []) 30 72 qz vX vY s (a0,a1,())=Gg  s a0 a1:=by kernel_rfl
def vZ:zO->(Int×Int×Unit)->Option (zO×(Bool×Unit)):=sP prg ⟨[],[],[]⟩ [] Uy (zy []) 30 72 qz vX vY
theorem nv:QT.Ok prg 72 ⟨qz,vX,vY,vZ⟩:=da ⟨yR,uS,uT⟩ zn qP (by kernel_rfl)
theorem XS(s:zO)(a0:Int)(a1:Int):vZ s (a0,a1,())=Gg  s a0 a1:=Cc  s a0 a1
abbrev Bb:List VT:=[⟨false,(.list I)⟩]
abbrev Bc:List VT:=[⟨false,.bool⟩]
def Bd(a0:(List Int)):Option (Bool×Unit):=opt (zI (fun s0:((Bool×(Int×Unit))×Unit)=>bif(zg s0.1.2.1 ((a0.length:Nat):Int))then opt (atI a0 s0.1.2.1) fun x1=>opt (bif zg x1 (-1125899906842624)then some (1,((false,()),()))else bif zg 1125899906842624 x1 then some (1,((false,()),()))else some (0,((s0.1.1,()),()))) fun x2=>bif Nat.beq x2.1 0 then some (.inr ((x2.2.1.1,((wrF .i64 (s0.1.2.1+1)),())),()))else some (.inl (1,((x2.2.1.1,(s0.1.2.1,())),())))else some (.inl (0,((s0.1.1,(s0.1.2.1,())),())))) zR ((false,(0,())),())) fun x3=>bif Nat.beq x3.1 0 then some (true,())else some (x3.2.1.1,())
abbrev zdd:Type:=((List Int)×Unit)->Option (Bool×Unit)
def JP:zdd:=opq (sF prg [] (zG [] [] [] [] []) (zy []) 30 257 Bb Bc)
abbrev bP:Con:=⟨Bb,Bc,JP⟩
theorem fS:Con.Ok prg 257 bP:=okF zn (by kernel_rfl)
theorem Ot(a0):JP (a0,())=Bd a0:=zA (by kernel_rfl)
abbrev mm:List VT:=[⟨false,I⟩]
abbrev mn:List VT:=[⟨false,(.int .u64)⟩]
def Uz(a0:Int):Option (Int×Unit):=bif zg a0 0 then some ((wrF .u64 (wrF .i64 (0 - a0))),())else some ((wrF .u64 a0),())
abbrev SY:Type:=(Int×Unit)->Option (Int×Unit)
def ke:SY:=opq (sF prg [] (zG [] [] [] [] []) (zy []) 30 259 mm mn)
abbrev mq:Con:=⟨mm,mn,ke⟩
theorem Fh:Con.Ok prg 259 mq:=okF zn (by kernel_rfl)
theorem bh(a0):ke (a0,())=Uz a0:=zA (by kernel_rfl)
abbrev cp:List VT:=[⟨false,(.int .u64)⟩,⟨false,(.int .u64)⟩]
abbrev cq:List VT:=[⟨false,(.int .u64)⟩,⟨false,(.int .u64)⟩]
def cr(a0:Int)(a1:Int):Option (Int×Int×Unit):=some ((wrF .u64 ((wrF .u64 ((wrF .u64 ((wH .u64 a0 32)*(wH .u64 a1 32)))+(wH .u64 (wrF .u64 ((wrF .u64 ((wH .u64 a0 32)*(wR .and .u64 a1 4294967295)))+(wH .u64 (wrF .u64 ((wR .and .u64 a0 4294967295)*(wR .and .u64 a1 4294967295))) 32))) 32)))+(wH .u64 (wrF .u64 ((wR .and .u64 (wrF .u64 ((wrF .u64 ((wH .u64 a0 32)*(wR .and .u64 a1 4294967295)))+(wH .u64 (wrF .u64 ((wR .and .u64 a0 4294967295)*(wR .and .u64 a1 4294967295))) 32))) 4294967295)+(wrF .u64 ((wR .and .u64 a0 4294967295)*(wH .u64 a1 32))))) 32))),((wrF .u64 (a0*a1)),()))
abbrev Im:Type:=(Int×Int×Unit)->Option (Int×Int×Unit)
def Qm:Im:=opq (sF prg [] (zG [] [] [] [] []) (zy []) 30 258 cp cq)
abbrev cu:Con:=⟨cp,cq,Qm⟩
theorem si:Con.Ok prg 258 cu:=okF zn (by kernel_rfl)
theorem sj(a0)(a1):Qm (a0,a1,())=cr a0 a1:=zA (by kernel_rfl)
abbrev Xq:List VT:=[⟨false,(.int .u64)⟩]
abbrev Xr:List VT:=[⟨false,I⟩]
def Fi:ym:=zG [] [] [] [] []
def cv:(Int×Unit)->Option (Int×Unit):=sF prg [] Fi (zy []) 30 323 Xq Xr
theorem sk:Con.Ok prg 323 ⟨Xq,Xr,cv⟩:=Ro zn qP (by kernel_rfl)
abbrev kF:List VT:=[⟨false,(.int .u64)⟩]
abbrev kG:List VT:=[⟨false,I⟩]
def bj:ym:=zG [] [] [] [] [323]
def kI:(Int×Unit)->Option (Int×Unit):=sF prg [(323,⟨Xq,Xr,cv⟩)] bj (zy []) 30 294 kF kG
theorem UT:Con.Ok prg 294 ⟨kF,kG,kI⟩:=Ro (ze sk zn) qP (by kernel_rfl)
abbrev cw:List VT:=[⟨false,(.int .u64)⟩,⟨false,(.int .u64)⟩,⟨false,(.int .u64)⟩]
abbrev cA:List VT:=[⟨false,(.int .u64)⟩,⟨false,(.int .u64)⟩]
def cB(a0:Int)(a1:Int)(a2:Int):Option (Int×Int×Unit):=opt (bif zj a2 0 then none else some (0,((),()))) fun x0=>opt (bif !(zg a0 a2)then none else some (0,((),()))) fun x1=>bif zj a0 0 then bif zj a2 0 then none else bif zj a2 0 then none else some ((wrF .u64 (Int.tdiv a1 a2)),((Int.tmod a1 a2),()))else opt (kI (a2,())) fun x2=>bif zg (wrF .u64 x2.1) 0 then none else bif zg (wrF .u64 x2.1) 0 then none else bif(zg (wrF .u64 (64 - (wrF .u64 x2.1))) 0)then none else bif zg (wrF .u64 x2.1) 0 then none else bif(zj (wH .u64 (wj .u64 a2 (wrF .u64 x2.1)) 32) 0)then none else opt (zI (fun s3:((Int×(Int×Unit))×Unit)=>bif !(zg s3.1.1 4294967296)then bif(!(zg (wrF .u64 (s3.1.2.1+(wH .u64 (wj .u64 a2 (wrF .u64 x2.1)) 32))) 4294967296))then some (.inl (0,(((wrF .u64 (s3.1.1 - 1)),((wrF .u64 (s3.1.2.1+(wH .u64 (wj .u64 a2 (wrF .u64 x2.1)) 32))),())),())))else some (.inr (((wrF .u64 (s3.1.1 - 1)),((wrF .u64 (s3.1.2.1+(wH .u64 (wj .u64 a2 (wrF .u64 x2.1)) 32))),())),()))else bif(zg (wrF .u64 ((wrF .u64 (4294967296*s3.1.2.1))+(wH .u64 (wj .u64 a1 (wrF .u64 x2.1)) 32))) (wrF .u64 (s3.1.1*(wR .and .u64 (wj .u64 a2 (wrF .u64 x2.1)) 4294967295))))then bif(!(zg (wrF .u64 (s3.1.2.1+(wH .u64 (wj .u64 a2 (wrF .u64 x2.1)) 32))) 4294967296))then some (.inl (0,(((wrF .u64 (s3.1.1 - 1)),((wrF .u64 (s3.1.2.1+(wH .u64 (wj .u64 a2 (wrF .u64 x2.1)) 32))),())),())))else some (.inr (((wrF .u64 (s3.1.1 - 1)),((wrF .u64 (s3.1.2.1+(wH .u64 (wj .u64 a2 (wrF .u64 x2.1)) 32))),())),()))else some (.inl (0,((s3.1.1,(s3.1.2.1,())),())))) zR (((wrF .u64 (Int.tdiv (wR .or .u64 (wj .u64 a0 (wrF .u64 x2.1)) (wH .u64 a1 (wrF .u64 (64 - (wrF .u64 x2.1))))) (wH .u64 (wj .u64 a2 (wrF .u64 x2.1)) 32))),((wrF .u64 ((wR .or .u64 (wj .u64 a0 (wrF .u64 x2.1)) (wH .u64 a1 (wrF .u64 (64 - (wrF .u64 x2.1))))) - (wrF .u64 ((wrF .u64 (Int.tdiv (wR .or .u64 (wj .u64 a0 (wrF .u64 x2.1)) (wH .u64 a1 (wrF .u64 (64 - (wrF .u64 x2.1))))) (wH .u64 (wj .u64 a2 (wrF .u64 x2.1)) 32)))*(wH .u64 (wj .u64 a2 (wrF .u64 x2.1)) 32))))),())),())) fun x4=>bif(zj (wH .u64 (wj .u64 a2 (wrF .u64 x2.1)) 32) 0)then none else opt (zI (fun s5:((Int×(Int×Unit))×Unit)=>bif !(zg s5.1.1 4294967296)then bif(!(zg (wrF .u64 (s5.1.2.1+(wH .u64 (wj .u64 a2 (wrF .u64 x2.1)) 32))) 4294967296))then some (.inl (0,(((wrF .u64 (s5.1.1 - 1)),((wrF .u64 (s5.1.2.1+(wH .u64 (wj .u64 a2 (wrF .u64 x2.1)) 32))),())),())))else some (.inr (((wrF .u64 (s5.1.1 - 1)),((wrF .u64 (s5.1.2.1+(wH .u64 (wj .u64 a2 (wrF .u64 x2.1)) 32))),())),()))else bif(zg (wrF .u64 ((wrF .u64 (4294967296*s5.1.2.1))+(wR .and .u64 (wj .u64 a1 (wrF .u64 x2.1)) 4294967295))) (wrF .u64 (s5.1.1*(wR .and .u64 (wj .u64 a2 (wrF .u64 x2.1)) 4294967295))))then bif(!(zg (wrF .u64 (s5.1.2.1+(wH .u64 (wj .u64 a2 (wrF .u64 x2.1)) 32))) 4294967296))then some (.inl (0,(((wrF .u64 (s5.1.1 - 1)),((wrF .u64 (s5.1.2.1+(wH .u64 (wj .u64 a2 (wrF .u64 x2.1)) 32))),())),())))else some (.inr (((wrF .u64 (s5.1.1 - 1)),((wrF .u64 (s5.1.2.1+(wH .u64 (wj .u64 a2 (wrF .u64 x2.1)) 32))),())),()))else some (.inl (0,((s5.1.1,(s5.1.2.1,())),())))) zR (((wrF .u64 (Int.tdiv (wrF .u64 ((wrF .u64 ((wrF .u64 ((wR .or .u64 (wj .u64 a0 (wrF .u64 x2.1)) (wH .u64 a1 (wrF .u64 (64 - (wrF .u64 x2.1)))))*4294967296))+(wH .u64 (wj .u64 a1 (wrF .u64 x2.1)) 32))) - (wrF .u64 (x4.2.1.1*(wj .u64 a2 (wrF .u64 x2.1)))))) (wH .u64 (wj .u64 a2 (wrF .u64 x2.1)) 32))),((wrF .u64 ((wrF .u64 ((wrF .u64 ((wrF .u64 ((wR .or .u64 (wj .u64 a0 (wrF .u64 x2.1)) (wH .u64 a1 (wrF .u64 (64 - (wrF .u64 x2.1)))))*4294967296))+(wH .u64 (wj .u64 a1 (wrF .u64 x2.1)) 32))) - (wrF .u64 (x4.2.1.1*(wj .u64 a2 (wrF .u64 x2.1)))))) - (wrF .u64 ((wrF .u64 (Int.tdiv (wrF .u64 ((wrF .u64 ((wrF .u64 ((wR .or .u64 (wj .u64 a0 (wrF .u64 x2.1)) (wH .u64 a1 (wrF .u64 (64 - (wrF .u64 x2.1)))))*4294967296))+(wH .u64 (wj .u64 a1 (wrF .u64 x2.1)) 32))) - (wrF .u64 (x4.2.1.1*(wj .u64 a2 (wrF .u64 x2.1)))))) (wH .u64 (wj .u64 a2 (wrF .u64 x2.1)) 32)))*(wH .u64 (wj .u64 a2 (wrF .u64 x2.1)) 32))))),())),())) fun x6=>bif zg (wrF .u64 x2.1) 0 then none else some ((wrF .u64 ((wrF .u64 (x4.2.1.1*4294967296))+x6.2.1.1)),((wH .u64 (wrF .u64 ((wrF .u64 ((wrF .u64 ((wrF .u64 ((wrF .u64 ((wrF .u64 ((wR .or .u64 (wj .u64 a0 (wrF .u64 x2.1)) (wH .u64 a1 (wrF .u64 (64 - (wrF .u64 x2.1)))))*4294967296))+(wH .u64 (wj .u64 a1 (wrF .u64 x2.1)) 32))) - (wrF .u64 (x4.2.1.1*(wj .u64 a2 (wrF .u64 x2.1))))))*4294967296))+(wR .and .u64 (wj .u64 a1 (wrF .u64 x2.1)) 4294967295))) - (wrF .u64 (x6.2.1.1*(wj .u64 a2 (wrF .u64 x2.1)))))) (wrF .u64 x2.1)),()))
abbrev Io:Type:=(Int×Int×Int×Unit)->Option (Int×Int×Unit)
def Qn:Io:=opq (sF prg [(294,⟨kF,kG,kI⟩)] (zG [] [] [] [] [294]) (zy []) 30 260 cw cA)
abbrev cC:Con:=⟨cw,cA,Qn⟩
theorem sm:Con.Ok prg 260 cC:=okF (ze UT zn) (by kernel_rfl)
theorem sn(a0)(a1)(a2):Qn (a0,a1,a2,())=cB a0 a1 a2:=zA (by kernel_rfl)
abbrev Be:List VT:=[⟨false,I⟩]
abbrev Bf:List VT:=[⟨false,I⟩,⟨false,.bool⟩]
def Bg(a0:Int):Option (Int×Bool×Unit):=opt (JP ((a0::[]),())) fun x0=>bif !x0.1 then some (0,(false,()))else some (a0,(true,()))
abbrev zde:Type:=(Int×Unit)->Option (Int×Bool×Unit)
def Zt:zde:=opq (sF prg [(257,bP)] (zG [] [] [] [] [257]) (zy []) 30 261 Be Bf)
abbrev Bh:Con:=⟨Be,Bf,Zt⟩
theorem Ou:Con.Ok prg 261 Bh:=okF (ze fS zn) (by kernel_rfl)
theorem Ov(a0):Zt (a0,())=Bg a0:=zA (by kernel_rfl)
abbrev Fj:List VT:=[⟨false,I⟩,⟨false,I⟩,⟨false,I⟩]
abbrev Fk:List VT:=[⟨false,I⟩,⟨false,.bool⟩]
def Fl(a0:Int)(a1:Int)(a2:Int):Option (Int×Bool×Unit):=opt (opt (JP ((a0::(a1::(a2::[]))),())) fun x0=>bif !x0.1 then some (1,((0,(false,())),()))else bif zg a2 1 then some (1,((0,(false,())),()))else some (0,((0,(false,())),()))) fun x1=>bif Nat.beq x1.1 0 then opt (ke (a0,())) fun x2=>opt (ke (a1,())) fun x3=>opt (Qm (x2.1,(x3.1,()))) fun x4=>bif(!(zg x4.1 (wrF .u64 a2)))then some (0,(false,()))else opt (Qn (x4.1,(x4.2.1,((wrF .u64 a2),())))) fun x5=>bif zg 1125899906842624 x5.1 then some (0,(false,()))else opt (bif(!((zg a0 0) == (zg a1 0)))then opt (bif !(zj x5.2.1 0)then some (0,(((wrF .i64 ((wrF .i64 (0 - (wrF .i64 x5.1))) - 1)),()),()))else some (0,(((wrF .i64 (0 - (wrF .i64 x5.1))),()),()))) fun x6=>some (0,((x6.2.1.1,()),()))else some (0,(((wrF .i64 x5.1),()),()))) fun x7=>opt (Zt (x7.2.1.1,())) fun x8=>some (x8.1,(x8.2.1,()))else some (x1.2.1.1,(x1.2.1.2.1,()))
abbrev zfR:Type:=(Int×Int×Int×Unit)->Option (Int×Bool×Unit)
def UA:zfR:=opq (sF prg [(257,bP),(259,mq),(258,cu),(260,cC),(261,Bh)] (zG [] [] [] [] [257,259,258,260,261]) (zy []) 30 234 Fj Fk)
abbrev Fm:Con:=⟨Fj,Fk,UA⟩
theorem SZ:Con.Ok prg 234 Fm:=okF (ze fS (ze Fh (ze si (ze sm (ze Ou zn))))) (by kernel_rfl)
theorem Ta(a0)(a1)(a2):UA (a0,a1,a2,())=Fl a0 a1 a2:=zA (by kernel_rfl)
abbrev Bi:List VT:=[⟨false,I⟩,⟨false,I⟩]
abbrev Bj:List VT:=[⟨false,I⟩,⟨false,.bool⟩]
def Bk(a0:Int)(a1:Int):Option (Int×Bool×Unit):=opt (UA (a0,((-1),(a1,())))) fun x0=>some ((wrF .i64 (0 - x0.1)),(x0.2.1,()))
abbrev zdf:Type:=(Int×Int×Unit)->Option (Int×Bool×Unit)
def JQ:zdf:=opq (sF prg [(234,Fm)] (zG [] [] [] [] [234]) (zy []) 30 197 Bi Bj)
abbrev Bl:Con:=⟨Bi,Bj,JQ⟩
theorem Ow:Con.Ok prg 197 Bl:=okF (ze SZ zn) (by kernel_rfl)
theorem Ox(a0)(a1):JQ (a0,a1,())=Bk a0 a1:=zA (by kernel_rfl)
abbrev fT:List VT:=[⟨true,zr⟩,⟨true,xc⟩,⟨false,I⟩,⟨false,I⟩]
abbrev fU:List VT:=[⟨false,I⟩,⟨true,xc⟩]
def fV(a0:zC)(a1:jv)(a2:Int)(a3:Int):Option (Int×jv×Unit):=opt (JQ ((jV 0 (wrF .i64 ((wrF .i64 (a3*1048576)) - (wN (wrF .i64 (a0.1*1048576)) (wrF .i64 (a1.2+(wrF .i64 (a0.2*(wrF .i64 ((jV a2 a1.1) - a1.1)))))))))),(a0.2,()))) fun x0=>some ((wrF .i64 ((jV a2 a1.1)+x0.1)),(((wrF .i64 ((jV a2 a1.1)+x0.1)),(wrF .i64 ((wN (wrF .i64 (a0.1*1048576)) (wrF .i64 (a1.2+(wrF .i64 (a0.2*(wrF .i64 ((wrF .i64 ((jV a2 a1.1)+x0.1)) - a1.1))))))) - (wrF .i64 (a3*1048576))))),()))
abbrev Oy:Type:=(zC×jv×Int×Int×Unit)->Option (Int×jv×Unit)
def Jj:Oy:=opq (sF prg [(197,Bl)] (zG [cdF zr] [] [] [] [197]) (zy []) 30 125 fT fU)
abbrev fW:Con:=⟨fT,fU,Jj⟩
theorem Cd:Con.Ok prg 125 fW:=okF (ze Ow zn) (by kernel_rfl)
theorem Ce(a0)(a1)(a2)(a3):Jj (a0,a1,a2,a3,())=fV a0 a1 a2 a3:=zA (by kernel_rfl)
abbrev Jk:List VT:=[⟨true,zr⟩,⟨true,xc⟩,⟨false,I⟩,⟨false,I⟩]
abbrev Jl:List VT:=[⟨false,I⟩,⟨true,xc⟩,⟨false,I⟩]
def fX(a0:zC)(a1:jv)(a2:Int)(a3:Int):Option (Int×jv×Int×Unit):=opt (JK (a0,(a1,()))) fun x0=>bif !(zj x0.1 0)then some (0,((0,0),(x0.1,())))else opt (bif zg a2 0 then some (1,(((0,0),(0,(2,()))),()))else bif zg 1099511627776 a2 then some (1,(((0,0),(0,(2,()))),()))else bif zg a3 1 then some (1,(((0,0),(0,(2,()))),()))else bif zg 1048576 a3 then some (1,(((0,0),(0,(2,()))),()))else some (0,(((0,0),(0,(0,()))),()))) fun x1=>bif Nat.beq x1.1 0 then bif zg a0.1 a3 then some (0,((0,0),(4,())))else opt (Jj (a0,(a1,(a2,(a3,()))))) fun x2=>bif zg 1099511627776 x2.1 then some (0,((0,0),(6,())))else some (x2.1,(x2.2.1,(0,())))else some (x1.2.1.2.1,(x1.2.1.1,(x1.2.1.2.2.1,())))
abbrev fY:Type:=(zC×jv×Int×Int×Unit)->Option (Int×jv×Int×Unit)
def xT:fY:=opq (sF prg [(91,bK),(125,fW)] (zG [cdF zr] [] [] [] [91,125]) (zy []) 30 73 Jk Jl)
abbrev Oz:Con:=⟨Jk,Jl,xT⟩
theorem Cf:Con.Ok prg 73 Oz:=okF (ze fx (ze Cd zn)) (by kernel_rfl)
theorem Cg(a0)(a1)(a2)(a3):xT (a0,a1,a2,a3,())=fX a0 a1 a2 a3:=zA (by kernel_rfl)
abbrev gU:List VT:=[]
abbrev gV:List VT:=[⟨false,.bool⟩]
def cD:ym:=zG [cdF qz,cdF qR,cdF qv,cdF zX,cdF jg,cdF qj,cdF qg,cdF qI,cdF yC,cdF zY,cdF zr] [] [⟨1,8,some 2,jg,true⟩] [] [71,72,73,67]
def VU(Vv:Ba)(ub:zO->(Int×Int×Unit)->Option (zO×(Bool×Unit)))(Jr:fY)(jx:zO->(Int×Unit)->Option (zO×(Bool×Unit)))(s:zO):Option (zO×(Bool×Unit)):=opt (Vv (s.1.2.1,(s.2.1,(s.2.2.1,())))) fun x0=>opt (bif !(zj x0.2.1 0)then some (1,((false,()),()))else bif zg x0.1 0 then some (1,((false,()),()))else bif(!(zg x0.1 ((s.1.2.2.1.length:Nat):Int)))then some (1,((false,()),()))else some (0,((false,()),()))) fun x1=>bif Nat.beq x1.1 0 then opt (atI s.1.2.2.1 x0.1) fun x2=>bif zj s.2.2.1.2.2.1 7 then opt (ub s (x2.1,(s.2.2.2.1,()))) fun x3=>some (x3.1,(x3.2.1,()))else opt (Jr (x2.2.1,(x2.2.2.2,(s.2.2.2.1,(s.2.2.1.2.2.2.1,()))))) fun x4=>opt (bif !(zj x4.2.2.1 0)then opt (jx s (21,())) fun x5=>some (1,((x5.1,(x5.2.1,())),()))else bif(zg x2.2.2.1 (wrF .i64 (x4.1 - s.2.2.2.1)))then opt (jx s (21,())) fun x6=>some (1,((x6.1,(x6.2.1,())),()))else some (0,((s,(x1.2.1.1,())),()))) fun x7=>bif Nat.beq x7.1 0 then bif dQ x7.2.1.1.1.2.2.1 then bif qe 0 x7.2.1.1.1.2.2.1.length 48 then opt (atI x7.2.1.1.1.2.2.1 x0.1) fun x8=>opt (gl x7.2.1.1.1.2.2.1 (Int.toNat x0.1)) fun x9=>opt (ub ((x7.2.1.1.1.1,(x7.2.1.1.1.2.1,((x7.2.1.1.1.2.2.1.set (Int.toNat x0.1) (x2.1,(x2.2.1,(x2.2.2.1,x4.2.1)))),x7.2.1.1.1.2.2.2))),x7.2.1.1.2) (x2.1,(x4.1,()))) fun x10=>some (x10.1,(x10.2.1,()))else none else none else some (x7.2.1.1,(x7.2.1.2.1,()))else some (s,(x1.2.1.1,()))
theorem OA(Vv:(zH×Int×zM×Unit)->Option (Int×Int×Unit))(ub:zO->(Int×Int×Unit)->Option (zO×(Bool×Unit)))(Jr:(zC×jv×Int×Int×Unit)->Option (Int×jv×Int×Unit))(jx:zO->(Int×Unit)->Option (zO×(Bool×Unit)))(s:zO):sP prg ⟨[],[(72,⟨qz,vX,vY,ub⟩),(67,⟨qz,yp,yq,jx⟩)],[]⟩ [(71,⟨Vn,Vo,Vv⟩),(73,⟨Jk,Jl,Jr⟩)] cD (zy []) 30 31 qz gU gV s ()=VU Vv ub Jr jx s:=by kernel_rfl
def yu:zO->(Unit)->Option (zO×(Bool×Unit)):=sP prg ⟨[],[(72,⟨qz,vX,vY,vZ⟩),(67,⟨qz,yp,yq,wI⟩)],[]⟩ [(71,⟨Vn,Vo,kD⟩),(73,⟨Jk,Jl,xT⟩)] cD (zy []) 30 31 qz gU gV
theorem Ch:QT.Ok prg 31 ⟨qz,gU,gV,yu⟩:=da ⟨yR,(gK nv (gK Wi uS)),uT⟩ (ze Oo (ze Cf zn)) qP (by kernel_rfl)
theorem Ci(s:zO):yu s ()=VU kD vZ xT wI s:=OA kD vZ xT wI s
abbrev JR:List VT:=[⟨true,qR⟩,⟨false,I⟩,⟨true,qI⟩,⟨false,I⟩]
abbrev JS:List VT:=[⟨true,qR⟩,⟨true,Kd⟩,⟨false,I⟩]
def pv:ym:=zG [cdF qz,cdF qR,cdF qv,cdF zX,cdF jg,cdF qj,cdF qg,cdF qI,cdF yC,cdF zY,cdF zr] [(14,76)] [] [] [12,26,27,28,29,30,31]
def kJ(Js:fF)(Qp:cg)(Jt:fI)(WM:zO->(Unit)->Option (zO×(Bool×Unit)))(Ju:zO->(Unit)->Option (zO×(Bool×Unit)))(Jv:zO->(Unit)->Option (zO×(Bool×Unit)))(Jw:zO->(Unit)->Option (zO×(Bool×Unit)))(a0:zK)(a1:Int)(a2:zM)(a3:Int):Option (zK×yT×Int×Unit):=opt (Js (a0,())) fun x0=>bif !(zj x0.1 0)then some ((0,(([],([],(0,([],[])))),([],([],[])))),((0,(0,(0,0))),(x0.1,())))else opt (bif zg a1 0 then some (1,(((0,(([],([],(0,([],[])))),([],([],[])))),((0,(0,(0,0))),(2,()))),()))else bif !(zg a1 48)then some (1,(((0,(([],([],(0,([],[])))),([],([],[])))),((0,(0,(0,0))),(2,()))),()))else some (0,(((0,(([],([],(0,([],[])))),([],([],[])))),((0,(0,(0,0))),(0,()))),()))) fun x1=>bif Nat.beq x1.1 0 then opt (Qp (a2,())) fun x2=>bif !(zj x2.1 0)then some ((0,(([],([],(0,([],[])))),([],([],[])))),((0,(0,(0,0))),(x2.1,())))else opt (Jt (a0,(a3,()))) fun x3=>bif !(zj x3.1 0)then some ((0,(([],([],(0,([],[])))),([],([],[])))),((0,(0,(0,0))),(x3.1,())))else opt (WM (a0,(a1,(a2,(a3,(0,(0,(0,0))))))) ()) fun x4=>bif x4.2.1 then some (x4.1.1,(x4.1.2.2.2.2,(0,())))else opt (Ju x4.1 ()) fun x5=>bif x5.2.1 then some (x5.1.1,(x5.1.2.2.2.2,(0,())))else opt (Jv x5.1 ()) fun x6=>bif x6.2.1 then some (x6.1.1,(x6.1.2.2.2.2,(0,())))else opt (Jw x6.1 ()) fun x7=>bif x7.2.1 then some (x7.1.1,(x7.1.2.2.2.2,(0,())))else some (x7.1.1,(x7.1.2.2.2.2,(0,())))else some (x1.2.1.1,(x1.2.1.2.1,(x1.2.1.2.2.1,())))
theorem zdg(Js:(zK×Unit)->Option (Int×Unit))(Qp:(zM×Unit)->Option (Int×Unit))(Jt:(zK×Int×Unit)->Option (Int×Unit))(WM:zO->(Unit)->Option (zO×(Bool×Unit)))(Ju:zO->(Unit)->Option (zO×(Bool×Unit)))(Jv:zO->(Unit)->Option (zO×(Bool×Unit)))(Jw:zO->(Unit)->Option (zO×(Bool×Unit)))(a0:zK)(a1:Int)(a2:zM)(a3:Int):sFl prg ⟨[],[(28,⟨qz,ZR,ZS,WM⟩),(29,⟨qz,gQ,gR,Ju⟩),(30,⟨qz,gS,gT,Jv⟩),(31,⟨qz,gU,gV,Jw⟩)],[]⟩ [(12,⟨Jd,Je,Js⟩),(26,⟨Qk,Ql,Qp⟩),(27,⟨Jf,Jg,Jt⟩)] pv (zy []) 30 8 JR JS (a0,a1,a2,a3,())=kJ Js Qp Jt WM Ju Jv Jw a0 a1 a2 a3:=by kernel_rfl
def xO:(zK×Int×zM×Int×Unit)->Option (zK×yT×Int×Unit):=sFl prg ⟨[],[(28,⟨qz,ZR,ZS,xy⟩),(29,⟨qz,gQ,gR,xS⟩),(30,⟨qz,gS,gT,yX⟩),(31,⟨qz,gU,gV,yu⟩)],[]⟩ [(12,⟨Jd,Je,uq⟩),(26,⟨Qk,Ql,vK⟩),(27,⟨Jf,Jg,ur⟩)] pv (zy []) 30 8 JR JS
theorem OB:Con.Ok prg 8 ⟨JR,JS,xO⟩:=Dy ⟨yR,(gK Fe (gK BY (gK Ca (gK Ch uS)))),uT⟩ (ze BR (ze sb (ze BT zn))) qP (by kernel_rfl)
theorem gW(a0:zK)(a1:Int)(a2:zM)(a3:Int):xO (a0,a1,a2,a3,())=kJ uq vK ur xy xS yX yu a0 a1 a2 a3:=zdg uq vK ur xy xS yX yu a0 a1 a2 a3
abbrev Bm:List VT:=[⟨false,I⟩]
abbrev Bn:List VT:=[⟨false,.bool⟩]
def Bo(a0:Int):Option (Bool×Unit):=bif !(zg a0 0)then some ((!(zg 1099511627776 a0)),())else some (false,())
abbrev zdh:Type:=(Int×Unit)->Option (Bool×Unit)
def Zu:zdh:=opq (sF prg [] (zG [] [] [] [] []) (zy []) 30 76 Bm Bn)
abbrev Bp:Con:=⟨Bm,Bn,Zu⟩
theorem OC:Con.Ok prg 76 Bp:=okF zn (by kernel_rfl)
theorem OD(a0):Zu (a0,())=Bo a0:=zA (by kernel_rfl)
abbrev Fo:List VT:=[⟨true,qI⟩]
abbrev Fp:List VT:=[⟨false,.bool⟩]
def Fq(a0:zM):Option (Bool×Unit):=opt (Zu (a0.1,())) fun x0=>bif x0.1 then opt (Zu (a0.2.1,())) fun x1=>bif x1.1 then opt (Zu (a0.2.2.2.2,())) fun x2=>bif x2.1 then bif !(zg a0.2.2.1 0)then bif !(zg 7 a0.2.2.1)then bif !(zg a0.2.2.2.1 84)then some ((!(zg 1542 a0.2.2.2.1)),())else some (false,())else some (false,())else some (false,())else some (false,())else some (false,())else some (false,())
abbrev zfS:Type:=(zM×Unit)->Option (Bool×Unit)
def UB:zfS:=opq (sF prg [(76,Bp)] (zG [cdF qI] [] [] [] [76]) (zy []) 30 34 Fo Fp)
abbrev Fs:Con:=⟨Fo,Fp,UB⟩
theorem Tb:Con.Ok prg 34 Fs:=okF (ze OC zn) (by kernel_rfl)
theorem Tc(a0):UB (a0,())=Fq a0:=zA (by kernel_rfl)
abbrev Bq:List VT:=[⟨true,qR⟩,⟨false,I⟩]
abbrev Br:List VT:=[⟨false,.bool⟩]
def Bs(a0:zK)(a1:Int):Option (Bool×Unit):=bif(zg (wrF .i64 (a1+a0.1)) a0.2.1.2.2.1)then some (true,())else opt (zI (fun s0:((Bool×(Int×Unit))×Unit)=>bif(zg s0.1.2.1 ((a0.2.2.2.2.length:Nat):Int))then opt (atI a0.2.2.2.2 s0.1.2.1) fun x1=>bif zg a1 x1.2.2.2.2.1 then some (.inl (1,((true,(s0.1.2.1,())),())))else some (.inr ((s0.1.1,((wrF .i64 (s0.1.2.1+1)),())),()))else some (.inl (0,((s0.1.1,(s0.1.2.1,())),())))) zR ((false,(0,())),())) fun x2=>bif Nat.beq x2.1 0 then some (false,())else some (x2.2.1.1,())
abbrev zdi:Type:=(zK×Int×Unit)->Option (Bool×Unit)
def Vp:zdi:=opq (sF prg [] (zG [cdF qR,cdF qv,cdF zX,cdF jg,cdF qj,cdF qg,cdF yC,cdF zY,cdF zr] [] [] [] []) (zy []) 30 35 Bq Br)
abbrev Bt:Con:=⟨Bq,Br,Vp⟩
theorem OE:Con.Ok prg 35 Bt:=okF zn (by kernel_rfl)
theorem OF(a0)(a1):Vp (a0,a1,())=Bs a0 a1:=zA (by kernel_rfl)
abbrev Bu:List VT:=[⟨false,I⟩,⟨false,I⟩]
abbrev Bv:List VT:=[⟨false,I⟩]
def Bw(a0:Int)(a1:Int):Option (Int×Unit):=opt (bif(zg (Int.tmod (wrF .i64 (a0+(Int.tmod a1 65536))) 65536) 0)then some (0,(((wrF .i64 ((Int.tmod (wrF .i64 (a0+(Int.tmod a1 65536))) 65536)+65536)),()),()))else some (0,(((Int.tmod (wrF .i64 (a0+(Int.tmod a1 65536))) 65536),()),()))) fun x0=>some (x0.2.1.1,())
abbrev zdj:Type:=(Int×Int×Unit)->Option (Int×Unit)
def Zv:zdj:=opq (sF prg [] (zG [] [] [] [] []) (zy []) 30 128 Bu Bv)
abbrev bQ:Con:=⟨Bu,Bv,Zv⟩
theorem fZ:Con.Ok prg 128 bQ:=okF zn (by kernel_rfl)
theorem OG(a0)(a1):Zv (a0,a1,())=Bw a0 a1:=zA (by kernel_rfl)
abbrev Bx:List VT:=[⟨false,I⟩,⟨false,I⟩]
abbrev By:List VT:=[⟨false,I⟩]
def Bz(a0:Int)(a1:Int):Option (Int×Unit):=opt (Zv (a1,((wrF .i64 (0 - a0)),()))) fun x0=>opt (bif !(zg x0.1 32768)then some (0,(((wrF .i64 (x0.1 - 65536)),()),()))else some (0,((x0.1,()),()))) fun x1=>some (x1.2.1.1,())
abbrev zdk:Type:=(Int×Int×Unit)->Option (Int×Unit)
def kK:zdk:=opq (sF prg [(128,bQ)] (zG [] [] [] [] [128]) (zy []) 30 127 Bx By)
abbrev BA:Con:=⟨Bx,By,kK⟩
theorem OH:Con.Ok prg 127 BA:=okF (ze fZ zn) (by kernel_rfl)
theorem OI(a0)(a1):kK (a0,a1,())=Bz a0 a1:=zA (by kernel_rfl)
abbrev pw:List VT:=[⟨true,qj⟩,⟨false,I⟩,⟨false,I⟩]
abbrev px:List VT:=[⟨true,qj⟩,⟨false,.bool⟩]
def py(a0:qn)(a1:Int)(a2:Int):Option (qn×Bool×Unit):=opt (bif a0.2.2.1 then some (1,(((a0.1,(a0.2.1,(false,(a1,(a2,1))))),(true,())),()))else bif(zg a0.2.1 (wrF .i64 (a2 - a0.2.2.2.2.1)))then some (1,(((a0.1,(a0.2.1,(false,(a1,(a2,1))))),(true,())),()))else some (0,(((0,(0,(false,(0,(0,0))))),(false,())),()))) fun x0=>bif Nat.beq x0.1 0 then opt (kK (a0.2.2.2.1,(a1,()))) fun x1=>opt (bif(!(zg (wrF .i64 (0 - a0.1)) x1.1))then some (1,((a0,(false,())),()))else bif !(zg x1.1 a0.1)then some (1,((a0,(false,())),()))else some (0,((x0.2.1.1,(x0.2.1.2.1,())),()))) fun x2=>bif Nat.beq x2.1 0 then opt (bif !(zg 0 x1.1)then opt (xh (a0.2.2.2.2.2,((wrF .i64 (0 - x1.1)),()))) fun x3=>bif x3.1 then some (1,((a0,(false,())),()))else some (0,((x2.2.1.1,(x2.2.1.2.1,())),()))else some (0,((x2.2.1.1,(x2.2.1.2.1,())),()))) fun x4=>bif Nat.beq x4.1 0 then opt (bif zg 0 x1.1 then some (0,((a1,()),()))else some (0,((a0.2.2.2.1,()),()))) fun x5=>opt (zI (fun s6:((Int×(Int×Unit))×Unit)=>bif !(zg s6.1.2.1 0)then opt (Zv (x5.2.1.1,((wrF .i64 (0 - s6.1.2.1)),()))) fun x7=>opt (kK (a0.2.2.2.1,(x7.1,()))) fun x8=>bif(!(zg (wrF .i64 (0 - x8.1)) 0))then bif(zg (wrF .i64 (0 - x8.1)) a0.1)then opt (xh (a0.2.2.2.2.2,((wrF .i64 (0 - x8.1)),()))) fun x9=>opt (bif zj x7.1 a1 then some (0,(((wrF .u64 ((wrF .u64 (s6.1.1*2))+1)),()),()))else bif x9.1 then some (0,(((wrF .u64 ((wrF .u64 (s6.1.1*2))+1)),()),()))else some (0,(((wrF .u64 (s6.1.1*2)),()),()))) fun x10=>some (.inr ((x10.2.1.1,((wrF .i64 (s6.1.2.1 - 1)),())),()))else opt (bif zj x7.1 a1 then some (0,(((wrF .u64 ((wrF .u64 (s6.1.1*2))+1)),()),()))else some (0,(((wrF .u64 (s6.1.1*2)),()),()))) fun x11=>some (.inr ((x11.2.1.1,((wrF .i64 (s6.1.2.1 - 1)),())),()))else opt (bif zj x7.1 a1 then some (0,(((wrF .u64 ((wrF .u64 (s6.1.1*2))+1)),()),()))else some (0,(((wrF .u64 (s6.1.1*2)),()),()))) fun x12=>some (.inr ((x12.2.1.1,((wrF .i64 (s6.1.2.1 - 1)),())),()))else some (.inl (0,((s6.1.1,(s6.1.2.1,())),())))) zR ((0,((wrF .i64 (a0.1 - 1)),())),())) fun x13=>some ((a0.1,(a0.2.1,(false,(x5.2.1.1,(a2,x13.2.1.1))))),(true,()))else some (x4.2.1.1,(x4.2.1.2.1,()))else some (x2.2.1.1,(x2.2.1.2.1,()))else some (x0.2.1.1,(x0.2.1.2.1,()))
abbrev zaX:Type:=(qn×Int×Int×Unit)->Option (qn×Bool×Unit)
def gz:zaX:=opq (sF prg [(127,BA),(116,nh),(128,bQ)] (zG [cdF qj] [] [] [] [127,116,128]) (zy []) 30 77 pw px)
abbrev pA:Con:=⟨pw,px,gz⟩
theorem Ip:Con.Ok prg 77 pA:=okF (ze OH (ze oG (ze fZ zn))) (by kernel_rfl)
theorem Iq(a0)(a1)(a2):gz (a0,a1,a2,())=py a0 a1 a2:=zA (by kernel_rfl)
abbrev Ft:List VT:=[⟨true,qv⟩,⟨false,I⟩,⟨true,qI⟩]
abbrev Fu:List VT:=[⟨false,I⟩]
def Fv(a0:zH)(a1:Int)(a2:zM):Option (Int×Unit):=opt (zI (fun s0:((Int×(Int×Unit))×Unit)=>bif(zg s0.1.2.1 ((a0.1.length:Nat):Int))then opt (atI a0.1 s0.1.2.1) fun x1=>opt (bif zj x1.1 a1 then bif zj x1.2.1 a2.1 then bif zj x1.2.2.1 a2.2.2.1 then some (1,((s0.1.2.1,()),()))else some (0,((s0.1.1,()),()))else some (0,((s0.1.1,()),()))else some (0,((s0.1.1,()),()))) fun x2=>bif Nat.beq x2.1 0 then some (.inr ((x2.2.1.1,((wrF .i64 (s0.1.2.1+1)),())),()))else some (.inl (1,((x2.2.1.1,(s0.1.2.1,())),())))else some (.inl (0,((s0.1.1,(s0.1.2.1,())),())))) zR ((0,(0,())),())) fun x3=>bif Nat.beq x3.1 0 then some ((-1),())else some (x3.2.1.1,())
abbrev zfT:Type:=(zH×Int×zM×Unit)->Option (Int×Unit)
def uO:zfT:=opq (sF prg [] (zG [cdF qv,cdF zX,cdF qg,cdF qI,cdF zY,cdF zr] [] [] [] []) (zy []) 30 78 Ft Fu)
abbrev hX:Con:=⟨Ft,Fu,uO⟩
theorem mr:Con.Ok prg 78 hX:=okF zn (by kernel_rfl)
theorem Td(a0)(a1)(a2):uO (a0,a1,a2,())=Fv a0 a1 a2:=zA (by kernel_rfl)
abbrev Fw:List VT:=[⟨true,zr⟩,⟨true,zr⟩,⟨true,zY⟩,⟨false,I⟩,⟨false,I⟩]
abbrev Fx:List VT:=[⟨false,I⟩,⟨true,zY⟩,⟨false,I⟩]
def Fy(a0:zC)(a1:zC)(a2:qK)(a3:Int)(a4:Int):Option (Int×qK×Int×Unit):=opt (JI (a0,(a1,(a2,())))) fun x0=>bif !(zj x0.1 0)then some (0,((0,(0,0)),(x0.1,())))else opt (opt (ZN (a3,(a2.1,(1099511627776,())))) fun x1=>bif !x1.1 then some (1,(((0,(0,0)),(0,(2,()))),()))else opt (ZN (a4,(1,(1048576,())))) fun x2=>bif !x2.1 then some (1,(((0,(0,0)),(0,(2,()))),()))else some (0,(((0,(0,0)),(0,(0,()))),()))) fun x3=>bif Nat.beq x3.1 0 then bif(zg (wN (wrF .i64 (a1.1*1048576)) (wrF .i64 (a2.2.2+(wrF .i64 (a1.2*(wrF .i64 (a3 - a2.1))))))) (wrF .i64 (a4*1048576)))then some (2,((a3,((wN (wrF .i64 (a0.1*1048576)) (wrF .i64 (a2.2.1+(wrF .i64 (a0.2*(wrF .i64 (a3 - a2.1))))))),(wN (wrF .i64 (a1.1*1048576)) (wrF .i64 (a2.2.2+(wrF .i64 (a1.2*(wrF .i64 (a3 - a2.1))))))))),(0,())))else bif(zg (wN (wrF .i64 (a0.1*1048576)) (wrF .i64 (a2.2.1+(wrF .i64 (a0.2*(wrF .i64 (a3 - a2.1))))))) (wrF .i64 (a4*1048576)))then some (1,((a3,((wN (wrF .i64 (a0.1*1048576)) (wrF .i64 (a2.2.1+(wrF .i64 (a0.2*(wrF .i64 (a3 - a2.1))))))),(wrF .i64 ((wN (wrF .i64 (a1.1*1048576)) (wrF .i64 (a2.2.2+(wrF .i64 (a1.2*(wrF .i64 (a3 - a2.1))))))) - (wrF .i64 (a4*1048576)))))),(0,())))else some (0,((a3,((wrF .i64 ((wN (wrF .i64 (a0.1*1048576)) (wrF .i64 (a2.2.1+(wrF .i64 (a0.2*(wrF .i64 (a3 - a2.1))))))) - (wrF .i64 (a4*1048576)))),(wrF .i64 ((wN (wrF .i64 (a1.1*1048576)) (wrF .i64 (a2.2.2+(wrF .i64 (a1.2*(wrF .i64 (a3 - a2.1))))))) - (wrF .i64 (a4*1048576)))))),(0,())))else some (x3.2.1.2.1,(x3.2.1.1,(x3.2.1.2.2.1,())))
abbrev zfU:Type:=(zC×zC×qK×Int×Int×Unit)->Option (Int×qK×Int×Unit)
def Yr:zfU:=opq (sF prg [(119,bI),(181,rV)] (zG [cdF zY,cdF zr] [] [] [] [119,181]) (zy []) 30 129 Fw Fx)
abbrev FA:Con:=⟨Fw,Fx,Yr⟩
theorem Te:Con.Ok prg 129 FA:=okF (ze fk (ze AE zn)) (by kernel_rfl)
theorem Tf(a0)(a1)(a2)(a3)(a4):Yr (a0,a1,a2,a3,a4,())=Fy a0 a1 a2 a3 a4:=zA (by kernel_rfl)
abbrev cE:List VT:=[⟨true,zX⟩,⟨false,I⟩,⟨true,qI⟩,⟨false,I⟩]
abbrev cF:List VT:=[⟨false,I⟩,⟨false,I⟩]
def cG(a0:qu)(a1:Int)(a2:zM)(a3:Int):Option (Int×Int×Unit):=bif !(zj a2.2.2.2.1 a0.2.2.2.1)then some (0,(2,()))else bif zj a0.2.2.2.2.1 0 then none else opt (bif zg a3 a0.2.2.2.2.2.1 then some (1,((0,(3,())),()))else bif(zg (wrF .i64 (a0.2.2.2.2.2.2+(wrF .i64 ((wrF .i64 (Int.tdiv (wrF .i64 (a3 - a0.2.2.2.2.2.1)) a0.2.2.2.2.1))*a0.2.2.2.2.1)))) a3)then some (1,((0,(3,())),()))else some (0,((0,(0,())),()))) fun x0=>bif Nat.beq x0.1 0 then bif(!(zg a1 (wrF .i64 (Int.tdiv (wrF .i64 (a3 - a0.2.2.2.2.2.1)) a0.2.2.2.2.1))))then some (0,(4,()))else some ((wrF .i64 (Int.tdiv (wrF .i64 (a3 - a0.2.2.2.2.2.1)) a0.2.2.2.2.1)),(0,()))else some (x0.2.1.1,(x0.2.1.2.1,()))
abbrev Ir:Type:=(qu×Int×zM×Int×Unit)->Option (Int×Int×Unit)
def Qo:Ir:=opq (sF prg [] (zG [cdF zX,cdF qI] [] [] [] []) (zy []) 30 130 cE cF)
abbrev cH:Con:=⟨cE,cF,Qo⟩
theorem sq:Con.Ok prg 130 cH:=okF zn (by kernel_rfl)
theorem sr(a0)(a1)(a2)(a3):Qo (a0,a1,a2,a3,())=cG a0 a1 a2 a3:=zA (by kernel_rfl)
abbrev FB:List VT:=[⟨true,qv⟩,⟨false,I⟩,⟨true,qI⟩,⟨false,I⟩]
abbrev FC:List VT:=[⟨true,qv⟩,⟨false,I⟩]
def Ys(a0:zH)(a1:Int)(a2:zM)(a3:Int):Option (zH×Int×Unit):=bif !(zg 5 a2.2.2.1)then opt (zI (fun s0:((((List (Int×(Int×(Int×(Int×(Int×(Int×Int)))))))×((List (Int×((Int×Int)×(Int×Int))))×(Int×((List Int)×(List (Int×(Int×Int)))))))×(((List (Int×(Int×(Int×(Int×(Int×(Int×Int)))))))×((List (Int×((Int×Int)×(Int×Int))))×(Int×((List Int)×(List (Int×(Int×Int)))))))×(Int×(Int×Unit))))×Unit)=>bif(zg s0.1.2.2.2.1 ((s0.1.1.2.1.length:Nat):Int))then opt (atI s0.1.1.2.1 s0.1.2.2.2.1) fun x1=>bif !(zj x1.1 a1)then some (.inr ((s0.1.1,(s0.1.2.1,(s0.1.2.2.1,((wrF .i64 (s0.1.2.2.2.1+1)),())))),()))else opt (atI s0.1.1.2.2.2.2 s0.1.2.2.2.1) fun x2=>opt (Yr (x1.2.1,(x1.2.2,(x2,((wrF .i64 (a3+1000)),(a2.2.2.2.1,())))))) fun x3=>bif qe 0 s0.1.1.2.2.2.2.length 24 then opt (atI s0.1.1.2.2.2.2 s0.1.2.2.2.1) fun x4=>opt (gl s0.1.1.2.2.2.2 (Int.toNat s0.1.2.2.2.1)) fun x5=>bif zj x3.1 2 then some (.inl (1,(((s0.1.1.1,(s0.1.1.2.1,(s0.1.1.2.2.1,(s0.1.1.2.2.2.1,(s0.1.1.2.2.2.2.set (Int.toNat s0.1.2.2.2.1) x3.2.1))))),((s0.1.1.1,(s0.1.1.2.1,(s0.1.1.2.2.1,(s0.1.1.2.2.2.1,(s0.1.1.2.2.2.2.set (Int.toNat s0.1.2.2.2.1) x3.2.1))))),(5,(s0.1.2.2.2.1,())))),())))else some (.inr (((s0.1.1.1,(s0.1.1.2.1,(s0.1.1.2.2.1,(s0.1.1.2.2.2.1,(s0.1.1.2.2.2.2.set (Int.toNat s0.1.2.2.2.1) x3.2.1))))),(s0.1.2.1,(s0.1.2.2.1,((wrF .i64 (s0.1.2.2.2.1+1)),())))),()))else none else some (.inl (0,((s0.1.1,(s0.1.2.1,(s0.1.2.2.1,(s0.1.2.2.2.1,())))),())))) zR (((a0.1,(a0.2.1,(a3,a0.2.2.2))),(([],([],(0,([],[])))),(0,(0,())))),())) fun x6=>bif Nat.beq x6.1 0 then some (x6.2.1.1,(0,()))else some (x6.2.1.2.1,(x6.2.1.2.2.1,()))else opt (uO ((a0.1,(a0.2.1,(a3,a0.2.2.2))),(a1,(a2,())))) fun x7=>bif zg x7.1 0 then some ((a0.1,(a0.2.1,(a3,a0.2.2.2))),(1,()))else opt (atI a0.1 x7.1) fun x8=>bif zj x8.2.2.1 6 then bif zg x8.2.2.2.1 a2.2.2.2.1 then some ((a0.1,(a0.2.1,(a3,a0.2.2.2))),(2,()))else some ((a0.1,(a0.2.1,(a3,a0.2.2.2))),(0,()))else opt (atI a0.2.2.2.1 x7.1) fun x9=>opt (Qo (x8,(x9,(a2,(a3,()))))) fun x10=>opt (bif zj x10.2.1 0 then bif qe 0 a0.2.2.2.1.length 8 then opt (atI a0.2.2.2.1 x7.1) fun x11=>opt (gl a0.2.2.2.1 (Int.toNat x7.1)) fun x12=>some (0,(((a0.1,(a0.2.1,(a3,((a0.2.2.2.1.set (Int.toNat x7.1) x10.1),a0.2.2.2.2)))),()),()))else none else some (0,(((a0.1,(a0.2.1,(a3,a0.2.2.2))),()),()))) fun x13=>some (x13.2.1.1,(x10.2.1,()))
abbrev zfV:Type:=(zH×Int×zM×Int×Unit)->Option (zH×Int×Unit)
def yY:zfV:=opq (sF prg [(129,FA),(78,hX),(130,cH)] (zG [cdF qv,cdF zX,cdF qg,cdF qI,cdF zY,cdF zr] [] [⟨2,122,some 15,zY,true⟩,⟨2,122,some 20,I,true⟩,⟨4,122,some 15,zY,true⟩,⟨4,122,some 20,I,true⟩,⟨7,122,some 15,zY,true⟩,⟨7,122,some 20,I,true⟩,⟨13,122,some 15,zY,true⟩,⟨13,122,some 20,I,true⟩,⟨17,122,some 15,zY,true⟩,⟨17,122,some 20,I,true⟩,⟨20,122,some 15,zY,true⟩,⟨20,122,some 20,I,true⟩,⟨21,122,some 15,zY,true⟩,⟨21,122,some 20,I,true⟩,⟨25,122,some 15,zY,true⟩,⟨25,122,some 20,I,true⟩] [] [129,78,130]) (zy []) 30 79 FB FC)
abbrev FD:Con:=⟨FB,FC,yY⟩
theorem Tg:Con.Ok prg 79 FD:=okF (ze Te (ze mr (ze sq zn))) (by kernel_rfl)
theorem WD(a0)(a1)(a2)(a3):yY (a0,a1,a2,a3,())=Ys a0 a1 a2 a3:=zA (by kernel_rfl)
abbrev BB:List VT:=[⟨true,zr⟩,⟨true,xc⟩,⟨false,I⟩]
abbrev BC:List VT:=[⟨false,I⟩]
def BD(a0:zC)(a1:jv)(a2:Int):Option (Int×Unit):=some ((wN (wrF .i64 (a0.1*1048576)) (wrF .i64 (a1.2+(wrF .i64 (a0.2*(wrF .i64 (a2 - a1.1))))))),())
abbrev zdl:Type:=(zC×jv×Int×Unit)->Option (Int×Unit)
def Zw:zdl:=opq (sF prg [] (zG [cdF zr] [] [] [] []) (zy []) 30 131 BB BC)
abbrev BE:Con:=⟨BB,BC,Zw⟩
theorem OJ:Con.Ok prg 131 BE:=okF zn (by kernel_rfl)
theorem OK(a0)(a1)(a2):Zw (a0,a1,a2,())=BD a0 a1 a2:=zA (by kernel_rfl)
abbrev hY:List VT:=[⟨true,zr⟩,⟨true,xc⟩,⟨false,I⟩,⟨false,I⟩]
abbrev hZ:List VT:=[⟨false,I⟩,⟨true,xc⟩,⟨false,I⟩]
def ia(a0:zC)(a1:jv)(a2:Int)(a3:Int):Option (Int×jv×Int×Unit):=opt (JL (a0,(a1,()))) fun x0=>bif !(zj x0.1 0)then some (0,((0,0),(x0.1,())))else opt (bif zg a2 0 then some (1,(((0,0),(0,(2,()))),()))else bif zg 1099511627776 a2 then some (1,(((0,0),(0,(2,()))),()))else bif zg a3 1 then some (1,(((0,0),(0,(2,()))),()))else bif zg 1048576 a3 then some (1,(((0,0),(0,(2,()))),()))else some (0,(((0,0),(0,(0,()))),()))) fun x1=>bif Nat.beq x1.1 0 then bif zg a0.1 a3 then some (0,((0,0),(4,())))else opt (Zw (a0,(a1,((jV a2 a1.1),())))) fun x2=>opt (bif(zg 0 (wrF .i64 ((wrF .i64 (a3*1048576)) - x2.1)))then opt (uL ((wrF .i64 ((wrF .i64 (a3*1048576)) - x2.1)),(a0.2,()))) fun x3=>some (0,(((wrF .i64 ((jV a2 a1.1)+x3.1)),()),()))else some (0,(((jV a2 a1.1),()),()))) fun x4=>bif zg 1099511627776 x4.2.1.1 then some (0,((0,0),(6,())))else opt (Zw (a0,(a1,(x4.2.1.1,())))) fun x5=>some (x4.2.1.1,((x4.2.1.1,(wrF .i64 (x5.1 - (wrF .i64 (a3*1048576))))),(0,())))else some (x1.2.1.2.1,(x1.2.1.1,(x1.2.1.2.2.1,())))
abbrev OL:Type:=(zC×jv×Int×Int×Unit)->Option (Int×jv×Int×Unit)
def gX:OL:=opq (sF prg [(126,bL),(131,BE),(132,KU)] (zG [cdF zr] [] [] [] [126,131,132]) (zy []) 30 80 hY hZ)
abbrev ic:Con:=⟨hY,hZ,gX⟩
theorem Cj:Con.Ok prg 80 ic:=okF (ze fG (ze OJ (ze KV zn))) (by kernel_rfl)
theorem Ck(a0)(a1)(a2)(a3):gX (a0,a1,a2,a3,())=ia a0 a1 a2 a3:=zA (by kernel_rfl)
abbrev FE:List VT:=[⟨true,qR⟩,⟨false,I⟩,⟨true,qI⟩,⟨false,I⟩]
abbrev FF:List VT:=[⟨true,qR⟩,⟨true,Kd⟩]
def Yt(a0:zK)(a1:Int)(a2:zM)(a3:Int):Option (zK×yT×Unit):=opt (zI (fun s0:(((Int×(((List (Int×(Int×(Int×(Int×(Int×(Int×Int)))))))×((List (Int×((Int×Int)×(Int×Int))))×(Int×((List Int)×(List (Int×(Int×Int)))))))×((List (Int×((Int×Int)×(Int×(Int×Int)))))×((List (Int×(Int×(Int×Int))))×(List (Int×(Int×(Bool×(Int×(Int×Int))))))))))×((Int×(((List (Int×(Int×(Int×(Int×(Int×(Int×Int)))))))×((List (Int×((Int×Int)×(Int×Int))))×(Int×((List Int)×(List (Int×(Int×Int)))))))×((List (Int×((Int×Int)×(Int×(Int×Int)))))×((List (Int×(Int×(Int×Int))))×(List (Int×(Int×(Bool×(Int×(Int×Int))))))))))×((Int×(Int×(Int×Int)))×(Int×Unit))))×Unit)=>bif(zg s0.1.2.2.2.1 ((s0.1.1.2.2.2.1.length:Nat):Int))then opt (atI s0.1.1.2.2.2.1 s0.1.2.2.2.1) fun x1=>bif !(zj x1.1 a1)then some (.inr ((s0.1.1,(s0.1.2.1,(s0.1.2.2.1,((wrF .i64 (s0.1.2.2.2.1+1)),())))),()))else opt (atI s0.1.1.2.2.2.1 s0.1.2.2.2.1) fun x2=>bif !(zj x2.2.1 a2.1)then some (.inr ((s0.1.1,(s0.1.2.1,(s0.1.2.2.1,((wrF .i64 (s0.1.2.2.2.1+1)),())))),()))else opt (atI s0.1.1.2.2.2.1 s0.1.2.2.2.1) fun x3=>bif !(zj x3.2.2.1 a2.2.2.1)then some (.inr ((s0.1.1,(s0.1.2.1,(s0.1.2.2.1,((wrF .i64 (s0.1.2.2.2.1+1)),())))),()))else bif !(zg a2.2.1 65536)then some (.inl (1,((s0.1.1,(s0.1.1,((1,(0,(0,20))),(s0.1.2.2.2.1,())))),())))else opt (atI s0.1.1.2.2.2.1 s0.1.2.2.2.1) fun x4=>opt (atI s0.1.1.2.2.2.2 x4.2.2.2) fun x5=>opt (gz (x5,(a2.2.1,(a3,())))) fun x6=>bif qe 0 s0.1.1.2.2.2.2.length 48 then opt (atI s0.1.1.2.2.2.2 x4.2.2.2) fun x7=>opt (gl s0.1.1.2.2.2.2 (Int.toNat x4.2.2.2)) fun x8=>bif x6.2.1 then some (.inl (1,(((s0.1.1.1,(s0.1.1.2.1,(s0.1.1.2.2.1,(s0.1.1.2.2.2.1,(s0.1.1.2.2.2.2.set (Int.toNat x4.2.2.2) x6.1))))),((s0.1.1.1,(s0.1.1.2.1,(s0.1.1.2.2.1,(s0.1.1.2.2.2.1,(s0.1.1.2.2.2.2.set (Int.toNat x4.2.2.2) x6.1))))),((3,(0,(0,0))),(s0.1.2.2.2.1,())))),())))else some (.inl (1,(((s0.1.1.1,(s0.1.1.2.1,(s0.1.1.2.2.1,(s0.1.1.2.2.2.1,(s0.1.1.2.2.2.2.set (Int.toNat x4.2.2.2) x6.1))))),((s0.1.1.1,(s0.1.1.2.1,(s0.1.1.2.2.1,(s0.1.1.2.2.2.1,(s0.1.1.2.2.2.2.set (Int.toNat x4.2.2.2) x6.1))))),((4,(0,(0,0))),(s0.1.2.2.2.1,())))),())))else none else some (.inl (0,((s0.1.1,(s0.1.2.1,(s0.1.2.2.1,(s0.1.2.2.2.1,())))),())))) zR ((a0,((0,(([],([],(0,([],[])))),([],([],[])))),((0,(0,(0,0))),(0,())))),())) fun x9=>bif Nat.beq x9.1 0 then opt (uO (x9.2.1.1.2.1,(a1,(a2,())))) fun x10=>opt (yY (x9.2.1.1.2.1,(a1,(a2,((wrF .i64 (a3+x9.2.1.1.1)),()))))) fun x11=>bif !(zj x11.2.1 0)then some ((x9.2.1.1.1,(x11.1,x9.2.1.1.2.2)),((1,(0,(0,x11.2.1))),()))else bif zg a2.2.2.1 6 then some ((x9.2.1.1.1,(x11.1,x9.2.1.1.2.2)),((5,(0,(0,0))),()))else opt (atI x9.2.1.1.2.2.1 x10.1) fun x12=>bif zj a2.2.2.1 7 then some ((x9.2.1.1.1,(x11.1,x9.2.1.1.2.2)),((2,(x12.1,(a3,0))),()))else opt (gX (x12.2.1,(x12.2.2.2,(a3,(a2.2.2.2.1,()))))) fun x13=>opt (bif !(zj x13.2.2.1 0)then some (1,(((x9.2.1.1.1,(x11.1,x9.2.1.1.2.2)),((1,(0,(0,21))),())),()))else bif(zg x12.2.2.1 (wrF .i64 (x13.1 - a3)))then some (1,(((x9.2.1.1.1,(x11.1,x9.2.1.1.2.2)),((1,(0,(0,21))),())),()))else some (0,((x9.2.1.2.1,(x9.2.1.2.2.1,())),()))) fun x14=>bif Nat.beq x14.1 0 then bif qe 0 x9.2.1.1.2.2.1.length 48 then opt (atI x9.2.1.1.2.2.1 x10.1) fun x15=>opt (gl x9.2.1.1.2.2.1 (Int.toNat x10.1)) fun x16=>some ((x9.2.1.1.1,(x11.1,((x9.2.1.1.2.2.1.set (Int.toNat x10.1) (x12.1,(x12.2.1,(x12.2.2.1,x13.2.1)))),x9.2.1.1.2.2.2))),((2,(x12.1,(x13.1,0))),()))else none else some (x14.2.1.1,(x14.2.1.2.1,()))else some (x9.2.1.2.1,(x9.2.1.2.2.1,()))
abbrev zfW:Type:=(zK×Int×zM×Int×Unit)->Option (zK×yT×Unit)
def UC:zfW:=opq (sF prg [(77,pA),(78,hX),(79,FD),(80,ic)] (zG [⟨qR,wk qR,[6,8]⟩,cdF qv,cdF zX,cdF jg,cdF qj,cdF qg,cdF qI,cdF yC,cdF zY,cdF zr] [] [] [(2,179,4,[8])] [77,78,80]) (zy []) 30 36 FE FF)
abbrev FG:Con:=⟨FE,FF,UC⟩
theorem Th:Con.Ok prg 36 FG:=okF (ze Ip (ze mr (ze Tg (ze Cj zn)))) (by kernel_rfl)
theorem WE(a0)(a1)(a2)(a3):UC (a0,a1,a2,a3,())=Yt a0 a1 a2 a3:=zA (by kernel_rfl)
abbrev YZ:List VT:=[⟨true,qR⟩,⟨false,I⟩,⟨true,qI⟩,⟨false,I⟩]
abbrev Xa:List VT:=[⟨true,qR⟩,⟨true,Kd⟩,⟨false,I⟩]
def gC(a0:zK)(a1:Int)(a2:zM)(a3:Int):Option (zK×yT×Int×Unit):=opt (Vm (a0,())) fun x0=>bif !x0.1 then some ((0,(([],([],(0,([],[])))),([],([],[])))),((0,(0,(0,0))),(521,())))else opt (Qw (a1,())) fun x1=>bif !x1.1 then some ((0,(([],([],(0,([],[])))),([],([],[])))),((0,(0,(0,0))),(2,())))else opt (UB (a2,())) fun x2=>bif !x2.1 then some ((0,(([],([],(0,([],[])))),([],([],[])))),((0,(0,(0,0))),(460,())))else opt (bif zg a3 0 then some (1,(((0,(([],([],(0,([],[])))),([],([],[])))),((0,(0,(0,0))),(2,()))),()))else bif zg 274877906944 a3 then some (1,(((0,(([],([],(0,([],[])))),([],([],[])))),((0,(0,(0,0))),(2,()))),()))else opt (Vp (a0,(a3,()))) fun x3=>bif x3.1 then some (1,(((0,(([],([],(0,([],[])))),([],([],[])))),((0,(0,(0,0))),(2,()))),()))else some (0,(((0,(([],([],(0,([],[])))),([],([],[])))),((0,(0,(0,0))),(0,()))),()))) fun x4=>bif Nat.beq x4.1 0 then opt (UC (a0,(a1,(a2,(a3,()))))) fun x5=>some (x5.1,(x5.2.1,(0,())))else some (x4.2.1.1,(x4.2.1.2.1,(x4.2.1.2.2.1,())))
abbrev zaY:Type:=(zK×Int×zM×Int×Unit)->Option (zK×yT×Int×Unit)
def ve:zaY:=opq (sF prg [(32,AX),(33,Uj),(34,Fs),(35,Bt),(36,FG)] (zG [cdF qR,cdF qv,cdF zX,cdF jg,cdF qj,cdF qg,cdF qI,cdF yC,cdF zY,cdF zr] [] [] [] [32,33,34,35]) (zy []) 30 9 YZ Xa)
abbrev zaZ:Con:=⟨YZ,Xa,ve⟩
theorem Is:Con.Ok prg 9 zaZ:=okF (ze Od (ze Uk (ze Tb (ze OE (ze Th zn))))) (by kernel_rfl)
theorem kL(a0)(a1)(a2)(a3):ve (a0,a1,a2,a3,())=gC a0 a1 a2 a3:=zA (by kernel_rfl)
abbrev FH:List VT:=[⟨true,qv⟩,⟨true,qv⟩]
abbrev FI:List VT:=[⟨false,.bool⟩]
def FJ(a0:zH)(a1:zH):Option (Bool×Unit):=opt (bif !(zj a0.2.2.1 a1.2.2.1)then some (1,((false,()),()))else bif(!(zj ((a0.1.length:Nat):Int) ((a1.1.length:Nat):Int)))then some (1,((false,()),()))else bif(!(zj ((a0.2.1.length:Nat):Int) ((a1.2.1.length:Nat):Int)))then some (1,((false,()),()))else bif(!(zj ((a0.2.2.2.1.length:Nat):Int) ((a1.2.2.2.1.length:Nat):Int)))then some (1,((false,()),()))else bif(!(zj ((a0.2.2.2.2.length:Nat):Int) ((a1.2.2.2.2.length:Nat):Int)))then some (1,((false,()),()))else some (0,((false,()),()))) fun x0=>bif Nat.beq x0.1 0 then opt (zI (fun s1:((Bool×(Int×Unit))×Unit)=>bif(zg s1.1.2.1 ((a0.1.length:Nat):Int))then opt (atI a0.1 s1.1.2.1) fun x2=>opt (atI a1.1 s1.1.2.1) fun x3=>bif(!((zj x2.1 x3.1)&&((zj x2.2.1 x3.2.1)&&((zj x2.2.2.1 x3.2.2.1)&&((zj x2.2.2.2.1 x3.2.2.2.1)&&((zj x2.2.2.2.2.1 x3.2.2.2.2.1)&&((zj x2.2.2.2.2.2.1 x3.2.2.2.2.2.1)&&((zj x2.2.2.2.2.2.2 x3.2.2.2.2.2.2)&&true))))))))then some (.inl (1,((false,(s1.1.2.1,())),())))else some (.inr ((s1.1.1,((wrF .i64 (s1.1.2.1+1)),())),()))else some (.inl (0,((s1.1.1,(s1.1.2.1,())),())))) zR ((x0.2.1.1,(0,())),())) fun x4=>bif Nat.beq x4.1 0 then opt (zI (fun s5:((Bool×(Int×Unit))×Unit)=>bif(zg s5.1.2.1 ((a0.2.2.2.1.length:Nat):Int))then opt (atI a0.2.2.2.1 s5.1.2.1) fun x6=>opt (atI a1.2.2.2.1 s5.1.2.1) fun x7=>bif !(zj x6 x7)then some (.inl (1,((false,(s5.1.2.1,())),())))else some (.inr ((s5.1.1,((wrF .i64 (s5.1.2.1+1)),())),()))else some (.inl (0,((s5.1.1,(s5.1.2.1,())),())))) zR ((x4.2.1.1,(0,())),())) fun x8=>bif Nat.beq x8.1 0 then opt (zI (fun s9:((Bool×(Int×Unit))×Unit)=>bif(zg s9.1.2.1 ((a0.2.1.length:Nat):Int))then opt (atI a0.2.1 s9.1.2.1) fun x10=>opt (atI a1.2.1 s9.1.2.1) fun x11=>bif(!((zj x10.1 x11.1)&&(((zj x10.2.1.1 x11.2.1.1)&&((zj x10.2.1.2 x11.2.1.2)&&true))&&(((zj x10.2.2.1 x11.2.2.1)&&((zj x10.2.2.2 x11.2.2.2)&&true))&&true))))then some (.inl (1,((false,(s9.1.2.1,())),())))else some (.inr ((s9.1.1,((wrF .i64 (s9.1.2.1+1)),())),()))else some (.inl (0,((s9.1.1,(s9.1.2.1,())),())))) zR ((x8.2.1.1,(0,())),())) fun x12=>bif Nat.beq x12.1 0 then opt (zI (fun s13:((Bool×(Int×Unit))×Unit)=>bif(zg s13.1.2.1 ((a0.2.2.2.2.length:Nat):Int))then opt (atI a0.2.2.2.2 s13.1.2.1) fun x14=>opt (atI a1.2.2.2.2 s13.1.2.1) fun x15=>bif(!((zj x14.1 x15.1)&&((zj x14.2.1 x15.2.1)&&((zj x14.2.2 x15.2.2)&&true))))then some (.inl (1,((false,(s13.1.2.1,())),())))else some (.inr ((s13.1.1,((wrF .i64 (s13.1.2.1+1)),())),()))else some (.inl (0,((s13.1.1,(s13.1.2.1,())),())))) zR ((x12.2.1.1,(0,())),())) fun x16=>bif Nat.beq x16.1 0 then some (true,())else some (x16.2.1.1,())else some (x12.2.1.1,())else some (x8.2.1.1,())else some (x4.2.1.1,())else some (x0.2.1.1,())
abbrev zfX:Type:=(zH×zH×Unit)->Option (Bool×Unit)
def UD:zfX:=opq (sF prg [] (zG [cdF qv,cdF zX,cdF qg,cdF zY,cdF zr] [] [] [] []) (zy []) 30 37 FH FI)
abbrev FK:Con:=⟨FH,FI,UD⟩
theorem Ti:Con.Ok prg 37 FK:=okF zn (by kernel_rfl)
theorem Tj(a0)(a1):UD (a0,a1,())=FJ a0 a1:=zA (by kernel_rfl)
abbrev Jm:List VT:=[⟨true,qR⟩,⟨true,qR⟩]
abbrev Jn:List VT:=[⟨false,.bool⟩]
def ig(a0:zK)(a1:zK):Option (Bool×Unit):=opt (bif !(zj a0.1 a1.1)then some (1,((false,()),()))else opt (UD (a0.2.1,(a1.2.1,()))) fun x0=>bif !x0.1 then some (1,((false,()),()))else bif(!(zj ((a0.2.2.1.length:Nat):Int) ((a1.2.2.1.length:Nat):Int)))then some (1,((false,()),()))else bif(!(zj ((a0.2.2.2.1.length:Nat):Int) ((a1.2.2.2.1.length:Nat):Int)))then some (1,((false,()),()))else bif(!(zj ((a0.2.2.2.2.length:Nat):Int) ((a1.2.2.2.2.length:Nat):Int)))then some (1,((false,()),()))else some (0,((false,()),()))) fun x1=>bif Nat.beq x1.1 0 then opt (zI (fun s2:((Bool×(Int×Unit))×Unit)=>bif(zg s2.1.2.1 ((a0.2.2.1.length:Nat):Int))then opt (atI a0.2.2.1 s2.1.2.1) fun x3=>opt (atI a1.2.2.1 s2.1.2.1) fun x4=>bif(!((zj x3.1 x4.1)&&(((zj x3.2.1.1 x4.2.1.1)&&((zj x3.2.1.2 x4.2.1.2)&&true))&&((zj x3.2.2.1 x4.2.2.1)&&(((zj x3.2.2.2.1 x4.2.2.2.1)&&((zj x3.2.2.2.2 x4.2.2.2.2)&&true))&&true)))))then some (.inl (1,((false,(s2.1.2.1,())),())))else some (.inr ((s2.1.1,((wrF .i64 (s2.1.2.1+1)),())),()))else some (.inl (0,((s2.1.1,(s2.1.2.1,())),())))) zR ((x1.2.1.1,(0,())),())) fun x5=>bif Nat.beq x5.1 0 then opt (zI (fun s6:((Bool×(Int×Unit))×Unit)=>bif(zg s6.1.2.1 ((a0.2.2.2.1.length:Nat):Int))then opt (atI a0.2.2.2.1 s6.1.2.1) fun x7=>opt (atI a1.2.2.2.1 s6.1.2.1) fun x8=>bif(!((zj x7.1 x8.1)&&((zj x7.2.1 x8.2.1)&&((zj x7.2.2.1 x8.2.2.1)&&((zj x7.2.2.2 x8.2.2.2)&&true)))))then some (.inl (1,((false,(s6.1.2.1,())),())))else some (.inr ((s6.1.1,((wrF .i64 (s6.1.2.1+1)),())),()))else some (.inl (0,((s6.1.1,(s6.1.2.1,())),())))) zR ((x5.2.1.1,(0,())),())) fun x9=>bif Nat.beq x9.1 0 then opt (zI (fun s10:((Bool×(Int×Unit))×Unit)=>bif(zg s10.1.2.1 ((a0.2.2.2.2.length:Nat):Int))then opt (atI a0.2.2.2.2 s10.1.2.1) fun x11=>opt (atI a1.2.2.2.2 s10.1.2.1) fun x12=>bif(!((zj x11.1 x12.1)&&((zj x11.2.1 x12.2.1)&&((x11.2.2.1 == x12.2.2.1)&&((zj x11.2.2.2.1 x12.2.2.2.1)&&((zj x11.2.2.2.2.1 x12.2.2.2.2.1)&&((zj x11.2.2.2.2.2 x12.2.2.2.2.2)&&true)))))))then some (.inl (1,((false,(s10.1.2.1,())),())))else some (.inr ((s10.1.1,((wrF .i64 (s10.1.2.1+1)),())),()))else some (.inl (0,((s10.1.1,(s10.1.2.1,())),())))) zR ((x9.2.1.1,(0,())),())) fun x13=>bif Nat.beq x13.1 0 then some (true,())else some (x13.2.1.1,())else some (x9.2.1.1,())else some (x5.2.1.1,())else some (x1.2.1.1,())
abbrev OM:Type:=(zK×zK×Unit)->Option (Bool×Unit)
def xU:OM:=opq (sF prg [(37,FK)] (zG [cdF qR,cdF qv,cdF zX,cdF jg,cdF qj,cdF qg,cdF yC,cdF zY,cdF zr] [] [] [] [37]) (zy []) 30 10 Jm Jn)
abbrev ON:Con:=⟨Jm,Jn,xU⟩
theorem Cl:Con.Ok prg 10 ON:=okF (ze Ti zn) (by kernel_rfl)
theorem Cm(a0)(a1):xU (a0,a1,())=ig a0 a1:=zA (by kernel_rfl)
end Go.Proofs.YtlfkgkedfciccaaGreat.nd
namespace Go.Fz.Sy
theorem wq{α:Type}{l:List α}{z:Int}{Q:α->Prop}(h0:0<=z)(h1:z < l.length)(hq:∀x,l[z.toNat]?=some x->Q x):zt (atI l z) Q:=by obtain⟨x,e,e2⟩:=Rs h0 h1;exact⟨x,e,hq x e2⟩
theorem jL{α:Type}{l:List α}{i:Nat}{Q:α->Prop}(h1:i < l.length)(hq:∀x,l[i]?=some x->Q x):zt (gl l i) Q:=by have hx:l[i]?=some l[i]:=FL h1;exact⟨l[i],by rw[xi,hx],hq _ hx⟩
def Nxt{X S:Type}(J:X->Prop)(I:S->Prop)(r:X ⊕ S):Prop:=(∀x,r=.inl x->J x)∧∀s',r=.inr s'->I s'
theorem zw{X S:Type}{J:X->Prop}{I:S->Prop}{x:X}(h:J x):Nxt J I (.inl x:X ⊕ S):=⟨fun y e=>by cases e;exact h,fun s' e=>by cases e⟩
theorem ql{X S:Type}{J:X->Prop}{I:S->Prop}{s:S}(h:I s):Nxt J I (.inr s:X ⊕ S):=⟨fun y e=>by(cases e),fun s' e=>by cases e;exact h⟩
theorem zZ{X S:Type}{B:S->Option (X ⊕ S)}{s:S}{J:X->Prop}(n:Nat)(I:Nat->S->Prop)(hn:n < 1180591620717411303424)(h0:I 0 s)(h:∀i s,i < n->I i s->zt (B s) (Nxt J (I (i+1))))(he:∀s,I n s->zt (B s) (Nxt J fun _=>False)):zt (zI B zR s) J:=by
 have key:∀(k i N:Nat) (s:S),i+k=n->k < N->I i s->zt (zI B N s) J:=by
  intro k;induction k with
  |zero=>
   intro i N s hi hN hI;obtain⟨N,rfl⟩:∃M,N=M+1:=⟨N - 1,by omega⟩;have hi':i=n:=by omega
   obtain⟨r,e,h1,h2⟩:=he s (hi'▸hI);rw[QU,e];cases r with
   |inl x=>exact⟨x,rfl,h1 x rfl⟩
   |inr s'=>grind
  |succ k ih=>
   intro i N s hi hN hI;obtain⟨N,rfl⟩:∃M,N=M+1:=⟨N - 1,by omega⟩;obtain⟨r,e,h1,h2⟩:=h i s (by omega) hI;rw[QU,e];cases r with
   |inl x=>exact⟨x,rfl,h1 x rfl⟩
   |inr s'=>grind
 exact key n 0 zR s (by omega) (zqC hn zhn) h0
noncomputable def tv (p:Prop):Bool:=@decide p (Classical.propDecidable p)
theorem QA{p:Prop}:tv p=true↔p:=@decide_eq_true_iff p (Classical.propDecidable p)
theorem qX{p:Prop}(h:p):tv p=true:=QA.2 h
theorem wi{p:Prop}(h:¬p):tv p=false:=by grind[tv,QA]
theorem zpl{p:Prop}[inst:Decidable p]:tv p=decide p:=by grind[qX,decide_eq_true,wi,decide_eq_false]
theorem jl{o:Option (Bool×Unit)}{p:Prop}(h:zt o fun r=>(r.1=true↔p)):o=some (tv p,()):=by obtain⟨⟨b,⟨⟩⟩,e,h⟩:=h;grind[qX,wi]
theorem gY{α:Type}{o:Option (α×Unit)}{v:α}(h:zt o fun r=>r.1=v):o=some (v,()):=by obtain⟨⟨b,⟨⟩⟩,e,rfl⟩:=h;exact e
theorem jR{α:Type}{o:Option α}{a:α}{Q:α->Prop}(e:o=some a)(h:Q a):zt o Q:=⟨a,e,h⟩
theorem zfY{n:Nat}(h:n<=1000000000000000000):n < 1180591620717411303424:=by omega
theorem zQ{i:Nat}(h:i<=1000000000000000000):wrF .i64 ((i:Int)+1)=((i+1:Nat):Int):=by rw[zT]<;>omega
theorem zL{a b:Int}(h:a < b):zg a b=true:=by rw[wO];grind
theorem zD{a b:Int}(h:¬a < b):zg a b=false:=by rw[wO];grind
theorem wP{a b:Int}(h:a=b):zj a b=true:=by rw[yx,h];simp
theorem jf{a b:Int}(h:a≠b):zj a b=false:=by rw[yx];simp[h]
theorem zV{a b:Int}(h:zg a b=true):a < b:=by grind[wO]
theorem zP{a b:Int}(h:zg a b=false):b<=a:=by grind[wO,of_decide_eq_false]
theorem qi{a b:Int}(h:zj a b=true):a=b:=by grind[yx]
theorem qt{a b:Int}(h:zj a b=false):a≠b:=by grind[yx]
theorem HD(a b:Int):jV a b=max a b:=by grind[jV,wO,decide_eq_true,decide_eq_false]
theorem Km(a b:Int):wN a b=min a b:=by grind[wN,wO,decide_eq_true,decide_eq_false]
theorem zf{α:Type}{b:Bool}{x y:Option α}{Q:α->Prop}(hb:b=true)(h:zt x Q):zt (bif b then x else y) Q:=by subst hb;exact h
theorem zi{α:Type}{b:Bool}{x y:Option α}{Q:α->Prop}(hb:b=false)(h:zt y Q):zt (bif b then x else y) Q:=by subst hb;exact h
theorem wK{X V:Type}{B:((V×(Int×Unit))×Unit)->Option (X ⊕ ((V×(Int×Unit))×Unit))}{v:V}{J:X->Prop}(n:Nat)(P:Nat->Prop)(hn:n<=1000000000000000000)(h:∀i,i < n->(∀k,k < i->P k)->zt (B ((v,((i:Int),())),())) (Nxt J fun s=>s=((v,(((i+1:Nat):Int),())),())∧P i))(he:(∀k,k < n->P k)->zt (B ((v,((n:Int),())),())) (Nxt J fun _=>False)):zt (zI B zR ((v,(0,())),())) J:=by
 refine zZ n (fun i s=>s=((v,((i:Int),())),())∧∀k,k < i->P k) (zfY hn) ⟨rfl,fun k hk=>by omega⟩ ?_ ?_
 ·rintro i _ hi ⟨rfl,hp⟩;obtain⟨r,e,h1,h2⟩:=h i hi hp;refine⟨r,e,h1,fun s' hs=>?_⟩;obtain⟨h3,h4⟩:=h2 s' hs;refine⟨h3,fun k hk=>?_⟩;rcases zrA k i with hk' | hk'
  ·exact hp k hk'
  ·have:k=i:=by omega
   exact this▸h4
 grind
theorem vF{X V:Type}{v:V}{i:Nat}{J:X->Prop}{p:Prop}(hi:i<=1000000000000000000)(hp:p):Nxt J (fun s=>s=((v,(((i+1:Nat):Int),())),())∧p) (.inr ((v,(wrF .i64 ((i:Int)+1),())),())):=ql ⟨by rw[zQ hi],hp⟩
theorem aD{p:Prop}(h:tv p=true):p:=QA.1 h
theorem ij{p:Prop}(h:tv p=false):¬p:=by grind[qX]
theorem jZ{p:Prop}(h:(!tv p)=true):¬p:=ij (by simpa using h)
theorem wF{p:Prop}(h:(!tv p)=false):p:=aD (by simpa using h)
theorem zow{α:Type}(l:List α)(lo hi mx:Option Int)(h p:Nat)(h1:hiI l.length hi=some h)(h2:loI h lo=some p)(h3:mxI h mx=true):KB l lo hi mx=some ((l.take h).drop p):=by grind[KB]
theorem zox{n q:Nat}(h:q<=n):hiI n (some (q:Int))=some q:=by show(bif Nat.ble q n then some q else none)=_;rw[zsU h];rfl
theorem zhp{α:Type}(l:List α)(n:Nat)(h:n<=l.length):KB l none (some (n:Int)) none=some (l.take n):=by rw[zow l _ _ _ n 0 (zox h) rfl rfl];simp
theorem za0{a b:Int}{k:Nat}(h0:0<=a)(h1:a<=b)(h2:(k:Int)*b<=281474976710656):ru a b k=true:=by grind[ru,zD]
theorem qO{n m k:Nat}(h:(n+m)*k<=140737488355328)(h2:n+m<=9223372036854775807):qe n m k=true:=by grind[qe,maxLen,Nat.ble_eq_true_of_le]
end Go.Fz.Sy
namespace Go.Proofs.YtlfkgkedfciccaaGreat.ad
open Go Go.Fz Go.Fz.Sy Go.Proofs.YtlfkgkedfciccaaGreat.nd
abbrev wS:=Int×Int×Int×Int
abbrev qT:=Int×List Bool×List wS
def jX(t:qT)(n:Int):Prop:=0<=n∧n < t.1
def stn(t:qT)(n:Int):Bool:=(t.2.1[n.toNat]?).getD false
def il(t:qT)(l:wS):Prop:=jX t l.1∧jX t l.2.1∧l.1≠l.2.1∧¬(stn t l.1=true∧stn t l.2.1=true)∧1<=l.2.2.1∧l.2.2.1<=1000∧0<=l.2.2.2∧l.2.2.2<=10000
def ZW(o:wS)(a b:Int):Prop:=(o.1=a∧o.2.1=b)∨(o.1=b∧o.2.1=a)
structure szP(t:qT):Prop where
 n0:2<=t.1
 n1:t.1<=12
 st:(t.2.1.length:Int)=t.1
 ls:t.2.2.length<=24
def HG(t:qT):Prop:=∀(i:Nat) l,t.2.2[i]?=some l->il t l∧∀(k:Nat) o,k < i->t.2.2[k]?=some o->¬ZW o l.1 l.2.1
def one(a:Int)(n:Nat):Int:=if a=(n:Int)then 1 else 0
def cnt(ls:List wS)(n:Nat):Int:=(ls.map fun l=>one l.1 n+one l.2.1 n).sum
def stp(r:List Bool)(l:wS):List Bool:=bif(r[l.1.toNat]?).getD false||(r[l.2.1.toNat]?).getD false then(r.set l.1.toNat true).set l.2.1.toNat true else r
def UE(ls:List wS):Nat->List Bool->List Bool
 |0,r=>r
 |n+1,r=>UE ls n (ls.foldl stp r)
def reachS(t:qT)(a:Nat):List Bool:=UE t.2.2 t.1.toNat ((List.replicate t.1.toNat false).set a true)
structure wY(t:qT):Prop where
 sz:szP t
 ls:HG t
 re:∀(n:Nat),(n:Int) < t.1->(reachS t 0)[n]?=some true
 ct:∀(n:Nat),(n:Int) < t.1->stn t n=true->1<=cnt t.2.2 n∧cnt t.2.2 n<=2
theorem zpm{t:qT}{n:Nat}{b:Bool}(h:t.2.1[n]?=some b):stn t n=b:=by unfold stn;simp[h]
theorem za1{t:qT}{n:Int}{b:Bool}(h:t.2.1[n.toNat]?=some b):stn t n=b:=by unfold stn;simp[h]
theorem za2(t:qT)(n:Int):Yj (t,n,())=some (tv (jX t n),()):=by rw[Rw];unfold DK jX;refine jl ?_;grind[za,wO]
theorem UF(l:wS)(a b:Int):wb (l,a,b,())=some (tv (ZW l a b),()):=by rw[Nh];unfold sU ZW;refine jl ?_;grind[za,yx]
theorem jX.lt{t:qT}{n:Int}(h:jX t n)(hs:szP t):n.toNat < t.2.1.length:=by have:=hs.st;have:=h.1;have:=h.2;omega
theorem jX.lt'{t:qT}{n:Int}(h:jX t n)(hs:szP t):n < (t.2.1.length:Int):=by have:=hs.st;have:=h.1;have:=h.2;omega
theorem pB{t:qT}(hs:szP t)(l:wS):xH (t,l,())=some (tv (il t l),()):=by
 rw[Rx];unfold DO;simp only[za2,zq];refine jl (zk (J:=fun x=>(x.1=0∧jX t l.1∧jX t l.2.1∧l.1≠l.2.1∧¬(stn t l.1=true∧stn t l.2.1=true))∨(x.1=1∧x.2.1.1=false∧¬(jX t l.1∧jX t l.2.1∧l.1≠l.2.1∧¬(stn t l.1=true∧stn t l.2.1=true)))) ?_ ?_)
 ·refine zd (fun h=>?_) (fun h=>?_)
  ·have:¬jX t l.1:=by intro hn;rw[qX hn]at h;cases h
   exact za (.inr ⟨rfl,rfl,by grind⟩)
  have h1:jX t l.1:=wF h;refine zd (fun h=>?_) (fun h=>?_)
  ·have:¬jX t l.2.1:=by intro hn;rw[qX hn]at h;cases h
   exact za (.inr ⟨rfl,rfl,by grind⟩)
  have h2:jX t l.2.1:=wF h;refine zd (fun h=>?_) (fun h=>?_)
  ·have:=qi h;exact za (.inr ⟨rfl,rfl,by grind⟩)
  have h3:=qt h;refine zb (wq h1.1 (h1.lt' hs) fun x hx=>?_);have e1:=za1 hx;refine zd (fun h=>?_) (fun h=>?_)
  ·refine zb (wq h2.1 (h2.lt' hs) fun y hy=>?_);have e2:=za1 hy;refine zd (fun h=>?_) (fun h=>?_)
   ·exact za (.inr ⟨rfl,rfl,by grind⟩)
   ·exact za (.inl ⟨rfl,by grind⟩)
  ·exact za (.inl ⟨rfl,by grind⟩)
 grind[Nat.beq,il,za,wO]
theorem UG{l:List Int}(hn:l.length<=1000000000000000000)(x:Int):vA (l,x,())=some (tv (x∈l),()):=by
 rw[zcr];unfold RF;refine jl (zk (J:=fun r=>(r.1=0∧¬x∈l)∨(r.1=1∧r.2.1.1=true∧x∈l)) (wK l.length (fun i=>l[i]?≠some x) hn ?_ ?_) ?_)
 ·intro i hi hp;have hx:l[i]?=some l[i]:=FL hi;refine zf (zL (show(i:Int) < _ by omega)) (zb (zm (n:=i) hx (zd (fun h=>?_) (fun h=>?_))))
  ·grind[qi,za,zw,List.getElem_mem]
  ·have:=qt h;exact za (vF (by omega) (by grind))
 ·grind[zD,za,zw,List.getElem?_of_mem]
 ·rintro⟨j,⟨v,w,⟨⟩⟩,⟨⟩⟩ (⟨rfl,hp⟩ | ⟨rfl,rfl,hp⟩)
  ·exact za (by simp[hp])
  ·exact za (by simp[hp])
theorem zoy(r:List Bool)(l:wS):(stp r l).length=r.length:=by grind[stp]
theorem su(ls:List wS):∀r:List Bool,(ls.foldl stp r).length=r.length:=by induction ls<;>grind[zoy]
theorem OO(ls:List wS):∀(n:Nat) (r:List Bool),(UE ls n r).length=r.length
 |0,r=>rfl
 |n+1,r=>by rw[UE,OO ls n,su]
theorem zb3(ls:List wS):∀(n:Nat) (r:List Bool),UE ls (n+1) r=ls.foldl stp (UE ls n r)
 |0,r=>rfl
 |n+1,r=>by rw[UE,zb3 ls n,UE]
theorem Tk{t:qT}(hs:szP t)(hl:∀(i:Nat) l,t.2.2[i]?=some l->jX t l.1∧jX t l.2.1){a:Nat}(ha:(a:Int) < t.1):Vb (t,(a:Int),[],())=some (reachS t a,()):=by
 have h0:=hs.n0;have h1:=hs.n1;have h3:=hs.ls;have h4:=hs.st;have e1:t.1.toNat=t.2.1.length:=by omega
 rw[Np];unfold tu;simp only[UG (l:=[]) (by simp),zq];refine gY ?_;refine zf (by unfold ru;rw[zD (by omega),zD (by omega),zD (by omega)];rfl) ?_;refine zb (wq (by omega) (by simp;omega) fun _ _=>zb (jL (by simp;omega) fun _ _=>?_));refine zk (J:=fun x=>x.2.2.1=reachS t a) (zZ t.1.toNat (fun i s=>s=(((i:Int),()),(UE t.2.2 i ((List.replicate t.1.toNat false).set a true),()))) (by omega) rfl ?_ ?_) ?_
 ·rintro i _ hi rfl;refine zf (zL (show(i:Int) < _ by omega)) ?_;generalize hr:UE t.2.2 i ((List.replicate t.1.toNat false).set a true)=r;have hrl:r.length=t.1.toNat:=by rw[<-hr,OO];simp
  refine zk (J:=fun x=>x.2.2.1=t.2.2.foldl stp r) (zZ t.2.2.length (fun i s=>s=(((i:Int),()),((t.2.2.take i).foldl stp r,()))) (by omega) rfl ?_ ?_) ?_
  ·rintro k _ hk rfl;refine zf (zL (show(k:Int) < _ by omega)) ?_;have hx:t.2.2[k]?=some t.2.2[k]:=FL hk;obtain⟨⟨a0,a1⟩,⟨b0,b1⟩⟩:=hl k _ hx;have hnx:(t.2.2.take (k+1)).foldl stp r=stp ((t.2.2.take k).foldl stp r) t.2.2[k]:=by rw[zrj,hx,List.foldl_append];rfl
   have hlen:((t.2.2.take k).foldl stp r).length=t.1.toNat:=by rw[su,hrl]
   generalize (t.2.2.take k).foldl stp r=q at hnx hlen;refine zb (zm (n:=k) hx ?_);refine zk (J:=fun x=>x.2.2.1=stp q t.2.2[k]) ?_ ?_
   ·refine zf (by rw[wi (by simp)];rfl) ?_;refine zb (wq a0 (by show _ < ((q.length:Nat):Int);omega) fun x hx=>zb (jL (by show _ < q.length;omega) fun x' hx'=>?_));have ex:x'=x:=zsa (hx'.symm.trans hx);subst ex;refine zd (fun h=>?_) (fun h=>?_)
    ·subst h;refine zb (wq a0 (by show _ < ((q.length:Nat):Int);omega) fun _ _=>zb (jL (by show _ < q.length;omega) fun _ _=>?_));refine zb (wq b0 (by show _ < (((q.set _ _).length:Nat):Int);simp;omega) fun _ _=>zb (jL (by show _ < (q.set _ _).length;simp;omega) fun _ _=>?_));refine za ?_;show _=stp q _;unfold stp;simp only at hx';rw[hx'];rfl
    ·subst h;refine zb (wq b0 (by show _ < ((q.length:Nat):Int);omega) fun y hy=>zb (jL (by show _ < q.length;omega) fun y' hy'=>?_));have ey:y'=y:=zsa (hy'.symm.trans hy);subst ey;refine zd (fun h=>?_) (fun h=>?_)
     ·subst h;refine zb (wq a0 (by show _ < ((q.length:Nat):Int);omega) fun _ _=>zb (jL (by show _ < q.length;omega) fun _ _=>?_));refine zb (wq b0 (by show _ < (((q.set _ _).length:Nat):Int);simp;omega) fun _ _=>zb (jL (by show _ < (q.set _ _).length;simp;omega) fun _ _=>?_));refine za ?_;show _=stp q _;unfold stp;simp only at hx' hy';rw[hx',hy'];rfl
     ·subst h;refine za ?_;show q=stp q _;unfold stp;simp only at hx' hy';rw[hx',hy'];rfl
   ·rintro⟨j,⟨⟩,q',⟨⟩⟩ hq;refine za (ql ?_);simp only at hq;rw[hnx,<-hq];exact zqS (fun z=>(((z,()),(q',())):(Int×Unit)×(List Bool×Unit))) (zQ (by omega))
  ·rintro _ rfl;refine zi (zD (show ¬(t.2.2.length:Int) < _ by omega)) (za (zw ?_));simp
  ·rintro⟨j,⟨z,⟨⟩⟩,q',⟨⟩⟩ hq;refine za (ql ?_);simp only at hq;rw[zb3,hr,<-hq];exact zqS (fun z=>(((z,()),(q',())):(Int×Unit)×(List Bool×Unit))) (zQ (by omega))
 ·rintro _ rfl;exact zi (zD (show ¬((t.1.toNat:Nat):Int) < _ by omega)) (za (zw rfl))
 grind[za]
def gZ(t:qT)(i:Nat):List Int:=(List.range t.1.toNat).map (cnt (t.2.2.take i))
theorem zkK(a:Int)(n:Nat):0<=one a n∧one a n<=1:=by grind[one]
theorem zkL(ls:List wS)(n:Nat):0<=cnt ls n∧cnt ls n<=2*ls.length:=by
 unfold cnt;induction ls with
 |nil=>simp
 |cons l ls ih=>
  have:=zkK l.1 n;have:=zkK l.2.1 n;grind
theorem zfZ{ls:List wS}{i:Nat}{l:wS}(h:ls[i]?=some l)(n:Nat):cnt (ls.take (i+1)) n=cnt (ls.take i) n+(one l.1 n+one l.2.1 n):=by unfold cnt;rw[zrj,h];simp
theorem im(t:qT)(i:Nat):(gZ t i).length=t.1.toNat:=by simp[gZ]
theorem iq{t:qT}{i n:Nat}(h:n < t.1.toNat):(gZ t i)[n]?=some (cnt (t.2.2.take i) n):=by simp[gZ,h]
theorem zkM{t:qT}{i:Nat}{l:wS}(h:t.2.2[i]?=some l)(hl:t.2.2.length<=24)(ha:jX t l.1)(hb:jX t l.2.1)(hab:l.1≠l.2.1){u v:Int}(hu:(gZ t i)[l.1.toNat]?=some u)(hv:((gZ t i).set l.1.toNat (wrF .i64 (u+1)))[l.2.1.toNat]?=some v) : ((gZ t i).set l.1.toNat (wrF .i64 (u+1))).set l.2.1.toNat (wrF .i64 (v+1))=gZ t (i+1):=by
 obtain⟨a0,a1⟩:=ha;obtain⟨b0,b1⟩:=hb;have hne:l.1.toNat≠l.2.1.toNat:=by omega
 rw[iq (by omega)]at hu;rw[List.getElem?_set_ne hne,iq (by omega)]at hv;have hu:=zsa hu;have hv:=zsa hv;have k1:=zkL (t.2.2.take i) l.1.toNat;have k2:=zkL (t.2.2.take i) l.2.1.toNat
 have k3:(t.2.2.take i).length<=24:=by simp;omega
 rw[zT (by omega) (by omega),zT (by omega) (by omega)];apply zrl;grind[iq,zfZ,one,List.length_set,im,List.getElem?_eq_none]
theorem zpn(t:qT):List.replicate t.1.toNat (0:Int)=gZ t 0:=by apply zrl;grind[iq,cnt,List.getElem?_eq_none,im]
theorem zmY(t:qT){n:Nat}(h:n < t.1.toNat):(gZ t t.2.2.length)[n]?=some (cnt t.2.2 n):=by rw[iq h,zrU]
theorem il.nodes{t:qT}{l:wS}(h:il t l):jX t l.1∧jX t l.2.1:=⟨h.1,h.2.1⟩
theorem zgT{t:qT}(h:¬szP t):¬wY t:=fun h'=>h h'.sz
theorem zgU{t:qT}(h:¬HG t):¬wY t:=fun h'=>h h'.ls
theorem WG(t:qT):kr (t,())=some (tv (wY t),()):=by
 rw[Nq];unfold tB;refine jl (zk (J:=fun x=>(x.1=0∧x.2.1.1=false∧szP t)∨(x.1=1∧x.2.1.1=false∧¬szP t)) ?_ ?_)
 ·refine zd (fun h=>za (.inr ⟨rfl,rfl,fun hs=>?_⟩)) (fun h1=>zd (fun h=>za (.inr ⟨rfl,rfl,fun hs=>?_⟩)) (fun h2=>zd (fun h=>za (.inr ⟨rfl,rfl,fun hs=>?_⟩)) (fun h3=>zd (fun h=>za (.inr ⟨rfl,rfl,fun hs=>?_⟩)) (fun h4=>za (.inl ⟨rfl,rfl,?_⟩)))))
  ·have:=zV h;have:=hs.n0;omega
  ·have:=zV h;have:=hs.n1;omega
  ·have:=hs.st;grind[wP]
  ·have:=zV h;have:=hs.ls;omega
  ·have h1:=zP h1;have h2:=zP h2;have h4:=zP h4;have h3:=qi (by simpa using h3);exact⟨h1,h2,h3,by omega⟩
 rintro⟨j,⟨v,⟨⟩⟩,⟨⟩⟩ (⟨rfl,rfl,hs⟩ | ⟨rfl,rfl,hs⟩);rotate_left
 ·exact zi rfl (za ⟨fun h=>(by cases h),fun h=>absurd h (zgT hs)⟩)
 have n0:=hs.n0;have n1:=hs.n1;have h3:=hs.ls;have h4:=hs.st;refine zf rfl (zf (za0 (by omega) (by omega) (by omega)) ?_);refine zk (J:=fun x=>(x.1=0∧x.2.1.1=false∧x.2.2.1=gZ t t.2.2.length∧HG t)∨(x.1=1∧x.2.1.1=false∧¬HG t))
  (zZ t.2.2.length (fun i s=>s=((false,((i:Int),())),(gZ t i,()))∧∀(k:Nat),k < i->∀l,t.2.2[k]?=some l->il t l∧∀(k':Nat) o,k' < k->t.2.2[k']?=some o->¬ZW o l.1 l.2.1) (by omega) ⟨by rw[zpn];rfl,fun k hk=>by omega⟩ ?_ ?_) ?_
 ·rintro i _ hi ⟨rfl,hp⟩;have hx:t.2.2[i]?=some t.2.2[i]:=FL hi;refine zf (zL (show(i:Int) < _ by omega)) (zb (zm (n:=i) hx ?_));rw[pB hs];generalize hgl:t.2.2[i]=l at hx;refine zd (fun h=>?_) (fun h=>?_)
  ·have hn:=jZ h;exact za (zw (.inr ⟨rfl,rfl,fun hq=>hn (hq i l hx).1⟩))
  have hl:=wF h;refine zk (J:=fun x=>(x.1=0∧x.2.1.1=false∧∀(k':Nat) o,k' < i->t.2.2[k']?=some o->¬ZW o l.1 l.2.1)∨(x.1=1∧x.2.1.1=false∧∃(k':Nat) (o:wS),k' < i∧t.2.2[k']?=some o∧ZW o l.1 l.2.1))
   (wK i (fun k=>∀o,t.2.2[k]?=some o->¬ZW o l.1 l.2.1) (by omega) ?_ ?_) ?_
  ·intro k hk hpk;have hy:t.2.2[k]?=some t.2.2[k]:=FL (by omega);refine zf (zL (show(k:Int) < (i:Int) by omega)) (zb (zm (n:=k) hy ?_));rw[UF];refine zd (fun h=>?_) (fun h=>?_)
   ·grind[za,zw,aD]
   ·exact za (vF (by omega) fun o ho=>by grind)
  ·grind[zD,za,zw]
  ·rintro⟨j,⟨v,w,⟨⟩⟩,⟨⟩⟩ (⟨rfl,rfl,hpk⟩ | ⟨rfl,rfl,k',o,hk',ho,hj⟩)
   ·refine zf rfl ?_;obtain⟨⟨a0,a1⟩,⟨b0,b1⟩⟩:=hl.nodes;have lc:=im t i;refine zb (wq a0 (by show _ < (((gZ t i).length:Nat):Int);omega) fun _ _=>zb (jL (by show _ < (gZ t i).length;omega) fun u hu=>zb (wq a0 (by show _ < (((gZ t i).length:Nat):Int);omega) fun _ _=>zb (jL (by show _ < (gZ t i).length;omega) fun _ _=>?_))));refine zb (wq b0 (by show _ < ((((gZ t i).set _ _).length:Nat):Int);simp;omega) fun _ _=>zb (jL (by show _ < ((gZ t i).set _ _).length;simp;omega) fun w hw=>zb (wq b0 (by show _ < ((((gZ t i).set _ _).length:Nat):Int);simp;omega) fun _ _=>zb (jL (by show _ < ((gZ t i).set _ _).length;simp;omega) fun _ _=>?_))));refine za (ql ⟨?_,?_⟩)
    ·have e:=zkM hx hs.ls hl.1 hl.2.1 hl.2.2.1 hu hw;show((false,(wrF .i64 ((i:Int)+1),())),((((gZ t i).set l.1.toNat (wrF .i64 (u+1))).set l.2.1.toNat (wrF .i64 (w+1))),()))=_;rw[e,zQ (by omega)]
    grind
   ·exact zi rfl (za (zw (.inr ⟨rfl,rfl,fun hq=>(hq i l hx).2 k' o hk' ho hj⟩)))
 ·rintro _ ⟨rfl,hp⟩;exact zi (zD (show ¬(t.2.2.length:Int) < _ by omega)) (za (zw (.inl ⟨rfl,rfl,rfl,fun i l hl=>hp i (by grind) l hl⟩)))
 rintro⟨j,⟨v,w,⟨⟩⟩,c,⟨⟩⟩ (⟨rfl,rfl,rfl,hls⟩ | ⟨rfl,rfl,hls⟩);rotate_left
 ·exact zi rfl (za ⟨fun h=>(by cases h),fun h=>absurd h (zgU hls)⟩)
 refine zf rfl ?_;have hre:=Tk (a:=0) hs (fun i l hl=>(hls i l hl).1.nodes) (by omega);simp only[Int.natCast_zero]at hre;rw[hre,zq];have hrl:(reachS t 0).length=t.1.toNat:=by unfold reachS;rw[OO];simp
 refine zk (J:=fun x=>(x.1=0∧wY t)∨(x.1=1∧x.2.1.1=false∧¬wY t)) (wK t.1.toNat (fun n=>(reachS t 0)[n]?=some true∧(stn t n=true->1<=cnt t.2.2 n∧cnt t.2.2 n<=2)) (by omega) ?_ ?_) ?_
 ·intro n hn hp;refine zf (zL (show(n:Int) < _ by omega)) ?_;have hr:(reachS t 0)[n]?=some (reachS t 0)[n]:=FL (by omega);have hst:t.2.1[n]?=some t.2.1[n]:=FL (by omega);have e1:=zpm hst;have e2:=zmY t hn;refine zk (J:=fun x=>(x.1=0∧x.2.1.1=false∧(reachS t 0)[n]?=some true∧(stn t n=true->1<=cnt t.2.2 n∧cnt t.2.2 n<=2))∨(x.1=1∧x.2.1.1=false∧¬wY t)) ?_ ?_
  ·refine zb (zm (n:=n) hr ?_);refine zd (fun h=>?_) (fun h=>?_)
   ·exact za (.inr ⟨rfl,rfl,fun ht=>by have:=ht.re n (by omega);grind⟩)
   refine zb (zm (n:=n) hst (zd (fun h5=>?_) (fun h5=>?_)))
   ·refine zb (zm (n:=n) e2 (zb (jL (by show n < _;rw[im];exact hn) fun u hu=>?_)));have hu:u=cnt t.2.2 n:=by have hu:(gZ t t.2.2.length)[n]?=some u:=hu;rw[e2]at hu;exact(zsa hu).symm
    subst hu;refine zd (fun h6=>?_) (fun h6=>?_)
    ·have:=zV h6;exact za (.inr ⟨rfl,rfl,fun ht=>by have:=ht.ct n (by omega) (by grind);omega⟩)
    refine zb (zm (n:=n) e2 (zb (jL (by show n < _;rw[im];exact hn) fun u hu=>?_)));have hu:u=cnt t.2.2 n:=by have hu:(gZ t t.2.2.length)[n]?=some u:=hu;rw[e2]at hu;exact(zsa hu).symm
    subst hu;refine zd (fun h7=>?_) (fun h7=>?_)
    ·have:=zV h7;exact za (.inr ⟨rfl,rfl,fun ht=>by have:=ht.ct n (by omega) (by grind);omega⟩)
    ·have:=zP h6;have:=zP h7;exact za (.inl ⟨rfl,rfl,by grind,fun _=>⟨by omega,by omega⟩⟩)
   grind[za]
  ·rintro⟨j,⟨v,⟨⟩⟩,⟨⟩⟩ (⟨rfl,rfl,hq⟩ | ⟨rfl,rfl,hq⟩)
   ·exact zf rfl (za (vF (by omega) hq))
   ·exact zi rfl (za (zw (.inr ⟨rfl,rfl,hq⟩)))
 ·intro hp;exact zi (zD (show ¬((t.1.toNat:Nat):Int) < _ by omega)) (za (zw (.inl ⟨rfl,⟨hs,hls,fun n hn=>(hp n (by omega)).1,fun n hn=>(hp n (by omega)).2⟩⟩)))
 ·rintro⟨j,⟨v,w,⟨⟩⟩,⟨⟩⟩ (⟨rfl,hq⟩ | ⟨rfl,rfl,hq⟩)
  ·exact zf rfl (za ⟨fun _=>hq,fun _=>rfl⟩)
  ·exact zi rfl (za ⟨fun h=>(by cases h),fun h=>absurd h hq⟩)
def yv(t:qT)(p:Int):Prop:=0<=p∧p < 2*(t.2.2.length:Int)
def lnk(t:qT)(p:Int):wS:=(t.2.2[p.toNat / 2]?).getD (0,0,0,0)
def frm(t:qT)(p:Int):Int:=if p % 2=1 then(lnk t p).2.1 else(lnk t p).1
def too(t:qT)(p:Int):Int:=if p % 2=1 then(lnk t p).1 else(lnk t p).2.1
theorem zi9{p:Int}(h:0<=p)(h2:p<=1000000000000000000):wrF .i64 (Int.tdiv p 2)=((p.toNat / 2:Nat):Int):=by grind[Int.tdiv_eq_ediv_of_nonneg,zT]
theorem par{p:Int}(h:0<=p):Int.tmod p 2=p % 2:=by grind
theorem GR{t:qT}{p:Int}(h:yv t p):t.2.2[p.toNat / 2]?=some (lnk t p):=by have:=h.1;have:=h.2;grind[List.getElem?_eq_getElem,lnk]
theorem tw(t:qT)(h:t.2.2.length<=1000000000000000):wrF .i64 (2*(t.2.2.length:Int))=2*(t.2.2.length:Int):=by grind[zT]
theorem ir{t:qT}(hl:HG t){p:Int}(h:yv t p):jX t (frm t p)∧jX t (too t p)∧frm t p≠too t p:=by have:=(hl _ _ (GR h)).1;have h1:=this.1;have h2:=this.2.1;have h3:=this.2.2.1;grind[frm,too]
theorem za3{t:qT}(h:t.2.2.length<=1000000000000000)(p:Int):KL (t,p,())=some (tv (yv t p),()):=by rw[RJ];unfold Ec yv;refine jl (zd (fun h=>?_) (fun h=>?_))<;>refine za ?_<;>simp only[wO]at *;all_goals grind[tw]
theorem uv{t:qT}(h:t.2.2.length<=1000000000000000){p:Int}(hp:yv t p):yd (t,p,())=some (frm t p,()):=by have:=hp.1;have:=hp.2;rw[Rz];unfold DV;simp only[zi9 hp.1 (by omega),par hp.1,gw (GR hp),zq,yx];grind[frm]
theorem uP{t:qT}(h:t.2.2.length<=1000000000000000){p:Int}(hp:yv t p):jQ (t,p,())=some (too t p,()):=by have:=hp.1;have:=hp.2;rw[zcq];unfold RC;simp only[zi9 hp.1 (by omega),par hp.1,gw (GR hp),zq,yx];grind[too]
theorem bR{t:qT}(h:t.2.2.length<=1000000000000000){p:Int}(hp:yv t p):JY (t,p,())=some ((lnk t p).2.2.1,()):=by have:=hp.1;have:=hp.2;rw[zai];unfold IY;simp only[zi9 hp.1 (by omega),gw (GR hp),zq]
theorem UH{t:qT}(h:t.2.2.length<=1000000000000000){p:Int}(hp:yv t p):ku (t,p,())=some ((lnk t p).2.2.2,()):=by have:=hp.1;have:=hp.2;rw[Nt];unfold tI;simp only[zi9 hp.1 (by omega),gw (GR hp),zq]
def wD(t:qT)(r:List Int):List Int:=match r with
 |[]=>[]
 |p::_=>frm t p::r.map (too t)
theorem bk(t:qT){r:List Int}(h:r≠[]):(wD t r).length=r.length+1:=by cases r<;>grind[wD]
theorem zoz(t:qT){r:List Int}{p:Int}(h:r[0]?=some p):(wD t r)[0]?=some (frm t p):=by
 cases r with
 |nil=>cases h
 |cons q r=>simp at h;subst h;rfl
theorem sw(t:qT){r:List Int}{i:Nat}{p:Int}(h:r[i]?=some p):(wD t r)[i+1]?=some (too t p):=by cases r<;>grind[wD,List.getElem?_cons_succ]
theorem UI{t:qT}(h:t.2.2.length<=1000000000000000){r:List Int}(h0:r≠[])(h8:r.length<=8)(hp:∀p∈r,yv t p):vP (t,r,())=some (wD t r,()):=by
 have hl:0 < r.length:=zrT.2 h0;have hx0:r[0]?=some r[0]:=FL hl;rw[Nk];unfold td;refine gY (zb (zm (n:=0) hx0 ?_));rw[uv h (hp _ (zqq hl)),zq];refine zk (J:=fun x=>x.2.2.1=wD t r) (zZ r.length (fun i s=>s=(((i:Int),()),((wD t r).take (i+1),()))) (by omega) ?_ ?_ ?_) ?_
 ·have:=zoz t hx0;have e:(wD t r).take 1=[frm t r[0]]:=by rw[show(1:Nat)=0+1 from rfl,zrj,this];simp
  rw[show(0:Nat)+1=1 from rfl,e];rfl
 ·rintro i _ hi rfl;have hx:r[i]?=some r[i]:=FL hi;refine zf (zL (show(i:Int) < (r.length:Int) by omega)) (zb (zm (n:=i) hx ?_));rw[uP h (hp _ (zqq hi)),zq];have hl:=bk t h0;refine zf (qO (by show(((wD t r).take (i+1)).length+1)*8<=_;simp;omega) (by show((wD t r).take (i+1)).length+1<=_;simp;omega)) ?_;refine za (ql ?_);have e:(wD t r).take (i+1+1)=(wD t r).take (i+1)++[too t r[i]]:=by rw[zrj,sw t hx];rfl
  rw[e,<-zQ (by omega)]
 all_goals grind[zD,za,zw,wD,List.take_of_length_le,bk]
def zpU(t:qT)(r:List Int)(i:Nat)(p:Int):Prop:=¬too t p∈(wD t r).take (i+1)∧(0 < i->∀n,(wD t r)[i]?=some n->stn t n=false∧frm t p=n)
structure yZ(t:qT)(r:List Int):Prop where
 n0:1<=r.length
 n1:r.length<=8
 pt:∀p∈r,yv t p
 st:∀(i:Nat) p,r[i]?=some p->zpU t r i p
theorem yZ.ne{t:qT}{r:List Int}(h:yZ t r):r≠[]:=by intro e;have:=h.n0;grind
theorem wY.ll{t:qT}(h:wY t):t.2.2.length<=1000000000000000:=by have:=h.sz.ls;omega
theorem zoA{t:qT}(ht:wY t){r:List Int}(hp:∀p∈r,yv t p):∀n∈wD t r,jX t n:=by
 intro n hn;cases r with
 |nil=>cases hn
 |cons q r=>
  simp only[wD,zqA,zrQ]at hn;rcases hn with rfl | ⟨p,hp',rfl⟩
  ·exact(ir ht.ls (hp q (by simp))).1
  ·exact(ir ht.ls (hp p (by simpa using hp'))).2.1
theorem jX.get{t:qT}(hs:szP t){n:Int}(h:jX t n):t.2.1[n.toNat]?=some (stn t n):=by have hx:t.2.1[n.toNat]?=some (t.2.1[n.toNat]'(h.lt hs)):=FL (h.lt hs);rw[hx,za1 hx]
theorem mu{t:qT}(ht:wY t)(r:List Int):kq (t,r,())=some (tv (yZ t r),()):=by
 have hll:=ht.ll;rw[Nl];unfold tg;refine jl (zk (J:=fun x=>(x.1=0∧x.2.1.1=false∧1<=r.length∧r.length<=8)∨(x.1=1∧x.2.1.1=false∧¬yZ t r)) ?_ ?_)
 ·refine zd (fun h=>za (.inr ⟨rfl,rfl,fun hs=>?_⟩)) (fun h1=>zd (fun h=>za (.inr ⟨rfl,rfl,fun hs=>?_⟩)) (fun h2=>za (.inl ⟨rfl,rfl,?_⟩)))
  ·have:=zV h;have:=hs.n0;omega
  ·have:=zV h;have:=hs.n1;omega
  ·have h1:=zP h1;have h2:=zP h2;omega
 rintro⟨j,⟨v,⟨⟩⟩,⟨⟩⟩ (⟨rfl,rfl,h1,h8⟩ | ⟨rfl,rfl,hq⟩);rotate_left
 ·exact zi rfl (za ⟨fun h=>(by cases h),fun h=>absurd h hq⟩)
 refine zf rfl (zk (J:=fun x=>(x.1=0∧x.2.1.1=false∧∀p∈r,yv t p)∨(x.1=1∧x.2.1.1=false∧¬yZ t r)) (wK r.length (fun i=>∀p,r[i]?=some p->yv t p) (by omega) ?_ ?_) ?_)
 ·intro i hi hp;have hx:r[i]?=some r[i]:=FL hi;refine zf (zL (show(i:Int) < (r.length:Int) by omega)) (zb (zm (n:=i) hx ?_));rw[za3 hll];refine zd (fun h=>?_) (fun h=>?_)
  ·exact za (zw (.inr ⟨rfl,rfl,fun hr=>jZ h (hr.pt _ (zqq hi))⟩))
  ·exact za (vF (by omega) fun p hp=>by grind[wF])
 ·grind[zD,za,zw,List.getElem?_of_mem]
 rintro⟨j,⟨v,w,⟨⟩⟩,⟨⟩⟩ (⟨rfl,rfl,hpt⟩ | ⟨rfl,rfl,hq⟩);rotate_left
 ·exact zi rfl (za ⟨fun h=>(by cases h),fun h=>absurd h hq⟩)
 have hne:r≠[]:=by grind
 have hnl:=bk t hne;have hnP:=zoA ht hpt;refine zf rfl ?_;rw[UI hll hne h8 hpt,zq];refine zk (J:=fun x=>(x.1=0∧yZ t r)∨(x.1=1∧x.2.1.1=false∧¬yZ t r)) (wK (wD t r).length (fun i=>(∀n,(wD t r)[i]?=some n->¬n∈(wD t r).take i)∧∀p,r[i]?=some p->0 < i->∀n,(wD t r)[i]?=some n->stn t n=false∧frm t p=n) (by omega) ?_ ?_) ?_
 ·intro i hi hp;have hx:(wD t r)[i]?=some (wD t r)[i]:=FL hi;have hn:=hnP _ (zqq hi);generalize (wD t r)[i]=n at hx hn;refine zf (zL (show(i:Int) < ((wD t r).length:Int) by omega)) (zb (jR (zhp (wD t r) i (by omega)) (zb (zm (n:=i) hx ?_))));rw[UG (by simp;omega)];refine zd (fun h=>?_) (fun h=>?_)
  ·refine za (zw (.inr ⟨rfl,rfl,fun hr=>?_⟩));have hm:=aD h;cases i with
   |zero=>simp at hm
   |succ i=>
    have hy:r[i]?=some r[i]:=FL (by omega);have e:=sw t hy;rw[hx]at e;have:=(hr.st i _ hy).1;grind
  have hin:=ij h;refine zk (J:=fun x=>(x.1=0∧x.2.1.1=false∧∀p,r[i]?=some p->0 < i->stn t n=false∧frm t p=n)∨(x.1=1∧x.2.1.1=false∧¬yZ t r)) ?_ ?_
  ·refine zd (fun h2=>?_) (fun h2=>?_)
   ·have h2:=zV (show zg 0 (i:Int)=true from h2);refine zd (fun h3=>?_) (fun h3=>?_)
    ·have h3:=zV (show zg (i:Int) (r.length:Int)=true from h3);have hy:r[i]?=some r[i]:=FL (by omega);have hpy:=hpt _ (zqq (show i < r.length by omega));generalize r[i]=p at hy hpy;refine zb (zm (n:=i) hx (zb (jR (a:=stn t n) (by rw[show n=((n.toNat:Nat):Int) from(by have:=hn.1;omega),gw (n:=n.toNat)];exact hn.get ht.sz) ?_)));refine zd (fun h4=>?_) (fun h4=>?_)
     ·refine za (.inr ⟨rfl,rfl,fun hr=>?_⟩);have:=((hr.st i p hy).2 (by omega) n hx).1;grind
     ·refine zb (zm (n:=i) hy ?_);rw[uv hll hpy,zq];refine zb (zm (n:=i) hx (zd (fun h5=>?_) (fun h5=>?_)))
      ·refine za (.inr ⟨rfl,rfl,fun hr=>?_⟩);have:=((hr.st i p hy).2 (by omega) n hx).2;rw[wP this]at h5;cases h5
      grind[qi,zj,frm,za]
    ·have h3:=zP (show zg (i:Int) (r.length:Int)=false from h3);grind[za,List.getElem?_eq_none]
   ·have h2:=zP (show zg 0 (i:Int)=false from h2);grind[za]
  ·rintro⟨j,⟨v,⟨⟩⟩,⟨⟩⟩ (⟨rfl,rfl,hq⟩ | ⟨rfl,rfl,hq⟩)
   ·exact zf rfl (za (vF (by omega) ⟨fun m hm=>by grind,fun p hp h0 m hm=>by grind⟩))
   ·exact zi rfl (za (zw (.inr ⟨rfl,rfl,hq⟩)))
 ·intro hp;refine zi (zD (show ¬((wD t r).length:Int) < ((wD t r).length:Int) by omega)) (za (zw (.inl ⟨rfl,h1,h8,hpt,fun i p hi=>⟨?_,fun h0 n hn=>?_⟩⟩)));all_goals grind[sw]
 ·rintro⟨j,⟨v,w,⟨⟩⟩,⟨⟩⟩ (⟨rfl,hq⟩ | ⟨rfl,rfl,hq⟩)
  ·exact zf rfl (za ⟨fun _=>hq,fun _=>rfl⟩)
  ·exact zi rfl (za ⟨fun h=>(by cases h),fun h=>absurd h hq⟩)
def za4(a b:List Int):Prop:=∃p∈a,∃q∈b,Int.tdiv p 2=Int.tdiv q 2
def HH(a:List Int):List Int:=(a.take (a.length - 1)).drop 1
def Tl(a b:List Int):Prop:=∃n∈HH a,n∈b
def zkN(t:qT)(a b:List Int):Prop:=¬za4 a b∧¬Tl (wD t a) (wD t b)∧¬Tl (wD t b) (wD t a)
theorem zpV{p:Int}(h : -9223372036854775808<=p)(h2:p<=9223372036854775807):wrF .i64 (Int.tdiv p 2)=Int.tdiv p 2:=by rcases Int.le_total 0 p with h0 | h0;all_goals grind[Int.tdiv_eq_ediv_of_nonneg,zT,Int.tdiv,Int.neg_tdiv]
theorem zhq{t:qT}(h:t.2.2.length<=1000000000000000){p:Int}(hp:yv t p):wrF .i64 (Int.tdiv p 2)=Int.tdiv p 2:=zpV (by have:=hp.1;omega) (by have:=hp.2;omega)
theorem kf{α:Type}{l:List α}{x:α}(h:x∈l):∃i,i < l.length∧l[i]?=some x:=by grind[List.getElem?_of_mem]
theorem zb4{a:List Int}{i:Nat}(h:1<=i)(h2:i < a.length - 1):(HH a)[i - 1]?=a[i]?:=by grind[HH]
theorem zkO(a:List Int):(HH a).length=a.length - 1 - 1:=by unfold HH;simp
theorem zb5{a:List Int}{n:Int}:n∈HH a↔∃i,1<=i∧i < a.length - 1∧a[i]?=some n:=by
 constructor
 ·intro h;obtain⟨k,hk,hk2⟩:=kf h;rw[zkO]at hk;refine⟨k+1,by omega,by omega,?_⟩;rw[<-zb4 (by omega) (by omega)];exact hk2
 ·rintro⟨i,h1,h2,h3⟩;rw[<-zb4 h1 h2]at h3;grind
theorem cI{a b:List Int}(la:1<=a.length)(la2:a.length<=100)(lb:b.length<=100):ZK (a,b,())=some (tv (Tl a b),()):=by
 have e1:wrF .i64 ((a.length:Int) - 1)=(a.length:Int) - 1:=zT (by omega) (by omega);rw[Ef];unfold lH;rw[e1];refine jl (zk (J:=fun x=>(x.1=0∧¬Tl a b)∨(x.1=1∧x.2.1.1=true∧Tl a b))
  (zZ (a.length - 1 - 1) (fun i s=>s=((false,(((i+1:Nat):Int),())),())∧∀k,1<=k->k < i+1->∀n,a[k]?=some n->¬n∈b) (by omega) ⟨rfl,fun k h1 h2=>by omega⟩ ?_ ?_) ?_)
 ·rintro i _ hi ⟨rfl,hp⟩;have hx:a[i+1]?=some a[i+1]:=FL (by omega);generalize a[i+1]=n at hx;refine zf (zL (show((i+1:Nat):Int) < (a.length:Int) - 1 by omega)) (zb (zm (n:=i+1) hx ?_));rw[UG (by omega)];refine zd (fun h=>?_) (fun h=>?_)
  ·exact za (zw (.inr ⟨rfl,rfl,n,zb5.2 ⟨i+1,by omega,by omega,hx⟩,aD h⟩))
  ·refine za (ql ⟨zqS (fun z=>((false,(z,())),())) (zQ (i:=i+1) (by omega)),fun k h1 h2 m hm=>?_⟩);grind[Nat.lt_or_ge,ij]
 ·rintro _ ⟨rfl,hp⟩;refine zi (zD (show ¬((a.length - 1 - 1+1:Nat):Int) < (a.length:Int) - 1 by omega)) (za (zw (.inl ⟨rfl,fun⟨n,h1,h2⟩=>?_⟩)));grind[zb5]
 ·rintro⟨j,⟨v,w,⟨⟩⟩,⟨⟩⟩ (⟨rfl,hq⟩ | ⟨rfl,rfl,hq⟩)
  ·exact zf rfl (za ⟨fun h=>(by cases h),fun h=>absurd h hq⟩)
  ·exact zi rfl (za ⟨fun _=>hq,fun _=>rfl⟩)
theorem mw{t:qT}(ht:wY t){a b:List Int}(ha:yZ t a)(hb:yZ t b):JB (t,a,b,())=some (tv (zkN t a b),()):=by
 have hll:=ht.ll;have na:=bk t ha.ne;have nb:=bk t hb.ne;have a0:=ha.n0;have a8:=ha.n1;have b0:=hb.n0;have b8:=hb.n1;rw[Nm];unfold tj;refine jl (zk (J:=fun x=>(x.1=0∧¬za4 a b)∨(x.1=1∧x.2.1.1=false∧za4 a b)) (wK a.length (fun i=>∀p,a[i]?=some p->¬∃q∈b,Int.tdiv p 2=Int.tdiv q 2) (by omega) ?_ ?_) ?_)
 ·intro i hi hp;have hx:a[i]?=some a[i]:=FL hi;have hm:=zqq hi;generalize a[i]=p at hx hm;refine zf (zL (show(i:Int) < (a.length:Int) by omega)) ?_;refine zk (J:=fun x=>(x.1=0∧x.2.1.1=false∧¬∃q∈b,Int.tdiv p 2=Int.tdiv q 2)∨(x.1=1∧x.2.1.1=false∧∃q∈b,Int.tdiv p 2=Int.tdiv q 2)) (wK b.length (fun k=>∀q,b[k]?=some q->Int.tdiv p 2≠Int.tdiv q 2) (by omega) ?_ ?_) ?_
  ·intro k hk hq;have hy:b[k]?=some b[k]:=FL hk;have hmk:=zqq hk;generalize b[k]=q at hy hmk;refine zf (zL (show(k:Int) < (b.length:Int) by omega)) (zb (zm (n:=i) hx (zb (zm (n:=k) hy ?_))));rw[zhq hll (ha.pt p hm),zhq hll (hb.pt q hmk)];refine zd (fun h=>?_) (fun h=>?_)
   ·grind[za,zw,qi]
   ·exact za (vF (by omega) fun q' hq'=>by grind[qt])
  ·intro hq;refine zi (zD (show ¬(b.length:Int) < (b.length:Int) by omega)) (za (zw (.inl ⟨rfl,rfl,fun⟨q,hq1,hq2⟩=>?_⟩)));obtain⟨k,hk,hk2⟩:=kf hq1;grind
  ·rintro⟨j,⟨v,w,⟨⟩⟩,⟨⟩⟩ (⟨rfl,rfl,hq⟩ | ⟨rfl,rfl,hq⟩)
   ·exact zf rfl (za (vF (by omega) fun p' hp'=>by simp_all))
   ·exact zi rfl (za (zw (.inr ⟨rfl,rfl,p,hm,hq⟩)))
 ·intro hp;refine zi (zD (show ¬(a.length:Int) < (a.length:Int) by omega)) (za (zw (.inl ⟨rfl,fun⟨p,hp1,hp2⟩=>?_⟩)));grind[kf]
 ·rintro⟨j,⟨v,w,⟨⟩⟩,⟨⟩⟩ (⟨rfl,hq⟩ | ⟨rfl,rfl,hq⟩)
  ·refine zf rfl ?_;simp only[UI hll ha.ne ha.n1 ha.pt,UI hll hb.ne hb.n1 hb.pt,zq];rw[cI (by omega) (by omega) (by omega)];refine zd (fun h=>?_) (fun h=>?_)
   ·rw[cI (by omega) (by omega) (by omega)];refine za ⟨fun h2=>⟨hq,jZ h,jZ h2⟩,fun h2=>?_⟩;show(!tv _)=true;rw[wi h2.2.2];rfl
   ·exact za ⟨fun h2=>(by cases h2),fun h2=>absurd (wF h) h2.2.1⟩
  ·exact zi rfl (za ⟨fun h=>(by cases h),fun h=>absurd hq h.1⟩)
def pC(t:qT)(r:List Int):Int:=frm t ((r[0]?).getD 0)
def HI(t:qT)(r:List Int):Int:=too t ((r[r.length - 1]?).getD 0)
abbrev wJ:=Int×Int×Int×Int×Int×Int×(Int×Int)×Int×List (List Int)
structure Zx(t:qT)(s:wJ):Prop where
 id:1<=s.1∧s.1<=4095
 ta:jX t s.2.1∧stn t s.2.1=true
 li:jX t s.2.2.1∧stn t s.2.2.1=true
 tl:s.2.1≠s.2.2.1
 sz:84<=s.2.2.2.2.1∧s.2.2.2.2.1<=1542
 dl:1<=s.2.2.2.2.2.2.2.1∧s.2.2.2.2.2.2.2.1<=1099511627776
 cl:(s.2.2.2.1=7∧(1<=s.2.2.2.2.2.1∧s.2.2.2.2.2.1<=240)∧s.2.2.2.2.2.2.1=(0,0))∨(s.2.2.2.1=6∧s.2.2.2.2.2.1=0∧(s.2.2.2.2.1<=s.2.2.2.2.2.2.1.1∧s.2.2.2.2.2.2.1.1<=1048576)∧(1<=s.2.2.2.2.2.2.1.2∧s.2.2.2.2.2.2.1.2<=2097152))
 rn:1<=s.2.2.2.2.2.2.2.2.length∧s.2.2.2.2.2.2.2.2.length<=2
 rt:∀r∈s.2.2.2.2.2.2.2.2,yZ t r∧pC t r=s.2.1∧HI t r=s.2.2.1
 ap:∀a b,s.2.2.2.2.2.2.2.2[0]?=some a->s.2.2.2.2.2.2.2.2[1]?=some b->zkN t a b
theorem zja{a b c:Int}{R:Int->Int->Int->Option (Bool×Unit)}(hR:R a b c=(bif(!(zg (a) (b)))then some ((!(zg (c) (a))),())else some (false,()))):R a b c=some (tv (b<=a∧a<=c),()):=by rw[hR];refine jl (zd (fun h=>?_) (fun h=>?_))<;>refine za ?_<;>simp only[wO]at *<;>grind
theorem iu(a b c:Int):yE (a,b,c,())=some (tv (b<=a∧a<=c),()):=by rw[zcv];exact zja (R:=RN) rfl
theorem zoB{n:Int}(h : -1000000<=n)(h2:n<=1000000):wrF .i64 (n - 1)=n - 1:=by grind[zT]
theorem It{t:qT}(hs:szP t)(n:Int):ZL (t,n,())=some (tv (jX t n∧stn t n=true),()):=by
 have h0:=hs.n0;have h1:=hs.n1;rw[Eh];unfold lL;simp only[iu,zq,zoB (show -1000000<=t.1 by omega) (by omega)];refine jl (zd (fun h=>?_) (fun h=>?_))
 ·obtain⟨h2,h3⟩:=aD h;have hn:jX t n:=⟨h2,by omega⟩;refine zb (jR (a:=stn t n) (by show atI t.2.1 n=_;rw[show n=((n.toNat:Nat):Int) from(by omega),gw (n:=n.toNat)];exact hn.get hs) ?_);grind[za]
 ·have:=ij h;exact za ⟨fun h=>(by cases h),fun h=>absurd ⟨h.1.1,by have:=h.1.2;omega⟩ this⟩
def kg(b:Int×Int):Prop:=(1<=b.1∧b.1<=1048576)∧(1<=b.2∧b.2<=2097152)
theorem zpo(b:Int×Int):((zj b.1 0)&&((zj b.2 0)&&true))=tv (b=(0,0)):=by grind[zpl,yx,Prod.ext_iff]
theorem UJ{t:qT}(ht:wY t)(s:wJ):Zo (t,s,())=some (tv (Zx t s),()):=by
 have hll:=ht.ll;rw[Nn];unfold tp;simp only[iu,It ht.sz,zq,zpo];refine jl (zk (J:=fun x=>(x.1=0∧x.2.1.1=false∧(1<=s.1∧s.1<=4095)∧(jX t s.2.1∧stn t s.2.1=true)∧(jX t s.2.2.1∧stn t s.2.2.1=true)∧s.2.1≠s.2.2.1∧(84<=s.2.2.2.2.1∧s.2.2.2.2.1<=1542)∧(1<=s.2.2.2.2.2.2.2.1∧s.2.2.2.2.2.2.2.1<=1099511627776))∨(x.1=1∧x.2.1.1=false∧¬Zx t s)) ?_ ?_)
 ·refine zd (fun h=>za (.inr ⟨rfl,rfl,fun hs=>jZ h hs.id⟩)) fun h1=>zd (fun h=>za (.inr ⟨rfl,rfl,fun hs=>jZ h hs.ta⟩)) fun h2=>zd (fun h=>za (.inr ⟨rfl,rfl,fun hs=>jZ h hs.li⟩)) fun h3=>zd (fun h=>za (.inr ⟨rfl,rfl,fun hs=>hs.tl (qi h)⟩)) fun h4=>zd (fun h=>za (.inr ⟨rfl,rfl,fun hs=>jZ h hs.sz⟩)) fun h5=>zd (fun h=>za (.inr ⟨rfl,rfl,fun hs=>jZ h hs.dl⟩)) fun h6=>?_;grind[za,wF,qt]
 rintro⟨j,⟨v,⟨⟩⟩,⟨⟩⟩ (⟨rfl,rfl,h1,h2,h3,h4,h5,h6⟩ | ⟨rfl,rfl,hq⟩);rotate_left
 ·exact zi rfl (za ⟨fun h=>(by cases h),fun h=>absurd h hq⟩)
 refine zf rfl (zk (J:=fun x=>(x.1=0∧x.2.1.1=false∧((s.2.2.2.1=7∧(1<=s.2.2.2.2.2.1∧s.2.2.2.2.2.1<=240)∧s.2.2.2.2.2.2.1=(0,0))∨(s.2.2.2.1=6∧s.2.2.2.2.2.1=0∧(s.2.2.2.2.1<=s.2.2.2.2.2.2.1.1∧s.2.2.2.2.2.2.1.1<=1048576)∧(1<=s.2.2.2.2.2.2.1.2∧s.2.2.2.2.2.2.1.2<=2097152))))∨(x.1=1∧x.2.1.1=false∧¬Zx t s)) ?_ ?_)
 ·refine zd (fun c7=>?_) (fun c7=>zd (fun c6=>?_) (fun c6=>za (.inr ⟨rfl,rfl,fun hs=>?_⟩)))
  ·have c7:=qi c7;refine zk (J:=fun x=>(x.1=0∧x.2.1.1=false∧(1<=s.2.2.2.2.2.1∧s.2.2.2.2.2.1<=240)∧s.2.2.2.2.2.2.1=(0,0))∨(x.1=1∧x.2.1.1=false∧¬Zx t s)) ?_ ?_
   ·refine zd (fun h=>za (.inr ⟨rfl,rfl,fun hs=>?_⟩)) fun h7=>zd (fun h=>za (.inr ⟨rfl,rfl,fun hs=>?_⟩)) fun h8=>za (.inl ⟨rfl,rfl,wF h7,wF h8⟩)
    ·rcases hs.cl with⟨_,hb,_⟩ | ⟨h6',_⟩
     ·exact jZ h hb
     ·omega
    ·rcases hs.cl with⟨_,_,hb⟩ | ⟨h6',_⟩;all_goals grind
   ·rintro⟨j,⟨v,⟨⟩⟩,⟨⟩⟩ (⟨rfl,rfl,h7,h8⟩ | ⟨rfl,rfl,hq⟩)
    ·exact zf rfl (za (.inl ⟨rfl,rfl,.inl ⟨c7,h7,h8⟩⟩))
    ·exact zi rfl (za (.inr ⟨rfl,rfl,hq⟩))
  ·have c6:=qi c6;refine zk (J:=fun x=>(x.1=0∧x.2.1.1=false∧s.2.2.2.2.2.1=0∧(s.2.2.2.2.1<=s.2.2.2.2.2.2.1.1∧s.2.2.2.2.2.2.1.1<=1048576)∧(1<=s.2.2.2.2.2.2.1.2∧s.2.2.2.2.2.2.1.2<=2097152))∨(x.1=1∧x.2.1.1=false∧¬Zx t s)) ?_ ?_
   ·refine zd (fun h=>za (.inr ⟨rfl,rfl,fun hs=>?_⟩)) fun h7=>zd (fun h=>za (.inr ⟨rfl,rfl,fun hs=>?_⟩)) fun h8=>zd (fun h=>za (.inr ⟨rfl,rfl,fun hs=>?_⟩)) fun h9=>za (.inl ⟨rfl,rfl,qi (by simpa using h7),wF h8,wF h9⟩)
    ·rcases hs.cl with⟨h7',_⟩ | ⟨_,hp,_⟩;all_goals grind[wP]
    ·rcases hs.cl with⟨h7',_⟩ | ⟨_,_,hb,_⟩
     ·omega
     ·exact jZ h hb
    ·rcases hs.cl with⟨h7',_⟩ | ⟨_,_,_,hb⟩;all_goals grind
   ·rintro⟨j,⟨v,⟨⟩⟩,⟨⟩⟩ (⟨rfl,rfl,h7,h8⟩ | ⟨rfl,rfl,hq⟩)
    ·exact zf rfl (za (.inl ⟨rfl,rfl,.inr ⟨c6,h7,h8⟩⟩))
    ·exact zi rfl (za (.inr ⟨rfl,rfl,hq⟩))
  ·rcases hs.cl with⟨h7,_⟩ | ⟨h6',_⟩;all_goals grind[qt]
 rintro⟨j,⟨v,⟨⟩⟩,⟨⟩⟩ (⟨rfl,rfl,hcl⟩ | ⟨rfl,rfl,hq⟩);rotate_left
 ·exact zi rfl (za ⟨fun h=>(by cases h),fun h=>absurd h hq⟩)
 refine zf rfl (zk (J:=fun x=>(x.1=0∧x.2.1.1=false∧1<=s.2.2.2.2.2.2.2.2.length∧s.2.2.2.2.2.2.2.2.length<=2)∨(x.1=1∧x.2.1.1=false∧¬Zx t s)) ?_ ?_)
 ·refine zd (fun h=>za (.inr ⟨rfl,rfl,fun hs=>?_⟩)) fun h7=>zd (fun h=>za (.inr ⟨rfl,rfl,fun hs=>?_⟩)) fun h8=>za (.inl ⟨rfl,rfl,?_⟩)
  ·have:=zV h;have:=hs.rn;omega
  ·have:=zV h;have:=hs.rn;omega
  ·have h7:=zP h7;have h8:=zP h8;omega
 rintro⟨j,⟨v,⟨⟩⟩,⟨⟩⟩ (⟨rfl,rfl,n0,n2⟩ | ⟨rfl,rfl,hq⟩);rotate_left
 ·exact zi rfl (za ⟨fun h=>(by cases h),fun h=>absurd h hq⟩)
 refine zf rfl (zk (J:=fun x=>(x.1=0∧∀r∈s.2.2.2.2.2.2.2.2,yZ t r∧pC t r=s.2.1∧HI t r=s.2.2.1)∨(x.1=1∧x.2.1.1=false∧¬Zx t s)) (wK s.2.2.2.2.2.2.2.2.length (fun i=>∀r,s.2.2.2.2.2.2.2.2[i]?=some r->yZ t r∧pC t r=s.2.1∧HI t r=s.2.2.1) (by omega) ?_ ?_) ?_)
 ·intro i hi hp;have hx:s.2.2.2.2.2.2.2.2[i]?=some s.2.2.2.2.2.2.2.2[i]:=FL hi;have hm:=zqq hi;generalize s.2.2.2.2.2.2.2.2[i]=r at hx hm;refine zf (zL (show(i:Int) < (s.2.2.2.2.2.2.2.2.length:Int) by omega)) (zb (zm (n:=i) hx ?_));rw[mu ht];refine zk (J:=fun x=>(x.1=0∧x.2.1.1=false∧yZ t r∧pC t r=s.2.1∧HI t r=s.2.2.1)∨(x.1=1∧x.2.1.1=false∧¬Zx t s)) ?_ ?_
  ·refine zd (fun h=>za (.inr ⟨rfl,rfl,fun hs=>jZ h (hs.rt r hm).1⟩)) fun h=>?_;have hr:=wF h;have r0:=hr.n0;have r8:=hr.n1;have hy0:r[0]?=some r[0]:=FL (by omega);have hy1:r[r.length - 1]?=some (r[r.length - 1]'(by omega)):=FL (by omega);have e0:pC t r=frm t r[0]:=by unfold pC;rw[hy0];rfl
   have e1:HI t r=too t (r[r.length - 1]'(by omega)):=by unfold HI;rw[hy1];rfl
   have p0:=hr.pt _ (zqq (show 0 < r.length by omega));have p1:=hr.pt _ (zqq (show r.length - 1 < r.length by omega));generalize r[0]=p at hy0 e0 p0;generalize (r[r.length - 1]'(by omega))=q at hy1 e1 p1;refine zb (zm (n:=0) hy0 ?_);rw[uv hll p0,zq];refine zd (fun h=>za (.inr ⟨rfl,rfl,fun hs=>?_⟩)) fun h7=>?_
   ·rw[<-e0,wP (hs.rt r hm).2.1]at h;cases h
   have h7:=qi (show zj (frm t p) s.2.1=true by simpa using h7);rw[show wrF .i64 ((r.length:Int) - 1)=((r.length - 1:Nat):Int) from by rw[zT]<;>omega];refine zb (zm (n:=r.length - 1) hy1 ?_);rw[uP hll p1,zq];refine zd (fun h=>za (.inr ⟨rfl,rfl,fun hs=>?_⟩)) fun h8=>?_
   ·rw[<-e1,wP (hs.rt r hm).2.2]at h;cases h
   grind[qi,zj,too,za]
  ·rintro⟨j,⟨v,⟨⟩⟩,⟨⟩⟩ (⟨rfl,rfl,hq⟩ | ⟨rfl,rfl,hq⟩)
   ·exact zf rfl (za (vF (by omega) fun r' hr'=>by grind))
   ·exact zi rfl (za (zw (.inr ⟨rfl,rfl,hq⟩)))
 ·grind[zD,za,zw,kf]
 ·rintro⟨j,⟨v,w,⟨⟩⟩,⟨⟩⟩ (⟨rfl,hrt⟩ | ⟨rfl,rfl,hq⟩);rotate_left
  ·exact zi rfl (za ⟨fun h=>(by cases h),fun h=>absurd h hq⟩)
  refine zf rfl (zd (fun h=>?_) (fun h=>?_))
  ·have h:=qi h;have h:s.2.2.2.2.2.2.2.2.length=1:=by omega
   exact za ⟨fun _=>⟨h1,h2,h3,h4,h5,h6,hcl,⟨n0,n2⟩,hrt,fun a b _ hb=>by grind⟩,fun _=>rfl⟩
  ·have h:=qt h;have h:s.2.2.2.2.2.2.2.2.length=2:=by omega
   have hx0:s.2.2.2.2.2.2.2.2[0]?=some s.2.2.2.2.2.2.2.2[0]:=FL (by omega);have hx1:s.2.2.2.2.2.2.2.2[1]?=some s.2.2.2.2.2.2.2.2[1]:=FL (by omega);have r0:=(hrt _ (zqq (show 0 < s.2.2.2.2.2.2.2.2.length by omega))).1;have r1:=(hrt _ (zqq (show 1 < s.2.2.2.2.2.2.2.2.length by omega))).1;generalize s.2.2.2.2.2.2.2.2[0]=a at hx0 r0;generalize s.2.2.2.2.2.2.2.2[1]=b at hx1 r1;refine zb (zm (n:=0) hx0 (zb (zm (n:=1) hx1 ?_)));rw[mw ht r0 r1,zq];exact za ⟨fun h=>⟨h1,h2,h3,h4,h5,h6,hcl,⟨n0,n2⟩,hrt,fun a' b' ha hb=>by grind[aD]⟩,fun hs=>qX (hs.ap a b hx0 hx1)⟩
end Go.Proofs.YtlfkgkedfciccaaGreat.ad
end
