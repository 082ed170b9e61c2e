/- Parts of a proof, joined. -/
import Derived.Test.YtlfkgkedfciccaaGreatH15
set_option linter.unusedSectionVars false
set_option linter.unusedVariables false
set_option linter.unusedSimpArgs false
set_option maxHeartbeats 0
set_option maxRecDepth 100000
noncomputable section
namespace Go.Proofs.YtlfkgkedfciccaaGreat.nd
open Go Go.Fz Go.Fz.Sy
abbrev Mf:List VT:=[⟨false,(.list zU)⟩,⟨false,(.list qe)⟩]
abbrev Mg:List VT:=[⟨true,qo⟩,⟨false,.bool⟩]
def Mh(a0:(List qu))(a1:(List jL)):Option (zK×Bool×Unit):=lpC (((),0,()),(a0,a1,(-1000),[],[],()),()) (fun s0=>bif(zg s0.1.2.1 (lnC a0))then bif(qb s0.2.1.2.2.2.1.length (((-1)::[]).length) 8)then nxC (((),(upC s0.1.2.1),()),(s0.2.1.1,s0.2.1.2.1,s0.2.1.2.2.1,(s0.2.1.2.2.2.1++((-1)::[])),s0.2.1.2.2.2.2.1,()),())else none else exC 0 (((),s0.1.2.1,()),(s0.2.1.1,s0.2.1.2.1,s0.2.1.2.2.1,s0.2.1.2.2.2.1,s0.2.1.2.2.2.2.1,()),())) fun x1=>lpC ((([],[],0,[],[]),(),false,0,()),(x1.2.2.1.1,x1.2.2.1.2.1,x1.2.2.1.2.2.1,x1.2.2.1.2.2.2.1,x1.2.2.1.2.2.2.2.1,()),()) (fun s2=>bif(zg s2.1.2.2.2.1 (lnC a1))then aTC a1 s2.1.2.2.2.1 fun x3=>aTC a1 s2.1.2.2.2.1 fun x4=>opt (Wb (x3.2.1,x4.2.2,())) fun x5=>bif !(zj x5.2.1 0)then exC 1 ((([],[],0,[],[]),(),false,s2.1.2.2.2.1,()),(s2.2.1.1,s2.2.1.2.1,s2.2.1.2.2.1,s2.2.1.2.2.2.1,s2.2.1.2.2.2.2.1,()),())else bif(qb s2.2.1.2.2.2.2.1.length ((x5.1::[]).length) 24)then nxC ((s2.1.1,(),s2.1.2.2.1,(upC s2.1.2.2.2.1),()),(s2.2.1.1,s2.2.1.2.1,s2.2.1.2.2.1,s2.2.1.2.2.2.1,(s2.2.1.2.2.2.2.1++(x5.1::[])),()),())else none else exC 0 ((s2.1.1,(),s2.1.2.2.1,s2.1.2.2.2.1,()),(s2.2.1.1,s2.2.1.2.1,s2.2.1.2.2.1,s2.2.1.2.2.2.1,s2.2.1.2.2.2.2.1,()),())) fun x6=>bif jzC x6 then opt (JI ((x6.2.2.1.1,x6.2.2.1.2.1,x6.2.2.1.2.2.1,x6.2.2.1.2.2.2.1,x6.2.2.1.2.2.2.2.1),())) fun x7=>bif !x7.1 then some (([],[],0,[],[]),false,())else some ((x6.2.2.1.1,x6.2.2.1.2.1,x6.2.2.1.2.2.1,x6.2.2.1.2.2.2.1,x6.2.2.1.2.2.2.2.1),true,())else some (x6.2.1.1,x6.2.1.2.2.1,())
abbrev zgP:Type:=((List qu)×(List jL)×Unit)->Option (zK×Bool×Unit)
def Wc:zgP:=opq (sF prg [(62,nh),(63,bI)] (zG [⟨qo,wi qo,[3,4]⟩,cdF zU,cdF qe,cdF zV,cdF zr] [] [] [(3,59,6,[3,4]),(7,59,6,[4]),(3,59,6,[3]),(7,59,6,[4])] [62,63]) (zy []) 30 25 Mf Mg)
abbrev Mi:Con:=⟨Mf,Mg,Wc⟩
theorem zaL:Con.Ok prg 25 Mi:=okF (ze oG (ze fm zn)) (by kernel_rfl)
theorem zaM(a0)(a1):Wc (a0,a1,())=Mh a0 a1:=zA (by kernel_rfl)
abbrev KW:List VT:=[⟨true,vy⟩,⟨false,I⟩]
abbrev KY:List VT:=[⟨true,qP⟩]
def EK(a0:vl)(a1:Int):Option (zL×Unit):=aTC a0.2.2.2.1 a1 fun x0=>lpC ((a0.1.1,a0.1.2.1,a0,(),0,()),(x0,([],[],0,[],[]),[],[],[],()),[],()) (fun s1=>bif(zg s1.1.2.2.2.2.1 (lnC s1.1.2.2.1.2.1))then aTC s1.1.2.2.1.2.1 s1.1.2.2.2.2.1 fun x2=>opt (gy (s1.1.2.2.1,s1.1.2.2.2.2.1,())) fun x3=>lpC ((s1.1.1,s1.1.2.1,x2,s1.1.2.2.1,(),0,()),(s1.2.1.1,s1.2.1.2.1,s1.2.1.2.2.1,s1.2.1.2.2.2.1,s1.2.1.2.2.2.2.1,()),s1.2.2.1,()) (fun s4=>bif(zg s4.1.2.2.2.2.2.1 (lnC s4.1.2.2.1.2.2.2.2.2.2.2.2))then aTC s4.1.2.2.1.2.2.2.2.2.2.2.2 s4.1.2.2.2.2.2.1 fun x5=>lpC ((s4.1.1,s4.1.2.1,s4.1.2.2.1,s4.1.2.2.2.1,(),1,()),(s4.2.1.1,s4.2.1.2.1,s4.2.1.2.2.1,s4.2.1.2.2.2.1,s4.2.1.2.2.2.2.1,()),s4.2.2.1,()) (fun s6=>bif(zg s6.1.2.2.2.2.2.1 (lnC x5))then aTC x5 s6.1.2.2.2.2.2.1 fun x7=>opt (ya (s6.1.1,x7,())) fun x8=>bif !(zj x8.1 a1)then nxC ((s6.1.1,s6.1.2.1,s6.1.2.2.1,s6.1.2.2.2.1,(),(upC s6.1.2.2.2.2.2.1),()),(s6.2.1.1,s6.2.1.2.1,s6.2.1.2.2.1,s6.2.1.2.2.2.1,s6.2.1.2.2.2.2.1,()),s6.2.2.1,())else aTC x5 (w6C (s6.1.2.2.2.2.2.1 - 1)) fun x9=>aTC x5 s6.1.2.2.2.2.2.1 fun x10=>opt (bif zj s6.1.2.2.1.2.2.2.1 7 then opt (xH (s6.1.1,s6.1.2.1,s6.1.2.2.1,x5,())) fun x11=>aTC x11.1 s6.1.2.2.2.2.2.1 fun x12=>some (0,(s6.1.1,s6.1.2.1,s6.1.2.2.1,(x9,s6.1.2.2.1.1,s6.1.2.2.1.2.2.2.1,s6.1.2.2.1.2.2.2.2.1,(w6C (s6.1.2.2.1.2.2.2.2.2.1*s6.1.2.1.1)),(w6C (x12.2.1+(w6C (x3.1*s6.1.2.1.1)))),(w6C (x12.2.2.1+(w6C (x3.1*s6.1.2.1.1))))),s6.1.2.2.2.1,((x10,0),(0,0),0,0),()),())else opt (um (s6.1.2.2.2.1.2.1,())) fun x13=>aTC x5 (w6C (s6.1.2.2.2.2.2.1 - 1)) fun x14=>opt (Wa (s6.1.2.2.2.1.1,x13.1,x14,())) fun x15=>opt (XG (s6.1.2.2.1.2.2.2.2.2.2.1,())) fun x16=>some (0,(s6.1.1,s6.1.2.1,s6.1.2.2.1,(x9,s6.1.2.2.1.1,s6.1.2.2.1.2.2.2.1,s6.1.2.2.1.2.2.2.2.1,0,0,0),s6.1.2.2.2.1,((x10,s6.1.2.2.1.2.2.2.2.2.2.1.1),(s6.1.2.2.1.2.2.2.2.2.2.1.2,x15.1.2.2.1),x16.1),()),())) fun x17=>bif(qb s6.2.2.1.length ((x17.2.1.2.2.2.1::[]).length) 56)then bif(qb s6.2.1.2.2.1.length (((x17.2.1.2.2.2.2.2.1.1.1,(x17.2.1.2.2.2.2.2.1.1.2,x17.2.1.2.2.2.2.2.1.2.1.1),x17.2.1.2.2.2.2.2.1.2.1.2,x17.2.1.2.2.2.2.2.1.2.2)::[]).length) 48)then nxC ((x17.2.1.1,x17.2.1.2.1,x17.2.1.2.2.1,x17.2.1.2.2.2.2.1,(),(upC s6.1.2.2.2.2.2.1),()),(s6.2.1.1,s6.2.1.2.1,(s6.2.1.2.2.1++((x17.2.1.2.2.2.2.2.1.1.1,(x17.2.1.2.2.2.2.2.1.1.2,x17.2.1.2.2.2.2.2.1.2.1.1),x17.2.1.2.2.2.2.2.1.2.1.2,x17.2.1.2.2.2.2.2.1.2.2)::[])),s6.2.1.2.2.2.1,s6.2.1.2.2.2.2.1,()),(s6.2.2.1++(x17.2.1.2.2.2.1::[])),())else none else none else exC 0 ((s6.1.1,s6.1.2.1,s6.1.2.2.1,s6.1.2.2.2.1,(),s6.1.2.2.2.2.2.1,()),(s6.2.1.1,s6.2.1.2.1,s6.2.1.2.2.1,s6.2.1.2.2.2.1,s6.2.1.2.2.2.2.1,()),s6.2.2.1,())) fun x18=>nxC ((x18.2.1.1,x18.2.1.2.1,x18.2.1.2.2.1,x18.2.1.2.2.2.1,(),(upC s4.1.2.2.2.2.2.1),()),(x18.2.2.1.1,x18.2.2.1.2.1,x18.2.2.1.2.2.1,x18.2.2.1.2.2.2.1,x18.2.2.1.2.2.2.2.1,()),x18.2.2.2.1,())else exC 0 ((s4.1.1,s4.1.2.1,s4.1.2.2.1,s4.1.2.2.2.1,(),s4.1.2.2.2.2.2.1,()),(s4.2.1.1,s4.2.1.2.1,s4.2.1.2.2.1,s4.2.1.2.2.2.1,s4.2.1.2.2.2.2.1,()),s4.2.2.1,())) fun x19=>opt (bif zj x19.2.1.2.2.1.2.2.1 a1 then lpC (((),0,()),(x19.2.2.1.1,x19.2.2.1.2.1,x19.2.2.1.2.2.1,x19.2.2.1.2.2.2.1,x19.2.2.1.2.2.2.2.1,()),()) (fun s20=>bif(zg s20.1.2.1 (lnC x19.2.1.2.2.1.2.2.2.2.2.2.2.2))then aTC x19.2.1.2.2.1.2.2.2.2.2.2.2.2 s20.1.2.1 fun x21=>aTC x19.2.1.2.2.1.2.2.2.2.2.2.2.2 s20.1.2.1 fun x22=>aTC x21 (w6C ((lnC x22) - 1)) fun x23=>bif(qb s20.2.1.2.2.2.1.length (((x23,x19.2.1.2.2.1.1,x19.2.1.2.2.1.2.2.2.1,(lnC s20.2.1.2.2.2.2.1))::[]).length) 32)then nxC (((),(upC s20.1.2.1),()),(s20.2.1.1,s20.2.1.2.1,s20.2.1.2.2.1,(s20.2.1.2.2.2.1++((x23,x19.2.1.2.2.1.1,x19.2.1.2.2.1.2.2.2.1,(lnC s20.2.1.2.2.2.2.1))::[])),s20.2.1.2.2.2.2.1,()),())else none else exC 0 (((),s20.1.2.1,()),(s20.2.1.1,s20.2.1.2.1,s20.2.1.2.2.1,s20.2.1.2.2.2.1,s20.2.1.2.2.2.2.1,()),())) fun x24=>opt (XH (x19.2.1.2.2.2.1.2.2.2.2.2.1,x19.2.1.2.2.2.1.2.2.2.2.2.2,())) fun x25=>bif(qb x24.2.2.1.2.2.2.2.1.length ((x25.1::[]).length) 48)then some (0,((),()),(x24.2.2.1.1,x24.2.2.1.2.1,x24.2.2.1.2.2.1,x24.2.2.1.2.2.2.1,(x24.2.2.1.2.2.2.2.1++(x25.1::[])),()),())else none else some (0,((),()),(x19.2.2.1.1,x19.2.2.1.2.1,x19.2.2.1.2.2.1,x19.2.2.1.2.2.2.1,x19.2.2.1.2.2.2.2.1,()),())) fun x26=>nxC ((x19.2.1.1,x19.2.1.2.1,x19.2.1.2.2.2.1,(),(upC s1.1.2.2.2.2.1),()),(x26.2.2.1.1,x26.2.2.1.2.1,x26.2.2.1.2.2.1,x26.2.2.1.2.2.2.1,x26.2.2.1.2.2.2.2.1,()),x19.2.2.2.1,())else exC 0 ((s1.1.1,s1.1.2.1,s1.1.2.2.1,(),s1.1.2.2.2.2.1,()),(s1.2.1.1,s1.2.1.2.1,s1.2.1.2.2.1,s1.2.1.2.2.2.1,s1.2.1.2.2.2.2.1,()),s1.2.2.1,())) fun x27=>lpC ((0,()),[],()) (fun s28=>bif(zg s28.1.1 (lnC x27.2.1.2.2.1.2.2.2.2.1))then opt (aTC x27.2.1.2.2.1.2.2.2.2.1 s28.1.1 fun x29=>opt (jO (x27.2.1.1,x29.1,())) fun x30=>bif zj x30.1 a1 then aTC x27.2.1.2.2.1.2.2.2.2.1 s28.1.1 fun x31=>bif(qb s28.2.1.length ((x31::[]).length) 40)then some (0,(),(s28.2.1++(x31::[])),())else none else some (0,(),s28.2.1,())) fun x32=>nxC (((upC s28.1.1),()),x32.2.2.1,())else exC 0 ((s28.1.1,()),s28.2.1,())) fun x33=>opt (Wc (x27.2.2.2.1,x33.2.2.1,())) fun x34=>some ((x27.2.2.1.1,x34.1,x27.2.2.1.2.2.1,x27.2.2.1.2.2.2.1,x27.2.2.1.2.2.2.2.1),())
abbrev zfK:Type:=(vl×Int×Unit)->Option (zL×Unit)
def uM:zfK:=opq (sF prg [(17,oA),(18,gM),(19,XB),(21,fi),(20,LP),(22,LU),(23,Mb),(24,YJ),(25,Mi)] (zG [⟨qP,wi qP,[6,7,8]⟩,cdF vy,cdF qo,cdF jy,cdF zJ,cdF zU,cdF Qg,cdF zP,cdF jd,cdF qh,cdF qe,cdF gu,cdF qx,cdF qD,cdF zV,cdF jb] [] [⟨5,247,some 8,zU,true⟩,⟨5,247,some 23,qe,true⟩,⟨10,247,some 8,zU,true⟩,⟨10,247,some 23,qe,true⟩,⟨14,247,some 8,zU,true⟩,⟨14,247,some 23,qe,true⟩,⟨16,247,some 8,zU,true⟩,⟨16,247,some 23,qe,true⟩,⟨19,247,some 8,zU,true⟩,⟨19,247,some 23,qe,true⟩,⟨27,247,some 8,zU,true⟩,⟨27,247,some 23,qe,true⟩,⟨29,247,some 8,zU,true⟩,⟨29,247,some 23,qe,true⟩,⟨35,247,some 8,zU,true⟩,⟨35,247,some 23,qe,true⟩,⟨37,247,some 8,zU,true⟩,⟨37,247,some 23,qe,true⟩] [(5,247,7,[6,7,8]),(10,247,7,[6,7,8]),(14,247,7,[6,7,8]),(27,247,7,[6,7,8]),(29,247,7,[6,7,8]),(5,247,7,[6,7,8]),(10,247,7,[6]),(14,247,7,[6]),(27,247,7,[7,8]),(29,247,7,[7])] [17,18,20,22,23,24]) (zy []) 40 6 KW KY)
abbrev zfL:Con:=⟨KW,KY,uM⟩
theorem SD:Con.Ok prg 6 zfL:=okF (ze HP (ze uW (ze YK (ze BK (ze zaB (ze zaD (ze zaH (ze Jz (ze zaL zn))))))))) (by kernel_rfl)
theorem SE(a0)(a1):uM (a0,a1,())=EK a0 a1:=zA (by kernel_rfl)
abbrev ZO:List VT:=[⟨true,vz⟩,⟨true,qP⟩]
abbrev ZP:List VT:=[⟨false,I⟩,⟨true,qG⟩]
def aU(a0:wq)(a1:zL):Option (Int×zQ×Unit):=opt (bif zg 0 (Int.tmod a0.2.2.1 4)then bif(zg 0 (lnC a1.2.1.1))then bif(zj (lnC a1.2.1.1) 0)then none else aTC a1.2.1.1 (Int.tmod (w6C a0.2.1) (lnC a1.2.1.1)) fun x0=>some (1,((x0.2.1,((w6C a0.2.2.1),x0.2.2.1),(w6C (x0.2.2.2.1 - (Int.tmod (w6C (Int.tdiv (w6C a0.2.2.1) 64)) 2))),0),x0.1,()),())else some (0,((0,(0,0),0,0),0,()),())else some (0,((0,(0,0),0,0),0,()),())) fun x1=>bif jzC x1 then opt (bif zj (Int.tmod a0.2.2.1 4) 1 then bif(zg 0 (lnC a1.2.2.2.1))then bif(zj (lnC a1.2.2.2.1) 0)then none else aTC a1.2.2.2.1 (Int.tmod (w6C a0.2.1) (lnC a1.2.2.2.1)) fun x2=>some (1,((x2.2.1,((w6C (Int.tdiv (w6C a0.2.2.1) 16)),x2.2.2.1),84,0),x2.1,()),())else some (0,(x1.2.1.1,x1.2.1.2.1,()),())else some (0,(x1.2.1.1,x1.2.1.2.1,()),())) fun x3=>bif jzC x3 then some ((Int.tmod (w6C a0.2.1) 50),a0.2.2.2,())else some (x3.2.1.2.1,(x3.2.1.1.1,x3.2.1.1.2.1.1,x3.2.1.1.2.1.2,x3.2.1.1.2.2),())else some (x1.2.1.2.1,(x1.2.1.1.1,x1.2.1.1.2.1.1,x1.2.1.1.2.1.2,x1.2.1.1.2.2),())
abbrev EL:Type:=(wq×zL×Unit)->Option (Int×zQ×Unit)
def yf:EL:=opq (sF prg [] (zG [cdF qP,cdF qo,cdF vz,cdF zU,cdF jd,cdF qh,cdF qe,cdF qG,cdF yx,cdF zV,cdF zr] [] [] [] []) (zy []) 30 7 ZO ZP)
abbrev EM:Con:=⟨ZO,ZP,yf⟩
theorem oL:Con.Ok prg 7 EM:=okF zn (by kernel_rfl)
theorem oM(a0)(a1):yf (a0,a1,())=aU a0 a1:=zA (by kernel_rfl)
abbrev Wu:List VT:=[⟨false,I⟩,⟨false,I⟩,⟨false,I⟩]
abbrev Wv:List VT:=[⟨false,.bool⟩]
def lX(a0:Int)(a1:Int)(a2:Int):Option (Bool×Unit):=bif !(zg a0 a1)then some ((!(zg a2 a0)),())else some (false,())
abbrev lY:Type:=(Int×Int×Int×Unit)->Option (Bool×Unit)
def qW:lY:=opq (sF prg [] (zG [] [] [] [] []) (zy []) 30 88 Wu Wv)
abbrev ZQ:Con:=⟨Wu,Wv,qW⟩
theorem uN:Con.Ok prg 88 ZQ:=okF zn (by kernel_rfl)
theorem EN(a0)(a1)(a2):qW (a0,a1,a2,())=lX a0 a1 a2:=zA (by kernel_rfl)
abbrev KZ:List VT:=[⟨true,zU⟩]
abbrev Ua:List VT:=[⟨false,.bool⟩]
def Ub(a0:qu):Option (Bool×Unit):=opt (opt (qW (a0.1,0,47,())) fun x0=>bif !x0.1 then some (1,(false,()),())else opt (qW (a0.2.1,1,4095,())) fun x1=>bif !x1.1 then some (1,(false,()),())else opt (qW (a0.2.2.2.1,84,1542,())) fun x2=>bif !x2.1 then some (1,(false,()),())else some (0,(false,()),())) fun x3=>bif jzC x3 then bif zj a0.2.2.1 7 then opt (qW (a0.2.2.2.2.1,1,2400000,())) fun x4=>bif x4.1 then opt (qW (a0.2.2.2.2.2.1,(-1099511627776),1099511627776,())) fun x5=>bif x5.1 then opt (qW (a0.2.2.2.2.2.2,(-1099511627776),1099511627776,())) fun x6=>bif x6.1 then opt (qW ((w6C (a0.2.2.2.2.2.2 - a0.2.2.2.2.2.1)),0,(w6C (a0.2.2.2.2.1 - 1)),())) fun x7=>some (x7.1,())else some (false,())else some (false,())else some (false,())else bif zj a0.2.2.1 6 then some (((zj a0.1 a0.1)&&((zj a0.2.1 a0.2.1)&&((zj a0.2.2.1 a0.2.2.1)&&((zj a0.2.2.2.1 a0.2.2.2.1)&&((zj a0.2.2.2.2.1 0)&&((zj a0.2.2.2.2.2.1 0)&&((zj a0.2.2.2.2.2.2 0)&&true))))))),())else some (false,())else some (x3.2.1.1,())
abbrev rV:Type:=(qu×Unit)->Option (Bool×Unit)
def kY:rV:=opq (sF prg [(88,ZQ)] (zG [cdF zU] [] [] [] [88]) (zy []) 30 151 KZ Ua)
abbrev Uc:Con:=⟨KZ,Ua,kY⟩
theorem iG:Con.Ok prg 151 Uc:=okF (ze uN zn) (by kernel_rfl)
theorem iH(a0):kY (a0,())=Ub a0:=zA (by kernel_rfl)
abbrev Gc:List VT:=[⟨false,I⟩,⟨false,I⟩,⟨false,I⟩]
abbrev Gd:List VT:=[⟨false,.bool⟩]
def Ge(a0:Int)(a1:Int)(a2:Int):Option (Bool×Unit):=bif !(zg a0 a1)then some ((!(zg a2 a0)),())else some (false,())
abbrev BM:Type:=(Int×Int×Int×Unit)->Option (Bool×Unit)
def vT:BM:=opq (sF prg [] (zG [] [] [] [] []) (zy []) 30 157 Gc Gd)
abbrev Gf:Con:=⟨Gc,Gd,vT⟩
theorem ni:Con.Ok prg 157 Gf:=okF zn (by kernel_rfl)
theorem nj(a0)(a1)(a2):vT (a0,a1,a2,())=Ge a0 a1 a2:=zA (by kernel_rfl)
abbrev oN:List VT:=[⟨true,zr⟩]
abbrev oO:List VT:=[⟨false,I⟩]
def oP(a0:zC):Option (Int×Unit):=opt (opt (vT (a0.1,1,1048576,())) fun x0=>bif !x0.1 then some (1,(130,()),())else opt (vT (a0.2,1,2097152,())) fun x1=>bif !x1.1 then some (1,(130,()),())else some (0,(0,()),())) fun x2=>bif jzC x2 then some (0,())else some (x2.2.1.1,())
abbrev zaN:Type:=(zC×Unit)->Option (Int×Unit)
def uo:zaN:=opq (sF prg [(157,Gf)] (zG [cdF zr] [] [] [] [157]) (zy []) 30 90 oN oO)
abbrev YU:Con:=⟨oN,oO,uo⟩
theorem Xo:Con.Ok prg 90 YU:=okF (ze ni zn) (by kernel_rfl)
theorem HZ(a0):uo (a0,())=oP a0:=zA (by kernel_rfl)
abbrev EO:List VT:=[⟨true,zr⟩,⟨true,zr⟩]
abbrev EP:List VT:=[⟨true,gx⟩]
def fo(a0:zC)(a1:zC):Option (xL×Unit):=some (((w6C (a0.1*1048576)),(w6C (a1.1*1048576))),())
abbrev zfM:Type:=(zC×zC×Unit)->Option (xL×Unit)
def Ud:zfM:=opq (sF prg [] (zG [cdF zr] [] [] [] []) (zy []) 30 223 EO EP)
abbrev fu:Con:=⟨EO,EP,Ud⟩
theorem lZ:Con.Ok prg 223 fu:=okF zn (by kernel_rfl)
theorem ma(a0)(a1):Ud (a0,a1,())=fo a0 a1:=zA (by kernel_rfl)
abbrev Mj:List VT:=[⟨true,zr⟩,⟨true,zr⟩]
abbrev Mk:List VT:=[⟨true,zV⟩,⟨false,I⟩]
def Ml(a0:zC)(a1:zC):Option (qI×Int×Unit):=opt (uo (a0,())) fun x0=>bif !(zj x0.1 0)then some ((0,0,0),x0.1,())else opt (uo (a1,())) fun x1=>bif !(zj x1.1 0)then some ((0,0,0),x1.1,())else bif zg a1.2 a0.2 then some ((0,0,0),2,())else opt (Ud (a0,a1,())) fun x2=>some ((0,x2.1),0,())
abbrev zgQ:Type:=(zC×zC×Unit)->Option (qI×Int×Unit)
def XI:zgQ:=opq (sF prg [(90,YU),(223,fu)] (zG [cdF zV,cdF zr] [] [] [] [90,223]) (zy []) 30 156 Mj Mk)
abbrev nk:Con:=⟨Mj,Mk,XI⟩
theorem oQ:Con.Ok prg 156 nk:=okF (ze Xo (ze lZ zn)) (by kernel_rfl)
theorem zaO(a0)(a1):XI (a0,a1,())=Ml a0 a1:=zA (by kernel_rfl)
abbrev Ue:List VT:=[⟨true,qe⟩]
abbrev Uf:List VT:=[⟨false,.bool⟩]
def Ug(a0:jL):Option (Bool×Unit):=opt (XI (a0.2.1,a0.2.2,())) fun x0=>opt (qW (a0.1,0,47,())) fun x1=>bif x1.1 then some ((zj x0.2.1 0),())else some (false,())
abbrev rW:Type:=(jL×Unit)->Option (Bool×Unit)
def kZ:rW:=opq (sF prg [(156,nk),(88,ZQ)] (zG [cdF qe,cdF zV,cdF zr] [] [] [] [156,88]) (zy []) 30 154 Ue Uf)
abbrev Uh:Con:=⟨Ue,Uf,kZ⟩
theorem iI:Con.Ok prg 154 Uh:=okF (ze oQ (ze uN zn)) (by kernel_rfl)
theorem iJ(a0):kZ (a0,())=Ug a0:=zA (by kernel_rfl)
abbrev mc:List VT:=[⟨false,(.list zU)⟩,⟨false,(.list qe)⟩]
abbrev md:List VT:=[⟨false,.bool⟩]
def me(a0:(List qu))(a1:(List jL)):Option (Bool×Unit):=opt (bif(zg 64 (lnC a0))then some (1,(false,()),())else bif(zg 64 (lnC a1))then some (1,(false,()),())else some (0,(false,()),())) fun x0=>bif jzC x0 then lpC ((x0.2.1.1,0,()),()) (fun s1=>bif(zg s1.1.2.1 (lnC a0))then aTC a0 s1.1.2.1 fun x2=>opt (opt (kY (x2,())) fun x3=>bif !x3.1 then some (1,(x2,false,()),())else lpC ((x2,0,0,()),()) (fun s4=>bif(zg s4.1.2.2.1 (lnC a0))then aTC a0 s4.1.2.2.1 fun x5=>bif zj x5.1 s4.1.1.1 then bif zj x5.2.1 s4.1.1.2.1 then exC 1 ((s4.1.1,s4.1.2.2.1,s4.1.2.2.1,()),())else nxC ((s4.1.1,s4.1.2.1,(upC s4.1.2.2.1),()),())else nxC ((s4.1.1,s4.1.2.1,(upC s4.1.2.2.1),()),())else exC 0 ((s4.1.1,s4.1.2.1,s4.1.2.2.1,()),())) fun x6=>bif jzC x6 then bif(!(zj (-1) s1.1.2.1))then some (1,(x6.2.1.1,false,()),())else some (0,(x6.2.1.1,s1.1.1,()),())else bif !(zj x6.2.1.2.1 s1.1.2.1)then some (1,(x6.2.1.1,false,()),())else some (0,(x6.2.1.1,s1.1.1,()),())) fun x7=>bif jzC x7 then nxC ((x7.2.1.2.1,(upC s1.1.2.1),()),())else exC 1 ((x7.2.1.2.1,s1.1.2.1,()),())else exC 0 ((s1.1.1,s1.1.2.1,()),())) fun x8=>bif jzC x8 then lpC ((x8.2.1.1,0,()),()) (fun s9=>bif(zg s9.1.2.1 (lnC a1))then aTC a1 s9.1.2.1 fun x10=>opt (opt (kZ (x10,())) fun x11=>bif !x11.1 then some (1,(x10,false,()),())else lpC ((x10,0,0,()),()) (fun s12=>bif(zg s12.1.2.2.1 (lnC a1))then aTC a1 s12.1.2.2.1 fun x13=>bif zj x13.1 s12.1.1.1 then exC 1 ((s12.1.1,s12.1.2.2.1,s12.1.2.2.1,()),())else nxC ((s12.1.1,s12.1.2.1,(upC s12.1.2.2.1),()),())else exC 0 ((s12.1.1,s12.1.2.1,s12.1.2.2.1,()),())) fun x14=>bif jzC x14 then bif(!(zj (-1) s9.1.2.1))then some (1,(x14.2.1.1,false,()),())else some (0,(x14.2.1.1,s9.1.1,()),())else bif !(zj x14.2.1.2.1 s9.1.2.1)then some (1,(x14.2.1.1,false,()),())else some (0,(x14.2.1.1,s9.1.1,()),())) fun x15=>bif jzC x15 then nxC ((x15.2.1.2.1,(upC s9.1.2.1),()),())else exC 1 ((x15.2.1.2.1,s9.1.2.1,()),())else exC 0 ((s9.1.1,s9.1.2.1,()),())) fun x16=>bif jzC x16 then some (true,())else some (x16.2.1.1,())else some (x8.2.1.1,())else some (x0.2.1.1,())
abbrev SF:Type:=((List qu)×(List jL)×Unit)->Option (Bool×Unit)
def Ww:SF:=opq (sF prg [(151,Uc),(154,Uh)] (zG [cdF zU,cdF qe,cdF zr] [] [] [] [151,154]) (zy []) 30 87 mc md)
abbrev mf:Con:=⟨mc,md,Ww⟩
theorem ER:Con.Ok prg 87 mf:=okF (ze iG (ze iI zn)) (by kernel_rfl)
theorem ES(a0)(a1):Ww (a0,a1,())=me a0 a1:=zA (by kernel_rfl)
abbrev Vk:List VT:=[⟨true,zr⟩,⟨true,zr⟩,⟨true,zV⟩]
abbrev Vl:List VT:=[⟨false,I⟩]
def AJ(a0:zC)(a1:zC)(a2:qI):Option (Int×Unit):=opt (XI (a0,a1,())) fun x0=>bif !(zj x0.2.1 0)then some (x0.2.1,())else opt (bif zg a2.1 0 then some (1,(420,()),())else bif zg 1099511627776 a2.1 then some (1,(420,()),())else bif zg a2.2.1 0 then some (1,(420,()),())else bif zg x0.1.2.1 a2.2.1 then some (1,(420,()),())else bif zg a2.2.2 0 then some (1,(420,()),())else bif zg x0.1.2.2 a2.2.2 then some (1,(420,()),())else some (0,(0,()),())) fun x1=>bif jzC x1 then some (0,())else some (x1.2.1.1,())
abbrev AK:Type:=(zC×zC×qI×Unit)->Option (Int×Unit)
def kC:AK:=opq (sF prg [(156,nk)] (zG [cdF zV,cdF zr] [] [] [] [156]) (zy []) 30 89 Vk Vl)
abbrev AL:Con:=⟨Vk,Vl,kC⟩
theorem fv:Con.Ok prg 89 AL:=okF (ze oQ zn) (by kernel_rfl)
theorem NX(a0)(a1)(a2):kC (a0,a1,a2,())=AJ a0 a1 a2:=zA (by kernel_rfl)
abbrev YV:List VT:=[⟨true,qo⟩]
abbrev YW:List VT:=[⟨false,I⟩]
def oR(a0:zK):Option (Int×Unit):=opt (opt (Ww (a0.1,a0.2.1,())) fun x0=>bif !x0.1 then some (1,(430,()),())else opt (qW (a0.2.2.1,(-1000),549755813888,())) fun x1=>bif !x1.1 then some (1,(430,()),())else some (0,(0,()),())) fun x2=>bif jzC x2 then opt (bif(!(zj (lnC a0.2.2.2.1) (lnC a0.1)))then some (1,(430,()),())else bif(!(zj (lnC a0.2.2.2.2) (lnC a0.2.1)))then some (1,(430,()),())else some (0,(x2.2.1.1,()),())) fun x3=>bif jzC x3 then lpC ((x3.2.1.1,0,()),()) (fun s4=>bif(zg s4.1.2.1 (lnC a0.1))then aTC a0.1 s4.1.2.1 fun x5=>opt (aTC a0.2.2.2.1 s4.1.2.1 fun x6=>bif zg x6 (-1)then some (1,(430,()),())else bif zj x5.2.2.1 6 then aTC a0.2.2.2.1 s4.1.2.1 fun x7=>bif(!(zj x7 (-1)))then some (1,(430,()),())else some (0,(s4.1.1,()),())else some (0,(s4.1.1,()),())) fun x8=>bif jzC x8 then nxC ((x8.2.1.1,(upC s4.1.2.1),()),())else exC 1 ((x8.2.1.1,s4.1.2.1,()),())else exC 0 ((s4.1.1,s4.1.2.1,()),())) fun x9=>bif jzC x9 then lpC ((x9.2.1.1,0,()),()) (fun s10=>bif(zg s10.1.2.1 (lnC a0.2.1))then aTC a0.2.1 s10.1.2.1 fun x11=>aTC a0.2.2.2.2 s10.1.2.1 fun x12=>opt (opt (kC (x11.2.1,x11.2.2,x12,())) fun x13=>bif !(zj x13.1 0)then some (1,(430,()),())else bif(zg (w6C (a0.2.2.1+1000)) x12.1)then some (1,(430,()),())else some (0,(s10.1.1,()),())) fun x14=>bif jzC x14 then nxC ((x14.2.1.1,(upC s10.1.2.1),()),())else exC 1 ((x14.2.1.1,s10.1.2.1,()),())else exC 0 ((s10.1.1,s10.1.2.1,()),())) fun x15=>bif jzC x15 then some (0,())else some (x15.2.1.1,())else some (x9.2.1.1,())else some (x3.2.1.1,())else some (x2.2.1.1,())
abbrev oS:Type:=(zK×Unit)->Option (Int×Unit)
def xY:oS:=opq (sF prg [(87,mf),(88,ZQ),(89,AL)] (zG [cdF qo,cdF zU,cdF qe,cdF zV,cdF zr] [] [] [] [87,88,89]) (zy []) 30 43 YV YW)
abbrev GN:Con:=⟨YV,YW,xY⟩
theorem Xp:Con.Ok prg 43 GN:=okF (ze ER (ze uN (ze fv zn))) (by kernel_rfl)
theorem Ia(a0):xY (a0,())=oR a0:=zA (by kernel_rfl)
abbrev Mm:List VT:=[⟨true,zr⟩]
abbrev Mn:List VT:=[⟨true,yZ⟩,⟨false,I⟩]
def Mo(a0:zC):Option (js×Int×Unit):=opt (uo (a0,())) fun x0=>bif !(zj x0.1 0)then some ((0,0),x0.1,())else some ((0,(w6C (a0.1*1048576))),0,())
abbrev zgR:Type:=(zC×Unit)->Option (js×Int×Unit)
def aB:zgR:=opq (sF prg [(90,YU)] (zG [cdF zr] [] [] [] [90]) (zy []) 30 158 Mm Mn)
abbrev Mp:Con:=⟨Mm,Mn,aB⟩
theorem zaP:Con.Ok prg 158 Mp:=okF (ze Xo zn) (by kernel_rfl)
theorem zaQ(a0):aB (a0,())=Mo a0:=zA (by kernel_rfl)
abbrev AM:List VT:=[⟨true,zr⟩,⟨true,yZ⟩]
abbrev AN:List VT:=[⟨false,I⟩]
def AO(a0:zC)(a1:js):Option (Int×Unit):=opt (aB (a0,())) fun x0=>bif !(zj x0.2.1 0)then some (x0.2.1,())else bif(!((zj a1.1 (jS 0 (wK a1.1 1099511627776)))&&((zj a1.2 (jS 0 (wK a1.2 x0.1.2)))&&true)))then some (440,())else some (0,())
abbrev zc6:Type:=(zC×js×Unit)->Option (Int×Unit)
def JJ:zc6:=opq (sF prg [(158,Mp)] (zG [cdF zr] [] [] [] [158]) (zy []) 30 91 AM AN)
abbrev bJ:Con:=⟨AM,AN,JJ⟩
theorem fx:Con.Ok prg 91 bJ:=okF (ze zaP zn) (by kernel_rfl)
theorem NY(a0)(a1):JJ (a0,a1,())=AO a0 a1:=zA (by kernel_rfl)
abbrev bV:List VT:=[⟨true,zU⟩,⟨true,jd⟩]
abbrev bW:List VT:=[⟨false,.bool⟩]
def bX(a0:qu)(a1:jM):Option (Bool×Unit):=opt (bif zg a1.1 0 then some (1,(false,()),())else bif !(zg a1.1 48)then some (1,(false,()),())else some (0,(false,()),())) fun x0=>bif jzC x0 then bif !(zj a0.2.2.1 6)then some (((zj a1.1 a1.1)&&(((zj a1.2.1.1 0)&&((zj a1.2.1.2 0)&&true))&&((zj a1.2.2.1 0)&&(((zj a1.2.2.2.1 0)&&((zj a1.2.2.2.2 0)&&true))&&true)))),())else opt (uo (a1.2.1,())) fun x1=>bif zj x1.1 0 then bif !(zg a1.2.1.1 a0.2.2.2.1)then bif !(zg a1.2.2.1 0)then bif !(zg 1099511627776 a1.2.2.1)then opt (JJ (a1.2.1,a1.2.2.2,())) fun x2=>some ((zj x2.1 0),())else some (false,())else some (false,())else some (false,())else some (false,())else some (x0.2.1.1,())
abbrev Ib:Type:=(qu×jM×Unit)->Option (Bool×Unit)
def Qj:Ib:=opq (sF prg [(90,YU),(91,bJ)] (zG [cdF zU,cdF jd,cdF zr] [] [] [] [90,91]) (zy []) 30 44 bV bW)
abbrev bY:Con:=⟨bV,bW,Qj⟩
theorem rX:Con.Ok prg 44 bY:=okF (ze Xo (ze fx zn)) (by kernel_rfl)
theorem rY(a0)(a1):Qj (a0,a1,())=bX a0 a1:=zA (by kernel_rfl)
abbrev oT:List VT:=[⟨true,yx⟩,⟨false,I⟩]
abbrev oU:List VT:=[⟨false,.bool⟩]
def oV(a0:xP)(a1:Int):Option (Bool×Unit):=bif !(zg a0.1 0)then bif zg a0.1 48 then bif !(zg a0.2.1 1)then bif !(zg 4095 a0.2.1)then bif zj a0.2.2.1 7 then bif !(zg a0.2.2.2 0)then some ((zg a0.2.2.2 a1),())else some (false,())else bif zj a0.2.2.1 6 then bif !(zg a0.2.2.2 0)then some ((zg a0.2.2.2 a1),())else some (false,())else some (false,())else some (false,())else some (false,())else some (false,())else some (false,())
abbrev zaR:Type:=(xP×Int×Unit)->Option (Bool×Unit)
def YX:zaR:=opq (sF prg [] (zG [cdF yx] [] [] [] []) (zy []) 30 45 oT oU)
abbrev oW:Con:=⟨oT,oU,YX⟩
theorem Ic:Con.Ok prg 45 oW:=okF zn (by kernel_rfl)
theorem Ie(a0)(a1):YX (a0,a1,())=oV a0 a1:=zA (by kernel_rfl)
abbrev fy:List VT:=[⟨false,I⟩,⟨false,I⟩]
abbrev fA:List VT:=[⟨false,.bool⟩]
def fB(a0:Int)(a1:Int):Option (Bool×Unit):=bif !(zg a0 1)then bif !(zg 64 a0)then bif !(zg a1 1)then some ((!(zg 1099511627776 a1)),())else some (false,())else some (false,())else some (false,())
abbrev NZ:Type:=(Int×Int×Unit)->Option (Bool×Unit)
def Jb:NZ:=opq (sF prg [] (zG [] [] [] [] []) (zy []) 30 92 fy fA)
abbrev fC:Con:=⟨fy,fA,Jb⟩
theorem BN:Con.Ok prg 92 fC:=okF zn (by kernel_rfl)
theorem BO(a0)(a1):Jb (a0,a1,())=fB a0 a1:=zA (by kernel_rfl)
abbrev Yl:List VT:=[⟨true,qS⟩]
abbrev Ym:List VT:=[⟨false,(.int .u64)⟩]
def Yn(a0:qJ):Option (Int×Unit):=bif zg (wrF .u64 a0.1.1) 0 then none else some ((wrF .u64 ((wh .u64 1 (wrF .u64 a0.1.1)) - 1)),())
abbrev fD:Type:=(qJ×Unit)->Option (Int×Unit)
def yb:fD:=opq (sF prg [] (zG [cdF qS,cdF qh] [] [] [] []) (zy []) 30 93 Yl Ym)
abbrev gP:Con:=⟨Yl,Ym,yb⟩
theorem QI:Con.Ok prg 93 gP:=okF zn (by kernel_rfl)
theorem aV(a0):yb (a0,())=Yn a0:=zA (by kernel_rfl)
abbrev mg:List VT:=[⟨true,qh⟩]
abbrev mh:List VT:=[⟨false,I⟩]
def mj(a0:qy):Option (Int×Unit):=opt (Jb (a0.1,a0.2.1,())) fun x0=>bif !x0.1 then some (500,())else bif a0.2.2.1 then bif(!((zj a0.1 a0.1)&&((zj a0.2.1 a0.2.1)&&((a0.2.2.1 == true)&&((zj a0.2.2.2.1 0)&&((zj a0.2.2.2.2.1 0)&&((zj a0.2.2.2.2.2 0)&&true)))))))then some (500,())else some (0,())else opt (bif zg a0.2.2.2.1 0 then some (1,(500,()),())else bif !(zg a0.2.2.2.1 65536)then some (1,(500,()),())else bif zg a0.2.2.2.2.1 0 then some (1,(500,()),())else bif zg 1099511627776 a0.2.2.2.2.1 then some (1,(500,()),())else bif zj (wO .and .u64 a0.2.2.2.2.2 1) 0 then some (1,(500,()),())else opt (yb ((a0,0,0),())) fun x1=>bif(!(zj (wO .andNot .u64 a0.2.2.2.2.2 x1.1) 0))then some (1,(500,()),())else some (0,(0,()),())) fun x2=>bif jzC x2 then some (0,())else some (x2.2.1.1,())
abbrev SG:Type:=(qy×Unit)->Option (Int×Unit)
def uX:SG:=opq (sF prg [(92,fC),(93,gP)] (zG [cdF qS,cdF qh] [] [] [] [92,93]) (zy []) 30 46 mg mh)
abbrev Ui:Con:=⟨mg,mh,uX⟩
theorem aW:Con.Ok prg 46 Ui:=okF (ze BN (ze QI zn)) (by kernel_rfl)
theorem ET(a0):uX (a0,())=mj a0:=zA (by kernel_rfl)
abbrev Jc:List VT:=[⟨true,qP⟩]
abbrev Jd:List VT:=[⟨false,I⟩]
def fE(a0:zL):Option (Int×Unit):=opt (bif zg a0.1 (-1000)then some (1,(521,()),())else bif zg 1000 a0.1 then some (1,(521,()),())else opt (xY (a0.2.1,())) fun x0=>bif !(zj x0.1 0)then some (1,(521,()),())else bif(!(zj (lnC a0.2.2.1) (lnC a0.2.1.1)))then some (1,(521,()),())else bif(zg 24 (lnC a0.2.2.2.1))then some (1,(521,()),())else some (0,(0,()),())) fun x1=>bif jzC x1 then lpC ((x1.2.1.1,0,()),()) (fun s2=>bif(zg s2.1.2.1 (lnC a0.2.2.1))then aTC a0.2.2.1 s2.1.2.1 fun x3=>aTC a0.2.1.1 s2.1.2.1 fun x4=>opt (Qj (x4,x3,())) fun x5=>bif !x5.1 then exC 1 ((521,s2.1.2.1,()),())else nxC ((s2.1.1,(upC s2.1.2.1),()),())else exC 0 ((s2.1.1,s2.1.2.1,()),())) fun x6=>bif jzC x6 then lpC ((x6.2.1.1,0,()),()) (fun s7=>bif(zg s7.1.2.1 (lnC a0.2.2.2.1))then aTC a0.2.2.2.1 s7.1.2.1 fun x8=>opt (YX (x8,(lnC a0.2.2.2.2),())) fun x9=>bif !x9.1 then exC 1 ((521,s7.1.2.1,()),())else nxC ((s7.1.1,(upC s7.1.2.1),()),())else exC 0 ((s7.1.1,s7.1.2.1,()),())) fun x10=>bif jzC x10 then lpC ((x10.2.1.1,0,()),()) (fun s11=>bif(zg s11.1.2.1 (lnC a0.2.2.2.2))then aTC a0.2.2.2.2 s11.1.2.1 fun x12=>opt (uX (x12,())) fun x13=>bif !(zj x13.1 0)then exC 1 ((521,s11.1.2.1,()),())else nxC ((s11.1.1,(upC s11.1.2.1),()),())else exC 0 ((s11.1.1,s11.1.2.1,()),())) fun x14=>bif jzC x14 then some (0,())else some (x14.2.1.1,())else some (x10.2.1.1,())else some (x6.2.1.1,())else some (x1.2.1.1,())
abbrev fF:Type:=(zL×Unit)->Option (Int×Unit)
def uq:fF:=opq (sF prg [(43,GN),(44,bY),(45,oW),(46,Ui)] (zG [cdF qP,cdF qo,cdF zU,cdF jd,cdF qh,cdF qe,cdF yx,cdF zV,cdF zr] [] [] [] [43,44,45,46]) (zy []) 30 12 Jc Jd)
abbrev Oa:Con:=⟨Jc,Jd,uq⟩
theorem BP:Con.Ok prg 12 Oa:=okF (ze Xp (ze rX (ze Ic (ze aW zn)))) (by kernel_rfl)
theorem BQ(a0):uq (a0,())=fE a0:=zA (by kernel_rfl)
abbrev EU:List VT:=[⟨false,I⟩]
abbrev EV:List VT:=[⟨false,.bool⟩]
def EW(a0:Int):Option (Bool×Unit):=bif !(zg a0 0)then some ((zg a0 48),())else some (false,())
abbrev zfN:Type:=(Int×Unit)->Option (Bool×Unit)
def Qw:zfN:=opq (sF prg [] (zG [] [] [] [] []) (zy []) 30 33 EU EV)
abbrev Uj:Con:=⟨EU,EV,Qw⟩
theorem Uk:Con.Ok prg 33 Uj:=okF zn (by kernel_rfl)
theorem SI(a0):Qw (a0,())=EW a0:=zA (by kernel_rfl)
abbrev AP:List VT:=[⟨true,zr⟩,⟨true,yZ⟩]
abbrev AQ:List VT:=[⟨false,I⟩]
def AR(a0:zC)(a1:js):Option (Int×Unit):=opt (wW (a0,())) fun x0=>bif !x0.1 then some (130,())else opt (bif zg a1.1 0 then some (1,(440,()),())else bif zg 1099511627776 a1.1 then some (1,(440,()),())else bif zg a1.2 0 then some (1,(440,()),())else bif(zg (w6C (a0.1*1048576)) a1.2)then some (1,(440,()),())else some (0,(0,()),())) fun x1=>bif jzC x1 then some (0,())else some (x1.2.1.1,())
abbrev zc7:Type:=(zC×js×Unit)->Option (Int×Unit)
def JK:zc7:=opq (sF prg [(60,kz)] (zG [cdF zr] [] [] [] [60]) (zy []) 30 126 AP AQ)
abbrev bK:Con:=⟨AP,AQ,JK⟩
theorem fG:Con.Ok prg 126 bK:=okF (ze uk zn) (by kernel_rfl)
theorem Ob(a0)(a1):JK (a0,a1,())=AR a0 a1:=zA (by kernel_rfl)
abbrev oX:List VT:=[⟨true,zU⟩,⟨true,jd⟩]
abbrev oY:List VT:=[⟨false,.bool⟩]
def oZ(a0:qu)(a1:jM):Option (Bool×Unit):=opt (Qw (a1.1,())) fun x0=>bif !x0.1 then some (false,())else bif !(zj a0.2.2.1 6)then some (((zj a1.1 a1.1)&&(((zj a1.2.1.1 0)&&((zj a1.2.1.2 0)&&true))&&((zj a1.2.2.1 0)&&(((zj a1.2.2.2.1 0)&&((zj a1.2.2.2.2 0)&&true))&&true)))),())else opt (wW (a1.2.1,())) fun x1=>bif x1.1 then bif !(zg a1.2.1.1 a0.2.2.2.1)then bif !(zg a1.2.2.1 0)then bif !(zg 1099511627776 a1.2.2.1)then opt (JK (a1.2.1,a1.2.2.2,())) fun x2=>some ((zj x2.1 0),())else some (false,())else some (false,())else some (false,())else some (false,())
abbrev zaS:Type:=(qu×jM×Unit)->Option (Bool×Unit)
def YY:zaS:=opq (sF prg [(33,Uj),(60,kz),(126,bK)] (zG [cdF zU,cdF jd,cdF zr] [] [] [] [33,60,126]) (zy []) 30 75 oX oY)
abbrev pa:Con:=⟨oX,oY,YY⟩
theorem Ig:Con.Ok prg 75 pa:=okF (ze Uk (ze uk (ze fG zn))) (by kernel_rfl)
theorem Ih(a0)(a1):YY (a0,a1,())=oZ a0 a1:=zA (by kernel_rfl)
abbrev AS:List VT:=[⟨true,qP⟩]
abbrev AT:List VT:=[⟨false,.bool⟩]
def AU(a0:zL):Option (Bool×Unit):=opt (bif zg a0.1 (-1000)then some (1,(false,()),())else bif zg 1000 a0.1 then some (1,(false,()),())else opt (JI (a0.2.1,())) fun x0=>bif !x0.1 then some (1,(false,()),())else bif(!(zj (lnC a0.2.2.1) (lnC a0.2.1.1)))then some (1,(false,()),())else bif(zg 24 (lnC a0.2.2.2.1))then some (1,(false,()),())else some (0,(false,()),())) fun x1=>bif jzC x1 then lpC ((x1.2.1.1,0,()),()) (fun s2=>bif(zg s2.1.2.1 (lnC a0.2.2.1))then aTC a0.2.1.1 s2.1.2.1 fun x3=>aTC a0.2.2.1 s2.1.2.1 fun x4=>opt (YY (x3,x4,())) fun x5=>bif !x5.1 then exC 1 ((false,s2.1.2.1,()),())else nxC ((s2.1.1,(upC s2.1.2.1),()),())else exC 0 ((s2.1.1,s2.1.2.1,()),())) fun x6=>bif jzC x6 then lpC ((x6.2.1.1,0,()),()) (fun s7=>bif(zg s7.1.2.1 (lnC a0.2.2.2.1))then aTC a0.2.2.2.1 s7.1.2.1 fun x8=>opt (opt (Qw (x8.1,())) fun x9=>bif !x9.1 then some (1,(false,()),())else bif zg x8.2.1 1 then some (1,(false,()),())else bif zg 4095 x8.2.1 then some (1,(false,()),())else bif !(zj x8.2.2.1 7)then bif !(zj x8.2.2.1 6)then some (1,(false,()),())else bif zg x8.2.2.2 0 then some (1,(false,()),())else bif(!(zg x8.2.2.2 (lnC a0.2.2.2.2)))then some (1,(false,()),())else some (0,(s7.1.1,()),())else bif zg x8.2.2.2 0 then some (1,(false,()),())else bif(!(zg x8.2.2.2 (lnC a0.2.2.2.2)))then some (1,(false,()),())else some (0,(s7.1.1,()),())) fun x10=>bif jzC x10 then nxC ((x10.2.1.1,(upC s7.1.2.1),()),())else exC 1 ((x10.2.1.1,s7.1.2.1,()),())else exC 0 ((s7.1.1,s7.1.2.1,()),())) fun x11=>bif jzC x11 then lpC ((x11.2.1.1,0,()),()) (fun s12=>bif(zg s12.1.2.1 (lnC a0.2.2.2.2))then aTC a0.2.2.2.2 s12.1.2.1 fun x13=>opt (kB (x13,())) fun x14=>bif !x14.1 then exC 1 ((false,s12.1.2.1,()),())else nxC ((s12.1.1,(upC s12.1.2.1),()),())else exC 0 ((s12.1.1,s12.1.2.1,()),())) fun x15=>bif jzC x15 then some (true,())else some (x15.2.1.1,())else some (x11.2.1.1,())else some (x6.2.1.1,())else some (x1.2.1.1,())
abbrev zc8:Type:=(zL×Unit)->Option (Bool×Unit)
def Vm:zc8:=opq (sF prg [(63,bI),(75,pa),(33,Uj),(61,bG)] (zG [cdF qP,cdF qo,cdF zU,cdF jd,cdF qh,cdF qe,cdF yx,cdF zV,cdF zr] [] [] [] [63,75,33,61]) (zy []) 30 32 AS AT)
abbrev AV:Con:=⟨AS,AT,Vm⟩
theorem Oc:Con.Ok prg 32 AV:=okF (ze fm (ze Ig (ze Uk (ze fj zn)))) (by kernel_rfl)
theorem Od(a0):Vm (a0,())=AU a0:=zA (by kernel_rfl)
abbrev pb:List VT:=[⟨false,I⟩,⟨false,I⟩,⟨false,I⟩]
abbrev pc:List VT:=[⟨false,.bool⟩]
def pd(a0:Int)(a1:Int)(a2:Int):Option (Bool×Unit):=bif !(zg a0 a1)then some ((!(zg a2 a0)),())else some (false,())
abbrev zaT:Type:=(Int×Int×Int×Unit)->Option (Bool×Unit)
def xZ:zaT:=opq (sF prg [] (zG [] [] [] [] []) (zy []) 30 64 pb pc)
abbrev pe:Con:=⟨pb,pc,xZ⟩
theorem Ii:Con.Ok prg 64 pe:=okF zn (by kernel_rfl)
theorem Ij(a0)(a1)(a2):xZ (a0,a1,a2,())=pd a0 a1 a2:=zA (by kernel_rfl)
abbrev Qk:List VT:=[⟨true,qG⟩]
abbrev Ql:List VT:=[⟨false,I⟩]
def bZ(a0:zQ):Option (Int×Unit):=opt (opt (xZ (a0.1,0,1099511627776,())) fun x0=>bif !x0.1 then some (1,(460,()),())else opt (xZ (a0.2.1,0,1099511627776,())) fun x1=>bif !x1.1 then some (1,(460,()),())else opt (xZ (a0.2.2.2.2,0,1099511627776,())) fun x2=>bif !x2.1 then some (1,(460,()),())else opt (xZ (a0.2.2.1,0,7,())) fun x3=>bif !x3.1 then some (1,(460,()),())else opt (xZ (a0.2.2.2.1,84,1542,())) fun x4=>bif !x4.1 then some (1,(460,()),())else some (0,(0,()),())) fun x5=>bif jzC x5 then some (0,())else some (x5.2.1.1,())
abbrev cd:Type:=(zQ×Unit)->Option (Int×Unit)
def vK:cd:=opq (sF prg [(64,pe)] (zG [cdF qG] [] [] [] [64]) (zy []) 30 26 Qk Ql)
abbrev Ik:Con:=⟨Qk,Ql,vK⟩
theorem rZ:Con.Ok prg 26 Ik:=okF (ze Ii zn) (by kernel_rfl)
theorem sb(a0):vK (a0,())=bZ a0:=zA (by kernel_rfl)
abbrev Je:List VT:=[⟨true,qP⟩,⟨false,I⟩]
abbrev Jf:List VT:=[⟨false,I⟩]
def fH(a0:zL)(a1:Int):Option (Int×Unit):=opt (bif zg a1 0 then some (1,(2,()),())else bif zg 274877906944 a1 then some (1,(2,()),())else bif(zg (w6C (a1+a0.1)) a0.2.1.2.2.1)then some (1,(2,()),())else some (0,(0,()),())) fun x0=>bif jzC x0 then lpC ((x0.2.1.1,0,()),()) (fun s1=>bif(zg s1.1.2.1 (lnC a0.2.2.2.2))then aTC a0.2.2.2.2 s1.1.2.1 fun x2=>bif zg a1 x2.2.2.2.2.1 then exC 1 ((2,s1.1.2.1,()),())else nxC ((s1.1.1,(upC s1.1.2.1),()),())else exC 0 ((s1.1.1,s1.1.2.1,()),())) fun x3=>bif jzC x3 then some (0,())else some (x3.2.1.1,())else some (x0.2.1.1,())
abbrev fI:Type:=(zL×Int×Unit)->Option (Int×Unit)
def ur:fI:=opq (sF prg [] (zG [cdF qP,cdF qo,cdF zU,cdF jd,cdF qh,cdF qe,cdF yx,cdF zV,cdF zr] [] [] [] []) (zy []) 30 27 Je Jf)
abbrev Oe:Con:=⟨Je,Jf,ur⟩
theorem BR:Con.Ok prg 27 Oe:=okF zn (by kernel_rfl)
theorem BS(a0)(a1):ur (a0,a1,())=fH a0 a1:=zA (by kernel_rfl)
abbrev yk:List VT:=[⟨false,I⟩]
abbrev yl:List VT:=[⟨false,.bool⟩]
def cg:xi:=zG [cdF qw,cdF qP,cdF qo,cdF zU,cdF jd,cdF qh,cdF qe,cdF qG,cdF Kd,cdF zV,cdF zr] [] [] [] []
def fJ(s:zM)(a0:Int):Option (zM×(Bool×Unit)):=some ((s.1,s.2.1,s.2.2.1,s.2.2.2.1,1,0,0,a0),true,())
theorem Og  (s:zM) (a0:Int):sP prg ⟨[],[],[]⟩ [] cg (zy []) 30 67 qw yk yl s (a0,())=fJ  s a0:=by kernel_rfl
def wG:zM->(Int×Unit)->Option (zM×(Bool×Unit)):=sP prg ⟨[],[],[]⟩ [] cg (zy []) 30 67 qw yk yl
theorem Wh:Yc.Ok prg 67 ⟨qw,yk,yl,wG⟩:=cZ ⟨yO,uS,uT⟩ zn qN (by kernel_rfl)
theorem Ze(s:zM)(a0:Int):wG s (a0,())=fJ  s a0:=Og  s a0
abbrev XJ:List VT:=[⟨true,qS⟩]
abbrev XK:List VT:=[⟨true,qS⟩,⟨false,I⟩]
def XL(a0:qJ):Option (qJ×Int×Unit):=opt (bif !a0.1.2.2.1 then bif(!(zg a0.1.2.1 (w6C (a0.2.2 - a0.1.2.2.2.2.1))))then some (1,(a0,0,()),())else some (0,(((0,0,false,0,0,0),0,0),0,()),())else some (0,(((0,0,false,0,0,0),0,0),0,()),())) fun x0=>bif jzC x0 then some (((a0.1.1,a0.1.2.1,false,a0.2.1,a0.2.2,1),a0.2),1,())else some (x0.2.1.1,x0.2.1.2.1,())
abbrev nm:Type:=(qJ×Unit)->Option (qJ×Int×Unit)
def uC:nm:=opq (sF prg [] (zG [cdF qS,cdF qh] [] [] [] []) (zy []) 30 182 XJ XK)
abbrev XM:Con:=⟨XJ,XK,uC⟩
theorem df:Con.Ok prg 182 XM:=okF zn (by kernel_rfl)
theorem dg(a0):uC (a0,())=XL a0:=zA (by kernel_rfl)
abbrev EX:List VT:=[⟨false,I⟩]
abbrev EY:List VT:=[⟨false,.bool⟩]
def EZ(a0:Int):Option (Bool×Unit):=bif !(zg a0 0)then some ((zg a0 65536),())else some (false,())
abbrev zfO:Type:=(Int×Unit)->Option (Bool×Unit)
def Yo:zfO:=opq (sF prg [] (zG [] [] [] [] []) (zy []) 30 292 EX EY)
abbrev Fa:Con:=⟨EX,EY,Yo⟩
theorem SJ:Con.Ok prg 292 Fa:=okF zn (by kernel_rfl)
theorem SK(a0):Yo (a0,())=EZ a0:=zA (by kernel_rfl)
abbrev SM:List VT:=[⟨false,I⟩]
abbrev SN:List VT:=[⟨false,I⟩]
def SO(a0:Int):Option (Int×Unit):=opt (bif zg (Int.tmod a0 65536) 0 then some (0,((w6C ((Int.tmod a0 65536)+65536)),()),())else some (0,((Int.tmod a0 65536),()),())) fun x0=>some (x0.2.1.1,())
abbrev zi8:Type:=(Int×Unit)->Option (Int×Unit)
def dh:zi8:=opq (sF prg [] (zG [] [] [] [] []) (zy []) 30 293 SM SN)
abbrev SP:Con:=⟨SM,SN,dh⟩
theorem zc9:Con.Ok prg 293 SP:=okF zn (by kernel_rfl)
theorem zda(a0):dh (a0,())=SO a0:=zA (by kernel_rfl)
abbrev Mq:List VT:=[⟨false,I⟩,⟨false,I⟩]
abbrev Mr:List VT:=[⟨false,I⟩,⟨false,I⟩]
def Ms(a0:Int)(a1:Int):Option (Int×Int×Unit):=opt (opt (Yo (a0,())) fun x0=>bif !x0.1 then some (1,(0,2,()),())else opt (Yo (a1,())) fun x1=>bif !x1.1 then some (1,(0,2,()),())else some (0,(0,0,()),())) fun x2=>bif jzC x2 then opt (dh ((w6C ((w6C (a1 - a0))+32768)),())) fun x3=>some ((w6C (x3.1 - 32768)),0,())else some (x2.2.1.1,x2.2.1.2.1,())
abbrev zgS:Type:=(Int×Int×Unit)->Option (Int×Int×Unit)
def XN:zgS:=opq (sF prg [(292,Fa),(293,SP)] (zG [] [] [] [] [292,293]) (zy []) 30 255 Mq Mr)
abbrev Mt:Con:=⟨Mq,Mr,XN⟩
theorem zaU:Con.Ok prg 255 Mt:=okF (ze SJ (ze zc9 zn)) (by kernel_rfl)
theorem zaV(a0)(a1):XN (a0,a1,())=Ms a0 a1:=zA (by kernel_rfl)
abbrev Wx:List VT:=[⟨true,qS⟩]
abbrev Wy:List VT:=[⟨false,I⟩]
def Wz(a0:qJ):Option (Int×Unit):=opt (XN (a0.1.2.2.2.1,a0.2.1,())) fun x0=>some (x0.1,())
abbrev di:Type:=(qJ×Unit)->Option (Int×Unit)
def wT:di:=opq (sF prg [(255,Mt)] (zG [cdF qS,cdF qh] [] [] [] [255]) (zy []) 30 232 Wx Wy)
abbrev vf:Con:=⟨Wx,Wy,wT⟩
theorem uu:Con.Ok prg 232 vf:=okF (ze zaU zn) (by kernel_rfl)
theorem GO(a0):wT (a0,())=Wz a0:=zA (by kernel_rfl)
abbrev Ul:List VT:=[⟨true,qS⟩]
abbrev Um:List VT:=[⟨true,qS⟩,⟨false,I⟩]
def Un(a0:qJ):Option (qJ×Int×Unit):=opt (wT (a0,())) fun x0=>opt (bif(zg (w6C (0 - a0.1.1)) x0.1)then bif zg x0.1 a0.1.1 then some (1,(a0,0,()),())else some (0,(((0,0,false,0,0,0),0,0),0,()),())else some (0,(((0,0,false,0,0,0),0,0),0,()),())) fun x1=>bif jzC x1 then some (a0,2,())else some (x1.2.1.1,x1.2.1.2.1,())
abbrev se:Type:=(qJ×Unit)->Option (qJ×Int×Unit)
def gb:se:=opq (sF prg [(232,vf)] (zG [cdF qS,cdF qh] [] [] [] [232]) (zy []) 30 183 Ul Um)
abbrev Uo:Con:=⟨Ul,Um,gb⟩
theorem iK:Con.Ok prg 183 Uo:=okF (ze uu zn) (by kernel_rfl)
theorem iL(a0):gb (a0,())=Un a0:=zA (by kernel_rfl)
abbrev Kf:List VT:=[⟨true,qS⟩]
abbrev Kg:List VT:=[⟨true,qS⟩,⟨false,I⟩]
def Kh(a0:qJ):Option (qJ×Int×Unit):=opt (wT (a0,())) fun x0=>bif zg 0 x0.1 then some (a0,0,())else bif(zg (wrF .u64 (w6C (0 - x0.1))) 0)then none else bif(!(zj (wO .and .u64 a0.1.2.2.2.2.2 (wh .u64 1 (wrF .u64 (w6C (0 - x0.1))))) 0))then some (a0,2,())else some (((a0.1.1,a0.1.2.1,a0.1.2.2.1,a0.1.2.2.2.1,a0.2.2,(wO .or .u64 a0.1.2.2.2.2.2 (wh .u64 1 (wrF .u64 (w6C (0 - x0.1)))))),a0.2),1,())
abbrev pg:Type:=(qJ×Unit)->Option (qJ×Int×Unit)
def uY:pg:=opq (sF prg [(232,vf)] (zG [cdF qS,cdF qh] [] [] [] [232]) (zy []) 30 184 Kf Kg)
abbrev Ki:Con:=⟨Kf,Kg,uY⟩
theorem fK:Con.Ok prg 184 Ki:=okF (ze uu zn) (by kernel_rfl)
theorem fL(a0):uY (a0,())=Kh a0:=zA (by kernel_rfl)
abbrev XO:List VT:=[⟨true,qS⟩]
abbrev XP:List VT:=[⟨true,qS⟩,⟨false,I⟩]
def XQ(a0:qJ):Option (qJ×Int×Unit):=opt (wT (a0,())) fun x0=>bif zg (wrF .u64 x0.1) 0 then none else opt (yb (a0,())) fun x1=>some (((a0.1.1,a0.1.2.1,a0.1.2.2.1,a0.2.1,a0.2.2,(wO .and .u64 (wO .or .u64 (wh .u64 a0.1.2.2.2.2.2 (wrF .u64 x0.1)) 1) x1.1)),a0.2),1,())
abbrev np:Type:=(qJ×Unit)->Option (qJ×Int×Unit)
def uD:np:=opq (sF prg [(232,vf),(93,gP)] (zG [cdF qS,cdF qh] [] [] [] [232,93]) (zy []) 30 185 XO XP)
abbrev XR:Con:=⟨XO,XP,uD⟩
theorem dj:Con.Ok prg 185 XR:=okF (ze uu (ze QI zn)) (by kernel_rfl)
theorem dk(a0):uD (a0,())=XQ a0:=zA (by kernel_rfl)
abbrev Xh:List VT:=[⟨true,qS⟩]
abbrev Xi:List VT:=[⟨true,qS⟩,⟨false,I⟩]
def Xj(a0:qJ):Option (qJ×Int×Unit):=opt (uC (a0,())) fun x0=>bif !(zj x0.2.1 0)then some (x0.1,x0.2.1,())else opt (gb (a0,())) fun x1=>bif !(zj x1.2.1 0)then some (x1.1,x1.2.1,())else opt (uY (a0,())) fun x2=>bif !(zj x2.2.1 0)then some (x2.1,x2.2.1,())else opt (uD (a0,())) fun x3=>bif !(zj x3.2.1 0)then some (x3.1,x3.2.1,())else some (a0,2,())
abbrev iM:Type:=(qJ×Unit)->Option (qJ×Int×Unit)
def xl:iM:=opq (sF prg [(182,XM),(183,Uo),(184,Ki),(185,XR)] (zG [cdF qS,cdF qh] [(3,27)] [] [] [182,183,184,185]) (zy []) 30 120 Xh Xi)
abbrev Xk:Con:=⟨Xh,Xi,xl⟩
theorem bL:Con.Ok prg 120 Xk:=okF (ze df (ze iK (ze fK (ze dj zn)))) (by kernel_rfl)
theorem bM(a0):xl (a0,())=Xj a0:=zA (by kernel_rfl)
abbrev Jg:List VT:=[⟨true,qh⟩,⟨false,I⟩,⟨false,I⟩]
abbrev Jh:List VT:=[⟨true,qh⟩,⟨false,.bool⟩,⟨false,I⟩]
def fM(a0:qy)(a1:Int)(a2:Int):Option (qy×Bool×Int×Unit):=opt (uX (a0,())) fun x0=>bif !(zj x0.1 0)then some ((0,0,false,0,0,0),false,x0.1,())else opt (bif zg a1 0 then some (1,((0,0,false,0,0,0),false,2,()),())else bif !(zg a1 65536)then some (1,((0,0,false,0,0,0),false,2,()),())else bif zg a2 0 then some (1,((0,0,false,0,0,0),false,2,()),())else bif zg 1099511627776 a2 then some (1,((0,0,false,0,0,0),false,2,()),())else bif zg a2 a0.2.2.2.2.1 then some (1,((0,0,false,0,0,0),false,2,()),())else some (0,((0,0,false,0,0,0),false,0,()),())) fun x1=>bif jzC x1 then opt (xl ((a0,a1,a2),())) fun x2=>some (x2.1.1,(zj x2.2.1 1),0,())else some (x1.2.1.1,x1.2.1.2.1,x1.2.1.2.2.1,())
abbrev fN:Type:=(qy×Int×Int×Unit)->Option (qy×Bool×Int×Unit)
def yS:fN:=opq (sF prg [(46,Ui),(120,Xk)] (zG [cdF qS,cdF qh] [] [] [] [46,120]) (zy []) 30 68 Jg Jh)
abbrev Oh:Con:=⟨Jg,Jh,yS⟩
theorem BT:Con.Ok prg 68 Oh:=okF (ze aW (ze bL zn)) (by kernel_rfl)
theorem BU(a0)(a1)(a2):yS (a0,a1,a2,())=fM a0 a1 a2:=zA (by kernel_rfl)
abbrev ZR:List VT:=[]
abbrev ZS:List VT:=[⟨false,.bool⟩]
def fO:xi:=zG [cdF qw,cdF qP,cdF qo,cdF zU,cdF jd,cdF qh,cdF qe,cdF qG,cdF yx,cdF zV,cdF zr] [] [⟨1,8,some 2,qh,true⟩] [] [67,68]
def WA(ju:zM->(Int×Unit)->Option (zM×(Bool×Unit)))(Jp:fN)(s:zM):Option (zM×(Bool×Unit)):=lpC ((s,0,0,()),()) (fun s0=>bif(zg s0.1.2.2.1 (lnC s.1.2.2.2.1))then aTC s.1.2.2.2.1 s0.1.2.2.1 fun x1=>bif zj x1.1 s0.1.1.2.1 then bif zj x1.2.1 s0.1.1.2.2.1.1 then bif zj x1.2.2.1 s0.1.1.2.2.1.2.2.1 then exC 1 ((s0.1.1,s0.1.2.2.1,s0.1.2.2.1,()),())else nxC ((s0.1.1,s0.1.2.1,(upC s0.1.2.2.1),()),())else nxC ((s0.1.1,s0.1.2.1,(upC s0.1.2.2.1),()),())else nxC ((s0.1.1,s0.1.2.1,(upC s0.1.2.2.1),()),())else exC 0 ((s0.1.1,s0.1.2.1,s0.1.2.2.1,()),())) fun x2=>bif jzC x2 then some (x2.2.1.1,false,())else bif zg x2.2.1.2.1 0 then some (x2.2.1.1,false,())else bif !(zg x2.2.1.1.2.2.1.2.1 65536)then opt (ju x2.2.1.1 (20,())) fun x3=>some (x3.1,x3.2.1,())else aTC x2.2.1.1.1.2.2.2.1 x2.2.1.2.1 fun x4=>aTC x2.2.1.1.1.2.2.2.2 x4.2.2.2 fun x5=>opt (Jp (x5,x2.2.1.1.2.2.1.2.1,x2.2.1.1.2.2.2.1,())) fun x6=>bif !x6.2.1 then some ((x2.2.1.1.1,x2.2.1.1.2.1,x2.2.1.1.2.2.1,x2.2.1.1.2.2.2.1,4,0,0,0),true,())else bif dP x2.2.1.1.1.2.2.2.2 then bif qb 0 x2.2.1.1.1.2.2.2.2.length 48 then aTC x2.2.1.1.1.2.2.2.2 x4.2.2.2 fun x7=>opt (gl x2.2.1.1.1.2.2.2.2 (Int.toNat x4.2.2.2)) fun x8=>some (((x2.2.1.1.1.1,x2.2.1.1.1.2.1,x2.2.1.1.1.2.2.1,x2.2.1.1.1.2.2.2.1,(x2.2.1.1.1.2.2.2.2.set (Int.toNat x4.2.2.2) x6.1)),x2.2.1.1.2.1,x2.2.1.1.2.2.1,x2.2.1.1.2.2.2.1,3,0,0,0),true,())else none else none
theorem SQ(ju:zM->(Int×Unit)->Option (zM×(Bool×Unit)))(Jp:(qy×Int×Int×Unit)->Option (qy×Bool×Int×Unit))(s:zM):sP prg ⟨[],[(67,⟨qw,yk,yl,ju⟩)],[]⟩ [(68,⟨Jg,Jh,Jp⟩)] fO (zy []) 30 28 qw ZR ZS s ()=WA ju Jp s:=by kernel_rfl
def xx:zM->(Unit)->Option (zM×(Bool×Unit)):=sP prg ⟨[],[(67,⟨qw,yk,yl,wG⟩)],[]⟩ [(68,⟨Jg,Jh,yS⟩)] fO (zy []) 30 28 qw ZR ZS
theorem Fb:Yc.Ok prg 28 ⟨qw,ZR,ZS,xx⟩:=cZ ⟨yO,(gK Wh uS),uT⟩ (ze BT zn) qN (by kernel_rfl)
theorem aX(s:zM):xx s ()=WA wG yS s:=SQ wG yS s
abbrev ZT:List VT:=[⟨true,qG⟩]
abbrev ZU:List VT:=[⟨false,.bool⟩]
def aY(a0:zQ):Option (Bool×Unit):=opt (qW (a0.1,0,1099511627776,())) fun x0=>bif x0.1 then opt (qW (a0.2.1,0,1099511627776,())) fun x1=>bif x1.1 then opt (qW (a0.2.2.1,0,7,())) fun x2=>bif x2.1 then opt (qW (a0.2.2.2.1,84,1542,())) fun x3=>bif x3.1 then opt (qW (a0.2.2.2.2,0,1099511627776,())) fun x4=>some (x4.1,())else some (false,())else some (false,())else some (false,())else some (false,())
abbrev aZ:Type:=(zQ×Unit)->Option (Bool×Unit)
def yT:aZ:=opq (sF prg [(88,ZQ)] (zG [cdF qG] [] [] [] [88]) (zy []) 30 121 ZT ZU)
abbrev bc:Con:=⟨ZT,ZU,yT⟩
theorem Kj:Con.Ok prg 121 bc:=okF (ze uN zn) (by kernel_rfl)
theorem ph(a0):yT (a0,())=aY a0:=zA (by kernel_rfl)
abbrev gf:List VT:=[⟨true,gx⟩,⟨true,zr⟩,⟨true,zr⟩,⟨false,I⟩]
abbrev gg:List VT:=[⟨true,gx⟩]
def Up(a0:xL)(a1:zC)(a2:zC)(a3:Int):Option (xL×Unit):=opt (Ud (a1,a2,())) fun x0=>some (((wK x0.1.1 (w6C (a0.1+(w6C (a1.2*a3))))),(wK x0.1.2 (w6C (a0.2+(w6C (a2.2*a3)))))),())
abbrev Uq:Type:=(xL×zC×zC×Int×Unit)->Option (xL×Unit)
def ym:Uq:=opq (sF prg [(223,fu)] (zG [cdF gx] [] [] [] [223]) (zy []) 30 256 gf gg)
abbrev sf:Con:=⟨gf,gg,ym⟩
theorem iN:Con.Ok prg 256 sf:=okF (ze lZ zn) (by kernel_rfl)
theorem iO(a0)(a1)(a2)(a3):ym (a0,a1,a2,a3,())=Up a0 a1 a2 a3:=zA (by kernel_rfl)
abbrev vU:List VT:=[⟨false,I⟩,⟨false,I⟩]
abbrev vV:List VT:=[⟨false,I⟩]
def Ur:xi:=zG [cdF uh,cdF gx] [] [] [] [256]
def Wi(gm:Uq)(s:xa)(a0:Int)(a1:Int):Option (xa×(Int×Unit)):=opt (gm (s.1,s.2.2.1,s.2.2.2,(w6C (a0 - s.2.1)),())) fun x0=>bif(zg x0.1.2 (w6C (a1*1048576)))then opt (some (0,((x0.1,a0,s.2.2),()),())) fun x1=>opt (some (0,(x1.2.1.1,()),())) fun x2=>some (x2.2.1.1,2,())else bif(zg x0.1.1 (w6C (a1*1048576)))then opt (some (0,(((x0.1.1,(w6C (x0.1.2 - (w6C (a1*1048576))))),a0,s.2.2),()),())) fun x3=>opt (some (0,(x3.2.1.1,()),())) fun x4=>some (x4.2.1.1,1,())else opt (some (0,(((x0.1.1,(w6C (x0.1.2 - (w6C (a1*1048576))))),a0,s.2.2),()),())) fun x5=>opt (some (0,((((w6C (x5.2.1.1.1.1 - (w6C (a1*1048576)))),x5.2.1.1.1.2),x5.2.1.1.2),()),())) fun x6=>some (x6.2.1.1,0,())
theorem BV(gm:(xL×zC×zC×Int×Unit)->Option (xL×Unit))(s:xa)(a0:Int)(a1:Int):sP prg ⟨[],[],[]⟩ [(256,⟨gf,gg,gm⟩)] Ur (zy []) 30 233 uh vU vV s (a0,a1,())=Wi gm s a0 a1:=by kernel_rfl
def vW:xa->(Int×Int×Unit)->Option (xa×(Int×Unit)):=sP prg ⟨[],[],[]⟩ [(256,⟨gf,gg,ym⟩)] Ur (zy []) 30 233 uh vU vV
theorem nq:Yc.Ok prg 233 ⟨uh,vU,vV,vW⟩:=cZ ⟨yO,uS,uT⟩ (ze iN zn) qN (by kernel_rfl)
theorem nr(s:xa)(a0:Int)(a1:Int):vW s (a0,a1,())=Wi ym s a0 a1:=BV ym s a0 a1
abbrev Yp:List VT:=[⟨true,zr⟩,⟨true,zr⟩,⟨true,zV⟩,⟨false,I⟩,⟨false,I⟩]
abbrev Yq:List VT:=[⟨false,I⟩,⟨true,zV⟩,⟨false,I⟩]
def AW:xi:=zG [cdF uh,cdF zV,cdF zr] [] [] [] [89,233]
def fP(Vt:AK)(Zi:xa->(Int×Int×Unit)->Option (xa×(Int×Unit)))(a0:zC)(a1:zC)(a2:qI)(a3:Int)(a4:Int):Option (Int×qI×Int×Unit):=opt (Vt (a0,a1,a2,())) fun x0=>bif !(zj x0.1 0)then some (0,(0,0,0),x0.1,())else opt (bif zg a3 a2.1 then some (1,((0,0,0),0,2,()),())else bif zg 1099511627776 a3 then some (1,((0,0,0),0,2,()),())else bif zg a4 1 then some (1,((0,0,0),0,2,()),())else bif zg 1048576 a4 then some (1,((0,0,0),0,2,()),())else some (0,((0,0,0),0,0,()),())) fun x1=>bif jzC x1 then opt (Zi (a2.2,a2.1,a0,a1) (a3,a4,())) fun x2=>some (x2.2.1,(x2.1.2.1,x2.1.1),0,())else some (x1.2.1.2.1,x1.2.1.1,x1.2.1.2.2.1,())
theorem zfP(Vt:(zC×zC×qI×Unit)->Option (Int×Unit))(Zi:xa->(Int×Int×Unit)->Option (xa×(Int×Unit)))(a0:zC)(a1:zC)(a2:qI)(a3:Int)(a4:Int):sFl prg ⟨[],[(233,⟨uh,vU,vV,Zi⟩)],[]⟩ [(89,⟨Vk,Vl,Vt⟩)] AW (zy []) 30 187 Yp Yq (a0,a1,a2,a3,a4,())=fP Vt Zi a0 a1 a2 a3 a4:=by kernel_rfl
def Qx:(zC×zC×qI×Int×Int×Unit)->Option (Int×qI×Int×Unit):=sFl prg ⟨[],[(233,⟨uh,vU,vV,vW⟩)],[]⟩ [(89,⟨Vk,Vl,kC⟩)] AW (zy []) 30 187 Yp Yq
theorem SR:Con.Ok prg 187 ⟨Yp,Yq,Qx⟩:=Dw ⟨yO,(gK nq uS),uT⟩ (ze fv zn) qN (by kernel_rfl)
theorem SS(a0:zC)(a1:zC)(a2:qI)(a3:Int)(a4:Int):Qx (a0,a1,a2,a3,a4,())=fP kC vW a0 a1 a2 a3 a4:=zfP kC vW a0 a1 a2 a3 a4
abbrev xy:List VT:=[⟨false,(.list zV)⟩,⟨false,I⟩,⟨true,zV⟩]
abbrev xz:List VT:=[⟨false,(.list zV)⟩]
def QJ(a0:(List qI))(a1:Int)(a2:qI):Option ((List qI)×Unit):=bif(rr (lnC a0) (lnC a0) 24)then aTC (Wn (List.replicate (Int.toNat (lnC a0)) (0,0,0)) a0) a1 fun x0=>opt (gl (Wn (List.replicate (Int.toNat (lnC a0)) (0,0,0)) a0) (Int.toNat a1)) fun x1=>some (((Wn (List.replicate (Int.toNat (lnC a0)) (0,0,0)) a0) .set (Int.toNat a1) a2),())else none
abbrev QK:Type:=((List qI)×Int×qI×Unit)->Option ((List qI)×Unit)
def wc:QK:=opq (sF prg [] (zG [cdF zV] [] [] [] []) (zy []) 30 188 xy xz)
abbrev bf:Con:=⟨xy,xz,wc⟩
theorem Ut:Con.Ok prg 188 bf:=okF zn (by kernel_rfl)
theorem Uu(a0)(a1)(a2):wc (a0,a1,a2,())=QJ a0 a1 a2:=zA (by kernel_rfl)
abbrev xI:List VT:=[⟨false,I⟩,⟨true,qG⟩,⟨false,I⟩]
abbrev xJ:List VT:=[⟨false,I⟩]
def Xl:xi:=zG [cdF wk,cdF qe,cdF qG,cdF zV,cdF zr] [] [] [] [187]
def uE(UQ:(zC×zC×qI×Int×Int×Unit)->Option (Int×qI×Int×Unit))(xC:QK)(s:qZ)(a0:Int)(a1:zQ)(a2:Int):Option (qZ×(Int×Unit)):=lpC ((a0,0,0,()),()) (fun s0=>bif(zg s0.1.2.2.1 (lnC s.2.1))then aTC s.2.1 s0.1.2.2.1 fun x1=>bif zj x1.1 s0.1.1 then exC 1 ((s0.1.1,s0.1.2.2.1,s0.1.2.2.1,()),())else nxC ((s0.1.1,s0.1.2.1,(upC s0.1.2.2.1),()),())else exC 0 ((s0.1.1,s0.1.2.1,s0.1.2.2.1,()),())) fun x2=>bif jzC x2 then some (s,0,())else bif zg x2.2.1.2.1 0 then some (s,0,())else aTC s.2.1 x2.2.1.2.1 fun x3=>aTC s.2.2.2.2 x2.2.1.2.1 fun x4=>opt (UQ (x3.2.1,x3.2.2,x4,(w6C (a2+1000)),a1.2.2.2.1,())) fun x5=>bif !(zj x5.2.2.1 0)then some (s,5,())else opt (xC (s.2.2.2.2,x2.2.1.2.1,x5.2.1,())) fun x6=>bif zj x5.1 2 then some ((s.1,s.2.1,s.2.2.1,s.2.2.2.1,x6.1),5,())else some ((s.1,s.2.1,s.2.2.1,s.2.2.2.1,x6.1),0,())
theorem nt(UQ:(zC×zC×qI×Int×Int×Unit)->Option (Int×qI×Int×Unit))(xC:((List qI)×Int×qI×Unit)->Option ((List qI)×Unit))(s:qZ)(a0:Int)(a1:zQ)(a2:Int):sP prg ⟨[],[],[]⟩ [(187,⟨Yp,Yq,UQ⟩),(188,⟨xy,xz,xC⟩)] Xl (zy []) 30 122 wk xI xJ s (a0,a1,a2,())=uE UQ xC s a0 a1 a2:=by kernel_rfl
def jD:qZ->(Int×zQ×Int×Unit)->Option (qZ×(Int×Unit)):=sP prg ⟨[],[],[]⟩ [(187,⟨Yp,Yq,Qx⟩),(188,⟨xy,xz,wc⟩)] Xl (zy []) 30 122 wk xI xJ
theorem dm:Yc.Ok prg 122 ⟨wk,xI,xJ,jD⟩:=cZ ⟨yO,uS,uT⟩ (ze SR (ze Ut zn)) qN (by kernel_rfl)
theorem WB(s:qZ)(a0:Int)(a1:zQ)(a2:Int):jD s (a0,a1,a2,())=uE Qx wc s a0 a1 a2:=nt Qx wc s a0 a1 a2
abbrev xA:List VT:=[⟨true,wk⟩,⟨false,I⟩,⟨true,qG⟩]
abbrev xB:List VT:=[⟨false,I⟩]
def QL(a0:qZ)(a1:Int)(a2:zQ):Option (Int×Unit):=lpC ((a1,a2,0,0,()),()) (fun s0=>bif(zg s0.1.2.2.2.1 (lnC a0.1))then aTC a0.1 s0.1.2.2.2.1 fun x1=>bif zj x1.1 s0.1.1 then bif zj x1.2.1 s0.1.2.1.1 then bif zj x1.2.2.1 s0.1.2.1.2.2.1 then exC 1 ((s0.1.1,s0.1.2.1,s0.1.2.2.2.1,s0.1.2.2.2.1,()),())else nxC ((s0.1.1,s0.1.2.1,s0.1.2.2.1,(upC s0.1.2.2.2.1),()),())else nxC ((s0.1.1,s0.1.2.1,s0.1.2.2.1,(upC s0.1.2.2.2.1),()),())else nxC ((s0.1.1,s0.1.2.1,s0.1.2.2.1,(upC s0.1.2.2.2.1),()),())else exC 0 ((s0.1.1,s0.1.2.1,s0.1.2.2.1,s0.1.2.2.2.1,()),())) fun x2=>bif jzC x2 then some ((-1),())else some (x2.2.1.2.2.1,())
abbrev QM:Type:=(qZ×Int×zQ×Unit)->Option (Int×Unit)
def we:QM:=opq (sF prg [] (zG [cdF wk,cdF zU,cdF qG] [] [] [] []) (zy []) 30 124 xA xB)
abbrev QN:Con:=⟨xA,xB,we⟩
theorem ZV:Con.Ok prg 124 QN:=okF zn (by kernel_rfl)
theorem Uv(a0)(a1)(a2):we (a0,a1,a2,())=QL a0 a1 a2:=zA (by kernel_rfl)
abbrev Uw:List VT:=[⟨false,I⟩,⟨false,I⟩]
abbrev Ux:List VT:=[⟨false,I⟩]
def Fc(a0:Int)(a1:Int):Option (Int×Unit):=bif zj a1 0 then none else bif zj a1 0 then none else some ((Int.tmod (w6C ((Int.tmod a0 a1)+a1)) a1),())
abbrev Fe:Type:=(Int×Int×Unit)->Option (Int×Unit)
def Qy:Fe:=opq (sF prg [] (zG [] [] [] [] []) (zy []) 30 189 Uw Ux)
abbrev zfQ:Con:=⟨Uw,Ux,Qy⟩
theorem SU:Con.Ok prg 189 zfQ:=okF zn (by kernel_rfl)
theorem SW(a0)(a1):Qy (a0,a1,())=Fc a0 a1:=zA (by kernel_rfl)
abbrev uZ:List VT:=[⟨false,(.list I)⟩,⟨false,I⟩,⟨false,I⟩]
abbrev ka:List VT:=[⟨false,(.list I)⟩]
def Kk(a0:(List Int))(a1:Int)(a2:Int):Option ((List Int)×Unit):=bif(rr (lnC a0) (lnC a0) 8)then aTC (Wn (List.replicate (Int.toNat (lnC a0)) 0) a0) a1 fun x0=>opt (gl (Wn (List.replicate (Int.toNat (lnC a0)) 0) a0) (Int.toNat a1)) fun x1=>some (((Wn (List.replicate (Int.toNat (lnC a0)) 0) a0) .set (Int.toNat a1) a2),())else none
abbrev Kl:Type:=((List Int)×Int×Int×Unit)->Option ((List Int)×Unit)
def yc:Kl:=opq (sF prg [] (zG [] [] [] [] []) (zy []) 30 193 uZ ka)
abbrev pj:Con:=⟨uZ,ka,yc⟩
theorem fQ:Con.Ok prg 193 pj:=okF zn (by kernel_rfl)
theorem fR(a0)(a1)(a2):yc (a0,a1,a2,())=Kk a0 a1 a2:=zA (by kernel_rfl)
abbrev yC:List VT:=[⟨false,I⟩,⟨true,qG⟩,⟨false,I⟩]
abbrev yD:List VT:=[⟨false,I⟩]
def JL:xi:=zG [cdF wk,cdF zU,cdF qG] [] [] [] [124,189]
def vg(xD:QM)(UR:Fe)(kj:Kl)(s:qZ)(a0:Int)(a1:zQ)(a2:Int):Option (qZ×(Int×Unit)):=opt (xD (s,a0,a1,())) fun x0=>bif zg x0.1 0 then some (s,1,())else aTC s.1 x0.1 fun x1=>bif zj x1.2.2.1 6 then bif zg x1.2.2.2.1 a1.2.2.2.1 then some (s,2,())else some (s,0,())else opt (UR ((w6C (a2 - x1.2.2.2.2.2.1)),x1.2.2.2.2.1,())) fun x2=>bif zj x1.2.2.2.2.1 0 then none else lpC ((0,0,()),()) (fun s3=>bif zg s3.1.2.1 3 then bif zj s3.1.2.1 0 then bif !(zj a1.2.2.2.1 x1.2.2.2.1)then exC 0 ((2,s3.1.2.1,()),())else nxC ((s3.1.1,(upC s3.1.2.1),()),())else bif zj s3.1.2.1 1 then bif(zg (w6C (Int.tdiv (w6C ((w6C (a2 - x1.2.2.2.2.2.1)) - x2.1)) x1.2.2.2.2.1)) 0)then exC 0 ((3,s3.1.2.1,()),())else bif(zg (w6C (x1.2.2.2.2.2.2 - x1.2.2.2.2.2.1)) x2.1)then exC 0 ((3,s3.1.2.1,()),())else nxC ((s3.1.1,(upC s3.1.2.1),()),())else bif zj s3.1.2.1 2 then aTC s.2.2.2.1 x0.1 fun x4=>bif(!(zg x4 (w6C (Int.tdiv (w6C ((w6C (a2 - x1.2.2.2.2.2.1)) - x2.1)) x1.2.2.2.2.1))))then exC 0 ((4,s3.1.2.1,()),())else nxC ((s3.1.1,(upC s3.1.2.1),()),())else none else exC 0 ((s3.1.1,s3.1.2.1,()),())) fun x5=>opt (bif zj x5.2.1.1 0 then opt (kj (s.2.2.2.1,x0.1,(w6C (Int.tdiv (w6C ((w6C (a2 - x1.2.2.2.2.2.1)) - x2.1)) x1.2.2.2.2.1)),())) fun x6=>some (0,(x0.1,(w6C (Int.tdiv (w6C ((w6C (a2 - x1.2.2.2.2.2.1)) - x2.1)) x1.2.2.2.2.1)),(s.1,s.2.1,s.2.2.1,x6.1,s.2.2.2.2),()),())else some (0,(x0.1,(w6C (Int.tdiv (w6C ((w6C (a2 - x1.2.2.2.2.2.1)) - x2.1)) x1.2.2.2.2.1)),s,()),())) fun x7=>some (x7.2.1.2.2.1,x5.2.1.1,())
theorem dn(xD:(qZ×Int×zQ×Unit)->Option (Int×Unit))(UR:(Int×Int×Unit)->Option (Int×Unit))(kj:((List Int)×Int×Int×Unit)->Option ((List Int)×Unit))(s:qZ)(a0:Int)(a1:zQ)(a2:Int):sP prg ⟨[],[],[]⟩ [(124,⟨xA,xB,xD⟩),(189,⟨Uw,Ux,UR⟩),(193,⟨uZ,ka,kj⟩)] JL (zy []) 30 123 wk yC yD s (a0,a1,a2,())=vg xD UR kj s a0 a1 a2:=by kernel_rfl
def je:qZ->(Int×zQ×Int×Unit)->Option (qZ×(Int×Unit)):=sP prg ⟨[],[],[]⟩ [(124,⟨xA,xB,we⟩),(189,⟨Uw,Ux,Qy⟩),(193,⟨uZ,ka,yc⟩)] JL (zy []) 30 123 wk yC yD
theorem GP:Yc.Ok prg 123 ⟨wk,yC,yD,je⟩:=cZ ⟨yO,uS,uT⟩ (ze ZV (ze SU (ze fQ zn))) qN (by kernel_rfl)
theorem Qz(s:qZ)(a0:Int)(a1:zQ)(a2:Int):je s (a0,a1,a2,())=vg we Qy yc s a0 a1 a2:=dn we Qy yc s a0 a1 a2
abbrev JM:List VT:=[⟨true,qo⟩,⟨false,I⟩,⟨true,qG⟩,⟨false,I⟩]
abbrev JN:List VT:=[⟨true,qo⟩,⟨false,I⟩,⟨false,I⟩]
def pk:xi:=zG [cdF qo,cdF zU,cdF qe,cdF qG,cdF zV,cdF zr] [] [] [] [43,88,121,122,123]
def bN(Xf:oS)(Qa:lY)(Qb:aZ)(uF:qZ->(Int×zQ×Int×Unit)->Option (qZ×(Int×Unit)))(yE:qZ->(Int×zQ×Int×Unit)->Option (qZ×(Int×Unit)))(a0:zK)(a1:Int)(a2:zQ)(a3:Int):Option (zK×Int×Int×Unit):=opt (Xf (a0,())) fun x0=>bif !(zj x0.1 0)then some (([],[],0,[],[]),0,x0.1,())else opt (Qa (a1,0,47,())) fun x1=>bif !x1.1 then some (([],[],0,[],[]),0,2,())else opt (Qb (a2,())) fun x2=>bif !x2.1 then some (([],[],0,[],[]),0,460,())else opt (Qa (a3,a0.2.2.1,549755813888,())) fun x3=>bif !x3.1 then some (([],[],0,[],[]),0,2,())else bif zj a2.2.2.1 7 then opt (yE (a0.1,a0.2.1,a3,a0.2.2.2) (a1,a2,a3,())) fun x4=>some (x4.1,x4.2.1,0,())else bif zj a2.2.2.1 6 then opt (yE (a0.1,a0.2.1,a3,a0.2.2.2) (a1,a2,a3,())) fun x5=>some (x5.1,x5.2.1,0,())else opt (uF (a0.1,a0.2.1,a3,a0.2.2.2) (a1,a2,a3,())) fun x6=>some (x6.1,x6.2.1,0,())
theorem zdb(Xf:(zK×Unit)->Option (Int×Unit))(Qa:(Int×Int×Int×Unit)->Option (Bool×Unit))(Qb:(zQ×Unit)->Option (Bool×Unit))(uF:qZ->(Int×zQ×Int×Unit)->Option (qZ×(Int×Unit)))(yE:qZ->(Int×zQ×Int×Unit)->Option (qZ×(Int×Unit)))(a0:zK)(a1:Int)(a2:zQ)(a3:Int):sFl prg ⟨[],[(122,⟨wk,xI,xJ,uF⟩),(123,⟨wk,yC,yD,yE⟩)],[]⟩ [(43,⟨YV,YW,Xf⟩),(88,⟨Wu,Wv,Qa⟩),(121,⟨ZT,ZU,Qb⟩)] pk (fun _ _=>false) 30 70 JM JN (a0,a1,a2,a3,())=bN Xf Qa Qb uF yE a0 a1 a2 a3:=by kernel_rfl
def vQ:(zK×Int×zQ×Int×Unit)->Option (zK×Int×Int×Unit):=sFl prg ⟨[],[(122,⟨wk,xI,xJ,jD⟩),(123,⟨wk,yC,yD,je⟩)],[]⟩ [(43,⟨YV,YW,xY⟩),(88,⟨Wu,Wv,qW⟩),(121,⟨ZT,ZU,yT⟩)] pk (fun _ _=>false) 30 70 JM JN
theorem Oi:Con.Ok prg 70 ⟨JM,JN,vQ⟩:=Dw ⟨yO,(gK dm (gK GP uS)),uT⟩ (ze Xp (ze uN (ze Kj zn))) qN (by kernel_rfl)
theorem Oj(a0:zK)(a1:Int)(a2:zQ)(a3:Int):vQ (a0,a1,a2,a3,())=bN xY qW yT jD je a0 a1 a2 a3:=zdb xY qW yT jD je a0 a1 a2 a3
abbrev gQ:List VT:=[]
abbrev gR:List VT:=[⟨false,.bool⟩]
def cj:xi:=zG [cdF qw,cdF qP,cdF qo,cdF zU,cdF jd,cdF qh,cdF qe,cdF qG,cdF yx,cdF zV,cdF zr] [] [] [] [67]
def VR(Vu:(zK×Int×zQ×Int×Unit)->Option (zK×Int×Int×Unit))(ju:zM->(Int×Unit)->Option (zM×(Bool×Unit)))(s:zM):Option (zM×(Bool×Unit)):=opt (Vu (s.1.2.1,s.2.1,s.2.2.1,(w6C (s.2.2.2.1+s.1.1)),())) fun x0=>bif !(zj x0.2.2.1 0)then some (s,false,())else bif !(zj x0.2.1 0)then opt (ju ((s.1.1,x0.1,s.1.2.2),s.2) (x0.2.1,())) fun x1=>some (x1.1,x1.2.1,())else some (((s.1.1,x0.1,s.1.2.2),s.2),false,())
theorem Ol(Vu:(zK×Int×zQ×Int×Unit)->Option (zK×Int×Int×Unit))(ju:zM->(Int×Unit)->Option (zM×(Bool×Unit)))(s:zM):sP prg ⟨[],[(67,⟨qw,yk,yl,ju⟩)],[]⟩ [(70,⟨JM,JN,Vu⟩)] cj (zy []) 30 29 qw gQ gR s ()=VR Vu ju s:=by kernel_rfl
def xR:zM->(Unit)->Option (zM×(Bool×Unit)):=sP prg ⟨[],[(67,⟨qw,yk,yl,wG⟩)],[]⟩ [(70,⟨JM,JN,vQ⟩)] cj (zy []) 30 29 qw gQ gR
theorem BW:Yc.Ok prg 29 ⟨qw,gQ,gR,xR⟩:=cZ ⟨yO,(gK Wh uS),uT⟩ (ze Oi zn) qN (by kernel_rfl)
theorem BX(s:zM):xR s ()=VR vQ wG s:=Ol vQ wG s
abbrev gS:List VT:=[]
abbrev gT:List VT:=[⟨false,.bool⟩]
def cm:xi:=zG [cdF qw,cdF qP,cdF qo,cdF zU,cdF jd,cdF qh,cdF qe,cdF qG,cdF yx,cdF zV,cdF zr] [] [] [] []
def VS(s:zM):Option (zM×(Bool×Unit)):=bif !(zg s.2.2.1.2.2.1 6)then some (s,false,())else some ((s.1,s.2.1,s.2.2.1,s.2.2.2.1,5,0,0,0),true,())
theorem Om  (s:zM):sP prg ⟨[],[],[]⟩ [] cm (zy []) 30 30 qw gS gT s ()=VS  s:=by kernel_rfl
def yU:zM->(Unit)->Option (zM×(Bool×Unit)):=sP prg ⟨[],[],[]⟩ [] cm (zy []) 30 30 qw gS gT
theorem BY:Yc.Ok prg 30 ⟨qw,gS,gT,yU⟩:=cZ ⟨yO,uS,uT⟩ zn qN (by kernel_rfl)
theorem BZ(s:zM):yU s ()=VS  s:=Om  s
abbrev Vn:List VT:=[⟨true,qo⟩,⟨false,I⟩,⟨true,qG⟩]
abbrev Vo:List VT:=[⟨false,I⟩,⟨false,I⟩]
def AX(a0:zK)(a1:Int)(a2:zQ):Option (Int×Int×Unit):=opt (xY (a0,())) fun x0=>bif !(zj x0.1 0)then some (0,x0.1,())else opt (yT (a2,())) fun x1=>bif !x1.1 then some (0,460,())else opt (we (a0,a1,a2,())) fun x2=>some (x2.1,0,())
abbrev AY:Type:=(zK×Int×zQ×Unit)->Option (Int×Int×Unit)
def kD:AY:=opq (sF prg [(43,GN),(121,bc),(124,QN)] (zG [cdF qo,cdF zU,cdF qe,cdF qG,cdF zV,cdF zr] [] [] [] [43,121,124]) (zy []) 30 71 Vn Vo)
abbrev zdc:Con:=⟨Vn,Vo,kD⟩
theorem On:Con.Ok prg 71 zdc:=okF (ze Xp (ze Kj (ze ZV zn))) (by kernel_rfl)
theorem Oo(a0)(a1)(a2):kD (a0,a1,a2,())=AX a0 a1 a2:=zA (by kernel_rfl)
abbrev vX:List VT:=[⟨false,I⟩,⟨false,I⟩]
abbrev vY:List VT:=[⟨false,.bool⟩]
def Uy:xi:=zG [cdF qw,cdF qP,cdF qo,cdF zU,cdF jd,cdF qh,cdF qe,cdF qG,cdF Kd,cdF zV,cdF zr] [] [] [] []
def Gg(s:zM)(a0:Int)(a1:Int):Option (zM×(Bool×Unit)):=some ((s.1,s.2.1,s.2.2.1,s.2.2.2.1,2,a0,a1,0),true,())
theorem Ca  (s:zM) (a0:Int) (a1:Int):sP prg ⟨[],[],[]⟩ [] Uy (zy []) 30 72 qw vX vY s (a0,a1,())=Gg  s a0 a1:=by kernel_rfl
def vZ:zM->(Int×Int×Unit)->Option (zM×(Bool×Unit)):=sP prg ⟨[],[],[]⟩ [] Uy (zy []) 30 72 qw vX vY
theorem nu:Yc.Ok prg 72 ⟨qw,vX,vY,vZ⟩:=cZ ⟨yO,uS,uT⟩ zn qN (by kernel_rfl)
theorem XS(s:zM)(a0:Int)(a1:Int):vZ s (a0,a1,())=Gg  s a0 a1:=Ca  s a0 a1
abbrev AZ:List VT:=[⟨false,(.list I)⟩]
abbrev Ba:List VT:=[⟨false,.bool⟩]
def Bb(a0:(List Int)):Option (Bool×Unit):=lpC ((false,0,()),()) (fun s0=>bif(zg s0.1.2.1 (lnC a0))then aTC a0 s0.1.2.1 fun x1=>opt (bif zg x1 (-1125899906842624)then some (1,(false,()),())else bif zg 1125899906842624 x1 then some (1,(false,()),())else some (0,(s0.1.1,()),())) fun x2=>bif jzC x2 then nxC ((x2.2.1.1,(upC s0.1.2.1),()),())else exC 1 ((x2.2.1.1,s0.1.2.1,()),())else exC 0 ((s0.1.1,s0.1.2.1,()),())) fun x3=>bif jzC x3 then some (true,())else some (x3.2.1.1,())
abbrev zdd:Type:=((List Int)×Unit)->Option (Bool×Unit)
def JO:zdd:=opq (sF prg [] (zG [] [] [] [] []) (zy []) 30 257 AZ Ba)
abbrev bO:Con:=⟨AZ,Ba,JO⟩
theorem fS:Con.Ok prg 257 bO:=okF zn (by kernel_rfl)
theorem Oq(a0):JO (a0,())=Bb a0:=zA (by kernel_rfl)
abbrev ml:List VT:=[⟨false,I⟩]
abbrev mm:List VT:=[⟨false,(.int .u64)⟩]
def Uz(a0:Int):Option (Int×Unit):=bif zg a0 0 then some ((wrF .u64 (w6C (0 - a0))),())else some ((wrF .u64 a0),())
abbrev SX:Type:=(Int×Unit)->Option (Int×Unit)
def ke:SX:=opq (sF prg [] (zG [] [] [] [] []) (zy []) 30 259 ml mm)
abbrev mn:Con:=⟨ml,mm,ke⟩
theorem Ff:Con.Ok prg 259 mn:=okF zn (by kernel_rfl)
theorem bg(a0):ke (a0,())=Uz a0:=zA (by kernel_rfl)
abbrev cn:List VT:=[⟨false,(.int .u64)⟩,⟨false,(.int .u64)⟩]
abbrev cp:List VT:=[⟨false,(.int .u64)⟩,⟨false,(.int .u64)⟩]
def cq(a0:Int)(a1:Int):Option (Int×Int×Unit):=some ((wrF .u64 ((wrF .u64 ((wrF .u64 ((wF .u64 a0 32)*(wF .u64 a1 32)))+(wF .u64 (wrF .u64 ((wrF .u64 ((wF .u64 a0 32)*(wO .and .u64 a1 4294967295)))+(wF .u64 (wrF .u64 ((wO .and .u64 a0 4294967295)*(wO .and .u64 a1 4294967295))) 32))) 32)))+(wF .u64 (wrF .u64 ((wO .and .u64 (wrF .u64 ((wrF .u64 ((wF .u64 a0 32)*(wO .and .u64 a1 4294967295)))+(wF .u64 (wrF .u64 ((wO .and .u64 a0 4294967295)*(wO .and .u64 a1 4294967295))) 32))) 4294967295)+(wrF .u64 ((wO .and .u64 a0 4294967295)*(wF .u64 a1 32))))) 32))),(wrF .u64 (a0*a1)),())
abbrev Il:Type:=(Int×Int×Unit)->Option (Int×Int×Unit)
def Qm:Il:=opq (sF prg [] (zG [] [] [] [] []) (zy []) 30 258 cn cp)
abbrev cr:Con:=⟨cn,cp,Qm⟩
theorem sg:Con.Ok prg 258 cr:=okF zn (by kernel_rfl)
theorem si(a0)(a1):Qm (a0,a1,())=cq a0 a1:=zA (by kernel_rfl)
abbrev Xq:List VT:=[⟨false,(.int .u64)⟩]
abbrev Xr:List VT:=[⟨false,I⟩]
def Fg:xi:=zG [] [] [] [] []
def cu:(Int×Unit)->Option (Int×Unit):=sF prg [] Fg (zy []) 30 323 Xq Xr
theorem sj:Con.Ok prg 323 ⟨Xq,Xr,cu⟩:=Rn zn qN (by kernel_rfl)
abbrev kF:List VT:=[⟨false,(.int .u64)⟩]
abbrev kG:List VT:=[⟨false,I⟩]
def bh:xi:=zG [] [] [] [] [323]
def kI:(Int×Unit)->Option (Int×Unit):=sF prg [(323,⟨Xq,Xr,cu⟩)] bh (zy []) 30 294 kF kG
theorem UT:Con.Ok prg 294 ⟨kF,kG,kI⟩:=Rn (ze sj zn) qN (by kernel_rfl)
abbrev cv:List VT:=[⟨false,(.int .u64)⟩,⟨false,(.int .u64)⟩,⟨false,(.int .u64)⟩]
abbrev cw:List VT:=[⟨false,(.int .u64)⟩,⟨false,(.int .u64)⟩]
def cA(a0:Int)(a1:Int)(a2:Int):Option (Int×Int×Unit):=opt (bif zj a2 0 then none else some (0,(),())) fun x0=>opt (bif !(zg a0 a2)then none else some (0,(),())) fun x1=>bif zj a0 0 then bif zj a2 0 then none else bif zj a2 0 then none else some ((wrF .u64 (Int.tdiv a1 a2)),(Int.tmod a1 a2),())else opt (kI (a2,())) fun x2=>bif zg (wrF .u64 x2.1) 0 then none else bif zg (wrF .u64 x2.1) 0 then none else bif(zg (wrF .u64 (64 - (wrF .u64 x2.1))) 0)then none else bif zg (wrF .u64 x2.1) 0 then none else bif(zj (wF .u64 (wh .u64 a2 (wrF .u64 x2.1)) 32) 0)then none else lpC (((wrF .u64 (Int.tdiv (wO .or .u64 (wh .u64 a0 (wrF .u64 x2.1)) (wF .u64 a1 (wrF .u64 (64 - (wrF .u64 x2.1))))) (wF .u64 (wh .u64 a2 (wrF .u64 x2.1)) 32))),(wrF .u64 ((wO .or .u64 (wh .u64 a0 (wrF .u64 x2.1)) (wF .u64 a1 (wrF .u64 (64 - (wrF .u64 x2.1))))) - (wrF .u64 ((wrF .u64 (Int.tdiv (wO .or .u64 (wh .u64 a0 (wrF .u64 x2.1)) (wF .u64 a1 (wrF .u64 (64 - (wrF .u64 x2.1))))) (wF .u64 (wh .u64 a2 (wrF .u64 x2.1)) 32)))*(wF .u64 (wh .u64 a2 (wrF .u64 x2.1)) 32))))),()),()) (fun s3=>bif !(zg s3.1.1 4294967296)then bif(!(zg (wrF .u64 (s3.1.2.1+(wF .u64 (wh .u64 a2 (wrF .u64 x2.1)) 32))) 4294967296))then exC 0 (((wrF .u64 (s3.1.1 - 1)),(wrF .u64 (s3.1.2.1+(wF .u64 (wh .u64 a2 (wrF .u64 x2.1)) 32))),()),())else nxC (((wrF .u64 (s3.1.1 - 1)),(wrF .u64 (s3.1.2.1+(wF .u64 (wh .u64 a2 (wrF .u64 x2.1)) 32))),()),())else bif(zg (wrF .u64 ((wrF .u64 (4294967296*s3.1.2.1))+(wF .u64 (wh .u64 a1 (wrF .u64 x2.1)) 32))) (wrF .u64 (s3.1.1*(wO .and .u64 (wh .u64 a2 (wrF .u64 x2.1)) 4294967295))))then bif(!(zg (wrF .u64 (s3.1.2.1+(wF .u64 (wh .u64 a2 (wrF .u64 x2.1)) 32))) 4294967296))then exC 0 (((wrF .u64 (s3.1.1 - 1)),(wrF .u64 (s3.1.2.1+(wF .u64 (wh .u64 a2 (wrF .u64 x2.1)) 32))),()),())else nxC (((wrF .u64 (s3.1.1 - 1)),(wrF .u64 (s3.1.2.1+(wF .u64 (wh .u64 a2 (wrF .u64 x2.1)) 32))),()),())else exC 0 ((s3.1.1,s3.1.2.1,()),())) fun x4=>bif(zj (wF .u64 (wh .u64 a2 (wrF .u64 x2.1)) 32) 0)then none else lpC (((wrF .u64 (Int.tdiv (wrF .u64 ((wrF .u64 ((wrF .u64 ((wO .or .u64 (wh .u64 a0 (wrF .u64 x2.1)) (wF .u64 a1 (wrF .u64 (64 - (wrF .u64 x2.1)))))*4294967296))+(wF .u64 (wh .u64 a1 (wrF .u64 x2.1)) 32))) - (wrF .u64 (x4.2.1.1*(wh .u64 a2 (wrF .u64 x2.1)))))) (wF .u64 (wh .u64 a2 (wrF .u64 x2.1)) 32))),(wrF .u64 ((wrF .u64 ((wrF .u64 ((wrF .u64 ((wO .or .u64 (wh .u64 a0 (wrF .u64 x2.1)) (wF .u64 a1 (wrF .u64 (64 - (wrF .u64 x2.1)))))*4294967296))+(wF .u64 (wh .u64 a1 (wrF .u64 x2.1)) 32))) - (wrF .u64 (x4.2.1.1*(wh .u64 a2 (wrF .u64 x2.1)))))) - (wrF .u64 ((wrF .u64 (Int.tdiv (wrF .u64 ((wrF .u64 ((wrF .u64 ((wO .or .u64 (wh .u64 a0 (wrF .u64 x2.1)) (wF .u64 a1 (wrF .u64 (64 - (wrF .u64 x2.1)))))*4294967296))+(wF .u64 (wh .u64 a1 (wrF .u64 x2.1)) 32))) - (wrF .u64 (x4.2.1.1*(wh .u64 a2 (wrF .u64 x2.1)))))) (wF .u64 (wh .u64 a2 (wrF .u64 x2.1)) 32)))*(wF .u64 (wh .u64 a2 (wrF .u64 x2.1)) 32))))),()),()) (fun s5=>bif !(zg s5.1.1 4294967296)then bif(!(zg (wrF .u64 (s5.1.2.1+(wF .u64 (wh .u64 a2 (wrF .u64 x2.1)) 32))) 4294967296))then exC 0 (((wrF .u64 (s5.1.1 - 1)),(wrF .u64 (s5.1.2.1+(wF .u64 (wh .u64 a2 (wrF .u64 x2.1)) 32))),()),())else nxC (((wrF .u64 (s5.1.1 - 1)),(wrF .u64 (s5.1.2.1+(wF .u64 (wh .u64 a2 (wrF .u64 x2.1)) 32))),()),())else bif(zg (wrF .u64 ((wrF .u64 (4294967296*s5.1.2.1))+(wO .and .u64 (wh .u64 a1 (wrF .u64 x2.1)) 4294967295))) (wrF .u64 (s5.1.1*(wO .and .u64 (wh .u64 a2 (wrF .u64 x2.1)) 4294967295))))then bif(!(zg (wrF .u64 (s5.1.2.1+(wF .u64 (wh .u64 a2 (wrF .u64 x2.1)) 32))) 4294967296))then exC 0 (((wrF .u64 (s5.1.1 - 1)),(wrF .u64 (s5.1.2.1+(wF .u64 (wh .u64 a2 (wrF .u64 x2.1)) 32))),()),())else nxC (((wrF .u64 (s5.1.1 - 1)),(wrF .u64 (s5.1.2.1+(wF .u64 (wh .u64 a2 (wrF .u64 x2.1)) 32))),()),())else exC 0 ((s5.1.1,s5.1.2.1,()),())) fun x6=>bif zg (wrF .u64 x2.1) 0 then none else some ((wrF .u64 ((wrF .u64 (x4.2.1.1*4294967296))+x6.2.1.1)),(wF .u64 (wrF .u64 ((wrF .u64 ((wrF .u64 ((wrF .u64 ((wrF .u64 ((wrF .u64 ((wO .or .u64 (wh .u64 a0 (wrF .u64 x2.1)) (wF .u64 a1 (wrF .u64 (64 - (wrF .u64 x2.1)))))*4294967296))+(wF .u64 (wh .u64 a1 (wrF .u64 x2.1)) 32))) - (wrF .u64 (x4.2.1.1*(wh .u64 a2 (wrF .u64 x2.1))))))*4294967296))+(wO .and .u64 (wh .u64 a1 (wrF .u64 x2.1)) 4294967295))) - (wrF .u64 (x6.2.1.1*(wh .u64 a2 (wrF .u64 x2.1)))))) (wrF .u64 x2.1)),())
abbrev Im:Type:=(Int×Int×Int×Unit)->Option (Int×Int×Unit)
def Qn:Im:=opq (sF prg [(294,⟨kF,kG,kI⟩)] (zG [] [] [] [] [294]) (zy []) 30 260 cv cw)
abbrev cB:Con:=⟨cv,cw,Qn⟩
theorem sk:Con.Ok prg 260 cB:=okF (ze UT zn) (by kernel_rfl)
theorem sm(a0)(a1)(a2):Qn (a0,a1,a2,())=cA a0 a1 a2:=zA (by kernel_rfl)
abbrev Bc:List VT:=[⟨false,I⟩]
abbrev Bd:List VT:=[⟨false,I⟩,⟨false,.bool⟩]
def Be(a0:Int):Option (Int×Bool×Unit):=opt (JO ((a0::[]),())) fun x0=>bif !x0.1 then some (0,false,())else some (a0,true,())
abbrev zde:Type:=(Int×Unit)->Option (Int×Bool×Unit)
def Zt:zde:=opq (sF prg [(257,bO)] (zG [] [] [] [] [257]) (zy []) 30 261 Bc Bd)
abbrev Bf:Con:=⟨Bc,Bd,Zt⟩
theorem Ot:Con.Ok prg 261 Bf:=okF (ze fS zn) (by kernel_rfl)
theorem Ou(a0):Zt (a0,())=Be a0:=zA (by kernel_rfl)
abbrev Fh:List VT:=[⟨false,I⟩,⟨false,I⟩,⟨false,I⟩]
abbrev Fi:List VT:=[⟨false,I⟩,⟨false,.bool⟩]
def Fj(a0:Int)(a1:Int)(a2:Int):Option (Int×Bool×Unit):=opt (opt (JO ((a0::(a1::(a2::[]))),())) fun x0=>bif !x0.1 then some (1,(0,false,()),())else bif zg a2 1 then some (1,(0,false,()),())else some (0,(0,false,()),())) fun x1=>bif jzC x1 then opt (ke (a0,())) fun x2=>opt (ke (a1,())) fun x3=>opt (Qm (x2.1,x3.1,())) fun x4=>bif(!(zg x4.1 (wrF .u64 a2)))then some (0,false,())else opt (Qn (x4.1,x4.2.1,(wrF .u64 a2),())) fun x5=>bif zg 1125899906842624 x5.1 then some (0,false,())else opt (bif(!((zg a0 0) == (zg a1 0)))then opt (bif !(zj x5.2.1 0)then some (0,((w6C ((w6C (0 - (w6C x5.1))) - 1)),()),())else some (0,((w6C (0 - (w6C x5.1))),()),())) fun x6=>some (0,(x6.2.1.1,()),())else some (0,((w6C x5.1),()),())) fun x7=>opt (Zt (x7.2.1.1,())) fun x8=>some (x8.1,x8.2.1,())else some (x1.2.1.1,x1.2.1.2.1,())
abbrev zfR:Type:=(Int×Int×Int×Unit)->Option (Int×Bool×Unit)
def UA:zfR:=opq (sF prg [(257,bO),(259,mn),(258,cr),(260,cB),(261,Bf)] (zG [] [] [] [] [257,259,258,260,261]) (zy []) 30 234 Fh Fi)
abbrev Fk:Con:=⟨Fh,Fi,UA⟩
theorem SY:Con.Ok prg 234 Fk:=okF (ze fS (ze Ff (ze sg (ze sk (ze Ot zn))))) (by kernel_rfl)
theorem SZ(a0)(a1)(a2):UA (a0,a1,a2,())=Fj a0 a1 a2:=zA (by kernel_rfl)
abbrev Bg:List VT:=[⟨false,I⟩,⟨false,I⟩]
abbrev Bh:List VT:=[⟨false,I⟩,⟨false,.bool⟩]
def Bi(a0:Int)(a1:Int):Option (Int×Bool×Unit):=opt (UA (a0,(-1),a1,())) fun x0=>some ((w6C (0 - x0.1)),x0.2.1,())
abbrev zdf:Type:=(Int×Int×Unit)->Option (Int×Bool×Unit)
def JP:zdf:=opq (sF prg [(234,Fk)] (zG [] [] [] [] [234]) (zy []) 30 197 Bg Bh)
abbrev Bj:Con:=⟨Bg,Bh,JP⟩
theorem Ov:Con.Ok prg 197 Bj:=okF (ze SY zn) (by kernel_rfl)
theorem Ow(a0)(a1):JP (a0,a1,())=Bi a0 a1:=zA (by kernel_rfl)
abbrev fT:List VT:=[⟨true,zr⟩,⟨true,yZ⟩,⟨false,I⟩,⟨false,I⟩]
abbrev fU:List VT:=[⟨false,I⟩,⟨true,yZ⟩]
def fV(a0:zC)(a1:js)(a2:Int)(a3:Int):Option (Int×js×Unit):=opt (JP ((jS 0 (w6C ((w6C (a3*1048576)) - (wK (w6C (a0.1*1048576)) (w6C (a1.2+(w6C (a0.2*(w6C ((jS a2 a1.1) - a1.1)))))))))),a0.2,())) fun x0=>some ((w6C ((jS a2 a1.1)+x0.1)),((w6C ((jS a2 a1.1)+x0.1)),(w6C ((wK (w6C (a0.1*1048576)) (w6C (a1.2+(w6C (a0.2*(w6C ((w6C ((jS a2 a1.1)+x0.1)) - a1.1))))))) - (w6C (a3*1048576))))),())
abbrev Ox:Type:=(zC×js×Int×Int×Unit)->Option (Int×js×Unit)
def Ji:Ox:=opq (sF prg [(197,Bj)] (zG [cdF zr] [] [] [] [197]) (zy []) 30 125 fT fU)
abbrev fW:Con:=⟨fT,fU,Ji⟩
theorem Cb:Con.Ok prg 125 fW:=okF (ze Ov zn) (by kernel_rfl)
theorem Cc(a0)(a1)(a2)(a3):Ji (a0,a1,a2,a3,())=fV a0 a1 a2 a3:=zA (by kernel_rfl)
abbrev Jj:List VT:=[⟨true,zr⟩,⟨true,yZ⟩,⟨false,I⟩,⟨false,I⟩]
abbrev Jk:List VT:=[⟨false,I⟩,⟨true,yZ⟩,⟨false,I⟩]
def fX(a0:zC)(a1:js)(a2:Int)(a3:Int):Option (Int×js×Int×Unit):=opt (JJ (a0,a1,())) fun x0=>bif !(zj x0.1 0)then some (0,(0,0),x0.1,())else opt (bif zg a2 0 then some (1,((0,0),0,2,()),())else bif zg 1099511627776 a2 then some (1,((0,0),0,2,()),())else bif zg a3 1 then some (1,((0,0),0,2,()),())else bif zg 1048576 a3 then some (1,((0,0),0,2,()),())else some (0,((0,0),0,0,()),())) fun x1=>bif jzC x1 then bif zg a0.1 a3 then some (0,(0,0),4,())else opt (Ji (a0,a1,a2,a3,())) fun x2=>bif zg 1099511627776 x2.1 then some (0,(0,0),6,())else some (x2.1,x2.2.1,0,())else some (x1.2.1.2.1,x1.2.1.1,x1.2.1.2.2.1,())
abbrev fY:Type:=(zC×js×Int×Int×Unit)->Option (Int×js×Int×Unit)
def xS:fY:=opq (sF prg [(91,bJ),(125,fW)] (zG [cdF zr] [] [] [] [91,125]) (zy []) 30 73 Jj Jk)
abbrev Oy:Con:=⟨Jj,Jk,xS⟩
theorem Cd:Con.Ok prg 73 Oy:=okF (ze fx (ze Cb zn)) (by kernel_rfl)
theorem Ce(a0)(a1)(a2)(a3):xS (a0,a1,a2,a3,())=fX a0 a1 a2 a3:=zA (by kernel_rfl)
abbrev gU:List VT:=[]
abbrev gV:List VT:=[⟨false,.bool⟩]
def cC:xi:=zG [cdF qw,cdF qP,cdF qo,cdF zU,cdF jd,cdF qh,cdF qe,cdF qG,cdF yx,cdF zV,cdF zr] [] [⟨1,8,some 2,jd,true⟩] [] [71,72,73,67]
def VU(Vv:AY)(ub:zM->(Int×Int×Unit)->Option (zM×(Bool×Unit)))(Jq:fY)(ju:zM->(Int×Unit)->Option (zM×(Bool×Unit)))(s:zM):Option (zM×(Bool×Unit)):=opt (Vv (s.1.2.1,s.2.1,s.2.2.1,())) fun x0=>opt (bif !(zj x0.2.1 0)then some (1,(false,()),())else bif zg x0.1 0 then some (1,(false,()),())else bif(!(zg x0.1 (lnC s.1.2.2.1)))then some (1,(false,()),())else some (0,(false,()),())) fun x1=>bif jzC x1 then aTC s.1.2.2.1 x0.1 fun x2=>bif zj s.2.2.1.2.2.1 7 then opt (ub s (x2.1,s.2.2.2.1,())) fun x3=>some (x3.1,x3.2.1,())else opt (Jq (x2.2.1,x2.2.2.2,s.2.2.2.1,s.2.2.1.2.2.2.1,())) fun x4=>opt (bif !(zj x4.2.2.1 0)then opt (ju s (21,())) fun x5=>some (1,(x5.1,x5.2.1,()),())else bif(zg x2.2.2.1 (w6C (x4.1 - s.2.2.2.1)))then opt (ju s (21,())) fun x6=>some (1,(x6.1,x6.2.1,()),())else some (0,(s,x1.2.1.1,()),())) fun x7=>bif jzC x7 then bif dP x7.2.1.1.1.2.2.1 then bif qb 0 x7.2.1.1.1.2.2.1.length 48 then aTC x7.2.1.1.1.2.2.1 x0.1 fun x8=>opt (gl x7.2.1.1.1.2.2.1 (Int.toNat x0.1)) fun x9=>opt (ub ((x7.2.1.1.1.1,x7.2.1.1.1.2.1,(x7.2.1.1.1.2.2.1.set (Int.toNat x0.1) (x2.1,x2.2.1,x2.2.2.1,x4.2.1)),x7.2.1.1.1.2.2.2),x7.2.1.1.2) (x2.1,x4.1,())) fun x10=>some (x10.1,x10.2.1,())else none else none else some (x7.2.1.1,x7.2.1.2.1,())else some (s,x1.2.1.1,())
theorem Oz(Vv:(zK×Int×zQ×Unit)->Option (Int×Int×Unit))(ub:zM->(Int×Int×Unit)->Option (zM×(Bool×Unit)))(Jq:(zC×js×Int×Int×Unit)->Option (Int×js×Int×Unit))(ju:zM->(Int×Unit)->Option (zM×(Bool×Unit)))(s:zM):sP prg ⟨[],[(72,⟨qw,vX,vY,ub⟩),(67,⟨qw,yk,yl,ju⟩)],[]⟩ [(71,⟨Vn,Vo,Vv⟩),(73,⟨Jj,Jk,Jq⟩)] cC (zy []) 30 31 qw gU gV s ()=VU Vv ub Jq ju s:=by kernel_rfl
def yn:zM->(Unit)->Option (zM×(Bool×Unit)):=sP prg ⟨[],[(72,⟨qw,vX,vY,vZ⟩),(67,⟨qw,yk,yl,wG⟩)],[]⟩ [(71,⟨Vn,Vo,kD⟩),(73,⟨Jj,Jk,xS⟩)] cC (zy []) 30 31 qw gU gV
theorem Cf:Yc.Ok prg 31 ⟨qw,gU,gV,yn⟩:=cZ ⟨yO,(gK nu (gK Wh uS)),uT⟩ (ze On (ze Cd zn)) qN (by kernel_rfl)
theorem Cg(s:zM):yn s ()=VU kD vZ xS wG s:=Oz kD vZ xS wG s
abbrev JQ:List VT:=[⟨true,qP⟩,⟨false,I⟩,⟨true,qG⟩,⟨false,I⟩]
abbrev JR:List VT:=[⟨true,qP⟩,⟨true,Kd⟩,⟨false,I⟩]
def pq:xi:=zG [cdF qw,cdF qP,cdF qo,cdF zU,cdF jd,cdF qh,cdF qe,cdF qG,cdF yx,cdF zV,cdF zr] [(14,76)] [] [] [12,26,27,28,29,30,31]
def kJ(Jr:fF)(Qp:cd)(Js:fI)(WL:zM->(Unit)->Option (zM×(Bool×Unit)))(Jt:zM->(Unit)->Option (zM×(Bool×Unit)))(Ju:zM->(Unit)->Option (zM×(Bool×Unit)))(Jv:zM->(Unit)->Option (zM×(Bool×Unit)))(a0:zL)(a1:Int)(a2:zQ)(a3:Int):Option (zL×yQ×Int×Unit):=opt (Jr (a0,())) fun x0=>bif !(zj x0.1 0)then some ((0,([],[],0,[],[]),[],[],[]),(0,0,0,0),x0.1,())else opt (bif zg a1 0 then some (1,((0,([],[],0,[],[]),[],[],[]),(0,0,0,0),2,()),())else bif !(zg a1 48)then some (1,((0,([],[],0,[],[]),[],[],[]),(0,0,0,0),2,()),())else some (0,((0,([],[],0,[],[]),[],[],[]),(0,0,0,0),0,()),())) fun x1=>bif jzC x1 then opt (Qp (a2,())) fun x2=>bif !(zj x2.1 0)then some ((0,([],[],0,[],[]),[],[],[]),(0,0,0,0),x2.1,())else opt (Js (a0,a3,())) fun x3=>bif !(zj x3.1 0)then some ((0,([],[],0,[],[]),[],[],[]),(0,0,0,0),x3.1,())else opt (WL (a0,a1,a2,a3,0,0,0,0) ()) fun x4=>bif x4.2.1 then some (x4.1.1,x4.1.2.2.2.2,0,())else opt (Jt x4.1 ()) fun x5=>bif x5.2.1 then some (x5.1.1,x5.1.2.2.2.2,0,())else opt (Ju x5.1 ()) fun x6=>bif x6.2.1 then some (x6.1.1,x6.1.2.2.2.2,0,())else opt (Jv x6.1 ()) fun x7=>bif x7.2.1 then some (x7.1.1,x7.1.2.2.2.2,0,())else some (x7.1.1,x7.1.2.2.2.2,0,())else some (x1.2.1.1,x1.2.1.2.1,x1.2.1.2.2.1,())
theorem zdg(Jr:(zL×Unit)->Option (Int×Unit))(Qp:(zQ×Unit)->Option (Int×Unit))(Js:(zL×Int×Unit)->Option (Int×Unit))(WL:zM->(Unit)->Option (zM×(Bool×Unit)))(Jt:zM->(Unit)->Option (zM×(Bool×Unit)))(Ju:zM->(Unit)->Option (zM×(Bool×Unit)))(Jv:zM->(Unit)->Option (zM×(Bool×Unit)))(a0:zL)(a1:Int)(a2:zQ)(a3:Int):sFl prg ⟨[],[(28,⟨qw,ZR,ZS,WL⟩),(29,⟨qw,gQ,gR,Jt⟩),(30,⟨qw,gS,gT,Ju⟩),(31,⟨qw,gU,gV,Jv⟩)],[]⟩ [(12,⟨Jc,Jd,Jr⟩),(26,⟨Qk,Ql,Qp⟩),(27,⟨Je,Jf,Js⟩)] pq (zy []) 30 8 JQ JR (a0,a1,a2,a3,())=kJ Jr Qp Js WL Jt Ju Jv a0 a1 a2 a3:=by kernel_rfl
def xN:(zL×Int×zQ×Int×Unit)->Option (zL×yQ×Int×Unit):=sFl prg ⟨[],[(28,⟨qw,ZR,ZS,xx⟩),(29,⟨qw,gQ,gR,xR⟩),(30,⟨qw,gS,gT,yU⟩),(31,⟨qw,gU,gV,yn⟩)],[]⟩ [(12,⟨Jc,Jd,uq⟩),(26,⟨Qk,Ql,vK⟩),(27,⟨Je,Jf,ur⟩)] pq (zy []) 30 8 JQ JR
theorem OA:Con.Ok prg 8 ⟨JQ,JR,xN⟩:=Dw ⟨yO,(gK Fb (gK BW (gK BY (gK Cf uS)))),uT⟩ (ze BP (ze rZ (ze BR zn))) qN (by kernel_rfl)
theorem gW(a0:zL)(a1:Int)(a2:zQ)(a3:Int):xN (a0,a1,a2,a3,())=kJ uq vK ur xx xR yU yn a0 a1 a2 a3:=zdg uq vK ur xx xR yU yn a0 a1 a2 a3
abbrev Bk:List VT:=[⟨false,I⟩]
abbrev Bl:List VT:=[⟨false,.bool⟩]
def Bm(a0:Int):Option (Bool×Unit):=bif !(zg a0 0)then some ((!(zg 1099511627776 a0)),())else some (false,())
abbrev zdh:Type:=(Int×Unit)->Option (Bool×Unit)
def Zu:zdh:=opq (sF prg [] (zG [] [] [] [] []) (zy []) 30 76 Bk Bl)
abbrev Bn:Con:=⟨Bk,Bl,Zu⟩
theorem OB:Con.Ok prg 76 Bn:=okF zn (by kernel_rfl)
theorem OC(a0):Zu (a0,())=Bm a0:=zA (by kernel_rfl)
abbrev Fl:List VT:=[⟨true,qG⟩]
abbrev Fm:List VT:=[⟨false,.bool⟩]
def Fo(a0:zQ):Option (Bool×Unit):=opt (Zu (a0.1,())) fun x0=>bif x0.1 then opt (Zu (a0.2.1,())) fun x1=>bif x1.1 then opt (Zu (a0.2.2.2.2,())) fun x2=>bif x2.1 then bif !(zg a0.2.2.1 0)then bif !(zg 7 a0.2.2.1)then bif !(zg a0.2.2.2.1 84)then some ((!(zg 1542 a0.2.2.2.1)),())else some (false,())else some (false,())else some (false,())else some (false,())else some (false,())else some (false,())
abbrev zfS:Type:=(zQ×Unit)->Option (Bool×Unit)
def UB:zfS:=opq (sF prg [(76,Bn)] (zG [cdF qG] [] [] [] [76]) (zy []) 30 34 Fl Fm)
abbrev Fp:Con:=⟨Fl,Fm,UB⟩
theorem Ta:Con.Ok prg 34 Fp:=okF (ze OB zn) (by kernel_rfl)
theorem Tb(a0):UB (a0,())=Fo a0:=zA (by kernel_rfl)
abbrev Bo:List VT:=[⟨true,qP⟩,⟨false,I⟩]
abbrev Bp:List VT:=[⟨false,.bool⟩]
def Bq(a0:zL)(a1:Int):Option (Bool×Unit):=bif(zg (w6C (a1+a0.1)) a0.2.1.2.2.1)then some (true,())else lpC ((false,0,()),()) (fun s0=>bif(zg s0.1.2.1 (lnC a0.2.2.2.2))then aTC a0.2.2.2.2 s0.1.2.1 fun x1=>bif zg a1 x1.2.2.2.2.1 then exC 1 ((true,s0.1.2.1,()),())else nxC ((s0.1.1,(upC s0.1.2.1),()),())else exC 0 ((s0.1.1,s0.1.2.1,()),())) fun x2=>bif jzC x2 then some (false,())else some (x2.2.1.1,())
abbrev zdi:Type:=(zL×Int×Unit)->Option (Bool×Unit)
def Vp:zdi:=opq (sF prg [] (zG [cdF qP,cdF qo,cdF zU,cdF jd,cdF qh,cdF qe,cdF yx,cdF zV,cdF zr] [] [] [] []) (zy []) 30 35 Bo Bp)
abbrev Br:Con:=⟨Bo,Bp,Vp⟩
theorem OD:Con.Ok prg 35 Br:=okF zn (by kernel_rfl)
theorem OE(a0)(a1):Vp (a0,a1,())=Bq a0 a1:=zA (by kernel_rfl)
abbrev Bs:List VT:=[⟨false,I⟩,⟨false,I⟩]
abbrev Bt:List VT:=[⟨false,I⟩]
def Bu(a0:Int)(a1:Int):Option (Int×Unit):=opt (bif(zg (Int.tmod (w6C (a0+(Int.tmod a1 65536))) 65536) 0)then some (0,((w6C ((Int.tmod (w6C (a0+(Int.tmod a1 65536))) 65536)+65536)),()),())else some (0,((Int.tmod (w6C (a0+(Int.tmod a1 65536))) 65536),()),())) fun x0=>some (x0.2.1.1,())
abbrev zdj:Type:=(Int×Int×Unit)->Option (Int×Unit)
def Zv:zdj:=opq (sF prg [] (zG [] [] [] [] []) (zy []) 30 128 Bs Bt)
abbrev bP:Con:=⟨Bs,Bt,Zv⟩
theorem fZ:Con.Ok prg 128 bP:=okF zn (by kernel_rfl)
theorem OF(a0)(a1):Zv (a0,a1,())=Bu a0 a1:=zA (by kernel_rfl)
abbrev Bv:List VT:=[⟨false,I⟩,⟨false,I⟩]
abbrev Bw:List VT:=[⟨false,I⟩]
def Bx(a0:Int)(a1:Int):Option (Int×Unit):=opt (Zv (a1,(w6C (0 - a0)),())) fun x0=>opt (bif !(zg x0.1 32768)then some (0,((w6C (x0.1 - 65536)),()),())else some (0,(x0.1,()),())) fun x1=>some (x1.2.1.1,())
abbrev zdk:Type:=(Int×Int×Unit)->Option (Int×Unit)
def kK:zdk:=opq (sF prg [(128,bP)] (zG [] [] [] [] [128]) (zy []) 30 127 Bv Bw)
abbrev By:Con:=⟨Bv,Bw,kK⟩
theorem OG:Con.Ok prg 127 By:=okF (ze fZ zn) (by kernel_rfl)
theorem OH(a0)(a1):kK (a0,a1,())=Bx a0 a1:=zA (by kernel_rfl)
abbrev pv:List VT:=[⟨true,qh⟩,⟨false,I⟩,⟨false,I⟩]
abbrev pw:List VT:=[⟨true,qh⟩,⟨false,.bool⟩]
def px(a0:qy)(a1:Int)(a2:Int):Option (qy×Bool×Unit):=opt (bif a0.2.2.1 then some (1,((a0.1,a0.2.1,false,a1,a2,1),true,()),())else bif(zg a0.2.1 (w6C (a2 - a0.2.2.2.2.1)))then some (1,((a0.1,a0.2.1,false,a1,a2,1),true,()),())else some (0,((0,0,false,0,0,0),false,()),())) fun x0=>bif jzC x0 then opt (kK (a0.2.2.2.1,a1,())) fun x1=>opt (bif(!(zg (w6C (0 - a0.1)) x1.1))then some (1,(a0,false,()),())else bif !(zg x1.1 a0.1)then some (1,(a0,false,()),())else some (0,(x0.2.1.1,x0.2.1.2.1,()),())) fun x2=>bif jzC x2 then opt (bif !(zg 0 x1.1)then opt (xe (a0.2.2.2.2.2,(w6C (0 - x1.1)),())) fun x3=>bif x3.1 then some (1,(a0,false,()),())else some (0,(x2.2.1.1,x2.2.1.2.1,()),())else some (0,(x2.2.1.1,x2.2.1.2.1,()),())) fun x4=>bif jzC x4 then opt (bif zg 0 x1.1 then some (0,(a1,()),())else some (0,(a0.2.2.2.1,()),())) fun x5=>lpC ((0,(w6C (a0.1 - 1)),()),()) (fun s6=>bif !(zg s6.1.2.1 0)then opt (Zv (x5.2.1.1,(w6C (0 - s6.1.2.1)),())) fun x7=>opt (kK (a0.2.2.2.1,x7.1,())) fun x8=>bif(!(zg (w6C (0 - x8.1)) 0))then bif(zg (w6C (0 - x8.1)) a0.1)then opt (xe (a0.2.2.2.2.2,(w6C (0 - x8.1)),())) fun x9=>opt (bif zj x7.1 a1 then some (0,((wrF .u64 ((wrF .u64 (s6.1.1*2))+1)),()),())else bif x9.1 then some (0,((wrF .u64 ((wrF .u64 (s6.1.1*2))+1)),()),())else some (0,((wrF .u64 (s6.1.1*2)),()),())) fun x10=>nxC ((x10.2.1.1,(w6C (s6.1.2.1 - 1)),()),())else opt (bif zj x7.1 a1 then some (0,((wrF .u64 ((wrF .u64 (s6.1.1*2))+1)),()),())else some (0,((wrF .u64 (s6.1.1*2)),()),())) fun x11=>nxC ((x11.2.1.1,(w6C (s6.1.2.1 - 1)),()),())else opt (bif zj x7.1 a1 then some (0,((wrF .u64 ((wrF .u64 (s6.1.1*2))+1)),()),())else some (0,((wrF .u64 (s6.1.1*2)),()),())) fun x12=>nxC ((x12.2.1.1,(w6C (s6.1.2.1 - 1)),()),())else exC 0 ((s6.1.1,s6.1.2.1,()),())) fun x13=>some ((a0.1,a0.2.1,false,x5.2.1.1,a2,x13.2.1.1),true,())else some (x4.2.1.1,x4.2.1.2.1,())else some (x2.2.1.1,x2.2.1.2.1,())else some (x0.2.1.1,x0.2.1.2.1,())
abbrev zaW:Type:=(qy×Int×Int×Unit)->Option (qy×Bool×Unit)
def gz:zaW:=opq (sF prg [(127,By),(116,ng),(128,bP)] (zG [cdF qh] [] [] [] [127,116,128]) (zy []) 30 77 pv pw)
abbrev py:Con:=⟨pv,pw,gz⟩
theorem Io:Con.Ok prg 77 py:=okF (ze OG (ze oF (ze fZ zn))) (by kernel_rfl)
theorem Ip(a0)(a1)(a2):gz (a0,a1,a2,())=px a0 a1 a2:=zA (by kernel_rfl)
abbrev Fq:List VT:=[⟨true,qo⟩,⟨false,I⟩,⟨true,qG⟩]
abbrev Fs:List VT:=[⟨false,I⟩]
def Ft(a0:zK)(a1:Int)(a2:zQ):Option (Int×Unit):=lpC ((0,0,()),()) (fun s0=>bif(zg s0.1.2.1 (lnC a0.1))then aTC a0.1 s0.1.2.1 fun x1=>opt (bif zj x1.1 a1 then bif zj x1.2.1 a2.1 then bif zj x1.2.2.1 a2.2.2.1 then some (1,(s0.1.2.1,()),())else some (0,(s0.1.1,()),())else some (0,(s0.1.1,()),())else some (0,(s0.1.1,()),())) fun x2=>bif jzC x2 then nxC ((x2.2.1.1,(upC s0.1.2.1),()),())else exC 1 ((x2.2.1.1,s0.1.2.1,()),())else exC 0 ((s0.1.1,s0.1.2.1,()),())) fun x3=>bif jzC x3 then some ((-1),())else some (x3.2.1.1,())
abbrev zfT:Type:=(zK×Int×zQ×Unit)->Option (Int×Unit)
def uO:zfT:=opq (sF prg [] (zG [cdF qo,cdF zU,cdF qe,cdF qG,cdF zV,cdF zr] [] [] [] []) (zy []) 30 78 Fq Fs)
abbrev hX:Con:=⟨Fq,Fs,uO⟩
theorem mq:Con.Ok prg 78 hX:=okF zn (by kernel_rfl)
theorem Tc(a0)(a1)(a2):uO (a0,a1,a2,())=Ft a0 a1 a2:=zA (by kernel_rfl)
abbrev Fu:List VT:=[⟨true,zr⟩,⟨true,zr⟩,⟨true,zV⟩,⟨false,I⟩,⟨false,I⟩]
abbrev Fv:List VT:=[⟨false,I⟩,⟨true,zV⟩,⟨false,I⟩]
def Fw(a0:zC)(a1:zC)(a2:qI)(a3:Int)(a4:Int):Option (Int×qI×Int×Unit):=opt (JH (a0,a1,a2,())) fun x0=>bif !(zj x0.1 0)then some (0,(0,0,0),x0.1,())else opt (opt (ZN (a3,a2.1,1099511627776,())) fun x1=>bif !x1.1 then some (1,((0,0,0),0,2,()),())else opt (ZN (a4,1,1048576,())) fun x2=>bif !x2.1 then some (1,((0,0,0),0,2,()),())else some (0,((0,0,0),0,0,()),())) fun x3=>bif jzC x3 then bif(zg (wK (w6C (a1.1*1048576)) (w6C (a2.2.2+(w6C (a1.2*(w6C (a3 - a2.1))))))) (w6C (a4*1048576)))then some (2,(a3,(wK (w6C (a0.1*1048576)) (w6C (a2.2.1+(w6C (a0.2*(w6C (a3 - a2.1))))))),(wK (w6C (a1.1*1048576)) (w6C (a2.2.2+(w6C (a1.2*(w6C (a3 - a2.1)))))))),0,())else bif(zg (wK (w6C (a0.1*1048576)) (w6C (a2.2.1+(w6C (a0.2*(w6C (a3 - a2.1))))))) (w6C (a4*1048576)))then some (1,(a3,(wK (w6C (a0.1*1048576)) (w6C (a2.2.1+(w6C (a0.2*(w6C (a3 - a2.1))))))),(w6C ((wK (w6C (a1.1*1048576)) (w6C (a2.2.2+(w6C (a1.2*(w6C (a3 - a2.1))))))) - (w6C (a4*1048576))))),0,())else some (0,(a3,(w6C ((wK (w6C (a0.1*1048576)) (w6C (a2.2.1+(w6C (a0.2*(w6C (a3 - a2.1))))))) - (w6C (a4*1048576)))),(w6C ((wK (w6C (a1.1*1048576)) (w6C (a2.2.2+(w6C (a1.2*(w6C (a3 - a2.1))))))) - (w6C (a4*1048576))))),0,())else some (x3.2.1.2.1,x3.2.1.1,x3.2.1.2.2.1,())
abbrev zfU:Type:=(zC×zC×qI×Int×Int×Unit)->Option (Int×qI×Int×Unit)
def Yr:zfU:=opq (sF prg [(119,bH),(181,rU)] (zG [cdF zV,cdF zr] [] [] [] [119,181]) (zy []) 30 129 Fu Fv)
abbrev Fx:Con:=⟨Fu,Fv,Yr⟩
theorem Td:Con.Ok prg 129 Fx:=okF (ze fk (ze AB zn)) (by kernel_rfl)
theorem Te(a0)(a1)(a2)(a3)(a4):Yr (a0,a1,a2,a3,a4,())=Fw a0 a1 a2 a3 a4:=zA (by kernel_rfl)
abbrev cD:List VT:=[⟨true,zU⟩,⟨false,I⟩,⟨true,qG⟩,⟨false,I⟩]
abbrev cE:List VT:=[⟨false,I⟩,⟨false,I⟩]
def cF(a0:qu)(a1:Int)(a2:zQ)(a3:Int):Option (Int×Int×Unit):=bif !(zj a2.2.2.2.1 a0.2.2.2.1)then some (0,2,())else bif zj a0.2.2.2.2.1 0 then none else opt (bif zg a3 a0.2.2.2.2.2.1 then some (1,(0,3,()),())else bif(zg (w6C (a0.2.2.2.2.2.2+(w6C ((w6C (Int.tdiv (w6C (a3 - a0.2.2.2.2.2.1)) a0.2.2.2.2.1))*a0.2.2.2.2.1)))) a3)then some (1,(0,3,()),())else some (0,(0,0,()),())) fun x0=>bif jzC x0 then bif(!(zg a1 (w6C (Int.tdiv (w6C (a3 - a0.2.2.2.2.2.1)) a0.2.2.2.2.1))))then some (0,4,())else some ((w6C (Int.tdiv (w6C (a3 - a0.2.2.2.2.2.1)) a0.2.2.2.2.1)),0,())else some (x0.2.1.1,x0.2.1.2.1,())
abbrev Iq:Type:=(qu×Int×zQ×Int×Unit)->Option (Int×Int×Unit)
def Qo:Iq:=opq (sF prg [] (zG [cdF zU,cdF qG] [] [] [] []) (zy []) 30 130 cD cE)
abbrev cG:Con:=⟨cD,cE,Qo⟩
theorem sn:Con.Ok prg 130 cG:=okF zn (by kernel_rfl)
theorem sq(a0)(a1)(a2)(a3):Qo (a0,a1,a2,a3,())=cF a0 a1 a2 a3:=zA (by kernel_rfl)
abbrev Fy:List VT:=[⟨true,qo⟩,⟨false,I⟩,⟨true,qG⟩,⟨false,I⟩]
abbrev FA:List VT:=[⟨true,qo⟩,⟨false,I⟩]
def Ys(a0:zK)(a1:Int)(a2:zQ)(a3:Int):Option (zK×Int×Unit):=bif !(zg 5 a2.2.2.1)then lpC (((a0.1,a0.2.1,a3,a0.2.2.2),([],[],0,[],[]),0,0,()),()) (fun s0=>bif(zg s0.1.2.2.2.1 (lnC s0.1.1.2.1))then aTC s0.1.1.2.1 s0.1.2.2.2.1 fun x1=>bif !(zj x1.1 a1)then nxC ((s0.1.1,s0.1.2.1,s0.1.2.2.1,(upC s0.1.2.2.2.1),()),())else aTC s0.1.1.2.2.2.2 s0.1.2.2.2.1 fun x2=>opt (Yr (x1.2.1,x1.2.2,x2,(w6C (a3+1000)),a2.2.2.2.1,())) fun x3=>bif qb 0 s0.1.1.2.2.2.2.length 24 then aTC s0.1.1.2.2.2.2 s0.1.2.2.2.1 fun x4=>opt (gl s0.1.1.2.2.2.2 (Int.toNat s0.1.2.2.2.1)) fun x5=>bif zj x3.1 2 then exC 1 (((s0.1.1.1,s0.1.1.2.1,s0.1.1.2.2.1,s0.1.1.2.2.2.1,(s0.1.1.2.2.2.2.set (Int.toNat s0.1.2.2.2.1) x3.2.1)),(s0.1.1.1,s0.1.1.2.1,s0.1.1.2.2.1,s0.1.1.2.2.2.1,(s0.1.1.2.2.2.2.set (Int.toNat s0.1.2.2.2.1) x3.2.1)),5,s0.1.2.2.2.1,()),())else nxC (((s0.1.1.1,s0.1.1.2.1,s0.1.1.2.2.1,s0.1.1.2.2.2.1,(s0.1.1.2.2.2.2.set (Int.toNat s0.1.2.2.2.1) x3.2.1)),s0.1.2.1,s0.1.2.2.1,(upC s0.1.2.2.2.1),()),())else none else exC 0 ((s0.1.1,s0.1.2.1,s0.1.2.2.1,s0.1.2.2.2.1,()),())) fun x6=>bif jzC x6 then some (x6.2.1.1,0,())else some (x6.2.1.2.1,x6.2.1.2.2.1,())else opt (uO ((a0.1,a0.2.1,a3,a0.2.2.2),a1,a2,())) fun x7=>bif zg x7.1 0 then some ((a0.1,a0.2.1,a3,a0.2.2.2),1,())else aTC a0.1 x7.1 fun x8=>bif zj x8.2.2.1 6 then bif zg x8.2.2.2.1 a2.2.2.2.1 then some ((a0.1,a0.2.1,a3,a0.2.2.2),2,())else some ((a0.1,a0.2.1,a3,a0.2.2.2),0,())else aTC a0.2.2.2.1 x7.1 fun x9=>opt (Qo (x8,x9,a2,a3,())) fun x10=>opt (bif zj x10.2.1 0 then bif qb 0 a0.2.2.2.1.length 8 then aTC a0.2.2.2.1 x7.1 fun x11=>opt (gl a0.2.2.2.1 (Int.toNat x7.1)) fun x12=>some (0,((a0.1,a0.2.1,a3,(a0.2.2.2.1.set (Int.toNat x7.1) x10.1),a0.2.2.2.2),()),())else none else some (0,((a0.1,a0.2.1,a3,a0.2.2.2),()),())) fun x13=>some (x13.2.1.1,x10.2.1,())
abbrev zfV:Type:=(zK×Int×zQ×Int×Unit)->Option (zK×Int×Unit)
def yV:zfV:=opq (sF prg [(129,Fx),(78,hX),(130,cG)] (zG [cdF qo,cdF zU,cdF qe,cdF qG,cdF zV,cdF zr] [] [⟨2,122,some 15,zV,true⟩,⟨2,122,some 20,I,true⟩,⟨4,122,some 15,zV,true⟩,⟨4,122,some 20,I,true⟩,⟨7,122,some 15,zV,true⟩,⟨7,122,some 20,I,true⟩,⟨13,122,some 15,zV,true⟩,⟨13,122,some 20,I,true⟩,⟨17,122,some 15,zV,true⟩,⟨17,122,some 20,I,true⟩,⟨20,122,some 15,zV,true⟩,⟨20,122,some 20,I,true⟩,⟨21,122,some 15,zV,true⟩,⟨21,122,some 20,I,true⟩,⟨25,122,some 15,zV,true⟩,⟨25,122,some 20,I,true⟩] [] [129,78,130]) (zy []) 30 79 Fy FA)
abbrev FB:Con:=⟨Fy,FA,yV⟩
theorem Tf:Con.Ok prg 79 FB:=okF (ze Td (ze mq (ze sn zn))) (by kernel_rfl)
theorem WC(a0)(a1)(a2)(a3):yV (a0,a1,a2,a3,())=Ys a0 a1 a2 a3:=zA (by kernel_rfl)
abbrev Bz:List VT:=[⟨true,zr⟩,⟨true,yZ⟩,⟨false,I⟩]
abbrev BA:List VT:=[⟨false,I⟩]
def BB(a0:zC)(a1:js)(a2:Int):Option (Int×Unit):=some ((wK (w6C (a0.1*1048576)) (w6C (a1.2+(w6C (a0.2*(w6C (a2 - a1.1))))))),())
abbrev zdl:Type:=(zC×js×Int×Unit)->Option (Int×Unit)
def Zw:zdl:=opq (sF prg [] (zG [cdF zr] [] [] [] []) (zy []) 30 131 Bz BA)
abbrev BC:Con:=⟨Bz,BA,Zw⟩
theorem OI:Con.Ok prg 131 BC:=okF zn (by kernel_rfl)
theorem OJ(a0)(a1)(a2):Zw (a0,a1,a2,())=BB a0 a1 a2:=zA (by kernel_rfl)
abbrev hY:List VT:=[⟨true,zr⟩,⟨true,yZ⟩,⟨false,I⟩,⟨false,I⟩]
abbrev hZ:List VT:=[⟨false,I⟩,⟨true,yZ⟩,⟨false,I⟩]
def ia(a0:zC)(a1:js)(a2:Int)(a3:Int):Option (Int×js×Int×Unit):=opt (JK (a0,a1,())) fun x0=>bif !(zj x0.1 0)then some (0,(0,0),x0.1,())else opt (bif zg a2 0 then some (1,((0,0),0,2,()),())else bif zg 1099511627776 a2 then some (1,((0,0),0,2,()),())else bif zg a3 1 then some (1,((0,0),0,2,()),())else bif zg 1048576 a3 then some (1,((0,0),0,2,()),())else some (0,((0,0),0,0,()),())) fun x1=>bif jzC x1 then bif zg a0.1 a3 then some (0,(0,0),4,())else opt (Zw (a0,a1,(jS a2 a1.1),())) fun x2=>opt (bif(zg 0 (w6C ((w6C (a3*1048576)) - x2.1)))then opt (uL ((w6C ((w6C (a3*1048576)) - x2.1)),a0.2,())) fun x3=>some (0,((w6C ((jS a2 a1.1)+x3.1)),()),())else some (0,((jS a2 a1.1),()),())) fun x4=>bif zg 1099511627776 x4.2.1.1 then some (0,(0,0),6,())else opt (Zw (a0,a1,x4.2.1.1,())) fun x5=>some (x4.2.1.1,(x4.2.1.1,(w6C (x5.1 - (w6C (a3*1048576))))),0,())else some (x1.2.1.2.1,x1.2.1.1,x1.2.1.2.2.1,())
abbrev OK:Type:=(zC×js×Int×Int×Unit)->Option (Int×js×Int×Unit)
def gX:OK:=opq (sF prg [(126,bK),(131,BC),(132,KU)] (zG [cdF zr] [] [] [] [126,131,132]) (zy []) 30 80 hY hZ)
abbrev ic:Con:=⟨hY,hZ,gX⟩
theorem Ch:Con.Ok prg 80 ic:=okF (ze fG (ze OI (ze KV zn))) (by kernel_rfl)
theorem Ci(a0)(a1)(a2)(a3):gX (a0,a1,a2,a3,())=ia a0 a1 a2 a3:=zA (by kernel_rfl)
abbrev FC:List VT:=[⟨true,qP⟩,⟨false,I⟩,⟨true,qG⟩,⟨false,I⟩]
abbrev FD:List VT:=[⟨true,qP⟩,⟨true,Kd⟩]
def Yt(a0:zL)(a1:Int)(a2:zQ)(a3:Int):Option (zL×yQ×Unit):=lpC ((a0,(0,([],[],0,[],[]),[],[],[]),(0,0,0,0),0,()),()) (fun s0=>bif(zg s0.1.2.2.2.1 (lnC s0.1.1.2.2.2.1))then aTC s0.1.1.2.2.2.1 s0.1.2.2.2.1 fun x1=>bif !(zj x1.1 a1)then nxC ((s0.1.1,s0.1.2.1,s0.1.2.2.1,(upC s0.1.2.2.2.1),()),())else aTC s0.1.1.2.2.2.1 s0.1.2.2.2.1 fun x2=>bif !(zj x2.2.1 a2.1)then nxC ((s0.1.1,s0.1.2.1,s0.1.2.2.1,(upC s0.1.2.2.2.1),()),())else aTC s0.1.1.2.2.2.1 s0.1.2.2.2.1 fun x3=>bif !(zj x3.2.2.1 a2.2.2.1)then nxC ((s0.1.1,s0.1.2.1,s0.1.2.2.1,(upC s0.1.2.2.2.1),()),())else bif !(zg a2.2.1 65536)then exC 1 ((s0.1.1,s0.1.1,(1,0,0,20),s0.1.2.2.2.1,()),())else aTC s0.1.1.2.2.2.1 s0.1.2.2.2.1 fun x4=>aTC s0.1.1.2.2.2.2 x4.2.2.2 fun x5=>opt (gz (x5,a2.2.1,a3,())) fun x6=>bif qb 0 s0.1.1.2.2.2.2.length 48 then aTC s0.1.1.2.2.2.2 x4.2.2.2 fun x7=>opt (gl s0.1.1.2.2.2.2 (Int.toNat x4.2.2.2)) fun x8=>bif x6.2.1 then exC 1 (((s0.1.1.1,s0.1.1.2.1,s0.1.1.2.2.1,s0.1.1.2.2.2.1,(s0.1.1.2.2.2.2.set (Int.toNat x4.2.2.2) x6.1)),(s0.1.1.1,s0.1.1.2.1,s0.1.1.2.2.1,s0.1.1.2.2.2.1,(s0.1.1.2.2.2.2.set (Int.toNat x4.2.2.2) x6.1)),(3,0,0,0),s0.1.2.2.2.1,()),())else exC 1 (((s0.1.1.1,s0.1.1.2.1,s0.1.1.2.2.1,s0.1.1.2.2.2.1,(s0.1.1.2.2.2.2.set (Int.toNat x4.2.2.2) x6.1)),(s0.1.1.1,s0.1.1.2.1,s0.1.1.2.2.1,s0.1.1.2.2.2.1,(s0.1.1.2.2.2.2.set (Int.toNat x4.2.2.2) x6.1)),(4,0,0,0),s0.1.2.2.2.1,()),())else none else exC 0 ((s0.1.1,s0.1.2.1,s0.1.2.2.1,s0.1.2.2.2.1,()),())) fun x9=>bif jzC x9 then opt (uO (x9.2.1.1.2.1,a1,a2,())) fun x10=>opt (yV (x9.2.1.1.2.1,a1,a2,(w6C (a3+x9.2.1.1.1)),())) fun x11=>bif !(zj x11.2.1 0)then some ((x9.2.1.1.1,x11.1,x9.2.1.1.2.2),(1,0,0,x11.2.1),())else bif zg a2.2.2.1 6 then some ((x9.2.1.1.1,x11.1,x9.2.1.1.2.2),(5,0,0,0),())else aTC x9.2.1.1.2.2.1 x10.1 fun x12=>bif zj a2.2.2.1 7 then some ((x9.2.1.1.1,x11.1,x9.2.1.1.2.2),(2,x12.1,a3,0),())else opt (gX (x12.2.1,x12.2.2.2,a3,a2.2.2.2.1,())) fun x13=>opt (bif !(zj x13.2.2.1 0)then some (1,((x9.2.1.1.1,x11.1,x9.2.1.1.2.2),(1,0,0,21),()),())else bif(zg x12.2.2.1 (w6C (x13.1 - a3)))then some (1,((x9.2.1.1.1,x11.1,x9.2.1.1.2.2),(1,0,0,21),()),())else some (0,(x9.2.1.2.1,x9.2.1.2.2.1,()),())) fun x14=>bif jzC x14 then bif qb 0 x9.2.1.1.2.2.1.length 48 then aTC x9.2.1.1.2.2.1 x10.1 fun x15=>opt (gl x9.2.1.1.2.2.1 (Int.toNat x10.1)) fun x16=>some ((x9.2.1.1.1,x11.1,(x9.2.1.1.2.2.1.set (Int.toNat x10.1) (x12.1,x12.2.1,x12.2.2.1,x13.2.1)),x9.2.1.1.2.2.2),(2,x12.1,x13.1,0),())else none else some (x14.2.1.1,x14.2.1.2.1,())else some (x9.2.1.2.1,x9.2.1.2.2.1,())
abbrev zfW:Type:=(zL×Int×zQ×Int×Unit)->Option (zL×yQ×Unit)
def UC:zfW:=opq (sF prg [(77,py),(78,hX),(79,FB),(80,ic)] (zG [⟨qP,wi qP,[6,8]⟩,cdF qo,cdF zU,cdF jd,cdF qh,cdF qe,cdF qG,cdF yx,cdF zV,cdF zr] [] [] [(2,179,4,[8])] [77,78,80]) (zy []) 30 36 FC FD)
abbrev FE:Con:=⟨FC,FD,UC⟩
theorem Tg:Con.Ok prg 36 FE:=okF (ze Io (ze mq (ze Tf (ze Ch zn)))) (by kernel_rfl)
theorem WD(a0)(a1)(a2)(a3):UC (a0,a1,a2,a3,())=Yt a0 a1 a2 a3:=zA (by kernel_rfl)
abbrev YZ:List VT:=[⟨true,qP⟩,⟨false,I⟩,⟨true,qG⟩,⟨false,I⟩]
abbrev Xa:List VT:=[⟨true,qP⟩,⟨true,Kd⟩,⟨false,I⟩]
def gC(a0:zL)(a1:Int)(a2:zQ)(a3:Int):Option (zL×yQ×Int×Unit):=opt (Vm (a0,())) fun x0=>bif !x0.1 then some ((0,([],[],0,[],[]),[],[],[]),(0,0,0,0),521,())else opt (Qw (a1,())) fun x1=>bif !x1.1 then some ((0,([],[],0,[],[]),[],[],[]),(0,0,0,0),2,())else opt (UB (a2,())) fun x2=>bif !x2.1 then some ((0,([],[],0,[],[]),[],[],[]),(0,0,0,0),460,())else opt (bif zg a3 0 then some (1,((0,([],[],0,[],[]),[],[],[]),(0,0,0,0),2,()),())else bif zg 274877906944 a3 then some (1,((0,([],[],0,[],[]),[],[],[]),(0,0,0,0),2,()),())else opt (Vp (a0,a3,())) fun x3=>bif x3.1 then some (1,((0,([],[],0,[],[]),[],[],[]),(0,0,0,0),2,()),())else some (0,((0,([],[],0,[],[]),[],[],[]),(0,0,0,0),0,()),())) fun x4=>bif jzC x4 then opt (UC (a0,a1,a2,a3,())) fun x5=>some (x5.1,x5.2.1,0,())else some (x4.2.1.1,x4.2.1.2.1,x4.2.1.2.2.1,())
abbrev zaX:Type:=(zL×Int×zQ×Int×Unit)->Option (zL×yQ×Int×Unit)
def ve:zaX:=opq (sF prg [(32,AV),(33,Uj),(34,Fp),(35,Br),(36,FE)] (zG [cdF qP,cdF qo,cdF zU,cdF jd,cdF qh,cdF qe,cdF qG,cdF yx,cdF zV,cdF zr] [] [] [] [32,33,34,35]) (zy []) 30 9 YZ Xa)
abbrev zaY:Con:=⟨YZ,Xa,ve⟩
theorem Ir:Con.Ok prg 9 zaY:=okF (ze Oc (ze Uk (ze Ta (ze OD (ze Tg zn))))) (by kernel_rfl)
theorem kL(a0)(a1)(a2)(a3):ve (a0,a1,a2,a3,())=gC a0 a1 a2 a3:=zA (by kernel_rfl)
abbrev FF:List VT:=[⟨true,qo⟩,⟨true,qo⟩]
abbrev FG:List VT:=[⟨false,.bool⟩]
def FH(a0:zK)(a1:zK):Option (Bool×Unit):=opt (bif !(zj a0.2.2.1 a1.2.2.1)then some (1,(false,()),())else bif(!(zj (lnC a0.1) (lnC a1.1)))then some (1,(false,()),())else bif(!(zj (lnC a0.2.1) (lnC a1.2.1)))then some (1,(false,()),())else bif(!(zj (lnC a0.2.2.2.1) (lnC a1.2.2.2.1)))then some (1,(false,()),())else bif(!(zj (lnC a0.2.2.2.2) (lnC a1.2.2.2.2)))then some (1,(false,()),())else some (0,(false,()),())) fun x0=>bif jzC x0 then lpC ((x0.2.1.1,0,()),()) (fun s1=>bif(zg s1.1.2.1 (lnC a0.1))then aTC a0.1 s1.1.2.1 fun x2=>aTC a1.1 s1.1.2.1 fun x3=>bif(!((zj x2.1 x3.1)&&((zj x2.2.1 x3.2.1)&&((zj x2.2.2.1 x3.2.2.1)&&((zj x2.2.2.2.1 x3.2.2.2.1)&&((zj x2.2.2.2.2.1 x3.2.2.2.2.1)&&((zj x2.2.2.2.2.2.1 x3.2.2.2.2.2.1)&&((zj x2.2.2.2.2.2.2 x3.2.2.2.2.2.2)&&true))))))))then exC 1 ((false,s1.1.2.1,()),())else nxC ((s1.1.1,(upC s1.1.2.1),()),())else exC 0 ((s1.1.1,s1.1.2.1,()),())) fun x4=>bif jzC x4 then lpC ((x4.2.1.1,0,()),()) (fun s5=>bif(zg s5.1.2.1 (lnC a0.2.2.2.1))then aTC a0.2.2.2.1 s5.1.2.1 fun x6=>aTC a1.2.2.2.1 s5.1.2.1 fun x7=>bif !(zj x6 x7)then exC 1 ((false,s5.1.2.1,()),())else nxC ((s5.1.1,(upC s5.1.2.1),()),())else exC 0 ((s5.1.1,s5.1.2.1,()),())) fun x8=>bif jzC x8 then lpC ((x8.2.1.1,0,()),()) (fun s9=>bif(zg s9.1.2.1 (lnC a0.2.1))then aTC a0.2.1 s9.1.2.1 fun x10=>aTC a1.2.1 s9.1.2.1 fun x11=>bif(!((zj x10.1 x11.1)&&(((zj x10.2.1.1 x11.2.1.1)&&((zj x10.2.1.2 x11.2.1.2)&&true))&&(((zj x10.2.2.1 x11.2.2.1)&&((zj x10.2.2.2 x11.2.2.2)&&true))&&true))))then exC 1 ((false,s9.1.2.1,()),())else nxC ((s9.1.1,(upC s9.1.2.1),()),())else exC 0 ((s9.1.1,s9.1.2.1,()),())) fun x12=>bif jzC x12 then lpC ((x12.2.1.1,0,()),()) (fun s13=>bif(zg s13.1.2.1 (lnC a0.2.2.2.2))then aTC a0.2.2.2.2 s13.1.2.1 fun x14=>aTC a1.2.2.2.2 s13.1.2.1 fun x15=>bif(!((zj x14.1 x15.1)&&((zj x14.2.1 x15.2.1)&&((zj x14.2.2 x15.2.2)&&true))))then exC 1 ((false,s13.1.2.1,()),())else nxC ((s13.1.1,(upC s13.1.2.1),()),())else exC 0 ((s13.1.1,s13.1.2.1,()),())) fun x16=>bif jzC x16 then some (true,())else some (x16.2.1.1,())else some (x12.2.1.1,())else some (x8.2.1.1,())else some (x4.2.1.1,())else some (x0.2.1.1,())
abbrev zfX:Type:=(zK×zK×Unit)->Option (Bool×Unit)
def UD:zfX:=opq (sF prg [] (zG [cdF qo,cdF zU,cdF qe,cdF zV,cdF zr] [] [] [] []) (zy []) 30 37 FF FG)
abbrev FI:Con:=⟨FF,FG,UD⟩
theorem Th:Con.Ok prg 37 FI:=okF zn (by kernel_rfl)
theorem Ti(a0)(a1):UD (a0,a1,())=FH a0 a1:=zA (by kernel_rfl)
abbrev Jl:List VT:=[⟨true,qP⟩,⟨true,qP⟩]
abbrev Jm:List VT:=[⟨false,.bool⟩]
def ig(a0:zL)(a1:zL):Option (Bool×Unit):=opt (bif !(zj a0.1 a1.1)then some (1,(false,()),())else opt (UD (a0.2.1,a1.2.1,())) fun x0=>bif !x0.1 then some (1,(false,()),())else bif(!(zj (lnC a0.2.2.1) (lnC a1.2.2.1)))then some (1,(false,()),())else bif(!(zj (lnC a0.2.2.2.1) (lnC a1.2.2.2.1)))then some (1,(false,()),())else bif(!(zj (lnC a0.2.2.2.2) (lnC a1.2.2.2.2)))then some (1,(false,()),())else some (0,(false,()),())) fun x1=>bif jzC x1 then lpC ((x1.2.1.1,0,()),()) (fun s2=>bif(zg s2.1.2.1 (lnC a0.2.2.1))then aTC a0.2.2.1 s2.1.2.1 fun x3=>aTC a1.2.2.1 s2.1.2.1 fun x4=>bif(!((zj x3.1 x4.1)&&(((zj x3.2.1.1 x4.2.1.1)&&((zj x3.2.1.2 x4.2.1.2)&&true))&&((zj x3.2.2.1 x4.2.2.1)&&(((zj x3.2.2.2.1 x4.2.2.2.1)&&((zj x3.2.2.2.2 x4.2.2.2.2)&&true))&&true)))))then exC 1 ((false,s2.1.2.1,()),())else nxC ((s2.1.1,(upC s2.1.2.1),()),())else exC 0 ((s2.1.1,s2.1.2.1,()),())) fun x5=>bif jzC x5 then lpC ((x5.2.1.1,0,()),()) (fun s6=>bif(zg s6.1.2.1 (lnC a0.2.2.2.1))then aTC a0.2.2.2.1 s6.1.2.1 fun x7=>aTC a1.2.2.2.1 s6.1.2.1 fun x8=>bif(!((zj x7.1 x8.1)&&((zj x7.2.1 x8.2.1)&&((zj x7.2.2.1 x8.2.2.1)&&((zj x7.2.2.2 x8.2.2.2)&&true)))))then exC 1 ((false,s6.1.2.1,()),())else nxC ((s6.1.1,(upC s6.1.2.1),()),())else exC 0 ((s6.1.1,s6.1.2.1,()),())) fun x9=>bif jzC x9 then lpC ((x9.2.1.1,0,()),()) (fun s10=>bif(zg s10.1.2.1 (lnC a0.2.2.2.2))then aTC a0.2.2.2.2 s10.1.2.1 fun x11=>aTC a1.2.2.2.2 s10.1.2.1 fun x12=>bif(!((zj x11.1 x12.1)&&((zj x11.2.1 x12.2.1)&&((x11.2.2.1 == x12.2.2.1)&&((zj x11.2.2.2.1 x12.2.2.2.1)&&((zj x11.2.2.2.2.1 x12.2.2.2.2.1)&&((zj x11.2.2.2.2.2 x12.2.2.2.2.2)&&true)))))))then exC 1 ((false,s10.1.2.1,()),())else nxC ((s10.1.1,(upC s10.1.2.1),()),())else exC 0 ((s10.1.1,s10.1.2.1,()),())) fun x13=>bif jzC x13 then some (true,())else some (x13.2.1.1,())else some (x9.2.1.1,())else some (x5.2.1.1,())else some (x1.2.1.1,())
abbrev OL:Type:=(zL×zL×Unit)->Option (Bool×Unit)
def xT:OL:=opq (sF prg [(37,FI)] (zG [cdF qP,cdF qo,cdF zU,cdF jd,cdF qh,cdF qe,cdF yx,cdF zV,cdF zr] [] [] [] [37]) (zy []) 30 10 Jl Jm)
abbrev OM:Con:=⟨Jl,Jm,xT⟩
theorem Cj:Con.Ok prg 10 OM:=okF (ze Th zn) (by kernel_rfl)
theorem Ck(a0)(a1):xT (a0,a1,())=ig a0 a1:=zA (by kernel_rfl)
end Go.Proofs.YtlfkgkedfciccaaGreat.nd
namespace Go.Fz.Sy
end Go.Fz.Sy
namespace Go.Fz.Sy
variable {p:Prop} {α:Type} {Q:α→Prop} {X:Type} {J:X→Prop} {a:Int} {b:Int} {S:Type} {i:Nat} {n:Nat}
theorem wm{l:List α}{z:Int}(h0:0<=z)(h1:z < l.length)(hq:∀x,l[z.toNat]?=some x->Q x):zt (atI l z) Q:=by obtain⟨x,e,e2⟩:=Rq h0 h1;exact⟨x,e,hq x e2⟩
theorem jI{l:List α}(h1:i < l.length)(hq:∀x,l[i]?=some x->Q x):zt (gl l i) Q:=by have hx:l[i]?=some l[i]:=FL h1;exact⟨l[i],by rw[xf,hx],hq _ hx⟩
def Nxt{X S:Type}(J:X->Prop)(I:S->Prop)(r:X ⊕ S):Prop:=(∀x,r=.inl x->J x)∧∀s',r=.inr s'->I s'
theorem zw{I:S->Prop}{x:X}(h:J x):Nxt J I (.inl x:X ⊕ S):=⟨fun y e=>by cases e;exact h,fun s' e=>by cases e⟩
theorem qj{I:S->Prop}{s:S}(h:I s):Nxt J I (.inr s:X ⊕ S):=⟨fun y e=>by(cases e),fun s' e=>by cases e;exact h⟩
theorem zX{B:S->Option (X ⊕ S)}{s:S}(n:Nat)(I:Nat->S->Prop)(hn:n < 1180591620717411303424)(h0:I 0 s)(h:∀i s,i < n->I i s->zt (B s) (Nxt J (I (i+1))))(he:∀s,I n s->zt (B s) (Nxt J fun _=>False)):zt (yA B xm s) J:=by
 have key:∀(k i N:Nat) (s:S),i+k=n->k < N->I i s->zt (yA B N s) J:=by
  intro k;induction k with
  |zero=>
   intro i N s hi hN hI;obtain⟨N,rfl⟩:∃M,N=M+1:=⟨N - 1,by omega⟩;have hi':i=n:=by omega
   obtain⟨r,e,h1,h2⟩:=he s (hi'▸hI);rw[QT,e];cases r with
   |inl x=>exact⟨x,rfl,h1 x rfl⟩
   |inr s'=>grind
  |succ k ih=>
   intro i N s hi hN hI;obtain⟨N,rfl⟩:∃M,N=M+1:=⟨N - 1,by omega⟩;obtain⟨r,e,h1,h2⟩:=h i s (by omega) hI;rw[QT,e];cases r with
   |inl x=>exact⟨x,rfl,h1 x rfl⟩
   |inr s'=>grind
 exact key n 0 xm s (by omega) (zqB hn zhn) h0
noncomputable def tv (p:Prop):Bool:=@decide p (Classical.propDecidable p)
theorem QA:tv p=true↔p:=@decide_eq_true_iff p (Classical.propDecidable p)
theorem qU(h:p):tv p=true:=QA.2 h
theorem wg(h:¬p):tv p=false:=by grind[tv,QA]
theorem zpk[inst:Decidable p]:tv p=decide p:=by grind[qU,zsx,wg,zso]
theorem ji{o:Option (Bool×Unit)}(h:zt o fun r=>(r.1=true↔p)):o=some (tv p,()):=by obtain⟨⟨b,⟨⟩⟩,e,h⟩:=h;grind[qU,wg]
theorem gY{o:Option (α×Unit)}{v:α}(h:zt o fun r=>r.1=v):o=some (v,()):=by obtain⟨⟨b,⟨⟩⟩,e,rfl⟩:=h;exact e
theorem jP{o:Option α}{a:α}(e:o=some a)(h:Q a):zt o Q:=⟨a,e,h⟩
theorem zfY(h:n<=1000000000000000000):n < 1180591620717411303424:=by omega
theorem zO(h:i<=1000000000000000000):wrF .i64 ((i:Int)+1)=((i+1:Nat):Int):=by rw[zR]<;>omega
theorem zI(h:a < b):zg a b=true:=by rw[wL];grind
theorem zD(h:¬a < b):zg a b=false:=by rw[wL];grind
theorem wM(h:a=b):zj a b=true:=by rw[yr,h];simp
theorem jc(h:a≠b):zj a b=false:=by rw[yr];simp[h]
theorem zT(h:zg a b=true):a < b:=by grind[wL]
theorem zN(h:zg a b=false):b<=a:=by grind[wL,of_decide_eq_false]
theorem qg(h:zj a b=true):a=b:=by grind[yr]
theorem qn(h:zj a b=false):a≠b:=by grind[yr]
theorem HC(a b:Int):jS a b=max a b:=by grind[jS,wL,zsx,zso]
theorem Km(a b:Int):wK a b=min a b:=by grind[wK,wL,zsx,zso]
theorem zf{b:Bool}{x y:Option α}(hb:b=true)(h:zt x Q):zt (bif b then x else y) Q:=by subst hb;exact h
theorem zi{b:Bool}{x y:Option α}(hb:b=false)(h:zt y Q):zt (bif b then x else y) Q:=by subst hb;exact h
theorem wH{V:Type}{B:((V×(Int×Unit))×Unit)->Option (X ⊕ ((V×(Int×Unit))×Unit))}{v:V}(n:Nat)(P:Nat->Prop)(hn:n<=1000000000000000000)(h:∀i,i < n->(∀k,k < i->P k)->zt (B ((v,((i:Int),())),())) (Nxt J fun s=>s=((v,(((i+1:Nat):Int),())),())∧P i))(he:(∀k,k < n->P k)->zt (B ((v,((n:Int),())),())) (Nxt J fun _=>False)):zt (yA B xm ((v,(0,())),())) J:=by
 refine zX n (fun i s=>s=((v,((i:Int),())),())∧∀k,k < i->P k) (zfY hn) ⟨rfl,fun k hk=>by omega⟩ ?_ ?_
 ·rintro i _ hi ⟨rfl,hp⟩;obtain⟨r,e,h1,h2⟩:=h i hi hp;refine⟨r,e,h1,fun s' hs=>?_⟩;obtain⟨h3,h4⟩:=h2 s' hs;refine⟨h3,fun k hk=>?_⟩;rcases zrD k i with hk' | hk'
  ·exact hp k hk'
  ·have:k=i:=by omega
   exact this▸h4
 grind
theorem vF{V:Type}{v:V}(hi:i<=1000000000000000000)(hp:p):Nxt J (fun s=>s=((v,(((i+1:Nat):Int),())),())∧p) (.inr ((v,(wrF .i64 ((i:Int)+1),())),())):=qj ⟨by rw[zO hi],hp⟩
theorem aC(h:tv p=true):p:=QA.1 h
theorem ij(h:tv p=false):¬p:=by grind[qU]
theorem jX(h:(!tv p)=true):¬p:=ij (by simpa using h)
theorem wC(h:(!tv p)=false):p:=aC (by simpa using h)
theorem zov(l:List α)(lo hi mx:Option Int)(h p:Nat)(h1:hiI l.length hi=some h)(h2:loI h lo=some p)(h3:mxI h mx=true):KB l lo hi mx=some ((l.take h).drop p):=by grind[KB]
theorem zow{q:Nat}(h:q<=n):hiI n (some (q:Int))=some q:=by show(bif Nat.ble q n then some q else none)=_;rw[zsZ h];rfl
theorem zhp(l:List α)(n:Nat)(h:n<=l.length):KB l none (some (n:Int)) none=some (l.take n):=by rw[zov l _ _ _ n 0 (zow h) rfl rfl];simp
theorem zaZ{k:Nat}(h0:0<=a)(h1:a<=b)(h2:(k:Int)*b<=281474976710656):rr a b k=true:=by grind[rr,zD]
theorem qM{m k:Nat}(h:(n+m)*k<=140737488355328)(h2:n+m<=9223372036854775807):qb n m k=true:=by grind[qb,maxLen,zsZ]
end Go.Fz.Sy
namespace Go.Proofs.YtlfkgkedfciccaaGreat.ad
open Go Go.Fz Go.Fz.Sy Go.Proofs.YtlfkgkedfciccaaGreat.nd
variable {t:jC} {l:xU} {n:Nat} {i:Nat}
abbrev xU:=Int×Int×Int×Int
abbrev jC:=Int×List Bool×List xU
def jV(t:jC)(n:Int):Prop:=0<=n∧n < t.1
def stn(t:jC)(n:Int):Bool:=(t.2.1[n.toNat]?).getD false
def il(t:jC)(l:xU):Prop:=jV t l.1∧jV t l.2.1∧l.1≠l.2.1∧¬(stn t l.1=true∧stn t l.2.1=true)∧1<=l.2.2.1∧l.2.2.1<=1000∧0<=l.2.2.2∧l.2.2.2<=10000
def ZW(o:xU)(a b:Int):Prop:=(o.1=a∧o.2.1=b)∨(o.1=b∧o.2.1=a)
structure szP(t:jC):Prop where
 n0:2<=t.1
 n1:t.1<=12
 st:(t.2.1.length:Int)=t.1
 ls:t.2.2.length<=24
def HD(t:jC):Prop:=∀(i:Nat) l,t.2.2[i]?=some l->il t l∧∀(k:Nat) o,k < i->t.2.2[k]?=some o->¬ZW o l.1 l.2.1
def one(a:Int)(n:Nat):Int:=if a=(n:Int)then 1 else 0
def cnt(ls:List xU)(n:Nat):Int:=(ls.map fun l=>one l.1 n+one l.2.1 n).sum
def stp(r:List Bool)(l:xU):List Bool:=bif(r[l.1.toNat]?).getD false||(r[l.2.1.toNat]?).getD false then(r.set l.1.toNat true).set l.2.1.toNat true else r
def UE(ls:List xU):Nat->List Bool->List Bool
 |0,r=>r
 |n+1,r=>UE ls n (ls.foldl stp r)
def reachS(t:jC)(a:Nat):List Bool:=UE t.2.2 t.1.toNat ((List.replicate t.1.toNat false).set a true)
structure wU(t:jC):Prop where
 sz:szP t
 ls:HD t
 re:∀(n:Nat),(n:Int) < t.1->(reachS t 0)[n]?=some true
 ct:∀(n:Nat),(n:Int) < t.1->stn t n=true->1<=cnt t.2.2 n∧cnt t.2.2 n<=2
theorem zpl{b:Bool}(h:t.2.1[n]?=some b):stn t n=b:=by unfold stn;simp[h]
theorem za0{n:Int}{b:Bool}(h:t.2.1[n.toNat]?=some b):stn t n=b:=by unfold stn;simp[h]
theorem za1(t:jC)(n:Int):Yj (t,n,())=some (tv (jV t n),()):=by rw[Rv];unfold DI;delta lnC w6C upC aTC nxC exC lpC jzC jV;refine ji ?_;grind[za,wL]
theorem UF(l:xU)(a b:Int):jZ (l,a,b,())=some (tv (ZW l a b),()):=by rw[Ng];unfold sS;delta lnC w6C upC aTC nxC exC lpC jzC ZW;refine ji ?_;grind[za,yr]
theorem jV.lt{n:Int}(h:jV t n)(hs:szP t):n.toNat < t.2.1.length:=by have:=hs.st;have:=h.1;have:=h.2;omega
theorem jV.lt'{n:Int}(h:jV t n)(hs:szP t):n < (t.2.1.length:Int):=by have:=hs.st;have:=h.1;have:=h.2;omega
theorem pA(hs:szP t)(l:xU):xG (t,l,())=some (tv (il t l),()):=by
 rw[Rw];unfold DM;delta lnC w6C upC aTC nxC exC lpC jzC;simp only[za1,zq];refine ji (zk (J:=fun x=>(x.1=0∧jV t l.1∧jV t l.2.1∧l.1≠l.2.1∧¬(stn t l.1=true∧stn t l.2.1=true))∨(x.1=1∧x.2.1.1=false∧¬(jV t l.1∧jV t l.2.1∧l.1≠l.2.1∧¬(stn t l.1=true∧stn t l.2.1=true)))) ?_ ?_)
 ·refine zd (fun h=>?_) (fun h=>?_)
  ·have:¬jV t l.1:=by intro hn;rw[qU hn]at h;cases h
   exact za (.inr ⟨rfl,rfl,by grind⟩)
  have h1:jV t l.1:=wC h;refine zd (fun h=>?_) (fun h=>?_)
  ·have:¬jV t l.2.1:=by intro hn;rw[qU hn]at h;cases h
   exact za (.inr ⟨rfl,rfl,by grind⟩)
  have h2:jV t l.2.1:=wC h;refine zd (fun h=>?_) (fun h=>?_)
  ·have:=qg h;exact za (.inr ⟨rfl,rfl,by grind⟩)
  have h3:=qn h;refine zb (wm h1.1 (h1.lt' hs) fun x hx=>?_);have e1:=za0 hx;refine zd (fun h=>?_) (fun h=>?_)
  ·refine zb (wm h2.1 (h2.lt' hs) fun y hy=>?_);have e2:=za0 hy;refine zd (fun h=>?_) (fun h=>?_)
   ·exact za (.inr ⟨rfl,rfl,by grind⟩)
   ·exact za (.inl ⟨rfl,by grind⟩)
  ·exact za (.inl ⟨rfl,by grind⟩)
 grind[Nat.beq,il,za,wL]
theorem UG{l:List Int}(hn:l.length<=1000000000000000000)(x:Int):vA (l,x,())=some (tv (x∈l),()):=by
 rw[zcr];unfold RE;delta lnC w6C upC aTC nxC exC lpC jzC;refine ji (zk (J:=fun r=>(r.1=0∧¬x∈l)∨(r.1=1∧r.2.1.1=true∧x∈l)) (wH l.length (fun i=>l[i]?≠some x) hn ?_ ?_) ?_)
 ·intro i hi hp;have hx:l[i]?=some l[i]:=FL hi;refine zf (zI (show(i:Int) < _ by omega)) (zb (zm (n:=i) hx (zd (fun h=>?_) (fun h=>?_))))
  ·grind[qg,za,zw,zqq]
  ·have:=qn h;exact za (vF (by omega) (by grind))
 ·grind[zD,za,zw,zrA]
 ·rintro⟨j,⟨v,w,⟨⟩⟩,⟨⟩⟩ (⟨rfl,hp⟩ | ⟨rfl,rfl,hp⟩)
  ·exact za (by simp[hp])
  ·exact za (by simp[hp])
theorem zox(r:List Bool)(l:xU):(stp r l).length=r.length:=by grind[stp]
theorem sr(ls:List xU):∀r:List Bool,(ls.foldl stp r).length=r.length:=by induction ls<;>grind[zsp,zox]
theorem ON(ls:List xU):∀(n:Nat) (r:List Bool),(UE ls n r).length=r.length
 |0,r=>rfl
 |n+1,r=>by rw[UE,ON ls n,sr]
theorem zb3(ls:List xU):∀(n:Nat) (r:List Bool),UE ls (n+1) r=ls.foldl stp (UE ls n r)
 |0,r=>rfl
 |n+1,r=>by rw[UE,zb3 ls n,UE]
theorem Tj(hs:szP t)(hl:∀(i:Nat) l,t.2.2[i]?=some l->jV t l.1∧jV t l.2.1){a:Nat}(ha:(a:Int) < t.1):Vb (t,(a:Int),[],())=some (reachS t a,()):=by
 have h0:=hs.n0;have h1:=hs.n1;have h3:=hs.ls;have h4:=hs.st;have e1:t.1.toNat=t.2.1.length:=by omega
 rw[No];unfold tq;delta lnC w6C upC aTC nxC exC lpC jzC;simp only[UG (l:=[]) (by simp),zq];refine gY ?_;refine zf (by unfold rr;rw[zD (by omega),zD (by omega),zD (by omega)];rfl) ?_;refine zb (wm (by omega) (by simp;omega) fun _ _=>zb (jI (by simp;omega) fun _ _=>?_));refine zk (J:=fun x=>x.2.2.1=reachS t a) (zX t.1.toNat (fun i s=>s=(((i:Int),()),(UE t.2.2 i ((List.replicate t.1.toNat false).set a true),()))) (by omega) rfl ?_ ?_) ?_
 ·rintro i _ hi rfl;refine zf (zI (show(i:Int) < _ by omega)) ?_;generalize hr:UE t.2.2 i ((List.replicate t.1.toNat false).set a true)=r;have hrl:r.length=t.1.toNat:=by rw[<-hr,ON];simp
  refine zk (J:=fun x=>x.2.2.1=t.2.2.foldl stp r) (zX t.2.2.length (fun i s=>s=(((i:Int),()),((t.2.2.take i).foldl stp r,()))) (by omega) rfl ?_ ?_) ?_
  ·rintro k _ hk rfl;refine zf (zI (show(k:Int) < _ by omega)) ?_;have hx:t.2.2[k]?=some t.2.2[k]:=FL hk;obtain⟨⟨a0,a1⟩,⟨b0,b1⟩⟩:=hl k _ hx;have hnx:(t.2.2.take (k+1)).foldl stp r=stp ((t.2.2.take k).foldl stp r) t.2.2[k]:=by rw[zrk,hx,zts];rfl
   have hlen:((t.2.2.take k).foldl stp r).length=t.1.toNat:=by rw[sr,hrl]
   generalize (t.2.2.take k).foldl stp r=q at hnx hlen;refine zb (zm (n:=k) hx ?_);refine zk (J:=fun x=>x.2.2.1=stp q t.2.2[k]) ?_ ?_
   ·refine zf (by rw[wg (by simp)];rfl) ?_;refine zb (wm a0 (by show _ < ((q.length:Nat):Int);omega) fun x hx=>zb (jI (by show _ < q.length;omega) fun x' hx'=>?_));have ex:x'=x:=zsf (hx'.symm.trans hx);subst ex;refine zd (fun h=>?_) (fun h=>?_)
    ·subst h;refine zb (wm a0 (by show _ < ((q.length:Nat):Int);omega) fun _ _=>zb (jI (by show _ < q.length;omega) fun _ _=>?_));refine zb (wm b0 (by show _ < (((q.set _ _).length:Nat):Int);simp;omega) fun _ _=>zb (jI (by show _ < (q.set _ _).length;simp;omega) fun _ _=>?_));refine za ?_;show _=stp q _;unfold stp;simp only at hx';rw[hx'];rfl
    ·subst h;refine zb (wm b0 (by show _ < ((q.length:Nat):Int);omega) fun y hy=>zb (jI (by show _ < q.length;omega) fun y' hy'=>?_));have ey:y'=y:=zsf (hy'.symm.trans hy);subst ey;refine zd (fun h=>?_) (fun h=>?_)
     ·subst h;refine zb (wm a0 (by show _ < ((q.length:Nat):Int);omega) fun _ _=>zb (jI (by show _ < q.length;omega) fun _ _=>?_));refine zb (wm b0 (by show _ < (((q.set _ _).length:Nat):Int);simp;omega) fun _ _=>zb (jI (by show _ < (q.set _ _).length;simp;omega) fun _ _=>?_));refine za ?_;show _=stp q _;unfold stp;simp only at hx' hy';rw[hx',hy'];rfl
     ·subst h;refine za ?_;show q=stp q _;unfold stp;simp only at hx' hy';rw[hx',hy'];rfl
   ·rintro⟨j,⟨⟩,q',⟨⟩⟩ hq;refine za (qj ?_);simp only at hq;rw[hnx,<-hq];exact zqT (fun z=>(((z,()),(q',())):(Int×Unit)×(List Bool×Unit))) (zO (by omega))
  ·rintro _ rfl;refine zi (zD (show ¬(t.2.2.length:Int) < _ by omega)) (za (zw ?_));simp
  ·rintro⟨j,⟨z,⟨⟩⟩,q',⟨⟩⟩ hq;refine za (qj ?_);simp only at hq;rw[zb3,hr,<-hq];exact zqT (fun z=>(((z,()),(q',())):(Int×Unit)×(List Bool×Unit))) (zO (by omega))
 ·rintro _ rfl;exact zi (zD (show ¬((t.1.toNat:Nat):Int) < _ by omega)) (za (zw rfl))
 grind[za]
def gZ(t:jC)(i:Nat):List Int:=(List.range t.1.toNat).map (cnt (t.2.2.take i))
theorem zkK(a:Int)(n:Nat):0<=one a n∧one a n<=1:=by grind[one]
theorem zkL(ls:List xU)(n:Nat):0<=cnt ls n∧cnt ls n<=2*ls.length:=by
 unfold cnt;induction ls with
 |nil=>simp
 |cons l ls ih=>
  have:=zkK l.1 n;have:=zkK l.2.1 n;grind
theorem zfZ{ls:List xU}(h:ls[i]?=some l)(n:Nat):cnt (ls.take (i+1)) n=cnt (ls.take i) n+(one l.1 n+one l.2.1 n):=by unfold cnt;rw[zrk,h];simp
theorem im(t:jC)(i:Nat):(gZ t i).length=t.1.toNat:=by simp[gZ]
theorem iq(h:n < t.1.toNat):(gZ t i)[n]?=some (cnt (t.2.2.take i) n):=by simp[gZ,h]
theorem zkM(h:t.2.2[i]?=some l)(hl:t.2.2.length<=24)(ha:jV t l.1)(hb:jV t l.2.1)(hab:l.1≠l.2.1){u v:Int}(hu:(gZ t i)[l.1.toNat]?=some u)(hv:((gZ t i).set l.1.toNat (wrF .i64 (u+1)))[l.2.1.toNat]?=some v) : ((gZ t i).set l.1.toNat (wrF .i64 (u+1))).set l.2.1.toNat (wrF .i64 (v+1))=gZ t (i+1):=by
 obtain⟨a0,a1⟩:=ha;obtain⟨b0,b1⟩:=hb;have hne:l.1.toNat≠l.2.1.toNat:=by omega
 rw[iq (by omega)]at hu;rw[List.getElem?_set_ne hne,iq (by omega)]at hv;have hu:=zsf hu;have hv:=zsf hv;have k1:=zkL (t.2.2.take i) l.1.toNat;have k2:=zkL (t.2.2.take i) l.2.1.toNat
 have k3:(t.2.2.take i).length<=24:=by simp;omega
 rw[zR (by omega) (by omega),zR (by omega) (by omega)];apply zrl;grind[iq,zfZ,zqK,one,zrZ,im,zrY]
theorem zpm(t:jC):List.replicate t.1.toNat (0:Int)=gZ t 0:=by apply zrl;grind[iq,cnt,zrY,im]
theorem zmY(t:jC)(h:n < t.1.toNat):(gZ t t.2.2.length)[n]?=some (cnt t.2.2 n):=by rw[iq h,zrV]
theorem il.nodes(h:il t l):jV t l.1∧jV t l.2.1:=⟨h.1,h.2.1⟩
theorem zgT(h:¬szP t):¬wU t:=fun h'=>h h'.sz
theorem zgU(h:¬HD t):¬wU t:=fun h'=>h h'.ls
theorem WE(t:jC):kr (t,())=some (tv (wU t),()):=by
 rw[Np];unfold tz;delta lnC w6C upC aTC nxC exC lpC jzC;refine ji (zk (J:=fun x=>(x.1=0∧x.2.1.1=false∧szP t)∨(x.1=1∧x.2.1.1=false∧¬szP t)) ?_ ?_)
 ·refine zd (fun h=>za (.inr ⟨rfl,rfl,fun hs=>?_⟩)) (fun h1=>zd (fun h=>za (.inr ⟨rfl,rfl,fun hs=>?_⟩)) (fun h2=>zd (fun h=>za (.inr ⟨rfl,rfl,fun hs=>?_⟩)) (fun h3=>zd (fun h=>za (.inr ⟨rfl,rfl,fun hs=>?_⟩)) (fun h4=>za (.inl ⟨rfl,rfl,?_⟩)))))
  ·have:=zT h;have:=hs.n0;omega
  ·have:=zT h;have:=hs.n1;omega
  ·have:=hs.st;grind[wM]
  ·have:=zT h;have:=hs.ls;omega
  ·have h1:=zN h1;have h2:=zN h2;have h4:=zN h4;have h3:=qg (by simpa using h3);exact⟨h1,h2,h3,by omega⟩
 rintro⟨j,⟨v,⟨⟩⟩,⟨⟩⟩ (⟨rfl,rfl,hs⟩ | ⟨rfl,rfl,hs⟩);rotate_left
 ·exact zi rfl (za ⟨fun h=>(by cases h),fun h=>absurd h (zgT hs)⟩)
 have n0:=hs.n0;have n1:=hs.n1;have h3:=hs.ls;have h4:=hs.st;refine zf rfl (zf (zaZ (by omega) (by omega) (by omega)) ?_);refine zk (J:=fun x=>(x.1=0∧x.2.1.1=false∧x.2.2.1=gZ t t.2.2.length∧HD t)∨(x.1=1∧x.2.1.1=false∧¬HD t))
  (zX t.2.2.length (fun i s=>s=((false,((i:Int),())),(gZ t i,()))∧∀(k:Nat),k < i->∀l,t.2.2[k]?=some l->il t l∧∀(k':Nat) o,k' < k->t.2.2[k']?=some o->¬ZW o l.1 l.2.1) (by omega) ⟨by rw[zpm];rfl,fun k hk=>by omega⟩ ?_ ?_) ?_
 ·rintro i _ hi ⟨rfl,hp⟩;have hx:t.2.2[i]?=some t.2.2[i]:=FL hi;refine zf (zI (show(i:Int) < _ by omega)) (zb (zm (n:=i) hx ?_));rw[pA hs];generalize hgl:t.2.2[i]=l at hx;refine zd (fun h=>?_) (fun h=>?_)
  ·have hn:=jX h;exact za (zw (.inr ⟨rfl,rfl,fun hq=>hn (hq i l hx).1⟩))
  have hl:=wC h;refine zk (J:=fun x=>(x.1=0∧x.2.1.1=false∧∀(k':Nat) o,k' < i->t.2.2[k']?=some o->¬ZW o l.1 l.2.1)∨(x.1=1∧x.2.1.1=false∧∃(k':Nat) (o:xU),k' < i∧t.2.2[k']?=some o∧ZW o l.1 l.2.1))
   (wH i (fun k=>∀o,t.2.2[k]?=some o->¬ZW o l.1 l.2.1) (by omega) ?_ ?_) ?_
  ·intro k hk hpk;have hy:t.2.2[k]?=some t.2.2[k]:=FL (by omega);refine zf (zI (show(k:Int) < (i:Int) by omega)) (zb (zm (n:=k) hy ?_));rw[UF];refine zd (fun h=>?_) (fun h=>?_)
   ·grind[za,zw,aC]
   ·exact za (vF (by omega) fun o ho=>by grind)
  ·grind[zD,za,zw]
  ·rintro⟨j,⟨v,w,⟨⟩⟩,⟨⟩⟩ (⟨rfl,rfl,hpk⟩ | ⟨rfl,rfl,k',o,hk',ho,hj⟩)
   ·refine zf rfl ?_;obtain⟨⟨a0,a1⟩,⟨b0,b1⟩⟩:=hl.nodes;have lc:=im t i;refine zb (wm a0 (by show _ < (((gZ t i).length:Nat):Int);omega) fun _ _=>zb (jI (by show _ < (gZ t i).length;omega) fun u hu=>zb (wm a0 (by show _ < (((gZ t i).length:Nat):Int);omega) fun _ _=>zb (jI (by show _ < (gZ t i).length;omega) fun _ _=>?_))));refine zb (wm b0 (by show _ < ((((gZ t i).set _ _).length:Nat):Int);simp;omega) fun _ _=>zb (jI (by show _ < ((gZ t i).set _ _).length;simp;omega) fun w hw=>zb (wm b0 (by show _ < ((((gZ t i).set _ _).length:Nat):Int);simp;omega) fun _ _=>zb (jI (by show _ < ((gZ t i).set _ _).length;simp;omega) fun _ _=>?_))));refine za (qj ⟨?_,?_⟩)
    ·have e:=zkM hx hs.ls hl.1 hl.2.1 hl.2.2.1 hu hw;show((false,(wrF .i64 ((i:Int)+1),())),((((gZ t i).set l.1.toNat (wrF .i64 (u+1))).set l.2.1.toNat (wrF .i64 (w+1))),()))=_;rw[e,zO (by omega)]
    grind
   ·exact zi rfl (za (zw (.inr ⟨rfl,rfl,fun hq=>(hq i l hx).2 k' o hk' ho hj⟩)))
 ·rintro _ ⟨rfl,hp⟩;exact zi (zD (show ¬(t.2.2.length:Int) < _ by omega)) (za (zw (.inl ⟨rfl,rfl,rfl,fun i l hl=>hp i (by grind) l hl⟩)))
 rintro⟨j,⟨v,w,⟨⟩⟩,c,⟨⟩⟩ (⟨rfl,rfl,rfl,hls⟩ | ⟨rfl,rfl,hls⟩);rotate_left
 ·exact zi rfl (za ⟨fun h=>(by cases h),fun h=>absurd h (zgU hls)⟩)
 refine zf rfl ?_;have hre:=Tj (a:=0) hs (fun i l hl=>(hls i l hl).1.nodes) (by omega);simp only[Int.natCast_zero]at hre;rw[hre,zq];have hrl:(reachS t 0).length=t.1.toNat:=by unfold reachS;rw[ON];simp
 refine zk (J:=fun x=>(x.1=0∧wU t)∨(x.1=1∧x.2.1.1=false∧¬wU t)) (wH t.1.toNat (fun n=>(reachS t 0)[n]?=some true∧(stn t n=true->1<=cnt t.2.2 n∧cnt t.2.2 n<=2)) (by omega) ?_ ?_) ?_
 ·intro n hn hp;refine zf (zI (show(n:Int) < _ by omega)) ?_;have hr:(reachS t 0)[n]?=some (reachS t 0)[n]:=FL (by omega);have hst:t.2.1[n]?=some t.2.1[n]:=FL (by omega);have e1:=zpl hst;have e2:=zmY t hn;refine zk (J:=fun x=>(x.1=0∧x.2.1.1=false∧(reachS t 0)[n]?=some true∧(stn t n=true->1<=cnt t.2.2 n∧cnt t.2.2 n<=2))∨(x.1=1∧x.2.1.1=false∧¬wU t)) ?_ ?_
  ·refine zb (zm (n:=n) hr ?_);refine zd (fun h=>?_) (fun h=>?_)
   ·exact za (.inr ⟨rfl,rfl,fun ht=>by have:=ht.re n (by omega);grind⟩)
   refine zb (zm (n:=n) hst (zd (fun h5=>?_) (fun h5=>?_)))
   ·refine zb (zm (n:=n) e2 (zb (jI (by show n < _;rw[im];exact hn) fun u hu=>?_)));have hu:u=cnt t.2.2 n:=by have hu:(gZ t t.2.2.length)[n]?=some u:=hu;rw[e2]at hu;exact(zsf hu).symm
    subst hu;refine zd (fun h6=>?_) (fun h6=>?_)
    ·have:=zT h6;exact za (.inr ⟨rfl,rfl,fun ht=>by have:=ht.ct n (by omega) (by grind);omega⟩)
    refine zb (zm (n:=n) e2 (zb (jI (by show n < _;rw[im];exact hn) fun u hu=>?_)));have hu:u=cnt t.2.2 n:=by have hu:(gZ t t.2.2.length)[n]?=some u:=hu;rw[e2]at hu;exact(zsf hu).symm
    subst hu;refine zd (fun h7=>?_) (fun h7=>?_)
    ·have:=zT h7;exact za (.inr ⟨rfl,rfl,fun ht=>by have:=ht.ct n (by omega) (by grind);omega⟩)
    ·have:=zN h6;have:=zN h7;exact za (.inl ⟨rfl,rfl,by grind,fun _=>⟨by omega,by omega⟩⟩)
   grind[za]
  ·rintro⟨j,⟨v,⟨⟩⟩,⟨⟩⟩ (⟨rfl,rfl,hq⟩ | ⟨rfl,rfl,hq⟩)
   ·exact zf rfl (za (vF (by omega) hq))
   ·exact zi rfl (za (zw (.inr ⟨rfl,rfl,hq⟩)))
 ·intro hp;exact zi (zD (show ¬((t.1.toNat:Nat):Int) < _ by omega)) (za (zw (.inl ⟨rfl,⟨hs,hls,fun n hn=>(hp n (by omega)).1,fun n hn=>(hp n (by omega)).2⟩⟩)))
 ·rintro⟨j,⟨v,w,⟨⟩⟩,⟨⟩⟩ (⟨rfl,hq⟩ | ⟨rfl,rfl,hq⟩)
  ·exact zf rfl (za ⟨fun _=>hq,fun _=>rfl⟩)
  ·exact zi rfl (za ⟨fun h=>(by cases h),fun h=>absurd h hq⟩)
end Go.Proofs.YtlfkgkedfciccaaGreat.ad
namespace Go.Proofs.YtlfkgkedfciccaaGreat.ad
open Go Go.Fz Go.Fz.Sy Go.Proofs.YtlfkgkedfciccaaGreat.nd
end Go.Proofs.YtlfkgkedfciccaaGreat.ad
namespace Go.Proofs.YtlfkgkedfciccaaGreat.ad
open Go Go.Fz Go.Fz.Sy Go.Proofs.YtlfkgkedfciccaaGreat.nd
variable {p:Int} {t:jC} {r:List Int}
def yp(t:jC)(p:Int):Prop:=0<=p∧p < 2*(t.2.2.length:Int)
def lnk(t:jC)(p:Int):xU:=(t.2.2[p.toNat / 2]?).getD (0,0,0,0)
def frm(t:jC)(p:Int):Int:=if p % 2=1 then(lnk t p).2.1 else(lnk t p).1
def too(t:jC)(p:Int):Int:=if p % 2=1 then(lnk t p).1 else(lnk t p).2.1
theorem zi9(h:0<=p)(h2:p<=1000000000000000000):wrF .i64 (Int.tdiv p 2)=((p.toNat / 2:Nat):Int):=by grind[zrf,zR]
theorem par(h:0<=p):Int.tmod p 2=p % 2:=by grind
theorem GQ(h:yp t p):t.2.2[p.toNat / 2]?=some (lnk t p):=by have:=h.1;have:=h.2;grind[FL,lnk]
theorem tw(t:jC)(h:t.2.2.length<=1000000000000000):wrF .i64 (2*(t.2.2.length:Int))=2*(t.2.2.length:Int):=by grind[zR]
theorem ir(hl:HD t)(h:yp t p):jV t (frm t p)∧jV t (too t p)∧frm t p≠too t p:=by have:=(hl _ _ (GQ h)).1;have h1:=this.1;have h2:=this.2.1;have h3:=this.2.2.1;grind[frm,too]
theorem za2(h:t.2.2.length<=1000000000000000)(p:Int):KL (t,p,())=some (tv (yp t p),()):=by rw[RI];unfold Ea;delta lnC w6C upC aTC nxC exC lpC jzC yp;refine ji (zd (fun h=>?_) (fun h=>?_))<;>refine za ?_<;>simp only[wL]at *;all_goals grind[tw]
theorem uv(h:t.2.2.length<=1000000000000000)(hp:yp t p):ya (t,p,())=some (frm t p,()):=by have:=hp.1;have:=hp.2;rw[Ry];unfold DT;delta lnC w6C upC aTC nxC exC lpC jzC;simp only[zi9 hp.1 (by omega),par hp.1,gw (GQ hp),zq,yr];grind[frm]
theorem uP(h:t.2.2.length<=1000000000000000)(hp:yp t p):jO (t,p,())=some (too t p,()):=by have:=hp.1;have:=hp.2;rw[zcq];unfold RB;delta lnC w6C upC aTC nxC exC lpC jzC;simp only[zi9 hp.1 (by omega),par hp.1,gw (GQ hp),zq,yr];grind[too]
theorem bQ(h:t.2.2.length<=1000000000000000)(hp:yp t p):JX (t,p,())=some ((lnk t p).2.2.1,()):=by have:=hp.1;have:=hp.2;rw[zah];unfold IX;delta lnC w6C upC aTC nxC exC lpC jzC;simp only[zi9 hp.1 (by omega),gw (GQ hp),zq]
theorem UH(h:t.2.2.length<=1000000000000000)(hp:yp t p):ku (t,p,())=some ((lnk t p).2.2.2,()):=by have:=hp.1;have:=hp.2;rw[Ns];unfold tG;delta lnC w6C upC aTC nxC exC lpC jzC;simp only[zi9 hp.1 (by omega),gw (GQ hp),zq]
def wB(t:jC)(r:List Int):List Int:=match r with
 |[]=>[]
 |p::_=>frm t p::r.map (too t)
theorem bj(t:jC)(h:r≠[]):(wB t r).length=r.length+1:=by cases r<;>grind[wB]
theorem zoy(t:jC)(h:r[0]?=some p):(wB t r)[0]?=some (frm t p):=by
 cases r with
 |nil=>cases h
 |cons q r=>simp at h;subst h;rfl
theorem su(t:jC){i:Nat}(h:r[i]?=some p):(wB t r)[i+1]?=some (too t p):=by cases r<;>grind[wB,zrj,zry,zqC]
theorem UI(h:t.2.2.length<=1000000000000000)(h0:r≠[])(h8:r.length<=8)(hp:∀p∈r,yp t p):vP (t,r,())=some (wB t r,()):=by
 have hl:0 < r.length:=zrU.2 h0;have hx0:r[0]?=some r[0]:=FL hl;rw[Nj];unfold sZ;delta lnC w6C upC aTC nxC exC lpC jzC;refine gY (zb (zm (n:=0) hx0 ?_));rw[uv h (hp _ (zqq hl)),zq];refine zk (J:=fun x=>x.2.2.1=wB t r) (zX r.length (fun i s=>s=(((i:Int),()),((wB t r).take (i+1),()))) (by omega) ?_ ?_ ?_) ?_
 ·have:=zoy t hx0;have e:(wB t r).take 1=[frm t r[0]]:=by rw[show(1:Nat)=0+1 from rfl,zrk,this];simp
  rw[show(0:Nat)+1=1 from rfl,e];rfl
 ·rintro i _ hi rfl;have hx:r[i]?=some r[i]:=FL hi;refine zf (zI (show(i:Int) < (r.length:Int) by omega)) (zb (zm (n:=i) hx ?_));rw[uP h (hp _ (zqq hi)),zq];have hl:=bj t h0;refine zf (qM (by show(((wB t r).take (i+1)).length+1)*8<=_;simp;omega) (by show((wB t r).take (i+1)).length+1<=_;simp;omega)) ?_;refine za (qj ?_);have e:(wB t r).take (i+1+1)=(wB t r).take (i+1)++[too t r[i]]:=by rw[zrk,su t hx];rfl
  rw[e,<-zO (by omega)]
 all_goals grind[zD,za,zw,wB,zqV,bj]
end Go.Proofs.YtlfkgkedfciccaaGreat.ad
namespace Go.Proofs.YtlfkgkedfciccaaGreat.ad
open Go Go.Fz Go.Fz.Sy Go.Proofs.YtlfkgkedfciccaaGreat.nd
variable {t:jC}
def zpT(t:jC)(r:List Int)(i:Nat)(p:Int):Prop:=¬too t p∈(wB t r).take (i+1)∧(0 < i->∀n,(wB t r)[i]?=some n->stn t n=false∧frm t p=n)
structure yW(t:jC)(r:List Int):Prop where
 n0:1<=r.length
 n1:r.length<=8
 pt:∀p∈r,yp t p
 st:∀(i:Nat) p,r[i]?=some p->zpT t r i p
theorem yW.ne{r:List Int}(h:yW t r):r≠[]:=by intro e;have:=h.n0;grind
theorem wU.ll(h:wU t):t.2.2.length<=1000000000000000:=by have:=h.sz.ls;omega
theorem zoz(ht:wU t){r:List Int}(hp:∀p∈r,yp t p):∀n∈wB t r,jV t n:=by
 intro n hn;cases r with
 |nil=>cases hn
 |cons q r=>
  simp only[wB,zqz,zrs]at hn;rcases hn with rfl | ⟨p,hp',rfl⟩
  ·exact(ir ht.ls (hp q (by simp))).1
  ·exact(ir ht.ls (hp p (by simpa using hp'))).2.1
theorem jV.get(hs:szP t){n:Int}(h:jV t n):t.2.1[n.toNat]?=some (stn t n):=by have hx:t.2.1[n.toNat]?=some (t.2.1[n.toNat]'(h.lt hs)):=FL (h.lt hs);rw[hx,za0 hx]
theorem mr(ht:wU t)(r:List Int):kq (t,r,())=some (tv (yW t r),()):=by
 have hll:=ht.ll;rw[Nk];unfold te;delta lnC w6C upC aTC nxC exC lpC jzC;refine ji (zk (J:=fun x=>(x.1=0∧x.2.1.1=false∧1<=r.length∧r.length<=8)∨(x.1=1∧x.2.1.1=false∧¬yW t r)) ?_ ?_)
 ·refine zd (fun h=>za (.inr ⟨rfl,rfl,fun hs=>?_⟩)) (fun h1=>zd (fun h=>za (.inr ⟨rfl,rfl,fun hs=>?_⟩)) (fun h2=>za (.inl ⟨rfl,rfl,?_⟩)))
  ·have:=zT h;have:=hs.n0;omega
  ·have:=zT h;have:=hs.n1;omega
  ·have h1:=zN h1;have h2:=zN h2;omega
 rintro⟨j,⟨v,⟨⟩⟩,⟨⟩⟩ (⟨rfl,rfl,h1,h8⟩ | ⟨rfl,rfl,hq⟩);rotate_left
 ·exact zi rfl (za ⟨fun h=>(by cases h),fun h=>absurd h hq⟩)
 refine zf rfl (zk (J:=fun x=>(x.1=0∧x.2.1.1=false∧∀p∈r,yp t p)∨(x.1=1∧x.2.1.1=false∧¬yW t r)) (wH r.length (fun i=>∀p,r[i]?=some p->yp t p) (by omega) ?_ ?_) ?_)
 ·intro i hi hp;have hx:r[i]?=some r[i]:=FL hi;refine zf (zI (show(i:Int) < (r.length:Int) by omega)) (zb (zm (n:=i) hx ?_));rw[za2 hll];refine zd (fun h=>?_) (fun h=>?_)
  ·exact za (zw (.inr ⟨rfl,rfl,fun hr=>jX h (hr.pt _ (zqq hi))⟩))
  ·exact za (vF (by omega) fun p hp=>by grind[wC])
 ·grind[zD,za,zw,zrA]
 rintro⟨j,⟨v,w,⟨⟩⟩,⟨⟩⟩ (⟨rfl,rfl,hpt⟩ | ⟨rfl,rfl,hq⟩);rotate_left
 ·exact zi rfl (za ⟨fun h=>(by cases h),fun h=>absurd h hq⟩)
 have hne:r≠[]:=by grind
 have hnl:=bj t hne;have hnP:=zoz ht hpt;refine zf rfl ?_;rw[UI hll hne h8 hpt,zq];refine zk (J:=fun x=>(x.1=0∧yW t r)∨(x.1=1∧x.2.1.1=false∧¬yW t r)) (wH (wB t r).length (fun i=>(∀n,(wB t r)[i]?=some n->¬n∈(wB t r).take i)∧∀p,r[i]?=some p->0 < i->∀n,(wB t r)[i]?=some n->stn t n=false∧frm t p=n) (by omega) ?_ ?_) ?_
 ·intro i hi hp;have hx:(wB t r)[i]?=some (wB t r)[i]:=FL hi;have hn:=hnP _ (zqq hi);generalize (wB t r)[i]=n at hx hn;refine zf (zI (show(i:Int) < ((wB t r).length:Int) by omega)) (zb (jP (zhp (wB t r) i (by omega)) (zb (zm (n:=i) hx ?_))));rw[UG (by simp;omega)];refine zd (fun h=>?_) (fun h=>?_)
  ·refine za (zw (.inr ⟨rfl,rfl,fun hr=>?_⟩));have hm:=aC h;cases i with
   |zero=>simp at hm
   |succ i=>
    have hy:r[i]?=some r[i]:=FL (by omega);have e:=su t hy;rw[hx]at e;have:=(hr.st i _ hy).1;grind
  have hin:=ij h;refine zk (J:=fun x=>(x.1=0∧x.2.1.1=false∧∀p,r[i]?=some p->0 < i->stn t n=false∧frm t p=n)∨(x.1=1∧x.2.1.1=false∧¬yW t r)) ?_ ?_
  ·refine zd (fun h2=>?_) (fun h2=>?_)
   ·have h2:=zT (show zg 0 (i:Int)=true from h2);refine zd (fun h3=>?_) (fun h3=>?_)
    ·have h3:=zT (show zg (i:Int) (r.length:Int)=true from h3);have hy:r[i]?=some r[i]:=FL (by omega);have hpy:=hpt _ (zqq (show i < r.length by omega));generalize r[i]=p at hy hpy;refine zb (zm (n:=i) hx (zb (jP (a:=stn t n) (by rw[show n=((n.toNat:Nat):Int) from(by have:=hn.1;omega),gw (n:=n.toNat)];exact hn.get ht.sz) ?_)));refine zd (fun h4=>?_) (fun h4=>?_)
     ·refine za (.inr ⟨rfl,rfl,fun hr=>?_⟩);have:=((hr.st i p hy).2 (by omega) n hx).1;grind
     ·refine zb (zm (n:=i) hy ?_);rw[uv hll hpy,zq];refine zb (zm (n:=i) hx (zd (fun h5=>?_) (fun h5=>?_)))
      ·refine za (.inr ⟨rfl,rfl,fun hr=>?_⟩);have:=((hr.st i p hy).2 (by omega) n hx).2;rw[wM this]at h5;cases h5
      grind[qg,zj,frm,za]
    ·have h3:=zN (show zg (i:Int) (r.length:Int)=false from h3);grind[za,zrY]
   ·have h2:=zN (show zg 0 (i:Int)=false from h2);grind[za]
  ·rintro⟨j,⟨v,⟨⟩⟩,⟨⟩⟩ (⟨rfl,rfl,hq⟩ | ⟨rfl,rfl,hq⟩)
   ·exact zf rfl (za (vF (by omega) ⟨fun m hm=>by grind,fun p hp h0 m hm=>by grind⟩))
   ·exact zi rfl (za (zw (.inr ⟨rfl,rfl,hq⟩)))
 ·intro hp;refine zi (zD (show ¬((wB t r).length:Int) < ((wB t r).length:Int) by omega)) (za (zw (.inl ⟨rfl,h1,h8,hpt,fun i p hi=>⟨?_,fun h0 n hn=>?_⟩⟩)));all_goals grind[su]
 ·rintro⟨j,⟨v,w,⟨⟩⟩,⟨⟩⟩ (⟨rfl,hq⟩ | ⟨rfl,rfl,hq⟩)
  ·exact zf rfl (za ⟨fun _=>hq,fun _=>rfl⟩)
  ·exact zi rfl (za ⟨fun h=>(by cases h),fun h=>absurd h hq⟩)
end Go.Proofs.YtlfkgkedfciccaaGreat.ad
namespace Go.Proofs.YtlfkgkedfciccaaGreat.ad
open Go Go.Fz Go.Fz.Sy Go.Proofs.YtlfkgkedfciccaaGreat.nd
variable {a:List Int}
def za3(a b:List Int):Prop:=∃p∈a,∃q∈b,Int.tdiv p 2=Int.tdiv q 2
def HG(a:List Int):List Int:=(a.take (a.length - 1)).drop 1
def Tk(a b:List Int):Prop:=∃n∈HG a,n∈b
def zkN(t:jC)(a b:List Int):Prop:=¬za3 a b∧¬Tk (wB t a) (wB t b)∧¬Tk (wB t b) (wB t a)
theorem zpU{p:Int}(h : -9223372036854775808<=p)(h2:p<=9223372036854775807):wrF .i64 (Int.tdiv p 2)=Int.tdiv p 2:=by rcases Int.le_total 0 p with h0 | h0;all_goals grind[zrf,zR,Int.tdiv,Int.neg_tdiv]
theorem zhq{t:jC}(h:t.2.2.length<=1000000000000000){p:Int}(hp:yp t p):wrF .i64 (Int.tdiv p 2)=Int.tdiv p 2:=zpU (by have:=hp.1;omega) (by have:=hp.2;omega)
theorem kf{α:Type}{l:List α}{x:α}(h:x∈l):∃i,i < l.length∧l[i]?=some x:=by grind[zrA]
theorem zb4{i:Nat}(h:1<=i)(h2:i < a.length - 1):(HG a)[i - 1]?=a[i]?:=by grind[HG,zrF,zrK]
theorem zkO(a:List Int):(HG a).length=a.length - 1 - 1:=by unfold HG;simp
theorem zb5{n:Int}:n∈HG a↔∃i,1<=i∧i < a.length - 1∧a[i]?=some n:=by
 constructor
 ·intro h;obtain⟨k,hk,hk2⟩:=kf h;rw[zkO]at hk;refine⟨k+1,by omega,by omega,?_⟩;rw[<-zb4 (by omega) (by omega)];exact hk2
 ·rintro⟨i,h1,h2,h3⟩;rw[<-zb4 h1 h2]at h3;grind
theorem cH{b:List Int}(la:1<=a.length)(la2:a.length<=100)(lb:b.length<=100):ZK (a,b,())=some (tv (Tk a b),()):=by
 have e1:wrF .i64 ((a.length:Int) - 1)=(a.length:Int) - 1:=zR (by omega) (by omega);rw[Ed];unfold lG;delta lnC w6C upC aTC nxC exC lpC jzC;rw[e1];refine ji (zk (J:=fun x=>(x.1=0∧¬Tk a b)∨(x.1=1∧x.2.1.1=true∧Tk a b))
  (zX (a.length - 1 - 1) (fun i s=>s=((false,(((i+1:Nat):Int),())),())∧∀k,1<=k->k < i+1->∀n,a[k]?=some n->¬n∈b) (by omega) ⟨rfl,fun k h1 h2=>by omega⟩ ?_ ?_) ?_)
 ·rintro i _ hi ⟨rfl,hp⟩;have hx:a[i+1]?=some a[i+1]:=FL (by omega);generalize a[i+1]=n at hx;refine zf (zI (show((i+1:Nat):Int) < (a.length:Int) - 1 by omega)) (zb (zm (n:=i+1) hx ?_));rw[UG (by omega)];refine zd (fun h=>?_) (fun h=>?_)
  ·exact za (zw (.inr ⟨rfl,rfl,n,zb5.2 ⟨i+1,by omega,by omega,hx⟩,aC h⟩))
  ·refine za (qj ⟨zqT (fun z=>((false,(z,())),())) (zO (i:=i+1) (by omega)),fun k h1 h2 m hm=>?_⟩);grind[zrD,ij]
 ·rintro _ ⟨rfl,hp⟩;refine zi (zD (show ¬((a.length - 1 - 1+1:Nat):Int) < (a.length:Int) - 1 by omega)) (za (zw (.inl ⟨rfl,fun⟨n,h1,h2⟩=>?_⟩)));grind[zb5]
 ·rintro⟨j,⟨v,w,⟨⟩⟩,⟨⟩⟩ (⟨rfl,hq⟩ | ⟨rfl,rfl,hq⟩)
  ·exact zf rfl (za ⟨fun h=>(by cases h),fun h=>absurd h hq⟩)
  ·exact zi rfl (za ⟨fun _=>hq,fun _=>rfl⟩)
theorem mu{t:jC}(ht:wU t){b:List Int}(ha:yW t a)(hb:yW t b):JA (t,a,b,())=some (tv (zkN t a b),()):=by
 have hll:=ht.ll;have na:=bj t ha.ne;have nb:=bj t hb.ne;have a0:=ha.n0;have a8:=ha.n1;have b0:=hb.n0;have b8:=hb.n1;rw[Nl];unfold th;delta lnC w6C upC aTC nxC exC lpC jzC;refine ji (zk (J:=fun x=>(x.1=0∧¬za3 a b)∨(x.1=1∧x.2.1.1=false∧za3 a b)) (wH a.length (fun i=>∀p,a[i]?=some p->¬∃q∈b,Int.tdiv p 2=Int.tdiv q 2) (by omega) ?_ ?_) ?_)
 ·intro i hi hp;have hx:a[i]?=some a[i]:=FL hi;have hm:=zqq hi;generalize a[i]=p at hx hm;refine zf (zI (show(i:Int) < (a.length:Int) by omega)) ?_;refine zk (J:=fun x=>(x.1=0∧x.2.1.1=false∧¬∃q∈b,Int.tdiv p 2=Int.tdiv q 2)∨(x.1=1∧x.2.1.1=false∧∃q∈b,Int.tdiv p 2=Int.tdiv q 2)) (wH b.length (fun k=>∀q,b[k]?=some q->Int.tdiv p 2≠Int.tdiv q 2) (by omega) ?_ ?_) ?_
  ·intro k hk hq;have hy:b[k]?=some b[k]:=FL hk;have hmk:=zqq hk;generalize b[k]=q at hy hmk;refine zf (zI (show(k:Int) < (b.length:Int) by omega)) (zb (zm (n:=i) hx (zb (zm (n:=k) hy ?_))));rw[zhq hll (ha.pt p hm),zhq hll (hb.pt q hmk)];refine zd (fun h=>?_) (fun h=>?_)
   ·grind[za,zw,qg]
   ·exact za (vF (by omega) fun q' hq'=>by grind[qn])
  ·intro hq;refine zi (zD (show ¬(b.length:Int) < (b.length:Int) by omega)) (za (zw (.inl ⟨rfl,rfl,fun⟨q,hq1,hq2⟩=>?_⟩)));obtain⟨k,hk,hk2⟩:=kf hq1;grind
  ·rintro⟨j,⟨v,w,⟨⟩⟩,⟨⟩⟩ (⟨rfl,rfl,hq⟩ | ⟨rfl,rfl,hq⟩)
   ·exact zf rfl (za (vF (by omega) fun p' hp'=>by simp_all))
   ·exact zi rfl (za (zw (.inr ⟨rfl,rfl,p,hm,hq⟩)))
 ·intro hp;refine zi (zD (show ¬(a.length:Int) < (a.length:Int) by omega)) (za (zw (.inl ⟨rfl,fun⟨p,hp1,hp2⟩=>?_⟩)));grind[kf]
 ·rintro⟨j,⟨v,w,⟨⟩⟩,⟨⟩⟩ (⟨rfl,hq⟩ | ⟨rfl,rfl,hq⟩)
  ·refine zf rfl ?_;simp only[UI hll ha.ne ha.n1 ha.pt,UI hll hb.ne hb.n1 hb.pt,zq];rw[cH (by omega) (by omega) (by omega)];refine zd (fun h=>?_) (fun h=>?_)
   ·rw[cH (by omega) (by omega) (by omega)];refine za ⟨fun h2=>⟨hq,jX h,jX h2⟩,fun h2=>?_⟩;show(!tv _)=true;rw[wg h2.2.2];rfl
   ·exact za ⟨fun h2=>(by cases h2),fun h2=>absurd (wC h) h2.2.1⟩
  ·exact zi rfl (za ⟨fun h=>(by cases h),fun h=>absurd hq h.1⟩)
def pB(t:jC)(r:List Int):Int:=frm t ((r[0]?).getD 0)
def HH(t:jC)(r:List Int):Int:=too t ((r[r.length - 1]?).getD 0)
end Go.Proofs.YtlfkgkedfciccaaGreat.ad
namespace Go.Proofs.YtlfkgkedfciccaaGreat.ad
open Go Go.Fz Go.Fz.Sy Go.Proofs.YtlfkgkedfciccaaGreat.nd
abbrev wV:=Int×Int×Int×Int×Int×Int×(Int×Int)×Int×List (List Int)
structure Zx(t:jC)(s:wV):Prop where
 id:1<=s.1∧s.1<=4095
 ta:jV t s.2.1∧stn t s.2.1=true
 li:jV t s.2.2.1∧stn t s.2.2.1=true
 tl:s.2.1≠s.2.2.1
 sz:84<=s.2.2.2.2.1∧s.2.2.2.2.1<=1542
 dl:1<=s.2.2.2.2.2.2.2.1∧s.2.2.2.2.2.2.2.1<=1099511627776
 cl:(s.2.2.2.1=7∧(1<=s.2.2.2.2.2.1∧s.2.2.2.2.2.1<=240)∧s.2.2.2.2.2.2.1=(0,0))∨(s.2.2.2.1=6∧s.2.2.2.2.2.1=0∧(s.2.2.2.2.1<=s.2.2.2.2.2.2.1.1∧s.2.2.2.2.2.2.1.1<=1048576)∧(1<=s.2.2.2.2.2.2.1.2∧s.2.2.2.2.2.2.1.2<=2097152))
 rn:1<=s.2.2.2.2.2.2.2.2.length∧s.2.2.2.2.2.2.2.2.length<=2
 rt:∀r∈s.2.2.2.2.2.2.2.2,yW t r∧pB t r=s.2.1∧HH t r=s.2.2.1
 ap:∀a b,s.2.2.2.2.2.2.2.2[0]?=some a->s.2.2.2.2.2.2.2.2[1]?=some b->zkN t a b
theorem zja{a b c:Int}{R:Int->Int->Int->Option (Bool×Unit)}(hR:R a b c=(bif(!(zg (a) (b)))then some ((!(zg (c) (a))),())else some (false,()))):R a b c=some (tv (b<=a∧a<=c),()):=by rw[hR];refine ji (zd (fun h=>?_) (fun h=>?_))<;>refine za ?_<;>simp only[wL]at *<;>grind
theorem iu(a b c:Int):yB (a,b,c,())=some (tv (b<=a∧a<=c),()):=by rw[zcv];exact zja (R:=RM) rfl
theorem zoA{n:Int}(h : -1000000<=n)(h2:n<=1000000):wrF .i64 (n - 1)=n - 1:=by grind[zR]
theorem Is{t:jC}(hs:szP t)(n:Int):ZL (t,n,())=some (tv (jV t n∧stn t n=true),()):=by
 have h0:=hs.n0;have h1:=hs.n1;rw[Ef];unfold lK;delta lnC w6C upC aTC nxC exC lpC jzC;simp only[iu,zq,zoA (show -1000000<=t.1 by omega) (by omega)];refine ji (zd (fun h=>?_) (fun h=>?_))
 ·obtain⟨h2,h3⟩:=aC h;have hn:jV t n:=⟨h2,by omega⟩;refine zb (jP (a:=stn t n) (by show atI t.2.1 n=_;rw[show n=((n.toNat:Nat):Int) from(by omega),gw (n:=n.toNat)];exact hn.get hs) ?_);grind[za]
 ·have:=ij h;exact za ⟨fun h=>(by cases h),fun h=>absurd ⟨h.1.1,by have:=h.1.2;omega⟩ this⟩
def kg(b:Int×Int):Prop:=(1<=b.1∧b.1<=1048576)∧(1<=b.2∧b.2<=2097152)
theorem zpn(b:Int×Int):((zj b.1 0)&&((zj b.2 0)&&true))=tv (b=(0,0)):=by grind[zpk,yr,Prod.ext_iff]
theorem UJ{t:jC}(ht:wU t)(s:wV):Zo (t,s,())=some (tv (Zx t s),()):=by
 have hll:=ht.ll;rw[Nm];unfold tk;delta lnC w6C upC aTC nxC exC lpC jzC;simp only[iu,Is ht.sz,zq,zpn];refine ji (zk (J:=fun x=>(x.1=0∧x.2.1.1=false∧(1<=s.1∧s.1<=4095)∧(jV t s.2.1∧stn t s.2.1=true)∧(jV t s.2.2.1∧stn t s.2.2.1=true)∧s.2.1≠s.2.2.1∧(84<=s.2.2.2.2.1∧s.2.2.2.2.1<=1542)∧(1<=s.2.2.2.2.2.2.2.1∧s.2.2.2.2.2.2.2.1<=1099511627776))∨(x.1=1∧x.2.1.1=false∧¬Zx t s)) ?_ ?_)
 ·refine zd (fun h=>za (.inr ⟨rfl,rfl,fun hs=>jX h hs.id⟩)) fun h1=>zd (fun h=>za (.inr ⟨rfl,rfl,fun hs=>jX h hs.ta⟩)) fun h2=>zd (fun h=>za (.inr ⟨rfl,rfl,fun hs=>jX h hs.li⟩)) fun h3=>zd (fun h=>za (.inr ⟨rfl,rfl,fun hs=>hs.tl (qg h)⟩)) fun h4=>zd (fun h=>za (.inr ⟨rfl,rfl,fun hs=>jX h hs.sz⟩)) fun h5=>zd (fun h=>za (.inr ⟨rfl,rfl,fun hs=>jX h hs.dl⟩)) fun h6=>?_;grind[za,wC,qn]
 rintro⟨j,⟨v,⟨⟩⟩,⟨⟩⟩ (⟨rfl,rfl,h1,h2,h3,h4,h5,h6⟩ | ⟨rfl,rfl,hq⟩);rotate_left
 ·exact zi rfl (za ⟨fun h=>(by cases h),fun h=>absurd h hq⟩)
 refine zf rfl (zk (J:=fun x=>(x.1=0∧x.2.1.1=false∧((s.2.2.2.1=7∧(1<=s.2.2.2.2.2.1∧s.2.2.2.2.2.1<=240)∧s.2.2.2.2.2.2.1=(0,0))∨(s.2.2.2.1=6∧s.2.2.2.2.2.1=0∧(s.2.2.2.2.1<=s.2.2.2.2.2.2.1.1∧s.2.2.2.2.2.2.1.1<=1048576)∧(1<=s.2.2.2.2.2.2.1.2∧s.2.2.2.2.2.2.1.2<=2097152))))∨(x.1=1∧x.2.1.1=false∧¬Zx t s)) ?_ ?_)
 ·refine zd (fun c7=>?_) (fun c7=>zd (fun c6=>?_) (fun c6=>za (.inr ⟨rfl,rfl,fun hs=>?_⟩)))
  ·have c7:=qg c7;refine zk (J:=fun x=>(x.1=0∧x.2.1.1=false∧(1<=s.2.2.2.2.2.1∧s.2.2.2.2.2.1<=240)∧s.2.2.2.2.2.2.1=(0,0))∨(x.1=1∧x.2.1.1=false∧¬Zx t s)) ?_ ?_
   ·refine zd (fun h=>za (.inr ⟨rfl,rfl,fun hs=>?_⟩)) fun h7=>zd (fun h=>za (.inr ⟨rfl,rfl,fun hs=>?_⟩)) fun h8=>za (.inl ⟨rfl,rfl,wC h7,wC h8⟩)
    ·rcases hs.cl with⟨_,hb,_⟩ | ⟨h6',_⟩
     ·exact jX h hb
     ·omega
    ·rcases hs.cl with⟨_,_,hb⟩ | ⟨h6',_⟩;all_goals grind
   ·rintro⟨j,⟨v,⟨⟩⟩,⟨⟩⟩ (⟨rfl,rfl,h7,h8⟩ | ⟨rfl,rfl,hq⟩)
    ·exact zf rfl (za (.inl ⟨rfl,rfl,.inl ⟨c7,h7,h8⟩⟩))
    ·exact zi rfl (za (.inr ⟨rfl,rfl,hq⟩))
  ·have c6:=qg c6;refine zk (J:=fun x=>(x.1=0∧x.2.1.1=false∧s.2.2.2.2.2.1=0∧(s.2.2.2.2.1<=s.2.2.2.2.2.2.1.1∧s.2.2.2.2.2.2.1.1<=1048576)∧(1<=s.2.2.2.2.2.2.1.2∧s.2.2.2.2.2.2.1.2<=2097152))∨(x.1=1∧x.2.1.1=false∧¬Zx t s)) ?_ ?_
   ·refine zd (fun h=>za (.inr ⟨rfl,rfl,fun hs=>?_⟩)) fun h7=>zd (fun h=>za (.inr ⟨rfl,rfl,fun hs=>?_⟩)) fun h8=>zd (fun h=>za (.inr ⟨rfl,rfl,fun hs=>?_⟩)) fun h9=>za (.inl ⟨rfl,rfl,qg (by simpa using h7),wC h8,wC h9⟩)
    ·rcases hs.cl with⟨h7',_⟩ | ⟨_,hp,_⟩;all_goals grind[wM]
    ·rcases hs.cl with⟨h7',_⟩ | ⟨_,_,hb,_⟩
     ·omega
     ·exact jX h hb
    ·rcases hs.cl with⟨h7',_⟩ | ⟨_,_,_,hb⟩;all_goals grind
   ·rintro⟨j,⟨v,⟨⟩⟩,⟨⟩⟩ (⟨rfl,rfl,h7,h8⟩ | ⟨rfl,rfl,hq⟩)
    ·exact zf rfl (za (.inl ⟨rfl,rfl,.inr ⟨c6,h7,h8⟩⟩))
    ·exact zi rfl (za (.inr ⟨rfl,rfl,hq⟩))
  ·rcases hs.cl with⟨h7,_⟩ | ⟨h6',_⟩;all_goals grind[qn]
 rintro⟨j,⟨v,⟨⟩⟩,⟨⟩⟩ (⟨rfl,rfl,hcl⟩ | ⟨rfl,rfl,hq⟩);rotate_left
 ·exact zi rfl (za ⟨fun h=>(by cases h),fun h=>absurd h hq⟩)
 refine zf rfl (zk (J:=fun x=>(x.1=0∧x.2.1.1=false∧1<=s.2.2.2.2.2.2.2.2.length∧s.2.2.2.2.2.2.2.2.length<=2)∨(x.1=1∧x.2.1.1=false∧¬Zx t s)) ?_ ?_)
 ·refine zd (fun h=>za (.inr ⟨rfl,rfl,fun hs=>?_⟩)) fun h7=>zd (fun h=>za (.inr ⟨rfl,rfl,fun hs=>?_⟩)) fun h8=>za (.inl ⟨rfl,rfl,?_⟩)
  ·have:=zT h;have:=hs.rn;omega
  ·have:=zT h;have:=hs.rn;omega
  ·have h7:=zN h7;have h8:=zN h8;omega
 rintro⟨j,⟨v,⟨⟩⟩,⟨⟩⟩ (⟨rfl,rfl,n0,n2⟩ | ⟨rfl,rfl,hq⟩);rotate_left
 ·exact zi rfl (za ⟨fun h=>(by cases h),fun h=>absurd h hq⟩)
 refine zf rfl (zk (J:=fun x=>(x.1=0∧∀r∈s.2.2.2.2.2.2.2.2,yW t r∧pB t r=s.2.1∧HH t r=s.2.2.1)∨(x.1=1∧x.2.1.1=false∧¬Zx t s)) (wH s.2.2.2.2.2.2.2.2.length (fun i=>∀r,s.2.2.2.2.2.2.2.2[i]?=some r->yW t r∧pB t r=s.2.1∧HH t r=s.2.2.1) (by omega) ?_ ?_) ?_)
 ·intro i hi hp;have hx:s.2.2.2.2.2.2.2.2[i]?=some s.2.2.2.2.2.2.2.2[i]:=FL hi;have hm:=zqq hi;generalize s.2.2.2.2.2.2.2.2[i]=r at hx hm;refine zf (zI (show(i:Int) < (s.2.2.2.2.2.2.2.2.length:Int) by omega)) (zb (zm (n:=i) hx ?_));rw[mr ht];refine zk (J:=fun x=>(x.1=0∧x.2.1.1=false∧yW t r∧pB t r=s.2.1∧HH t r=s.2.2.1)∨(x.1=1∧x.2.1.1=false∧¬Zx t s)) ?_ ?_
  ·refine zd (fun h=>za (.inr ⟨rfl,rfl,fun hs=>jX h (hs.rt r hm).1⟩)) fun h=>?_;have hr:=wC h;have r0:=hr.n0;have r8:=hr.n1;have hy0:r[0]?=some r[0]:=FL (by omega);have hy1:r[r.length - 1]?=some (r[r.length - 1]'(by omega)):=FL (by omega);have e0:pB t r=frm t r[0]:=by unfold pB;rw[hy0];rfl
   have e1:HH t r=too t (r[r.length - 1]'(by omega)):=by unfold HH;rw[hy1];rfl
   have p0:=hr.pt _ (zqq (show 0 < r.length by omega));have p1:=hr.pt _ (zqq (show r.length - 1 < r.length by omega));generalize r[0]=p at hy0 e0 p0;generalize (r[r.length - 1]'(by omega))=q at hy1 e1 p1;refine zb (zm (n:=0) hy0 ?_);rw[uv hll p0,zq];refine zd (fun h=>za (.inr ⟨rfl,rfl,fun hs=>?_⟩)) fun h7=>?_
   ·rw[<-e0,wM (hs.rt r hm).2.1]at h;cases h
   have h7:=qg (show zj (frm t p) s.2.1=true by simpa using h7);rw[show wrF .i64 ((r.length:Int) - 1)=((r.length - 1:Nat):Int) from by rw[zR]<;>omega];refine zb (zm (n:=r.length - 1) hy1 ?_);rw[uP hll p1,zq];refine zd (fun h=>za (.inr ⟨rfl,rfl,fun hs=>?_⟩)) fun h8=>?_
   ·rw[<-e1,wM (hs.rt r hm).2.2]at h;cases h
   grind[qg,zj,too,za]
  ·rintro⟨j,⟨v,⟨⟩⟩,⟨⟩⟩ (⟨rfl,rfl,hq⟩ | ⟨rfl,rfl,hq⟩)
   ·exact zf rfl (za (vF (by omega) fun r' hr'=>by grind))
   ·exact zi rfl (za (zw (.inr ⟨rfl,rfl,hq⟩)))
 ·grind[zD,za,zw,kf]
 ·rintro⟨j,⟨v,w,⟨⟩⟩,⟨⟩⟩ (⟨rfl,hrt⟩ | ⟨rfl,rfl,hq⟩);rotate_left
  ·exact zi rfl (za ⟨fun h=>(by cases h),fun h=>absurd h hq⟩)
  refine zf rfl (zd (fun h=>?_) (fun h=>?_))
  ·have h:=qg h;have h:s.2.2.2.2.2.2.2.2.length=1:=by omega
   exact za ⟨fun _=>⟨h1,h2,h3,h4,h5,h6,hcl,⟨n0,n2⟩,hrt,fun a b _ hb=>by grind⟩,fun _=>rfl⟩
  ·have h:=qn h;have h:s.2.2.2.2.2.2.2.2.length=2:=by omega
   have hx0:s.2.2.2.2.2.2.2.2[0]?=some s.2.2.2.2.2.2.2.2[0]:=FL (by omega);have hx1:s.2.2.2.2.2.2.2.2[1]?=some s.2.2.2.2.2.2.2.2[1]:=FL (by omega);have r0:=(hrt _ (zqq (show 0 < s.2.2.2.2.2.2.2.2.length by omega))).1;have r1:=(hrt _ (zqq (show 1 < s.2.2.2.2.2.2.2.2.length by omega))).1;generalize s.2.2.2.2.2.2.2.2[0]=a at hx0 r0;generalize s.2.2.2.2.2.2.2.2[1]=b at hx1 r1;refine zb (zm (n:=0) hx0 (zb (zm (n:=1) hx1 ?_)));rw[mu ht r0 r1,zq];exact za ⟨fun h=>⟨h1,h2,h3,h4,h5,h6,hcl,⟨n0,n2⟩,hrt,fun a' b' ha hb=>by grind[aC]⟩,fun hs=>qU (hs.ap a b hx0 hx1)⟩
end Go.Proofs.YtlfkgkedfciccaaGreat.ad
namespace Go.Proofs.YtlfkgkedfciccaaGreat.ad
open Go Go.Fz Go.Fz.Sy Go.Proofs.YtlfkgkedfciccaaGreat.nd
variable {n:Fab}
def Yu(t:jC)(l:List wV):Prop:=∀s∈l,Zx t s
def OO(l:List wV):Prop:=∀(i k:Nat) a b,k < i->l[i]?=some a->l[k]?=some b->b.1≠a.1
noncomputable def iv (t:jC) (l:List wV):Int:=bif tv (l.length≤12) then bif tv (Yu t l) then bif tv (OO l) then 0 else 322 else 321 else 3
theorem bk{t:jC}(ht:wU t)(l:List wV):gO (t,l,())=some (iv t l,()):=by
 rw[BD];unfold eI;delta lnC w6C upC aTC nxC exC lpC jzC iv;simp only[WE,zq,qU ht,zsm,zqD];refine gY (zd (fun h=>?_) (fun h=>?_))
 ·have h:=zT h;grind[wg,za]
 have h12:l.length<=12:=by have:=zN h;omega
 rw[qU h12,zqL];refine zk (J:=fun x=>(x.1=0∧x.2.1.1=0∧Yu t l)∨(x.1=1∧x.2.1.1=321∧¬Yu t l)) (wH l.length (fun i=>∀s,l[i]?=some s->Zx t s) (by omega) ?_ ?_) ?_
 ·intro i hi hp;have hx:l[i]?=some l[i]:=FL hi;have hm:=zqq hi;generalize l[i]=s at hx hm;refine zf (zI (show(i:Int) < (l.length:Int) by omega)) (zb (zm (n:=i) hx ?_));rw[UJ ht];refine zd (fun h=>?_) (fun h=>?_)
  ·exact za (zw (.inr ⟨rfl,rfl,fun hq=>jX h (hq s hm)⟩))
  ·exact za (vF (by omega) fun r' hr'=>by grind[wC])
 ·intro hp;refine zi (zD (show ¬(l.length:Int) < (l.length:Int) by omega)) (za (zw (.inl ⟨rfl,rfl,fun r hr=>?_⟩)));grind[kf]
 rintro⟨j,⟨v,w,⟨⟩⟩,⟨⟩⟩ (⟨rfl,rfl,hq⟩ | ⟨rfl,rfl,hq⟩);rotate_left
 ·rw[wg hq];exact zi rfl (za rfl)
 rw[qU hq,zqL];refine zf rfl (zk (J:=fun x=>(x.1=0∧OO l)∨(x.1=1∧x.2.1.1=322∧¬OO l)) (wH l.length (fun i=>∀a,l[i]?=some a->∀(k:Nat) b,k < i->l[k]?=some b->b.1≠a.1) (by omega) ?_ ?_) ?_)
 ·intro i hi hp;have hx:l[i]?=some l[i]:=FL hi;generalize l[i]=s at hx;refine zf (zI (show(i:Int) < (l.length:Int) by omega)) ?_;refine zk (J:=fun x=>(x.1=0∧x.2.1.1=0∧∀(k:Nat) b,k < i->l[k]?=some b->b.1≠s.1)∨(x.1=1∧x.2.1.1=322∧¬OO l)) (wH i (fun k=>∀b,l[k]?=some b->b.1≠s.1) (by omega) ?_ ?_) ?_
  ·intro k hk hpk;have hy:l[k]?=some l[k]:=FL (by omega);generalize l[k]=b at hy;refine zf (zI (show(k:Int) < (i:Int) by omega)) (zb (zm (n:=k) hy (zb (zm (n:=i) hx ?_))));refine zd (fun h=>?_) (fun h=>?_)
   ·exact za (zw (.inr ⟨rfl,rfl,fun hd=>hd i k s b hk hx hy (qg h)⟩))
   ·exact za (vF (by omega) fun b' hb'=>by grind[qn])
  ·grind[zD,za,zw]
  ·rintro⟨j,⟨v,w,⟨⟩⟩,⟨⟩⟩ (⟨rfl,rfl,hk⟩ | ⟨rfl,rfl,hk⟩)
   ·exact zf rfl (za (vF (by omega) fun a ha=>by grind))
   ·exact zi rfl (za (zw (.inr ⟨rfl,rfl,hk⟩)))
 ·intro hp;exact zi (zD (show ¬(l.length:Int) < (l.length:Int) by omega)) (za (zw (.inl ⟨rfl,fun i k a b hk ha hb=>hp i (by grind) a ha k b hk hb⟩)))
 ·rintro⟨j,⟨v,w,⟨⟩⟩,⟨⟩⟩ (⟨rfl,hd⟩ | ⟨rfl,rfl,hd⟩)
  ·rw[qU hd];exact zf rfl (za rfl)
  ·rw[wg hd];exact zi rfl (za rfl)
theorem Tl{t:jC}(ht:wU t)(s:wV):Vh (t,s,())=some (bif tv (Zx t s)then 0 else 321,()):=by grind[NQ,At,WE,zq,qU,zsm,UJ,tv]
def kM(u:Int×Int×Int×Int):Prop:=(1<=u.1∧u.1<=10000)∧(0<=u.2.1∧u.2.1<=1000)∧(0<=u.2.2.1∧u.2.2.1<=10000)∧(1542<=u.2.2.2∧u.2.2.2<=65536)
theorem mw(u:Int×Int×Int×Int):JC (u,())=some (tv (kM u),()):=by rw[Nq];grind[tC,iu,zq,kM,ji,za,aC,qU,ij]
abbrev Gts:=List (Int×Int)×Int
def OP(e:Int×Int):Prop:=0<=e.1∧e.1<=255∧1<=e.2∧e.2<=9600000
def vj(l:List (Int×Int)):Int:=(l.map (·.2)).sum
structure kN(g:Gts):Prop where
 n0:1<=g.1.length
 n1:g.1.length<=128
 el:∀e∈g.1,OP e
 cy:vj g.1=g.2
 c1:g.2<=9600000
theorem my{l:List (Int×Int)}{n:Nat}{x:Int×Int}(h:l[n]?=some x):vj (l.take (n+1))=vj (l.take n)+x.2:=by unfold vj;rw[zrk,h];simp
theorem HI{l:List (Int×Int)}(h:∀e∈l,OP e):(l.length:Int)<=vj l∧vj l<=9600000*l.length:=by
 unfold vj;induction l with
 |nil=>simp
 |cons a l ih=>
  obtain⟨_,_,h1,h2⟩:=h a (by simp);grind
theorem zjb{g:Gts}(n1:g.1.length<=128){α:Type}{z bad:α}{B:((α×(Int×(Int×Unit)))×Unit)->Option ((Nat×((α×(Int×(Int×Unit)))×Unit)) ⊕ ((α×(Int×(Int×Unit)))×Unit))}(hB:B=fun s1=>bif(zg (s1.1.2.2.1) ((((g.1).length:Nat):Int)))then opt (atI (g.1) (s1.1.2.2.1)) fun x2=>opt (bif(zg (x2.1) (0))then some (1,((bad,()),()))else bif(zg (255) (x2.1))then some (1,((bad,()),()))else bif(zg (x2.2) (1))then some (1,((bad,()),()))else bif(zg (9600000) (x2.2))then some (1,((bad,()),()))else some (0,((s1.1.1,()),()))) fun x3=>bif(Nat.beq x3.1 0)then some (.inr ((x3.2.1.1,((wrF .i64 ((s1.1.2.1+x2.2))),((wrF .i64 ((s1.1.2.2.1+1))),()))),()))else some (.inl (1,((x3.2.1.1,(s1.1.2.1,(s1.1.2.2.1,()))),())))else some (.inl (0,((s1.1.1,(s1.1.2.1,(s1.1.2.2.1,()))),())))) : zt (yA B xm ((z,(0,(0,()))),())) fun x=>(x.1=0∧x.2.1.1=z∧x.2.1.2.1=vj g.1∧∀e∈g.1,OP e)∨(x.1=1∧x.2.1.1=bad∧¬∀e∈g.1,OP e):=by
 subst hB;refine zX g.1.length (fun i s=>s=((z,(vj (g.1.take i),((i:Int),()))),())∧∀e∈g.1.take i,OP e) (by omega) ⟨rfl,fun e he=>by simp at he⟩ ?_ ?_
 ·rintro i _ hi ⟨rfl,hp⟩;have hx:g.1[i]?=some g.1[i]:=FL hi;have hm:=zqq hi;generalize g.1[i]=e at hx hm;refine zf (zI (show(i:Int) < (g.1.length:Int) by omega)) (zb (zm (n:=i) hx ?_));refine zk (J:=fun x=>(x.1=0∧x.2.1.1=z∧OP e)∨(x.1=1∧x.2.1.1=bad∧¬OP e)) ?_ ?_
  ·refine zd (fun h=>za (.inr ⟨rfl,rfl,fun hs=>?_⟩)) fun h1=>zd (fun h=>za (.inr ⟨rfl,rfl,fun hs=>?_⟩)) fun h2=>zd (fun h=>za (.inr ⟨rfl,rfl,fun hs=>?_⟩)) fun h3=>zd (fun h=>za (.inr ⟨rfl,rfl,fun hs=>?_⟩)) fun h4=>za (.inl ⟨rfl,rfl,?_⟩)
   ·have:=zT h;have:=hs.1;omega
   ·have:=zT h;have:=hs.2.1;omega
   ·have:=zT h;have:=hs.2.2.1;omega
   ·have:=zT h;have:=hs.2.2.2;omega
   ·exact⟨zN h1,zN h2,zN h3,zN h4⟩
  ·rintro⟨j,⟨v,⟨⟩⟩,⟨⟩⟩ (⟨rfl,rfl,he⟩ | ⟨rfl,rfl,he⟩)
   ·have hb:=HI hp;have hl:(g.1.take i).length=i:=by simp;omega
    have e1:wrF .i64 (vj (g.1.take i)+e.2)=vj (g.1.take (i+1)):=by rw[my hx,zR]<;>(have:=he.2.2.1;have:=he.2.2.2;omega)
    refine zf rfl (za (qj ⟨?_,fun e' he'=>?_⟩))
    ·rw[<-e1,<-zO (by omega)]
    ·rw[zrk,hx]at he';simp only[Option.toList,zqF,zqY]at he';rcases he' with h | rfl
     ·exact hp e' h
     ·exact he
   ·exact zi rfl (za (zw (.inr ⟨rfl,rfl,fun h=>he (h e hm)⟩)))
 grind[zD,za,zw,vj,zrV]
theorem mz(g:Gts):JG (g,())=some (tv (kN g),()):=by
 rw[ND];unfold tU;delta lnC w6C upC aTC nxC exC lpC jzC;refine ji (zk (J:=fun x=>(x.1=0∧x.2.1.1=false∧1<=g.1.length∧g.1.length<=128)∨(x.1=1∧x.2.1.1=false∧¬kN g)) ?_ ?_)
 ·refine zd (fun h=>za (.inr ⟨rfl,rfl,fun hs=>?_⟩)) fun h1=>zd (fun h=>za (.inr ⟨rfl,rfl,fun hs=>?_⟩)) fun h2=>za (.inl ⟨rfl,rfl,?_⟩)
  ·have:=zT h;have:=hs.n0;omega
  ·have:=zT h;have:=hs.n1;omega
  ·have:=zN h1;have:=zN h2;omega
 rintro⟨j,⟨v,⟨⟩⟩,⟨⟩⟩ (⟨rfl,rfl,n0,n1⟩ | ⟨rfl,rfl,hq⟩);rotate_left
 ·exact zi rfl (za ⟨fun h=>(by cases h),fun h=>absurd h hq⟩)
 refine zf rfl (zk (zjb n1 rfl) ?_);rintro⟨j,⟨v,w,z,⟨⟩⟩,⟨⟩⟩ (⟨rfl,rfl,rfl,he⟩ | ⟨rfl,rfl,he⟩);rotate_left
 ·exact zi rfl (za ⟨fun h=>(by cases h),fun h=>absurd h.el he⟩)
 refine zf rfl (zd (fun h1=>?_) (fun h1=>?_))
 ·have h1:vj g.1=g.2:=qg h1;refine za ⟨fun h2=>⟨n0,n1,he,h1,?_⟩,fun hs=>?_⟩
  ·have h2:(!zg 9600000 (vj g.1))=true:=h2;have:=zN (show zg 9600000 (vj g.1)=false by simpa using h2);omega
  ·show(!zg 9600000 (vj g.1))=true;rw[zD (by have:=hs.c1;omega)];rfl
 ·exact za ⟨fun h=>(by cases h),fun h=>absurd h.cy (qn h1)⟩
abbrev Fab:=jC×(Int×Int×Int×Int)×List Gts×Int
def Tm(n:Fab):Prop:=∀g∈n.2.2.1,kN g
def FJ(n:Fab):Prop:=(n.2.2.1.length:Int)=2*(n.1.2.2.length:Int)∧84<=n.2.2.2∧n.2.2.2<=1542
noncomputable def nv (n:Fab):Int:=bif tv (wU n.1) then bif tv (kM n.2.1) then bif tv (Tm n) then bif tv (FJ n) then 0 else 410 else 370 else 320 else 260
structure zmZ(n:Fab):Prop where
 t:wU n.1
 u:kM n.2.1
 g:Tm n
 f:FJ n
theorem zkP(h:nv n=0):zmZ n:=by
 unfold nv at h;by_cases h1:wU n.1
 ·by_cases h2:kM n.2.1
  ·by_cases h3:Tm n
   ·by_cases h4:FJ n
    ·exact⟨h1,h2,h3,h4⟩
    ·rw[qU h1,qU h2,qU h3,wg h4]at h;cases h
   ·rw[qU h1,qU h2,wg h3]at h;cases h
  ·rw[qU h1,wg h2]at h;cases h
 grind[wg]
theorem zjc(hl:n.1.2.2.length<=24):zt (bif(!(zj ((((n.2.2.1).length:Nat):Int)) ((wrF .i64 ((2*(((n.1.2.2).length:Nat):Int)))))))then some ((1:Nat),(((410:Int),()),()))else bif(zg (n.2.2.2) (84))then some (1,((410,()),()))else bif(zg (1542) (n.2.2.2))then some (1,((410,()),()))else some (0,((0,()),()))) fun x=>(x.1=0∧x.2.1.1=0∧FJ n)∨(x.1=1∧x.2.1.1=410∧¬FJ n):=by
 rw[tw n.1 (by omega)];refine zd (fun h=>za (.inr ⟨rfl,rfl,fun hs=>?_⟩)) fun h1=>zd (fun h=>za (.inr ⟨rfl,rfl,fun hs=>?_⟩)) fun h2=>zd (fun h=>za (.inr ⟨rfl,rfl,fun hs=>?_⟩)) fun h3=>za (.inl ⟨rfl,rfl,?_⟩)
 ·rw[wM hs.1]at h;cases h
 ·have:=zT h;have:=hs.2.1;omega
 ·have:=zT h;have:=hs.2.2;omega
 ·exact⟨qg (by simpa using h1),zN h2,zN h3⟩
theorem pC(hn:n.2.2.1.length<=1000000000000000000):Zd (n,())=some (nv n,()):=by
 rw[nc];unfold UZ;delta lnC w6C upC aTC nxC exC lpC jzC nv;simp only[WE,zq];by_cases ht:wU n.1;rotate_left
 ·rw[wg ht];rfl
 rw[qU ht];simp only[zsm,zqD,zqL,mw,zq];by_cases hu:kM n.2.1;rotate_left
 ·rw[wg hu];rfl
 rw[qU hu];simp only[zsm,zqD,zqL];refine gY (zk (J:=fun x=>(x.1=0∧x.2.1.1=0∧Tm n)∨(x.1=1∧x.2.1.1=370∧¬Tm n)) (wH n.2.2.1.length (fun i=>∀g,n.2.2.1[i]?=some g->kN g) hn ?_ ?_) ?_)
 ·intro i hi hp;have hx:n.2.2.1[i]?=some n.2.2.1[i]:=FL hi;have hm:=zqq hi;generalize n.2.2.1[i]=g at hx hm;refine zf (zI (show(i:Int) < (n.2.2.1.length:Int) by omega)) (zb (zm (n:=i) hx ?_));rw[mz,zq];by_cases hg:kN g
  ·rw[qU hg];exact zi rfl (za (vF (by omega) fun r' hr'=>by grind))
  ·rw[wg hg];exact zf rfl (za (zw (.inr ⟨rfl,rfl,fun hq=>hg (hq g hm)⟩)))
 ·intro hp;refine zi (zD (show ¬(n.2.2.1.length:Int) < (n.2.2.1.length:Int) by omega)) (za (zw (.inl ⟨rfl,rfl,fun r hr=>?_⟩)));grind[kf]
 ·rintro⟨j,⟨v,w,⟨⟩⟩,⟨⟩⟩ (⟨rfl,rfl,hq⟩ | ⟨rfl,rfl,hq⟩)
  ·rw[qU hq];refine zf rfl (zk (zjc ht.sz.ls) ?_);rintro⟨j,⟨v,⟨⟩⟩,⟨⟩⟩ (⟨rfl,rfl,hf⟩ | ⟨rfl,rfl,hf⟩)
   ·grind[qU,za]
   ·rw[wg hf];exact zi rfl (za rfl)
  ·rw[wg hq];exact zi rfl (za rfl)
end Go.Proofs.YtlfkgkedfciccaaGreat.ad
namespace Go.Fz.Sy
variable {α:Type} {b:Bool} {a:Int} {p:Prop}
theorem zx{x y:Option α}{Q:α->Prop}(h:zt x Q):zt (bif Nat.beq 0 0 then x else y) Q:=h
theorem zu{x y:Option α}{Q:α->Prop}(h:zt y Q):zt (bif Nat.beq 1 0 then x else y) Q:=h
theorem vG{b:Int}:(zg a b=true)↔a < b:=by grind[wL]
theorem vH{b:Int}:(zg a b=false)↔b<=a:=by rw[wL,zrG];omega
theorem XT{b:Int}:(zj a b=true)↔a=b:=⟨qg,wM⟩
theorem bm{b:Int}:(zj a b=false)↔a≠b:=⟨qn,jc⟩
theorem dp:(tv p=false)↔¬p:=⟨ij,wg⟩
theorem qK:((!b)=true)↔b=false:=by cases b<;>simp
theorem qC:((!b)=false)↔b=true:=by cases b<;>simp
theorem zkQ{a:Bool}:((a&&b)=true)↔a=true∧b=true:=by grind
theorem zkR{a:Bool}:((a&&b)=false)↔a=false∨b=false:=by grind
theorem gh:(false=true)↔False:=by simp
theorem sw:(true=false)↔False:=by simp
theorem Qh{o:Option (Int×Unit)}{e:Int}(he:e≠0)(h:zt o fun r=>(p∧r.1=0)∨(¬p∧r.1=e)):o=some (bif tv p then 0 else e,()):=by obtain⟨⟨b,⟨⟩⟩,e1,h⟩:=h;grind[qU,wg]
theorem pD{e:Int}(he:e≠0):zj (bif tv p then 0 else e) 0=tv p:=by
 by_cases h:p
 ·rw[qU h];rfl
 ·rw[wg h];exact jc he
theorem jQ{V:Type}{B:((V×(Int×Unit))×Unit)->Option ((Nat×((V×(Int×Unit))×Unit)) ⊕ ((V×(Int×Unit))×Unit))}{v:V}(e:V)(n:Nat)(P:Nat->Prop)(hn:n<=1000000000000000000)(h:∀i,i < n->zt (B ((v,((i:Int),())),())) fun r=>(P i∧r=.inr ((v,(((i+1:Nat):Int),())),()))∨(¬P i∧∃z,r=.inl (1,((e,z),()))))(he:zt (B ((v,((n:Int),())),())) fun r=>∃z,r=.inl (0,((v,z),()))) : zt (yA B xm ((v,(0,())),())) fun x=>(x.1=0∧x.2.1.1=v∧∀k,k < n->P k)∨(x.1=1∧x.2.1.1=e∧¬∀k,k < n->P k):=by
 refine wH n P hn (fun i hi hp=>?_) fun hp=>?_
 ·obtain⟨r,e1,h1⟩:=h i hi;refine⟨r,e1,?_⟩;grind[qj,zw]
 ·obtain⟨r,e1,z,rfl⟩:=he;exact⟨_,e1,zw (.inl ⟨rfl,rfl,hp⟩)⟩
theorem za4{S R:Type}{B:S->Option (S ⊕ S)}{s:S}{f:S->Option R}{Q:R->Prop}(n:Nat)(I:Nat->S->Prop)(hn:n<=1000000000000000000)(h0:I 0 s)(h:∀k s,k<=n->I k s->zt (B s) fun r=>(∃s',r=.inr s'∧k < n∧I (k+1) s')∨(r=.inl s∧zt (f s) Q)):zt (opt (yA B xm s) f) Q:=by
 refine zk (J:=fun x=>zt (f x) Q) (zX n I (zfY hn) h0 (fun k s hk hI=>?_) fun s hI=>?_) fun a ha=>ha
 ·obtain⟨r,e,h1⟩:=h k s (by omega) hI;refine⟨r,e,?_⟩;grind[qj,zw]
 ·obtain⟨r,e,h1⟩:=h n s (FW _) hI;refine⟨r,e,?_⟩;grind[zw]
theorem yd{l:List α}{P:Nat->α->Prop}:(∀k,k < l.length->∃x,l[k]?=some x∧P k x)↔∀k x,l[k]?=some x->P k x:=by
 constructor
 ·intro h k x hx;obtain⟨hk,_⟩:=zqr.1 hx;obtain⟨y,hy,hp⟩:=h k hk;rw[hx]at hy;cases hy;exact hp
 simp_all
theorem iw{V:Type}(l:List α)(i:Nat)(hi:i<=l.length)(hn:i<=1000000000000000000)(S:α->Prop){B:((V×(Int×Unit))×Unit)->Option ((Nat×((V×(Int×Unit))×Unit)) ⊕ ((V×(Int×Unit))×Unit))}{v:V}(e:V)(h:∀(j:Nat) b,j < i->l[j]?=some b->zt (B ((v,((j:Int),())),())) fun r=>(¬S b∧r=.inr ((v,(((j+1:Nat):Int),())),()))∨(S b∧∃z,r=.inl (1,((e,z),()))))(he:zt (B ((v,((i:Int),())),())) fun r=>∃z,r=.inl (0,((v,z),()))) : zt (yA B xm ((v,(0,())),())) fun x=>(x.1=0∧x.2.1.1=v∧∀(j:Nat) b,j < i->l[j]?=some b->¬S b)∨(x.1=1∧x.2.1.1=e∧¬∀(j:Nat) b,j < i->l[j]?=some b->¬S b):=by
 refine zkI (jQ e i (fun k=>∃b,l[k]?=some b∧¬S b) hn (fun j hj=>?_) he) ?_
 ·have hx:l[j]?=some l[j]:=FL (by omega);grind
 ·rintro x (⟨h1,h0,h2⟩ | ⟨h1,h2,h3⟩)
  ·grind
  ·refine .inr ⟨h1,h2,fun h4=>h3 fun k hk=>?_⟩;exact⟨l[k],FL (by omega),h4 k _ hk (FL (by omega))⟩
end Go.Fz.Sy
namespace Go.Proofs.YtlfkgkedfciccaaGreat.ad
open Go Go.Fz Go.Fz.Sy Go.Proofs.YtlfkgkedfciccaaGreat.nd
variable {g:Gts}
theorem QB{a b A B:Int}(h0:0<=a)(h1:a<=A)(h2:0<=b)(h3:b<=B):0<=a*b∧a*b<=A*B:=⟨Int.mul_nonneg h0 h2,Int.mul_le_mul h1 h3 h2 (by omega)⟩
def cl(d w:Int):Int:=(w+d - 1) / d
def opn(m:Int):Bool:=m / 64 % 2 == 1
theorem zqi{m:Int}:wF .i64 m 6=m / 64:=by show m.fdiv (2 ^ (min (6:Int).toNat 64))=m / 64;grind
theorem bR{m:Int}(h:0<=m):JY (m,6,())=some (opn m,()):=by rw[zau];unfold Ly;delta lnC w6C upC aTC nxC exC lpC jzC opn;rw[show wrF .u64 6=6 from rfl,zqi];refine gY (zi rfl (za ?_));grind[zj,Int.tmod,yr,zqv]
theorem kN.pos(h:kN g):1<=g.2:=by have h1:=(HI h.el).1;have:=h.n0;have:=h.cy;omega
theorem OQ(hg:kN g):∃b,uj (g,())=some (b,()):=by
 have hn:=hg.n1;suffices key:zt (uj (g,())) fun _=>True by obtain⟨⟨b,⟨⟩⟩,e,_⟩:=key;exact⟨b,e⟩
 rw[HO];unfold ov;delta lnC w6C upC aTC nxC exC lpC jzC;refine zk (J:=fun x=>x.1=0∨x.1=1) (zX g.1.length (fun i s=>∃b:Bool,s=((b,((i:Int),())),())) (by omega) ⟨_,rfl⟩ ?_ ?_) ?_
 ·rintro i _ hi ⟨b,rfl⟩;have hx:g.1[i]?=some g.1[i]:=FL hi;have he:=hg.el _ (zqq hi);generalize g.1[i]=e at hx he;refine zf (zI (show(i:Int) < (g.1.length:Int) by omega)) (zb (zm hx ?_));rw[bR he.1,zq];exact zd (fun _=>za (zw (.inr rfl))) fun _=>za (qj ⟨b,zqT (fun z=>((b,(z,())),())) (zO (by omega))⟩)
 all_goals grind[zD,za,zw]
theorem zpo(hg:kN g)(t:Int):∃(i:Nat) (e:Int×Int) (z:Int),YR (g,t,())=some ((i:Int),z,())∧g.1[i]?=some e∧0<=z∧z < e.2:=by
 have hp:=hg.pos;have hc:=hg.c1;have hn:=hg.n1;have hcy:=hg.cy;have key:zt (YR (g,t,())) fun r=>∃(i:Nat) (e:Int×Int),r.1=(i:Int)∧g.1[i]?=some e∧0<=r.2.1∧r.2.1 < e.2:=by
  have a1 : -g.2 < Int.tmod t g.2:=Int.lt_tmod_of_pos t (by omega);have a2:Int.tmod t g.2 < g.2:=Int.tmod_lt_of_pos t (by omega);rw[zcP];unfold Si;delta lnC w6C upC aTC nxC exC lpC jzC;refine zi (jc (by omega)) (zk (J:=fun x=>0<=x.2.1.1∧x.2.1.1 < g.2) (zd (fun h=>za ?_) fun h=>za ?_) ?_)
  ·have h:=zT h;show 0<=wrF .i64 (Int.tmod t g.2+g.2)∧wrF .i64 (Int.tmod t g.2+g.2) < g.2;rw[zR (by omega) (by omega)];omega
  ·exact⟨zN h,a2⟩
  rintro⟨j,⟨r,⟨⟩⟩,⟨⟩⟩ ⟨r0,r1⟩;dsimp only at r0 r1;refine zk (J:=fun x=>∃(i:Nat) (e:Int×Int),x.2.1.2.1=(i:Int)∧g.1[i]?=some e∧0<=x.2.1.1∧x.2.1.1 < e.2) (zX g.1.length (fun k s=>s=((r - vj (g.1.take k),((k:Int),())),())∧vj (g.1.take k)<=r) (by omega) ⟨by show _=((r - 0,_),());rw[Int.sub_zero];rfl,r0⟩ ?_ ?_) ?_
  ·rintro k _ hk ⟨rfl,hs⟩;have hy:g.1[k]?=some g.1[k]:=FL hk;have hf:=hg.el _ (zqq hk);generalize g.1[k]=f at hy hf;have hk0:=HI (l:=g.1.take k) fun e he=>hg.el e (ztd he);have hf2:=hf.2.2.1;have hf3:=hf.2.2.2;refine zb (zm hy (zd (fun h=>zb (zm hy ?_)) fun h=>za (zw ⟨k,f,rfl,hy,by show 0<=r - vj (g.1.take k);omega,zT (qC.1 h)⟩)));have h:=zN (qK.1 h);refine za (qj ⟨?_,by rw[my hy];dsimp only at h;omega⟩);dsimp only at h;show(((wrF .i64 (r - vj (g.1.take k) - f.2)),((wrF .i64 ((k:Int)+1)),())),())=_;rw[zO (by omega),my hy,zR (by omega) (by omega),Int.sub_sub]
  ·rintro _ ⟨rfl,hs⟩;rw[zrV]at hs;omega
  rintro⟨j,⟨z,w,⟨⟩⟩,⟨⟩⟩ ⟨i,e,h1,h2,h3,h4⟩;exact za ⟨i,e,h1,h2,h3,h4⟩
 obtain⟨⟨i',z,⟨⟩⟩,e,i,en,h1,h2,h3,h4⟩:=key;grind
theorem Tn(hg:kN g){a b:Int}(ha : -100000000000<=a∧a<=100000000000)(hb : -100000000000<=b∧b<=100000000000) : ∃l:List (Int×Int),xQ (g,a,b,())=some (l,())∧(∀p∈l,a<=p.1∧p.1 < p.2∧p.2<=b)∧l.length<=(b - a).toNat:=by
 have hc:=hg.c1;have key:zt (xQ (g,a,b,())) fun r=>(∀p∈r.1,a<=p.1∧p.1 < p.2∧p.2<=b)∧r.1.length<=(b - a).toNat:=by
  rw[BH];unfold eU;delta lnC w6C upC aTC nxC exC lpC jzC;refine zk (J:=fun x=>(∀p∈x.2.2.1,a<=p.1∧p.1 < p.2∧p.2<=b)∧x.2.2.1.length<=(b - a).toNat)
   (zX (b - a).toNat (fun i s=>∃(o:Bool) (t:Int) (L:List (Int×Int)),s=((o,(t,())),(L,()))∧a+i<=t∧(t=a∨t<=b)∧L.length<=i∧(o=true->0 < L.length)∧∀p∈L,a<=p.1∧p.1 < p.2∧p.2<=t∧p.2<=b) (by omega) ⟨false,a,[],rfl,by omega,.inl rfl,by simp,(fun h=>by cases h),fun p h=>by cases h⟩ ?_ ?_) ?_
  ·rintro i _ hi ⟨o,t,L,rfl,ht,htb,hL,ho,hp⟩;refine zd (fun h=>?_) fun _=>za (zw ⟨fun p h=>⟨(hp p h).1,(hp p h).2.1,(hp p h).2.2.2⟩,by show L.length<=_;omega⟩);have h:t < b:=zT h;obtain⟨k,e,z,ea,hx,z0,z1⟩:=zpo hg t;have he:=hg.el e (zqx hx);have he3:=he.2.2.2;show zt (opt (YR (g,t,())) _) _;rw[ea,zq];refine zb (zm hx (zb (zm hx ?_)));rw[bR he.1,zq];have em:∃m,wK (wrF .i64 (wrF .i64 (t - z)+e.2)) b=m∧t < m∧m<=b:=⟨_,rfl,by rw[Km,zR (z:=t - z) (by omega) (by omega),zR (by omega) (by omega)];omega,by rw[Km];omega⟩;obtain⟨m,em,m0,m1⟩:=em;dsimp only;rw[em];refine zk (J:=fun x=>x.2.2.1.length=L.length∧∀p∈x.2.2.1,a<=p.1∧p.1 < p.2∧p.2<=m∧p.2<=b) (zd (fun _=>zd (fun ho1=>?_) fun _=>za ⟨rfl,fun p h=>?_⟩) fun _=>za ⟨rfl,fun p h=>?_⟩) ?_
   ·have h0:=ho ho1;have e1:wrF .i64 ((L.length:Int) - 1)=((L.length - 1:Nat):Int):=by rw[zR (by omega) (by omega)];omega
    rw[e1];have hy:L[L.length - 1]?=some L[L.length - 1]:=FL (by omega);have hm:=hp _ (zqq (show L.length - 1 < L.length by omega));generalize L[L.length - 1]=q at hy hm;refine zb (zm hy (zb (jP (a:=q) (by rw[zqQ,xf];exact hy) (za ⟨by show(List.set _ _ _).length=_;rw[zrZ],fun p h=>?_⟩))));rcases List.mem_or_eq_of_mem_set h with h | rfl
    ·have:=hp p h;omega
    ·exact⟨hm.1,by show q.1 < m;omega,by show m<=m;omega,m1⟩
   ·have:=hp p h;omega
   ·have:=hp p h;omega
   rintro⟨c,⟨⟩,L1,⟨⟩⟩ ⟨hl1,hp1⟩;dsimp only at hl1 hp1;refine zk (J:=fun x=>x.2.2.1.length<=i+1∧(opn e.1=true->0 < x.2.2.1.length)∧∀p∈x.2.2.1,a<=p.1∧p.1 < p.2∧p.2<=m∧p.2<=b) (zd (fun _=>zd (fun _=>zf (qM (by show(L1.length+1)*16<=_;omega) (by show L1.length+1<=_;omega)) (za ⟨by show(L1++_).length<=_;simp;omega,fun _=>by show 0 < (L1++_).length;simp,fun p h=>?_⟩)) fun h2=>za ⟨by show L1.length<=_;omega,fun _=>by show 0 < L1.length;have:=ho (qC.1 h2);omega,hp1⟩) fun h2=>za ⟨by show L1.length<=_;omega,fun h3=>absurd h3 (by have h2:opn e.1=false:=h2;rw[h2];decide),hp1⟩) ?_
   ·rcases zqF.1 h with h | h
    ·exact hp1 p h
    ·rw[zqY.1 h];exact⟨by show a<=t;omega,m0,by show m<=m;omega,m1⟩
   rintro⟨c2,⟨⟩,L2,⟨⟩⟩ ⟨hl2,ho2,hp2⟩;exact za (qj ⟨_,m,L2,rfl,by omega,.inr m1,hl2,ho2,hp2⟩)
  all_goals grind[zD,za,zw]
 obtain⟨⟨l,⟨⟩⟩,e,h⟩:=key;exact⟨l,e,h⟩
theorem znI(l:List (Int×Int))(hl:l.length<=1000000000)(lost:Int):∃v,JZ (l,lost,())=some (v,()):=by
 suffices key:zt (JZ (l,lost,())) fun _=>True by obtain⟨⟨b,⟨⟩⟩,e,_⟩:=key;exact⟨b,e⟩
 rw[zaw];unfold LB;delta lnC w6C upC aTC nxC exC lpC jzC;refine zk (J:=fun _=>True) (zX l.length (fun i s=>∃v:Int,s=((v,((i:Int),())),())) (by omega) ⟨_,rfl⟩ ?_ ?_) fun _ _=>za trivial
 ·rintro i _ hi ⟨v,rfl⟩;have hx:l[i]?=some l[i]:=FL hi;exact zf (zI (show(i:Int) < (l.length:Int) by omega)) (zb (zm hx (zb (zm hx (za (qj ⟨_,zqT (fun z=>((_,(z,())),())) (zO (by omega))⟩))))))
 grind[zD,za,zw]
theorem zhr(hg:kN g):∃L:List (Int×Int),Zq (g,())=some (L,())∧(∀p∈L,0<=p.1∧p.1 < p.2∧p.2<=20000000)∧L.length<=20000000:=by
 have hc:=hg.c1;have hn:=hg.n1;have hcy:=hg.cy;have hpo:=hg.pos;have key:zt (Zq (g,())) fun r=>(∀p∈r.1,0<=p.1∧p.1 < p.2∧p.2<=20000000)∧r.1.length<=20000000:=by
  rw[NG];unfold tX;delta lnC w6C upC aTC nxC exC lpC jzC;refine zk (J:=fun x=>0<=x.2.1.1∧x.2.1.1<=9600000) (zX g.1.length (fun i s=>s=((vj (g.1.take i),((i:Int),())),())∧0<=vj (g.1.take i)∧vj (g.1.take i)<=g.2) (by omega) ⟨rfl,by show(0:Int)<=0;omega,by show(0:Int)<=g.2;omega⟩ ?_ ?_) ?_
  ·rintro i _ hi ⟨rfl,h0,h1⟩;have hx:g.1[i]?=some g.1[i]:=FL hi;have he:=hg.el _ (zqq hi);generalize g.1[i]=e at hx he;have he2:=he.2.2.1;have he3:=he.2.2.2;have hsum:vj (g.1.take (i+1))+vj (g.1.drop (i+1))=vj g.1:=by unfold vj;rw[<-List.sum_append,<-zrJ,zse]
   have hd:=HI (l:=g.1.drop (i+1)) fun e he=>hg.el e (List.mem_of_mem_drop he);have hs:=my hx;refine zf (zI (show(i:Int) < (g.1.length:Int) by omega)) (zb (zm hx ?_));rw[bR he.1,zq];refine zd (fun _=>zb (zm hx (za (qj ⟨?_,by omega,by omega⟩)))) fun _=>za (zw ⟨h0,by show vj (g.1.take i)<=_;omega⟩);show(((wrF .i64 (vj (g.1.take i)+e.2)),((wrF .i64 ((i:Int)+1)),())),())=_;rw[zO (by omega),hs,zR (by omega) (by omega)]
  ·rintro _ ⟨rfl,h0,h1⟩;exact zi (zD (show ¬(g.1.length:Int) < (g.1.length:Int) by omega)) (za (zw ⟨h0,by show vj (g.1.take g.1.length)<=_;omega⟩))
  rintro⟨c,⟨t,n,⟨⟩⟩,⟨⟩⟩ ⟨t0,t1⟩;dsimp only at t0 t1;have ew:wrF .i64 (t+g.2)=t+g.2:=zR (by omega) (by omega);obtain⟨l,el,hl,hl2⟩:=Tn hg (a:=t) (b:=t+g.2) (by omega) (by omega);grind[zt,opt,xQ,wrF,zq,za]
 obtain⟨⟨l,⟨⟩⟩,e,h⟩:=key;exact⟨l,e,h⟩
theorem zoB(hg:kN g)(per most:Int):∃v,Vf (g,per,most,())=some (v,()):=by obtain⟨b,eb⟩:=OQ hg;obtain⟨L,eL,_,hL⟩:=zhr hg;obtain⟨v,ev⟩:=znI L (by omega) (wrF .i64 (most*per));grind[NI,Aa,zq]
theorem zoC(hg:kN g)(per most:Int){t n:Int}(h0:0<=t∧t<=1000000000)(h1:0<=n∧n<=1000000000):∃v,Vg (g,per,most,t,n,())=some (v,()):=by obtain⟨b,eb⟩:=OQ hg;obtain⟨L,eL,_,hL⟩:=Tn hg (a:=t) (b:=t+n) (by omega) (by omega);obtain⟨v,ev⟩:=znI L (by omega) (wrF .i64 (most*per));grind[NK,Ae,zq,zR]
theorem za5(g:Gts){per most:Int}(p0:1<=per)(p1:per<=1000)(m0:84<=most)(m1:most<=1542):KR (g,per,most,())=some (bif tv (kN g)then 0 else 370,()):=by grind[Sf,Eu,mz,zq,qU,zD,wg]
theorem zpp(hg:kN g){per most:Int}(p0:1<=per)(p1:per<=1000)(m0:84<=most)(m1:most<=1542):∃v e,KS (g,per,most,())=some (v,e,()):=by
 suffices key:zt (KS (g,per,most,())) fun _=>True by obtain⟨⟨v,e,⟨⟩⟩,h,_⟩:=key;exact⟨v,e,h⟩
 have hc:=hg.c1;have hpo:=hg.pos;obtain⟨x,ex⟩:=zoB hg per most;obtain⟨b,eb⟩:=OQ hg;obtain⟨L,eL,hL,hL2⟩:=zhr hg;have hCp:=QB (show 0<=g.2 by omega) hc (show 0<=per by omega) p1;have hCp1:per<=g.2*per:=by have:=Int.mul_le_mul_of_nonneg_right (show 1<=g.2 by omega) (show 0<=per by omega);omega
 have hlost:=QB (show 0<=most by omega) m1 (show 0<=per by omega) p1;have eC:wrF .i64 (g.2*per)=g.2*per:=zR (by omega) (by omega);have elo:wrF .i64 (most*per)=most*per:=zR (by omega) (by omega);rw[zcU];unfold Sm;delta lnC w6C upC aTC nxC exC lpC jzC;rw[za5 g p0 p1 m0 m1,qU hg,zq];refine zi rfl ?_;rw[ex,zq,eC,elo];refine zi (jc (by omega)) (zd (fun _=>za trivial) fun hr=>?_);dsimp only at hr;have hr:=zN hr;have hrate:wrF .i64 (wrF .i64 (Int.tdiv (wrF .i64 (x*1048576)) (g.2*per))*per)≠0:=by
  have hw : -9223372036854775808<=wrF .i64 (x*1048576)∧wrF .i64 (x*1048576)<=9223372036854775807:=by rw[Zy,IntKind.wrap_i64];omega
  generalize wrF .i64 (x*1048576)=w at hr hw;by_cases hw0:0<=w
  ·rw[zrf hw0]at hr ⊢;have q0:0<=w / (g.2*per):=zrR hw0 (by omega);have q1:w / (g.2*per)<=w:=zsj _ hw0;rw[zR (z:=w / (g.2*per)) (by omega) (by omega)]at hr ⊢;have q2:w / (g.2*per)*(g.2*per)<=w:=Int.ediv_mul_le w (by omega);have q3:=Int.mul_le_mul_of_nonneg_left hCp1 q0;have q4:=Int.mul_le_mul hr p0 (by omega) q0;rw[zR (by omega) (by omega)];omega
  ·have q0:0<=(-w) / (g.2*per):=zrR (by omega) (by omega);have q1:(-w) / (g.2*per)<=-w:=zsj _ (by omega);have e1:Int.tdiv w (g.2*per) = -((-w) / (g.2*per)):=by rw[<-zrf (show 0<=-w by omega),Int.neg_tdiv,Int.neg_neg]
   rw[e1,Zy,IntKind.wrap_i64]at hr;omega
 refine zk (J:=fun _=>True) ?_ fun z _=>zi (jc hrate) (za trivial);rw[eb,zq];refine zd (fun _=>?_) fun _=>za trivial;rw[eL,zq];refine zk (J:=fun _=>True) (zX L.length (fun i s=>∃v:Int,s=((v,((i:Int),())),())) (by omega) ⟨_,rfl⟩ ?_ ?_) fun _ _=>za trivial
 ·rintro i _ hi ⟨v,rfl⟩;have hx:L[i]?=some L[i]:=FL hi;have hp:=hL _ (zqq hi);generalize L[i]=p at hx hp;refine zf (zI (show(i:Int) < (L.length:Int) by omega)) (zb (zm hx (zb (zm hx (zb (zm hx ?_))))));have e2:wrF .i64 (2*(L.length:Int))=((2*L.length:Nat):Int):=by rw[zR (by omega) (by omega)];omega
  refine zk (J:=fun _=>True) (zX (2*L.length) (fun k s=>∃v:Int,s=((v,((k:Int),())),())) (by omega) ⟨_,rfl⟩ ?_ ?_) ?_
  ·rintro k _ hk ⟨v,rfl⟩;refine zf (by rw[e2];exact zI (by show(k:Int) < _;omega)) (zi (jc (show(L.length:Int)≠0 by omega)) ?_);have hkm:k % L.length < L.length:=Nat.mod_lt _ (by omega);have hy:L[k % L.length]?=some L[k % L.length]:=FL hkm;have hq:=hL _ (zqq hkm);generalize L[k % L.length]=q at hy hq;have et:Int.tmod (k:Int) (L.length:Int)=((k % L.length:Nat):Int):=by rw[zqv (by omega)];omega
   have ed:Int.tdiv (k:Int) (L.length:Int)=((k / L.length:Nat):Int):=by rw[zrf (by omega)];omega
   have hkd:k / L.length<=1:=by have:=Nat.div_lt_of_lt_mul (show k < L.length*2 by omega);omega
   generalize k / L.length=dd at ed hkd;show zt (opt (atI L (Int.tmod (k:Int) (L.length:Int))) _) _;rw[et];refine zb (zm hy (zi (jc (show(L.length:Int)≠0 by omega)) (zk (J:=fun _=>True) (zd (fun h=>?_) fun _=>za trivial) ?_)))
   ·have h:=zT h;have hcd:=QB (show(0:Int)<=(dd:Int) by omega) (show(dd:Int)<=1 by omega) (show 0<=g.2 by omega) hc;have f1:∃f,wrF .i64 (p.2 - wK (wrF .i64 (p.2 - p.1)) (most*per))=f∧0<=f∧f<=20000000:=⟨_,rfl,by rw[Km,zR (z:=p.2 - p.1) (by omega) (by omega),zR (by omega) (by omega)];omega,by rw[Km,zR (z:=p.2 - p.1) (by omega) (by omega),zR (by omega) (by omega)];omega⟩;have f2:∃f,wrF .i64 (wrF .i64 (q.1+wK (wrF .i64 (q.2 - q.1)) (most*per))+wrF .i64 (wrF .i64 (Int.tdiv (k:Int) (L.length:Int))*g.2))=f∧0<=f∧f<=100000000:=by refine⟨_,rfl,?_⟩;rw[ed,zR (z:=(dd:Int)) (by omega) (by omega),zR (z:=(dd:Int)*g.2) (by omega) (by omega),Km,zR (z:=q.2 - q.1) (by omega) (by omega),zR (z:=q.1+min (q.2 - q.1) (most*per)) (by omega) (by omega),zR (by omega) (by omega)];omega
    obtain⟨f,ef,f0,f3⟩:=f1;obtain⟨t,et2,t0,t1⟩:=f2;dsimp only at h ⊢;rw[ef,et2]at h ⊢;obtain⟨y,ey⟩:=zoC hg per most (t:=f) (n:=t - f) (by omega) (by omega);rw[zR (z:=t - f) (by omega) (by omega),ey,zq];exact za trivial
   rintro⟨j,⟨v2,⟨⟩⟩,⟨⟩⟩ -;exact za (qj ⟨v2,zqT (fun z=>((v2,(z,())),())) (zO (by omega))⟩)
  ·rintro _ ⟨v,rfl⟩;exact zi (by rw[e2];exact zD (by show ¬((2*L.length:Nat):Int) < _;omega)) (za (zw trivial))
  rintro⟨j,⟨v2,w,⟨⟩⟩,⟨⟩⟩ -;exact za (qj ⟨v2,zqT (fun z=>((v2,(z,())),())) (zO (by omega))⟩)
 grind[zD,za,zw]
end Go.Proofs.YtlfkgkedfciccaaGreat.ad
namespace Go.Proofs.YtlfkgkedfciccaaGreat.ad
open Go Go.Fz Go.Fz.Sy Go.Proofs.YtlfkgkedfciccaaGreat.nd
variable {b:Int×Int} {s:Int×Int}
theorem WG(b:Int×Int):wW (b,())=some (tv (kg b),()):=by rw[eW];unfold bC;delta lnC w6C upC aTC nxC exC lpC jzC kg;refine ji ?_;grind[za,wL]
def Wj(l:List (Int×Int)):Int×Int:=((l.map (·.1)).sum,(l.map (·.2)).sum)
theorem zkS{l:List (Int×Int)}{i:Nat}(h:l[i]?=some b):Wj (l.take (i+1))=((Wj (l.take i)).1+b.1,(Wj (l.take i)).2+b.2):=by unfold Wj;rw[zrk,h];simp
theorem zhs:∀{l:List (Int×Int)},(∀b∈l,kg b)->(l.length:Int)<=(Wj l).1∧(Wj l).1<=1048576*l.length∧(l.length:Int)<=(Wj l).2∧(Wj l).2<=2097152*l.length
 |[],_=>by simp[Wj]
 |b::l,h=>by have ih:=zhs (l:=l) fun x hx=>h x (by simp[hx]);obtain⟨⟨h1,h2⟩,h3,h4⟩:=h b (by simp);grind[Wj,zrz,List.sum_cons,zrw]
noncomputable def OR (l:List (Int×Int)):(Int×Int)×Int:=bif tv (kg (Wj l)) then (Wj l,0) else ((0,0),6)
theorem zdm{l:List (Int×Int)}(h0:l≠[])(h12:l.length<=12)(hb:∀b∈l,kg b):az (l,())=some ((OR l).1,(OR l).2,()):=by
 have hl:0 < l.length:=zrU.2 h0;rw[zay];unfold LF;delta lnC w6C upC aTC nxC exC lpC jzC;refine qF (zi (jc (show(l.length:Int)≠0 by omega)) (zi (zD (show ¬12 < (l.length:Int) by omega)) ?_));refine zk (J:=fun x=>x.1=0∧x.2.1.2.1=Wj l) (zX l.length (fun i s=>s=(((0,0),(Wj (l.take i),(0,((i:Int),())))),())) (by omega) rfl ?_ ?_) ?_
 ·rintro i _ hi rfl;have hx:l[i]?=some l[i]:=FL hi;have hm:=zqq hi;generalize l[i]=b at hx hm;have hbb:=hb b hm;have hbd:=zhs (l:=l.take i) fun x hx=>hb x (ztd hx);have hlt:(l.take i).length=i:=by simp;omega
  refine zf (zI (show(i:Int) < (l.length:Int) by omega)) (zb (zm (n:=i) hx ?_));rw[WG,qU hbb,zq];refine zi rfl (zb (zm (n:=i) hx (zb (zm (n:=i) hx (za (qj ?_))))));obtain⟨⟨b1,b2⟩,b3,b4⟩:=hbb;grind[wrF,Wj,zkS,zO,zR]
 ·grind[zD,za,zw,Wj,zrV]
 ·rintro⟨j,⟨a1,a2,a3,a4,⟨⟩⟩,⟨⟩⟩ ⟨h1,h2⟩;simp only at h1 h2;subst h1 h2;refine zf rfl ?_;grind[WG,zq,OR,kg,Wj,qU,za,wg]
theorem wru{z:Int}(h1:0<=z)(h2:z < 18446744073709551616):wrF .u64 z=z:=by
 rw[Zy];have e:IntKind.u64.wrap z=z % 18446744073709551616:=by unfold IntKind.wrap;show(if(false&&decide (z % 18446744073709551616>=9223372036854775808))=true then z % 18446744073709551616 - 18446744073709551616 else z % 18446744073709551616)=_;simp
 rw[e];omega
theorem zjd(x:Int):wF .u64 x 32=x / 4294967296:=by show x.fdiv (2 ^ (min (32:Int).toNat 64))=x / 4294967296;grind
theorem zje{x:Int}(h0:0<=x)(h1:x < 4294967296):wO .and .u64 x 4294967295=x:=by
 obtain⟨n,rfl⟩:=Int.eq_ofNat_of_zero_le h0;show IntKind.u64.wrap (((BitVec.ofInt 64 (n:Int)&&& BitVec.ofInt 64 4294967295).toNat:Nat):Int)=_;have e:(BitVec.ofInt 64 (n:Int)&&& BitVec.ofInt 64 4294967295).toNat=n:=by
  rw[ztv,BitVec.toNat_ofInt,BitVec.toNat_ofInt];have e1:((n:Int) % ((2 ^ 64:Nat):Int)).toNat=n:=by rw[show((2 ^ 64:Nat):Int)=18446744073709551616 from rfl];omega
  have e2:((4294967295:Int) % ((2 ^ 64:Nat):Int)).toNat=2 ^ 32 - 1:=rfl;rw[e1,e2,Nat.and_two_pow_sub_one_of_lt_two_pow (by omega)]
 rw[e,<-Zy];grind[wru]
theorem mA{l:List Int}(hn:l.length<=1000)(h:∀x∈l,-1125899906842624<=x∧x<=1125899906842624):JO (l,())=some (true,()):=by
 rw[Oq];unfold Bb;delta lnC w6C upC aTC nxC exC lpC jzC;refine gY (zk (J:=fun x=>x.1=0) (wH l.length (fun _=>True) (by omega) ?_ ?_) ?_)
 ·intro i hi _;have hx:l[i]?=some l[i]:=FL hi;obtain⟨h1,h2⟩:=h _ (zqq hi);generalize l[i]=x at hx h1 h2;refine zf (zI (show(i:Int) < (l.length:Int) by omega)) (zb (zm (n:=i) hx ?_));refine zk (J:=fun r=>r.1=0∧r.2.1.1=false) (zi (zD (by omega)) (zi (zD (by omega)) (za ⟨rfl,rfl⟩))) ?_;rintro⟨j,⟨v,⟨⟩⟩,⟨⟩⟩ ⟨rfl,rfl⟩;exact zf rfl (za (vF (by omega) trivial))
 ·grind[zD,za,zw]
 ·rintro⟨j,⟨v,w,⟨⟩⟩,⟨⟩⟩ h1;simp only at h1;subst h1;exact zf rfl (za rfl)
theorem mB{x:Int}(h1 : -1125899906842624<=x)(h2:x<=1125899906842624):Zt (x,())=some (x,true,()):=by rw[Ou];unfold Be;delta lnC w6C upC aTC nxC exC lpC jzC;rw[mA (by simp) (by simp;omega)];rfl
theorem Cl{a b:Int}(a0:0<=a)(a1:a < 4294967296)(b0:0<=b)(b1:b < 4294967296):Qm (a,b,())=some (0,a*b,()):=by have hm:=QB a0 (show a<=4294967295 by omega) b0 (show b<=4294967295 by omega);rw[si];unfold cq;delta lnC w6C upC aTC nxC exC lpC jzC;rw[zjd a,zjd b,zje a0 a1,zje b0 b1,show a / 4294967296=0 by omega,show b / 4294967296=0 by omega,Int.zero_mul,Int.zero_mul,Int.mul_zero];grind[wrF,wru,zjd,zje]
theorem Cm{a c:Int}(a0:0<=a)(a1:a < 18446744073709551616)(c0:0 < c):Qn (0,a,c,())=some (a / c,a % c,()):=by rw[sm];unfold cA;delta lnC w6C upC aTC nxC exC lpC jzC;have hq:0<=a / c:=zrR a0 (by omega);have hq2:a / c<=a:=zsj _ a0;rw[jc (show c≠0 by omega),zI (show 0 < c by omega),zrf a0,zqv a0,wru hq (by omega)];rfl
theorem GR{n d:Int}(n0:0<=n)(n1:n<=1000000000000000000)(d0:0 < d)(d1:d<=1000000000000):uL (n,d,())=some (cl d n,()):=by
 have hq:0<=n / d:=zrR n0 (by omega);have hq2:n / d<=n:=zsj _ n0;have hr:=zrc n (show d≠0 by omega);have hr2:=zqS n d0;have hde:=zsa n d;have hcl:cl d n=if n % d=0 then n / d else n / d+1:=by
  unfold cl;split
  ·rename_i h;have e:n+d - 1=(d - 1)+(n / d)*d:=by grind
   rw[e,zsr _ _ (by omega),zrW (by omega) (by omega)];omega
  ·rename_i h;have e:n+d - 1=(n % d - 1)+(n / d+1)*d:=by grind
   rw[e,zsr _ _ (by omega),zrW (by omega) (by omega)];omega
 rw[Sq];unfold ED;delta lnC w6C upC aTC nxC exC lpC jzC;have e2:n / d*d=n - n % d:=by grind
 rw[jc (show d≠0 by omega),zqD,zrf n0,zR (z:=n / d) (by omega) (by omega),e2,zR (z:=n - n % d) (by omega) (by omega),zR (z:=n / d+1) (by omega) (by omega),hcl];by_cases h:n % d=0
 ·rw[zD (by omega),zqJ h];rfl
 ·rw[zI (by omega),zqt h];rfl
def Kn(s:Int×Int):Prop:=1<=s.1∧s.1<=2097152∧0<=s.2∧s.2<=268435456
theorem To(h:Kn s):Zr (s,())=some (true,()):=by obtain⟨h1,h2,h3,h4⟩:=h;grind[eX,bD,zD]
theorem zdH{d w M:Int}(hd:0 < d)(h0:0<=w)(h1:w<=M):0<=cl d w∧cl d w<=M+1:=by
 unfold cl;refine⟨zrR (by omega) (by omega),?_⟩;have:(w+d - 1) / d<=(w*d+d) / d:=by refine Int.ediv_le_ediv hd ?_;have:=Int.mul_le_mul_of_nonneg_left (show 1<=d by omega) h0;omega
 have e:(w*d+d) / d=w+1:=by rw[show w*d+d=(w+1)*d by grind];exact Int.mul_ediv_cancel _ (by omega)
 omega
theorem zm0(hb:kg b)(hs:Kn s):0<=cl s.1 (b.1*1048576)∧cl s.1 (b.1*1048576)<=1099511627777:=by obtain⟨⟨b1,b2⟩,b3,b4⟩:=hb;obtain⟨h1,h2,h3,h4⟩:=hs;exact zdH (M:=1099511627776) (by omega) (by omega) (by omega)
theorem mC(hb:kg b)(hs:Kn s):Zs ([b],s,())=some (bif tv (b.2<=s.1)then(s.2+cl s.1 (b.1*1048576),0,())else(0,141,())):=by
 have hd:=zm0 hb hs;obtain⟨s1,s2,s3,s4⟩:=id hs;obtain⟨⟨b1,b2⟩,b3,b4⟩:=id hb;have hsl:KT ([b],s.1,())=some (tv (b.2<=s.1),()):=by
  rw[Sp];unfold Ez;delta lnC w6C upC aTC nxC exC lpC jzC;refine ji (zk (J:=fun x=>(x.1=0∧¬b.2<=s.1)∨(x.1=1∧x.2.1.1=true∧b.2<=s.1)) (wH 1 (fun _=>¬b.2<=s.1) (by omega) ?_ ?_) ?_)
  ·intro i hi _;have:i=0:=by omega
   subst this;refine zf rfl (zb (jP (a:=b) rfl (zd (fun h=>?_) (fun h=>?_))))
   ·grind[zN,zg,za,zw]
   ·have:=zT (show zg s.1 b.2=true by simpa using h);exact za (vF (by omega) (by omega))
  ·intro hp;exact zi rfl (za (zw (.inl ⟨rfl,hp 0 (by omega)⟩)))
  ·rintro⟨j,⟨v,w,⟨⟩⟩,⟨⟩⟩ (⟨rfl,h⟩ | ⟨rfl,rfl,h⟩)
   ·exact zf rfl (za ⟨fun h=>(by cases h),fun h'=>absurd h' h⟩)
   ·exact zi rfl (za ⟨fun _=>h,fun _=>rfl⟩)
 have hcl:b.2<=s.1->QZ ([b],s.1,())=some (cl s.1 (b.1*1048576),()):=by
  intro h;rw[BJ];unfold fa;delta lnC w6C upC aTC nxC exC lpC jzC;refine gY (zk (J:=fun x=>x.2.1.1=cl s.1 (b.1*1048576)) (zX 1 (fun i st=>(i=0∧st=((-1,(0,())),()))∨(i=1∧st=((cl s.1 (b.1*1048576),(1,())),()))) (by omega) (.inl ⟨rfl,rfl⟩) ?_ ?_) ?_)
  ·rintro i _ hi (⟨rfl,rfl⟩ | ⟨rfl,rfl⟩)
   ·refine zf rfl (zb (jP (a:=b) rfl (zi (zD (by omega)) ?_)));rw[show wrF .i64 (b.1*1048576)=b.1*1048576 from zR (by omega) (by omega),GR (by omega) (by omega) (by omega) (by omega),zq];refine zk (J:=fun x=>x.2.1.1=cl s.1 (b.1*1048576)) (zf rfl (za rfl)) ?_;rintro⟨j,⟨a1,⟨⟩⟩,⟨⟩⟩ h1;simp only at h1;subst h1;refine zk (J:=fun x=>x.2.1.1=cl s.1 (b.1*1048576)) (zX 1 (fun i st=>(i=0∧st=((cl s.1 (b.1*1048576),(0,())),()))∨(i=1∧st=((cl s.1 (b.1*1048576),(1,())),()))) (by omega) (.inl ⟨rfl,rfl⟩) ?_ ?_) ?_
    ·rintro i _ hi (⟨rfl,rfl⟩ | ⟨rfl,rfl⟩)
     ·refine zf rfl (zb (jP (a:=b) rfl (zk (J:=fun x=>x.2.1.1=cl s.1 (b.1*1048576)) (zi (zD (by omega)) (za rfl)) ?_)));rintro⟨j,⟨a1,⟨⟩⟩,⟨⟩⟩ h1;simp only at h1;subst h1;exact za (qj (.inr ⟨rfl,rfl⟩))
     ·omega
    ·rintro _ (⟨h1,rfl⟩ | ⟨_,rfl⟩)
     ·omega
     ·exact zi rfl (za (zw rfl))
    ·rintro⟨j,⟨a1,a2,⟨⟩⟩,⟨⟩⟩ h1;simp only at h1;subst h1;exact za (qj (.inr ⟨rfl,rfl⟩))
   ·omega
  ·rintro _ (⟨h1,rfl⟩ | ⟨_,rfl⟩)
   ·omega
   ·exact zi rfl (za (zw rfl))
  grind[za]
 rw[fe];unfold bE;delta lnC w6C upC aTC nxC exC lpC jzC;refine qF (zi rfl (zi rfl (zk (J:=fun x=>x.1=0) (zX 1 (fun i st=>st=((0,(0,((i:Int),()))),())) (by omega) rfl ?_ ?_) ?_)))
 ·rintro i _ hi rfl;have:i=0:=by omega
  subst this;refine zf rfl (zb (jP (a:=b) rfl ?_));rw[WG,qU hb,zq];exact zi rfl (za (qj rfl))
 ·rintro _ rfl;exact zi rfl (za (zw rfl))
 ·rintro⟨j,⟨v,w,z,⟨⟩⟩,⟨⟩⟩ h1;simp only at h1;subst h1;refine zf rfl ?_;grind[To,zq,qU,za,wrF,cl,zR,wg]
theorem zoD(hb:kg b)(hs:Kn s):0<=b.2*s.2∧b.2*s.2<=562949953421312∧0<=cl 1048576 (b.2*s.2)∧cl 1048576 (b.2*s.2)<=562949953421313:=by obtain⟨s1,s2,s3,s4⟩:=hs;obtain⟨⟨b1,b2⟩,b3,b4⟩:=hb;have:=QB (show 0<=b.2 by omega) b4 s3 s4;have:=zdH (d:=1048576) (w:=b.2*s.2) (M:=562949953421312) (by omega) (by omega) (by omega);omega
theorem It(hb:kg b)(hs:Kn s)(h:b.2<=s.1):Wt (b,s,())=some (b.1+cl 1048576 (b.2*s.2),0,()):=by have hbb:=zoD hb hs;obtain⟨⟨b1,b2⟩,b3,b4⟩:=id hb;rw[EF];unfold lV;delta lnC w6C upC aTC nxC exC lpC jzC;rw[mC hb hs,qU h,zq,zqL];refine qF (zi rfl ?_);rw[show wrF .i64 (b.2*s.2)=b.2*s.2 from zR (by omega) (by omega),GR (by omega) (by omega) (by omega) (by omega)];refine za ?_;grind[wrF,cl,zR]
end Go.Proofs.YtlfkgkedfciccaaGreat.ad
end
