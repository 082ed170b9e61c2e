/- Parts of a proof, joined: A, W, B, C, D. -/
import Derived.KernelRfl
import Derived.Test.YtfpbgiaiifcnlaaProg
import Derived.Test.YtfpbgiaiifcnlaaEw5
/- Functions of the program, readable: what the evaluator makes of each. -/
noncomputable section
namespace Go.Proofs.Ytfpbgiaiifcnlaa.pg
open Go Go.Fz Go.Fz.Sy
set_option maxRecDepth 100000
set_option maxHeartbeats 0
set_option linter.unusedVariables false
abbrev I : Ty := .int .i64
theorem special : NoSpecial Try.prog := noSpecial_of (by kernel_rfl)
abbrev S144 : Ty := (.pair I I)
abbrev D144 : Type := (Int × Int)
abbrev S143 : Ty := (.pair I I)
abbrev D143 : Type := (Int × Int)
abbrev S65 : Ty := (.pair I I)
abbrev D65 : Type := (Int × Int)
abbrev S24 : Ty := (.pair (.list S65) I)
abbrev D24 : Type := ((List D65) × Int)
abbrev S26 : Ty := (.pair S24 (.pair I I))
abbrev D26 : Type := (D24 × (Int × Int))
abbrev S31 : Ty := (.pair I (.pair I (.pair I (.pair I I))))
abbrev D31 : Type := (Int × (Int × (Int × (Int × Int))))
abbrev S33 : Ty := (.pair S31 (.pair I .bool))
abbrev D33 : Type := (D31 × (Int × Bool))
abbrev S134 : Ty := (.pair S26 (.list S33))
abbrev D134 : Type := (D26 × (List D33))
abbrev S133 : Ty := (.pair S26 (.list S33))
abbrev D133 : Type := (D26 × (List D33))
abbrev S43 : Ty := (.pair I (.list S33))
abbrev D43 : Type := (Int × (List D33))
abbrev S35 : Ty := (.pair S26 (.pair I (.pair (.list S43) (.pair .bool (.pair S33 (.pair I (.pair I I)))))))
abbrev D35 : Type := (D26 × (Int × ((List D43) × (Bool × (D33 × (Int × (Int × Int)))))))
abbrev S86 : Ty := S35
abbrev D86 : Type := D35
abbrev S61 : Ty := (.pair I S31)
abbrev D61 : Type := (Int × D31)
abbrev S59 : Ty := (.pair I S31)
abbrev D59 : Type := (Int × D31)
abbrev S91 : Ty := (.pair S86 (.pair (.list S61) (.list S59)))
abbrev D91 : Type := (D86 × ((List D61) × (List D59)))
abbrev S90 : Ty := (.pair S86 (.pair (.list S61) (.list S59)))
abbrev D90 : Type := (D86 × ((List D61) × (List D59)))
abbrev S88 : Ty := (.pair (.int .u16) (.pair (.int .u8) (.int .u16)))
abbrev D88 : Type := (Int × (Int × Int))
abbrev S87 : Ty := (.pair (.int .u16) (.pair (.int .u8) (.int .u16)))
abbrev D87 : Type := (Int × (Int × Int))
abbrev S79 : Ty := (.pair S35 (.pair S35 (.pair S35 (.pair S35 (.pair S35 S35)))))
abbrev D79 : Type := (D35 × (D35 × (D35 × (D35 × (D35 × D35)))))
abbrev S64 : Ty := (.pair I I)
abbrev D64 : Type := (Int × Int)
abbrev S58 : Ty := (.pair I S31)
abbrev D58 : Type := (Int × D31)
abbrev S42 : Ty := (.pair I (.list S33))
abbrev D42 : Type := (Int × (List D33))
abbrev S34 : Ty := (.pair S26 (.pair I (.pair (.list S43) (.pair .bool (.pair S33 (.pair I (.pair I I)))))))
abbrev D34 : Type := (D26 × (Int × ((List D43) × (Bool × (D33 × (Int × (Int × Int)))))))
abbrev S32 : Ty := (.pair S31 (.pair I .bool))
abbrev D32 : Type := (D31 × (Int × Bool))
abbrev S30 : Ty := (.pair I (.pair I (.pair I (.pair I I))))
abbrev D30 : Type := (Int × (Int × (Int × (Int × Int))))
abbrev S25 : Ty := (.pair S24 (.pair I I))
abbrev D25 : Type := (D24 × (Int × Int))
abbrev S23 : Ty := (.pair (.list S65) I)
abbrev D23 : Type := ((List D65) × Int)
abbrev S14 : Ty := (.pair .str (.int .u64))
abbrev D14 : Type := (ByteArray × Int)
abbrev S13 : Ty := (.pair .str (.int .u64))
abbrev D13 : Type := (ByteArray × Int)
abbrev S8 : Ty := (.pair I (.pair I (.pair .bool (.int .u8))))
abbrev D8 : Type := (Int × (Int × (Bool × Int)))
abbrev S7 : Ty := (.pair I (.pair I (.pair .bool (.int .u8))))
abbrev D7 : Type := (Int × (Int × (Bool × Int)))
abbrev S127 : Ty := S43
abbrev D127 : Type := D43
/-! isochron/queue.within -/
abbrev A44 : List VT := [⟨false, I⟩, ⟨false, I⟩, ⟨false, I⟩]
abbrev B44 : List VT := [⟨false, .bool⟩]
def pl44 : Plan := planA [⟨S144, flatTy S144, []⟩, ⟨S143, flatTy S143, []⟩, ⟨S134, flatTy S134, []⟩, ⟨S133, flatTy S133, []⟩, ⟨S91, flatTy S91, []⟩, ⟨S90, flatTy S90, []⟩, ⟨S88, flatTy S88, []⟩, ⟨S87, flatTy S87, []⟩, ⟨S79, flatTy S79, []⟩, ⟨S64, flatTy S64, []⟩, ⟨S61, flatTy S61, []⟩, ⟨S59, flatTy S59, []⟩, ⟨S58, flatTy S58, []⟩, ⟨S42, flatTy S42, []⟩, ⟨S35, flatTy S35, []⟩, ⟨S34, flatTy S34, []⟩, ⟨S43, flatTy S43, []⟩, ⟨S33, flatTy S33, []⟩, ⟨S32, flatTy S32, []⟩, ⟨S31, flatTy S31, []⟩, ⟨S30, flatTy S30, []⟩, ⟨S26, flatTy S26, []⟩, ⟨S25, flatTy S25, []⟩, ⟨S24, flatTy S24, []⟩, ⟨S23, flatTy S23, []⟩, ⟨S65, flatTy S65, []⟩, ⟨S14, flatTy S14, []⟩, ⟨S13, flatTy S13, []⟩, ⟨S8, flatTy S8, []⟩, ⟨S7, flatTy S7, []⟩] [] []
def R44  (a0 : Int) (a1 : Int) (a2 : Int) : Option (Bool × Unit) :=
  bif !(iltF (a0) (a1)) then some (!(iltF (a2) (a0)), ())
  else some (false, ())
theorem E44  (a0 : Int) (a1 : Int) (a2 : Int) : sF Try.prog [] pl44 (autoJ []) 30 44 A44 B44 (a0, a1, a2, ()) = R44  a0 a1 a2 := by kernel_rfl
def K44 : (Int × Int × Int × Unit) → Option (Bool × Unit) := sF Try.prog [] pl44 (autoJ []) 30 44 A44 B44
theorem K44_ok : Con.Ok Try.prog 44 ⟨A44, B44, K44⟩ := sF_ok tblOk_nil special (by kernel_rfl)
theorem K44_eq (a0 : Int) (a1 : Int) (a2 : Int) : K44 (a0, a1, a2, ()) = R44  a0 a1 a2 := E44  a0 a1 a2
/-! isochron/gates.Check -/
abbrev A17 : List VT := [⟨true, S24⟩]
abbrev B17 : List VT := [⟨false, I⟩]
def pl17 : Plan := planA [⟨S144, flatTy S144, []⟩, ⟨S143, flatTy S143, []⟩, ⟨S134, flatTy S134, []⟩, ⟨S133, flatTy S133, []⟩, ⟨S91, flatTy S91, []⟩, ⟨S90, flatTy S90, []⟩, ⟨S88, flatTy S88, []⟩, ⟨S87, flatTy S87, []⟩, ⟨S79, flatTy S79, []⟩, ⟨S64, flatTy S64, []⟩, ⟨S61, flatTy S61, []⟩, ⟨S59, flatTy S59, []⟩, ⟨S58, flatTy S58, []⟩, ⟨S42, flatTy S42, []⟩, ⟨S35, flatTy S35, []⟩, ⟨S34, flatTy S34, []⟩, ⟨S43, flatTy S43, []⟩, ⟨S33, flatTy S33, []⟩, ⟨S32, flatTy S32, []⟩, ⟨S31, flatTy S31, []⟩, ⟨S30, flatTy S30, []⟩, ⟨S26, flatTy S26, []⟩, ⟨S25, flatTy S25, []⟩, ⟨S24, flatTy S24, []⟩, ⟨S23, flatTy S23, []⟩, ⟨S65, flatTy S65, []⟩, ⟨S14, flatTy S14, []⟩, ⟨S13, flatTy S13, []⟩, ⟨S8, flatTy S8, []⟩, ⟨S7, flatTy S7, []⟩] [] []
def R17  (a0 : D24) : Option (Int × Unit) :=
  opt (bif (iltF ((((a0.1).length : Nat) : Int)) (1)) then some ((0 + 1), ((370, ()), ()))
    else bif (iltF (128) ((((a0.1).length : Nat) : Int))) then some ((0 + 1), ((370, ()), ()))
      else some (0, ((0, ()), ()))) fun x0 =>
  bif (Nat.beq x0.1 0) then opt (iterK (fun s1 : ((Int × (Int × (Int × Unit))) × Unit) =>
      bif (iltF (s1.1.2.2.1) ((((a0.1).length : Nat) : Int))) then opt (atI (a0.1) (s1.1.2.2.1)) fun x2 =>
        opt (bif (iltF (x2.1) (0)) then some ((0 + 1), ((370, ()), ()))
          else bif (iltF (255) (x2.1)) then some ((0 + 1), ((370, ()), ()))
            else bif (iltF (x2.2) (1)) then some ((0 + 1), ((370, ()), ()))
              else bif (iltF (9600000) (x2.2)) then some ((0 + 1), ((370, ()), ()))
                else some (0, ((s1.1.1, ()), ()))) fun x3 =>
        bif (Nat.beq x3.1 0) then some (.inr ((x3.2.1.1, ((wrF .i64 ((s1.1.2.1 + x2.2))), ((wrF .i64 ((s1.1.2.2.1 + 1))), ()))), ()))
        else some (.inl ((0 + 1), ((x3.2.1.1, (s1.1.2.1, (s1.1.2.2.1, ()))), ())))
      else some (.inl (0, ((s1.1.1, (s1.1.2.1, (s1.1.2.2.1, ()))), ())))) bigN ((x0.2.1.1, (0, (0, ()))), ())) fun x4 =>
    bif (Nat.beq x4.1 0) then opt (bif !(ieqF (x4.2.1.2.1) (a0.2)) then some ((0 + 1), ((370, ()), ()))
        else bif (iltF (9600000) (x4.2.1.2.1)) then some ((0 + 1), ((370, ()), ()))
          else some (0, ((x4.2.1.1, ()), ()))) fun x5 =>
      bif (Nat.beq x5.1 0) then some (0, ())
      else some (x5.2.1.1, ())
    else some (x4.2.1.1, ())
  else some (x0.2.1.1, ())
theorem E17  (a0 : D24) : sF Try.prog [] pl17 (autoJ []) 30 17 A17 B17 (a0, ()) = R17  a0 := by kernel_rfl
def K17 : (D24 × Unit) → Option (Int × Unit) := sF Try.prog [] pl17 (autoJ []) 30 17 A17 B17
theorem K17_ok : Con.Ok Try.prog 17 ⟨A17, B17, K17⟩ := sF_ok tblOk_nil special (by kernel_rfl)
theorem K17_eq (a0 : D24) : K17 (a0, ()) = R17  a0 := E17  a0
/-! isochron/choose.CheckLine -/
abbrev A25 : List VT := [⟨true, S26⟩]
abbrev B25 : List VT := [⟨false, I⟩]
def pl25 : Plan := planA [⟨S144, flatTy S144, []⟩, ⟨S143, flatTy S143, []⟩, ⟨S134, flatTy S134, []⟩, ⟨S133, flatTy S133, []⟩, ⟨S91, flatTy S91, []⟩, ⟨S90, flatTy S90, []⟩, ⟨S88, flatTy S88, []⟩, ⟨S87, flatTy S87, []⟩, ⟨S79, flatTy S79, []⟩, ⟨S64, flatTy S64, []⟩, ⟨S61, flatTy S61, []⟩, ⟨S59, flatTy S59, []⟩, ⟨S58, flatTy S58, []⟩, ⟨S42, flatTy S42, []⟩, ⟨S35, flatTy S35, []⟩, ⟨S34, flatTy S34, []⟩, ⟨S43, flatTy S43, []⟩, ⟨S33, flatTy S33, []⟩, ⟨S32, flatTy S32, []⟩, ⟨S31, flatTy S31, []⟩, ⟨S30, flatTy S30, []⟩, ⟨S26, flatTy S26, []⟩, ⟨S25, flatTy S25, []⟩, ⟨S24, flatTy S24, []⟩, ⟨S23, flatTy S23, []⟩, ⟨S65, flatTy S65, []⟩, ⟨S14, flatTy S14, []⟩, ⟨S13, flatTy S13, []⟩, ⟨S8, flatTy S8, []⟩, ⟨S7, flatTy S7, []⟩] [] []
def R25 (G17 : (D24 × Unit) → Option (Int × Unit)) (a0 : D26) : Option (Int × Unit) :=
  opt (opt (G17 ((a0.1, ()))) fun x0 =>
    bif !(ieqF (x0.1) (0)) then some ((0 + 1), ((a0, (471, ())), ()))
    else bif (iltF (a0.2.1) (1)) then some ((0 + 1), ((a0, (471, ())), ()))
      else bif (iltF (1000) (a0.2.1)) then some ((0 + 1), ((a0, (471, ())), ()))
        else bif (iltF (a0.2.2) ((-1000))) then some ((0 + 1), ((a0, (471, ())), ()))
          else bif (iltF (1000) (a0.2.2)) then some ((0 + 1), ((a0, (471, ())), ()))
            else some (0, ((a0, (0, ())), ()))) fun x1 =>
  bif (Nat.beq x1.1 0) then some (0, ())
  else some (x1.2.1.2.1, ())
theorem E25 (G17 : (D24 × Unit) → Option (Int × Unit)) (a0 : D26) : sF Try.prog [(17, ⟨A17, B17, G17⟩)] pl25 (autoJ []) 30 25 A25 B25 (a0, ()) = R25 G17 a0 := by kernel_rfl
def K25 : (D26 × Unit) → Option (Int × Unit) := sF Try.prog [(17, ⟨A17, B17, K17⟩)] pl25 (autoJ []) 30 25 A25 B25
theorem K25_ok : Con.Ok Try.prog 25 ⟨A25, B25, K25⟩ := sF_ok (tblOk_cons K17_ok tblOk_nil) special (by kernel_rfl)
theorem K25_eq (a0 : D26) : K25 (a0, ()) = R25 K17 a0 := E25 K17 a0
/-! isochron/queue.New -/
abbrev A26 : List VT := [⟨false, I⟩]
abbrev B26 : List VT := [⟨true, S43⟩, ⟨false, I⟩]
def pl26 : Plan := planA [⟨S144, flatTy S144, []⟩, ⟨S143, flatTy S143, []⟩, ⟨S134, flatTy S134, []⟩, ⟨S133, flatTy S133, []⟩, ⟨S91, flatTy S91, []⟩, ⟨S90, flatTy S90, []⟩, ⟨S88, flatTy S88, []⟩, ⟨S87, flatTy S87, []⟩, ⟨S79, flatTy S79, []⟩, ⟨S64, flatTy S64, []⟩, ⟨S61, flatTy S61, []⟩, ⟨S59, flatTy S59, []⟩, ⟨S58, flatTy S58, []⟩, ⟨S42, flatTy S42, []⟩, ⟨S35, flatTy S35, []⟩, ⟨S34, flatTy S34, []⟩, ⟨S43, flatTy S43, []⟩, ⟨S33, flatTy S33, []⟩, ⟨S32, flatTy S32, []⟩, ⟨S31, flatTy S31, []⟩, ⟨S30, flatTy S30, []⟩, ⟨S26, flatTy S26, []⟩, ⟨S25, flatTy S25, []⟩, ⟨S24, flatTy S24, []⟩, ⟨S23, flatTy S23, []⟩, ⟨S65, flatTy S65, []⟩, ⟨S14, flatTy S14, []⟩, ⟨S13, flatTy S13, []⟩, ⟨S8, flatTy S8, []⟩, ⟨S7, flatTy S7, []⟩] [] []
def R26 (G44 : (Int × Int × Int × Unit) → Option (Bool × Unit)) (a0 : Int) : Option (D43 × Int × Unit) :=
  opt (G44 ((a0, (0, (65536, ()))))) fun x0 =>
  bif !x0.1 then some ((0, []), (2, ()))
  else some ((a0, []), (0, ()))
theorem E26 (G44 : (Int × Int × Int × Unit) → Option (Bool × Unit)) (a0 : Int) : sF Try.prog [(44, ⟨A44, B44, G44⟩)] pl26 (autoJ []) 30 26 A26 B26 (a0, ()) = R26 G44 a0 := by kernel_rfl
def K26 : (Int × Unit) → Option (D43 × Int × Unit) := sF Try.prog [(44, ⟨A44, B44, K44⟩)] pl26 (autoJ []) 30 26 A26 B26
theorem K26_ok : Con.Ok Try.prog 26 ⟨A26, B26, K26⟩ := sF_ok (tblOk_cons K44_ok tblOk_nil) special (by kernel_rfl)
theorem K26_eq (a0 : Int) : K26 (a0, ()) = R26 K44 a0 := E26 K44 a0
/-! isochron/port.New -/
abbrev A8 : List VT := [⟨true, S26⟩, ⟨false, (.list I)⟩]
abbrev B8 : List VT := [⟨true, S35⟩, ⟨false, I⟩]
def pl8 : Plan := planA [⟨S144, flatTy S144, []⟩, ⟨S143, flatTy S143, []⟩, ⟨S134, flatTy S134, []⟩, ⟨S133, flatTy S133, []⟩, ⟨S91, flatTy S91, []⟩, ⟨S90, flatTy S90, []⟩, ⟨S88, flatTy S88, []⟩, ⟨S87, flatTy S87, []⟩, ⟨S79, flatTy S79, []⟩, ⟨S64, flatTy S64, []⟩, ⟨S61, flatTy S61, []⟩, ⟨S59, flatTy S59, []⟩, ⟨S58, flatTy S58, []⟩, ⟨S42, flatTy S42, []⟩, ⟨S35, flatTy S35, []⟩, ⟨S34, flatTy S34, []⟩, ⟨S43, flatTy S43, []⟩, ⟨S33, flatTy S33, []⟩, ⟨S32, flatTy S32, []⟩, ⟨S31, flatTy S31, []⟩, ⟨S30, flatTy S30, []⟩, ⟨S26, flatTy S26, []⟩, ⟨S25, flatTy S25, []⟩, ⟨S24, flatTy S24, []⟩, ⟨S23, flatTy S23, []⟩, ⟨S65, flatTy S65, []⟩, ⟨S14, flatTy S14, []⟩, ⟨S13, flatTy S13, []⟩, ⟨S8, flatTy S8, []⟩, ⟨S7, flatTy S7, []⟩] [] []
def R8 (G25 : (D26 × Unit) → Option (Int × Unit)) (G26 : (Int × Unit) → Option (D43 × Int × Unit)) (a0 : D26) (a1 : (List Int)) : Option (D35 × Int × Unit) :=
  opt (G25 ((a0, ()))) fun x0 =>
  bif !(ieqF (x0.1) (0)) then some (((([], 0), (0, 0)), (0, ([], (false, (((0, (0, (0, (0, 0)))), (0, false)), (0, (0, 0))))))), (x0.1, ()))
  else bif !(ieqF ((((a1).length : Nat) : Int)) (8)) then some (((([], 0), (0, 0)), (0, ([], (false, (((0, (0, (0, (0, 0)))), (0, false)), (0, (0, 0))))))), (2, ()))
    else bif (mkOk (0) (8) (32)) then opt (iterK (fun s1 : ((((((List (Int × Int)) × Int) × (Int × Int)) × (Int × ((List (Int × (List ((Int × (Int × (Int × (Int × Int)))) × (Int × Bool))))) × (Bool × (((Int × (Int × (Int × (Int × Int)))) × (Int × Bool)) × (Int × (Int × Int))))))) × (Int × (Int × Unit))) × ((List (Int × (List ((Int × (Int × (Int × (Int × Int)))) × (Int × Bool))))) × Unit)) =>
          bif (iltF (s1.1.2.2.1) ((((a1).length : Nat) : Int))) then opt (atI (a1) (s1.1.2.2.1)) fun x2 =>
            opt (G26 ((x2, ()))) fun x3 =>
            bif !(ieqF (x3.2.1) (0)) then some (.inl ((0 + 1), ((((([], 0), (0, 0)), (0, ([], (false, (((0, (0, (0, (0, 0)))), (0, false)), (0, (0, 0))))))), (2, (s1.1.2.2.1, ()))), (s1.2.1, ()))))
            else bif (appOk ((s1.2.1).length) (((x3.1 :: [])).length) (32)) then some (.inr ((s1.1.1, (s1.1.2.1, ((wrF .i64 ((s1.1.2.2.1 + 1))), ()))), ((s1.2.1 ++ (x3.1 :: [])), ())))
              else none
          else some (.inl (0, ((s1.1.1, (s1.1.2.1, (s1.1.2.2.1, ()))), (s1.2.1, ()))))) bigN ((((([], 0), (0, 0)), (0, ([], (false, (((0, (0, (0, (0, 0)))), (0, false)), (0, (0, 0))))))), (0, (0, ()))), ((List.replicate ((Int.toNat 0)) ((0, []))), ()))) fun x4 =>
        bif (Nat.beq x4.1 0) then some ((a0, (0, (x4.2.2.1, (false, (((0, (0, (0, (0, 0)))), (0, false)), (0, (0, 0))))))), (0, ()))
        else some (x4.2.1.1, (x4.2.1.2.1, ()))
      else none
theorem E8 (G25 : (D26 × Unit) → Option (Int × Unit)) (G26 : (Int × Unit) → Option (D43 × Int × Unit)) (a0 : D26) (a1 : (List Int)) : sF Try.prog [(25, ⟨A25, B25, G25⟩), (26, ⟨A26, B26, G26⟩)] pl8 (autoJ []) 30 8 A8 B8 (a0, a1, ()) = R8 G25 G26 a0 a1 := by kernel_rfl
def K8 : (D26 × (List Int) × Unit) → Option (D35 × Int × Unit) := sF Try.prog [(25, ⟨A25, B25, K25⟩), (26, ⟨A26, B26, K26⟩)] pl8 (autoJ []) 30 8 A8 B8
theorem K8_ok : Con.Ok Try.prog 8 ⟨A8, B8, K8⟩ := sF_ok (tblOk_cons K25_ok (tblOk_cons K26_ok tblOk_nil)) special (by kernel_rfl)
theorem K8_eq (a0 : D26) (a1 : (List Int)) : K8 (a0, a1, ()) = R8 K25 K26 a0 a1 := E8 K25 K26 a0 a1
/-! isochron/queue.CheckItem -/
abbrev A39 : List VT := [⟨true, S31⟩]
abbrev B39 : List VT := [⟨false, I⟩]
def pl39 : Plan := planA [⟨S144, flatTy S144, []⟩, ⟨S143, flatTy S143, []⟩, ⟨S134, flatTy S134, []⟩, ⟨S133, flatTy S133, []⟩, ⟨S91, flatTy S91, []⟩, ⟨S90, flatTy S90, []⟩, ⟨S88, flatTy S88, []⟩, ⟨S87, flatTy S87, []⟩, ⟨S79, flatTy S79, []⟩, ⟨S64, flatTy S64, []⟩, ⟨S61, flatTy S61, []⟩, ⟨S59, flatTy S59, []⟩, ⟨S58, flatTy S58, []⟩, ⟨S42, flatTy S42, []⟩, ⟨S35, flatTy S35, []⟩, ⟨S34, flatTy S34, []⟩, ⟨S43, flatTy S43, []⟩, ⟨S33, flatTy S33, []⟩, ⟨S32, flatTy S32, []⟩, ⟨S31, flatTy S31, []⟩, ⟨S30, flatTy S30, []⟩, ⟨S26, flatTy S26, []⟩, ⟨S25, flatTy S25, []⟩, ⟨S24, flatTy S24, []⟩, ⟨S23, flatTy S23, []⟩, ⟨S65, flatTy S65, []⟩, ⟨S14, flatTy S14, []⟩, ⟨S13, flatTy S13, []⟩, ⟨S8, flatTy S8, []⟩, ⟨S7, flatTy S7, []⟩] [] []
def R39 (G44 : (Int × Int × Int × Unit) → Option (Bool × Unit)) (a0 : D31) : Option (Int × Unit) :=
  opt (opt (G44 ((a0.1, (0, (1099511627776, ()))))) fun x0 =>
    bif !x0.1 then some ((0 + 1), ((a0, (460, ())), ()))
    else opt (G44 ((a0.2.1, (0, (1099511627776, ()))))) fun x1 =>
      bif !x1.1 then some ((0 + 1), ((a0, (460, ())), ()))
      else opt (G44 ((a0.2.2.2.2, (0, (1099511627776, ()))))) fun x2 =>
        bif !x2.1 then some ((0 + 1), ((a0, (460, ())), ()))
        else opt (G44 ((a0.2.2.1, (0, (7, ()))))) fun x3 =>
          bif !x3.1 then some ((0 + 1), ((a0, (460, ())), ()))
          else opt (G44 ((a0.2.2.2.1, (84, (1542, ()))))) fun x4 =>
            bif !x4.1 then some ((0 + 1), ((a0, (460, ())), ()))
            else some (0, ((a0, (0, ())), ()))) fun x5 =>
  bif (Nat.beq x5.1 0) then some (0, ())
  else some (x5.2.1.2.1, ())
theorem E39 (G44 : (Int × Int × Int × Unit) → Option (Bool × Unit)) (a0 : D31) : sF Try.prog [(44, ⟨A44, B44, G44⟩)] pl39 (autoJ []) 30 39 A39 B39 (a0, ()) = R39 G44 a0 := by kernel_rfl
def K39 : (D31 × Unit) → Option (Int × Unit) := sF Try.prog [(44, ⟨A44, B44, K44⟩)] pl39 (autoJ []) 30 39 A39 B39
theorem K39_ok : Con.Ok Try.prog 39 ⟨A39, B39, K39⟩ := sF_ok (tblOk_cons K44_ok tblOk_nil) special (by kernel_rfl)
theorem K39_eq (a0 : D31) : K39 (a0, ()) = R39 K44 a0 := E39 K44 a0
/-! isochron/queue.whole -/
abbrev A63 : List VT := [⟨true, S31⟩]
abbrev B63 : List VT := [⟨true, S33⟩]
def pl63 : Plan := planA [⟨S144, flatTy S144, []⟩, ⟨S143, flatTy S143, []⟩, ⟨S134, flatTy S134, []⟩, ⟨S133, flatTy S133, []⟩, ⟨S91, flatTy S91, []⟩, ⟨S90, flatTy S90, []⟩, ⟨S88, flatTy S88, []⟩, ⟨S87, flatTy S87, []⟩, ⟨S79, flatTy S79, []⟩, ⟨S64, flatTy S64, []⟩, ⟨S61, flatTy S61, []⟩, ⟨S59, flatTy S59, []⟩, ⟨S58, flatTy S58, []⟩, ⟨S42, flatTy S42, []⟩, ⟨S35, flatTy S35, []⟩, ⟨S34, flatTy S34, []⟩, ⟨S43, flatTy S43, []⟩, ⟨S33, flatTy S33, []⟩, ⟨S32, flatTy S32, []⟩, ⟨S31, flatTy S31, []⟩, ⟨S30, flatTy S30, []⟩, ⟨S26, flatTy S26, []⟩, ⟨S25, flatTy S25, []⟩, ⟨S24, flatTy S24, []⟩, ⟨S23, flatTy S23, []⟩, ⟨S65, flatTy S65, []⟩, ⟨S14, flatTy S14, []⟩, ⟨S13, flatTy S13, []⟩, ⟨S8, flatTy S8, []⟩, ⟨S7, flatTy S7, []⟩] [] []
def R63  (a0 : D31) : Option (D33 × Unit) :=
  some ((a0, (a0.2.2.2.1, false)), ())
theorem E63  (a0 : D31) : sF Try.prog [] pl63 (autoJ []) 30 63 A63 B63 (a0, ()) = R63  a0 := by kernel_rfl
def K63 : (D31 × Unit) → Option (D33 × Unit) := sF Try.prog [] pl63 (autoJ []) 30 63 A63 B63
theorem K63_ok : Con.Ok Try.prog 63 ⟨A63, B63, K63⟩ := sF_ok tblOk_nil special (by kernel_rfl)
theorem K63_eq (a0 : D31) : K63 (a0, ()) = R63  a0 := E63  a0
/-! isochron/queue.CheckPart -/
abbrev A47 : List VT := [⟨true, S33⟩]
abbrev B47 : List VT := [⟨false, I⟩]
def pl47 : Plan := planA [⟨S144, flatTy S144, []⟩, ⟨S143, flatTy S143, []⟩, ⟨S134, flatTy S134, []⟩, ⟨S133, flatTy S133, []⟩, ⟨S91, flatTy S91, []⟩, ⟨S90, flatTy S90, []⟩, ⟨S88, flatTy S88, []⟩, ⟨S87, flatTy S87, []⟩, ⟨S79, flatTy S79, []⟩, ⟨S64, flatTy S64, []⟩, ⟨S61, flatTy S61, []⟩, ⟨S59, flatTy S59, []⟩, ⟨S58, flatTy S58, []⟩, ⟨S42, flatTy S42, []⟩, ⟨S35, flatTy S35, []⟩, ⟨S34, flatTy S34, []⟩, ⟨S43, flatTy S43, []⟩, ⟨S33, flatTy S33, []⟩, ⟨S32, flatTy S32, []⟩, ⟨S31, flatTy S31, []⟩, ⟨S30, flatTy S30, []⟩, ⟨S26, flatTy S26, []⟩, ⟨S25, flatTy S25, []⟩, ⟨S24, flatTy S24, []⟩, ⟨S23, flatTy S23, []⟩, ⟨S65, flatTy S65, []⟩, ⟨S14, flatTy S14, []⟩, ⟨S13, flatTy S13, []⟩, ⟨S8, flatTy S8, []⟩, ⟨S7, flatTy S7, []⟩] [] []
def R47 (G39 : (D31 × Unit) → Option (Int × Unit)) (G63 : (D31 × Unit) → Option (D33 × Unit)) (G44 : (Int × Int × Int × Unit) → Option (Bool × Unit)) (a0 : D33) : Option (Int × Unit) :=
  opt (G39 ((a0.1, ()))) fun x0 =>
  bif !(ieqF (x0.1) (0)) then some (x0.1, ())
  else opt (G63 ((a0.1, ()))) fun x1 =>
    bif (((ieqF (a0.1.1) (x1.1.1.1)) && ((ieqF (a0.1.2.1) (x1.1.1.2.1)) && ((ieqF (a0.1.2.2.1) (x1.1.1.2.2.1)) && ((ieqF (a0.1.2.2.2.1) (x1.1.1.2.2.2.1)) && ((ieqF (a0.1.2.2.2.2) (x1.1.1.2.2.2.2)) && true))))) && ((ieqF (a0.2.1) (x1.1.2.1)) && ((a0.2.2 == x1.1.2.2) && true))) then some (0, ())
    else opt (bif !a0.2.2 then some ((0 + 1), ((a0, (460, ())), ()))
        else bif (iltF (5) (a0.1.2.2.1)) then some ((0 + 1), ((a0, (460, ())), ()))
          else opt (G44 ((a0.2.1, (88, ((wrF .i64 ((a0.1.2.2.2.1 - 40))), ()))))) fun x2 =>
            bif !x2.1 then some ((0 + 1), ((a0, (460, ())), ()))
            else some (0, ((a0, (0, ())), ()))) fun x3 =>
      bif (Nat.beq x3.1 0) then some (0, ())
      else some (x3.2.1.2.1, ())
theorem E47 (G39 : (D31 × Unit) → Option (Int × Unit)) (G63 : (D31 × Unit) → Option (D33 × Unit)) (G44 : (Int × Int × Int × Unit) → Option (Bool × Unit)) (a0 : D33) : sF Try.prog [(39, ⟨A39, B39, G39⟩), (63, ⟨A63, B63, G63⟩), (44, ⟨A44, B44, G44⟩)] pl47 (autoJ []) 30 47 A47 B47 (a0, ()) = R47 G39 G63 G44 a0 := by kernel_rfl
def K47 : (D33 × Unit) → Option (Int × Unit) := sF Try.prog [(39, ⟨A39, B39, K39⟩), (63, ⟨A63, B63, K63⟩), (44, ⟨A44, B44, K44⟩)] pl47 (autoJ []) 30 47 A47 B47
theorem K47_ok : Con.Ok Try.prog 47 ⟨A47, B47, K47⟩ := sF_ok (tblOk_cons K39_ok (tblOk_cons K63_ok (tblOk_cons K44_ok tblOk_nil))) special (by kernel_rfl)
theorem K47_eq (a0 : D33) : K47 (a0, ()) = R47 K39 K63 K44 a0 := E47 K39 K63 K44 a0
/-! (isochron/port.egress).preemptable -/
abbrev A48 : List VT := [⟨true, S86⟩]
abbrev B48 : List VT := [⟨false, .bool⟩]
def pl48 : Plan := planA [⟨S144, flatTy S144, []⟩, ⟨S143, flatTy S143, []⟩, ⟨S134, flatTy S134, []⟩, ⟨S133, flatTy S133, []⟩, ⟨S91, flatTy S91, []⟩, ⟨S90, flatTy S90, []⟩, ⟨S88, flatTy S88, []⟩, ⟨S87, flatTy S87, []⟩, ⟨S79, flatTy S79, []⟩, ⟨S64, flatTy S64, []⟩, ⟨S61, flatTy S61, []⟩, ⟨S59, flatTy S59, []⟩, ⟨S58, flatTy S58, []⟩, ⟨S42, flatTy S42, []⟩, ⟨S35, flatTy S35, []⟩, ⟨S34, flatTy S34, []⟩, ⟨S43, flatTy S43, []⟩, ⟨S33, flatTy S33, []⟩, ⟨S32, flatTy S32, []⟩, ⟨S31, flatTy S31, []⟩, ⟨S30, flatTy S30, []⟩, ⟨S26, flatTy S26, []⟩, ⟨S25, flatTy S25, []⟩, ⟨S24, flatTy S24, []⟩, ⟨S23, flatTy S23, []⟩, ⟨S65, flatTy S65, []⟩, ⟨S14, flatTy S14, []⟩, ⟨S13, flatTy S13, []⟩, ⟨S8, flatTy S8, []⟩, ⟨S7, flatTy S7, []⟩] [] []
def R48  (a0 : D86) : Option (Bool × Unit) :=
  bif a0.2.2.2.1 then some ((iltF (a0.2.2.2.2.1.1.2.2.1) (6)), ())
  else some (false, ())
theorem E48  (a0 : D86) : sF Try.prog [] pl48 (autoJ []) 30 48 A48 B48 (a0, ()) = R48  a0 := by kernel_rfl
def K48 : (D86 × Unit) → Option (Bool × Unit) := sF Try.prog [] pl48 (autoJ []) 30 48 A48 B48
theorem K48_ok : Con.Ok Try.prog 48 ⟨A48, B48, K48⟩ := sF_ok tblOk_nil special (by kernel_rfl)
theorem K48_eq (a0 : D86) : K48 (a0, ()) = R48  a0 := E48  a0
/-! (isochron/port.egress).goodSending -/
abbrev A29 : List VT := [⟨true, S86⟩]
abbrev B29 : List VT := [⟨false, .bool⟩]
def pl29 : Plan := planA [⟨S144, flatTy S144, []⟩, ⟨S143, flatTy S143, []⟩, ⟨S134, flatTy S134, []⟩, ⟨S133, flatTy S133, []⟩, ⟨S91, flatTy S91, []⟩, ⟨S90, flatTy S90, []⟩, ⟨S88, flatTy S88, []⟩, ⟨S87, flatTy S87, []⟩, ⟨S79, flatTy S79, []⟩, ⟨S64, flatTy S64, []⟩, ⟨S61, flatTy S61, []⟩, ⟨S59, flatTy S59, []⟩, ⟨S58, flatTy S58, []⟩, ⟨S42, flatTy S42, []⟩, ⟨S35, flatTy S35, []⟩, ⟨S34, flatTy S34, []⟩, ⟨S43, flatTy S43, []⟩, ⟨S33, flatTy S33, []⟩, ⟨S32, flatTy S32, []⟩, ⟨S31, flatTy S31, []⟩, ⟨S30, flatTy S30, []⟩, ⟨S26, flatTy S26, []⟩, ⟨S25, flatTy S25, []⟩, ⟨S24, flatTy S24, []⟩, ⟨S23, flatTy S23, []⟩, ⟨S65, flatTy S65, []⟩, ⟨S14, flatTy S14, []⟩, ⟨S13, flatTy S13, []⟩, ⟨S8, flatTy S8, []⟩, ⟨S7, flatTy S7, []⟩] [] []
def R29 (G47 : (D33 × Unit) → Option (Int × Unit)) (G48 : (D86 × Unit) → Option (Bool × Unit)) (a0 : D86) : Option (Bool × Unit) :=
  bif !a0.2.2.2.1 then bif (((ieqF (a0.2.2.2.2.1.1.1) (0)) && ((ieqF (a0.2.2.2.2.1.1.2.1) (0)) && ((ieqF (a0.2.2.2.2.1.1.2.2.1) (0)) && ((ieqF (a0.2.2.2.2.1.1.2.2.2.1) (0)) && ((ieqF (a0.2.2.2.2.1.1.2.2.2.2) (0)) && true))))) && ((ieqF (a0.2.2.2.2.1.2.1) (0)) && ((a0.2.2.2.2.1.2.2 == false) && true))) then bif (ieqF (a0.2.2.2.2.2.1) (0)) then bif (ieqF (a0.2.2.2.2.2.2.1) (0)) then some ((ieqF (a0.2.2.2.2.2.2.2) (0)), ())
        else some (false, ())
      else some (false, ())
    else some (false, ())
  else opt (opt (G47 ((a0.2.2.2.2.1, ()))) fun x0 =>
      bif !(ieqF (x0.1) (0)) then some ((0 + 1), ((a0, (false, ())), ()))
      else bif (iltF (a0.2.2.2.2.2.1) (0)) then some ((0 + 1), ((a0, (false, ())), ()))
        else bif (iltF (a0.2.1) (a0.2.2.2.2.2.1)) then some ((0 + 1), ((a0, (false, ())), ()))
          else bif (iltF (a0.2.2.2.2.2.2.1) (a0.2.1)) then some ((0 + 1), ((a0, (false, ())), ()))
            else some (0, ((a0, (false, ())), ()))) fun x1 =>
    bif (Nat.beq x1.1 0) then bif (ieqF (x1.2.1.1.2.2.2.2.2.2.2) (0)) then some ((ieqF (x1.2.1.1.2.2.2.2.2.2.1) ((wrF .i64 ((x1.2.1.1.2.2.2.2.2.1 + (wrF .i64 ((x1.2.1.1.2.2.2.2.1.2.1 * x1.2.1.1.1.2.1)))))))), ())
      else opt (opt (G48 ((x1.2.1.1, ()))) fun x2 =>
          bif !x2.1 then some ((0 + 1), ((x1.2.1.1, (false, ())), ()))
          else bif (iltF (x1.2.1.1.2.2.2.2.2.2.2) (88)) then some ((0 + 1), ((x1.2.1.1, (false, ())), ()))
            else bif (iltF ((wrF .i64 ((x1.2.1.1.2.2.2.2.1.2.1 - 40)))) (x1.2.1.1.2.2.2.2.2.2.2)) then some ((0 + 1), ((x1.2.1.1, (false, ())), ()))
              else some (0, ((x1.2.1.1, (x1.2.1.2.1, ())), ()))) fun x3 =>
        bif (Nat.beq x3.1 0) then some ((ieqF (x3.2.1.1.2.2.2.2.2.2.1) ((wrF .i64 ((x3.2.1.1.2.2.2.2.2.1 + (wrF .i64 (((wrF .i64 (((wrF .i64 ((x3.2.1.1.2.2.2.2.1.2.1 - x3.2.1.1.2.2.2.2.2.2.2))) + 48))) * x3.2.1.1.1.2.1)))))))), ())
        else some (x3.2.1.2.1, ())
    else some (x1.2.1.2.1, ())
theorem E29 (G47 : (D33 × Unit) → Option (Int × Unit)) (G48 : (D86 × Unit) → Option (Bool × Unit)) (a0 : D86) : sF Try.prog [(47, ⟨A47, B47, G47⟩), (48, ⟨A48, B48, G48⟩)] pl29 (autoJ []) 30 29 A29 B29 (a0, ()) = R29 G47 G48 a0 := by kernel_rfl
def K29 : (D86 × Unit) → Option (Bool × Unit) := sF Try.prog [(47, ⟨A47, B47, K47⟩), (48, ⟨A48, B48, K48⟩)] pl29 (autoJ []) 30 29 A29 B29
theorem K29_ok : Con.Ok Try.prog 29 ⟨A29, B29, K29⟩ := sF_ok (tblOk_cons K47_ok (tblOk_cons K48_ok tblOk_nil)) special (by kernel_rfl)
theorem K29_eq (a0 : D86) : K29 (a0, ()) = R29 K47 K48 a0 := E29 K47 K48 a0
/-! (isochron/queue.line).fresh$1 -/
abbrev A83 : List VT := [⟨true, S33⟩]
abbrev B83 : List VT := [⟨false, I⟩]
def pl83 : Plan := planA [⟨S144, flatTy S144, []⟩, ⟨S143, flatTy S143, []⟩, ⟨S134, flatTy S134, []⟩, ⟨S133, flatTy S133, []⟩, ⟨S91, flatTy S91, []⟩, ⟨S90, flatTy S90, []⟩, ⟨S88, flatTy S88, []⟩, ⟨S87, flatTy S87, []⟩, ⟨S79, flatTy S79, []⟩, ⟨S64, flatTy S64, []⟩, ⟨S61, flatTy S61, []⟩, ⟨S59, flatTy S59, []⟩, ⟨S58, flatTy S58, []⟩, ⟨S42, flatTy S42, []⟩, ⟨S35, flatTy S35, []⟩, ⟨S34, flatTy S34, []⟩, ⟨S43, flatTy S43, []⟩, ⟨S33, flatTy S33, []⟩, ⟨S32, flatTy S32, []⟩, ⟨S31, flatTy S31, []⟩, ⟨S30, flatTy S30, []⟩, ⟨S26, flatTy S26, []⟩, ⟨S25, flatTy S25, []⟩, ⟨S24, flatTy S24, []⟩, ⟨S23, flatTy S23, []⟩, ⟨S65, flatTy S65, []⟩, ⟨S14, flatTy S14, []⟩, ⟨S13, flatTy S13, []⟩, ⟨S8, flatTy S8, []⟩, ⟨S7, flatTy S7, []⟩] [] []
def R83  (a0 : D33) : Option (Int × Unit) :=
  bif a0.2.2 then some (0, ())
  else some (a0.2.1, ())
theorem E83  (a0 : D33) : sF Try.prog [] pl83 (autoJ []) 30 83 A83 B83 (a0, ()) = R83  a0 := by kernel_rfl
def K83 : (D33 × Unit) → Option (Int × Unit) := sF Try.prog [] pl83 (autoJ []) 30 83 A83 B83
theorem K83_ok : Con.Ok Try.prog 83 ⟨A83, B83, K83⟩ := sF_ok tblOk_nil special (by kernel_rfl)
theorem K83_eq (a0 : D33) : K83 (a0, ()) = R83  a0 := E83  a0
/-! (isochron/queue.line).fresh -/
abbrev A65 : List VT := [⟨true, S127⟩]
abbrev B65 : List VT := [⟨false, I⟩]
def pl65 : Plan := planA [⟨S144, flatTy S144, []⟩, ⟨S143, flatTy S143, []⟩, ⟨S134, flatTy S134, []⟩, ⟨S133, flatTy S133, []⟩, ⟨S91, flatTy S91, []⟩, ⟨S90, flatTy S90, []⟩, ⟨S88, flatTy S88, []⟩, ⟨S87, flatTy S87, []⟩, ⟨S79, flatTy S79, []⟩, ⟨S64, flatTy S64, []⟩, ⟨S61, flatTy S61, []⟩, ⟨S59, flatTy S59, []⟩, ⟨S58, flatTy S58, []⟩, ⟨S42, flatTy S42, []⟩, ⟨S35, flatTy S35, []⟩, ⟨S34, flatTy S34, []⟩, ⟨S43, flatTy S43, []⟩, ⟨S33, flatTy S33, []⟩, ⟨S32, flatTy S32, []⟩, ⟨S31, flatTy S31, []⟩, ⟨S30, flatTy S30, []⟩, ⟨S26, flatTy S26, []⟩, ⟨S25, flatTy S25, []⟩, ⟨S24, flatTy S24, []⟩, ⟨S23, flatTy S23, []⟩, ⟨S65, flatTy S65, []⟩, ⟨S14, flatTy S14, []⟩, ⟨S13, flatTy S13, []⟩, ⟨S8, flatTy S8, []⟩, ⟨S7, flatTy S7, []⟩] [] []
def R65 (G83 : (D33 × Unit) → Option (Int × Unit)) (a0 : D127) : Option (Int × Unit) :=
  opt (iterK (fun s0 : ((Int × (Int × Unit)) × Unit) =>
    bif (iltF (s0.1.2.1) ((((a0.2).length : Nat) : Int))) then opt (atI (a0.2) (s0.1.2.1)) fun x1 =>
      opt (G83 ((x1, ()))) fun x2 =>
      some (.inr (((wrF .i64 ((s0.1.1 + x2.1))), ((wrF .i64 ((s0.1.2.1 + 1))), ())), ()))
    else some (.inl (0, ((s0.1.1, (s0.1.2.1, ())), ())))) bigN ((0, (0, ())), ())) fun x3 =>
  some (x3.2.1.1, ())
theorem E65 (G83 : (D33 × Unit) → Option (Int × Unit)) (a0 : D127) : sF Try.prog [(83, ⟨A83, B83, G83⟩)] pl65 (autoJ []) 30 65 A65 B65 (a0, ()) = R65 G83 a0 := by kernel_rfl
def K65 : (D127 × Unit) → Option (Int × Unit) := sF Try.prog [(83, ⟨A83, B83, K83⟩)] pl65 (autoJ []) 30 65 A65 B65
theorem K65_ok : Con.Ok Try.prog 65 ⟨A65, B65, K65⟩ := sF_ok (tblOk_cons K83_ok tblOk_nil) special (by kernel_rfl)
theorem K65_eq (a0 : D127) : K65 (a0, ()) = R65 K83 a0 := E65 K83 a0
/-! isochron/queue.Check -/
abbrev A49 : List VT := [⟨true, S43⟩]
abbrev B49 : List VT := [⟨false, I⟩]
def pl49 : Plan := planA [⟨S144, flatTy S144, []⟩, ⟨S143, flatTy S143, []⟩, ⟨S134, flatTy S134, []⟩, ⟨S133, flatTy S133, []⟩, ⟨S91, flatTy S91, []⟩, ⟨S90, flatTy S90, []⟩, ⟨S88, flatTy S88, []⟩, ⟨S87, flatTy S87, []⟩, ⟨S79, flatTy S79, []⟩, ⟨S64, flatTy S64, []⟩, ⟨S61, flatTy S61, []⟩, ⟨S59, flatTy S59, []⟩, ⟨S58, flatTy S58, []⟩, ⟨S42, flatTy S42, []⟩, ⟨S35, flatTy S35, []⟩, ⟨S34, flatTy S34, []⟩, ⟨S43, flatTy S43, []⟩, ⟨S33, flatTy S33, []⟩, ⟨S32, flatTy S32, []⟩, ⟨S31, flatTy S31, []⟩, ⟨S30, flatTy S30, []⟩, ⟨S26, flatTy S26, []⟩, ⟨S25, flatTy S25, []⟩, ⟨S24, flatTy S24, []⟩, ⟨S23, flatTy S23, []⟩, ⟨S65, flatTy S65, []⟩, ⟨S14, flatTy S14, []⟩, ⟨S13, flatTy S13, []⟩, ⟨S8, flatTy S8, []⟩, ⟨S7, flatTy S7, []⟩] [] []
def R49 (G44 : (Int × Int × Int × Unit) → Option (Bool × Unit)) (G47 : (D33 × Unit) → Option (Int × Unit)) (G65 : (D127 × Unit) → Option (Int × Unit)) (a0 : D43) : Option (Int × Unit) :=
  opt (G44 ((a0.1, (0, (65536, ()))))) fun x0 =>
  bif !x0.1 then some (461, ())
  else opt (iterK (fun s1 : ((Bool × (Int × Unit)) × (Unit × (Unit × Unit))) =>
      bif (iltF (s1.1.2.1) ((((a0.2).length : Nat) : Int))) then opt (atI (a0.2) (s1.1.2.1)) fun x2 =>
        opt (opt (G47 ((x2, ()))) fun x3 =>
          bif !(ieqF (x3.1) (0)) then some ((0 + 1), ((x2, (true, ())), ((), ())))
          else bif x2.2.2 then bif (iltF (0) (s1.1.2.1)) then some ((0 + 1), ((x2, (true, ())), ((), ())))
              else some (0, ((x2, (s1.1.1, ())), ((), ())))
            else some (0, ((x2, (s1.1.1, ())), ((), ())))) fun x4 =>
        bif (Nat.beq x4.1 0) then some (.inr ((x4.2.1.2.1, ((wrF .i64 ((s1.1.2.1 + 1))), ())), ((), ((), ()))))
        else some (.inl ((((0 + 1) + 1) + 1), ((x4.2.1.2.1, (s1.1.2.1, ())), ((), ((), ())))))
      else some (.inl (0, ((s1.1.1, (s1.1.2.1, ())), ((), ((), ())))))) bigN ((false, (0, ())), ((), ((), ())))) fun x5 =>
    bif (Nat.beq x5.1 0) then opt (bif x5.2.1.1 then some ((0 + 1), ((a0, (461, ())), ((), ())))
        else opt (G65 ((a0, ()))) fun x6 =>
          bif (iltF (a0.1) (x6.1)) then some ((0 + 1), ((a0, (461, ())), ((), ())))
          else some (0, ((a0, (0, ())), ((), ())))) fun x7 =>
      bif (Nat.beq x7.1 0) then some (0, ())
      else some (x7.2.1.2.1, ())
    else bif (Nat.beq x5.1 (0 + 1)) then opt (bif x5.2.1.1 then some ((0 + 1), ((a0, (461, ())), ((), ())))
          else opt (G65 ((a0, ()))) fun x8 =>
            bif (iltF (a0.1) (x8.1)) then some ((0 + 1), ((a0, (461, ())), ((), ())))
            else some (0, ((a0, (0, ())), ((), ())))) fun x9 =>
        bif (Nat.beq x9.1 0) then some (0, ())
        else some (x9.2.1.2.1, ())
      else bif (Nat.beq x5.1 ((0 + 1) + 1)) then opt (bif x5.2.1.1 then some ((0 + 1), ((a0, (461, ())), ((), ())))
            else opt (G65 ((a0, ()))) fun x10 =>
              bif (iltF (a0.1) (x10.1)) then some ((0 + 1), ((a0, (461, ())), ((), ())))
              else some (0, ((a0, (0, ())), ((), ())))) fun x11 =>
          bif (Nat.beq x11.1 0) then some (0, ())
          else some (x11.2.1.2.1, ())
        else opt (bif x5.2.1.1 then some ((0 + 1), ((a0, (461, ())), ((), ())))
            else opt (G65 ((a0, ()))) fun x12 =>
              bif (iltF (a0.1) (x12.1)) then some ((0 + 1), ((a0, (461, ())), ((), ())))
              else some (0, ((a0, (0, ())), ((), ())))) fun x13 =>
          bif (Nat.beq x13.1 0) then some (0, ())
          else some (x13.2.1.2.1, ())
theorem E49 (G44 : (Int × Int × Int × Unit) → Option (Bool × Unit)) (G47 : (D33 × Unit) → Option (Int × Unit)) (G65 : (D127 × Unit) → Option (Int × Unit)) (a0 : D43) : sF Try.prog [(44, ⟨A44, B44, G44⟩), (47, ⟨A47, B47, G47⟩), (65, ⟨A65, B65, G65⟩)] pl49 (autoJ []) 30 49 A49 B49 (a0, ()) = R49 G44 G47 G65 a0 := by kernel_rfl
def K49 : (D43 × Unit) → Option (Int × Unit) := sF Try.prog [(44, ⟨A44, B44, K44⟩), (47, ⟨A47, B47, K47⟩), (65, ⟨A65, B65, K65⟩)] pl49 (autoJ []) 30 49 A49 B49
theorem K49_ok : Con.Ok Try.prog 49 ⟨A49, B49, K49⟩ := sF_ok (tblOk_cons K44_ok (tblOk_cons K47_ok (tblOk_cons K65_ok tblOk_nil))) special (by kernel_rfl)
theorem K49_eq (a0 : D43) : K49 (a0, ()) = R49 K44 K47 K65 a0 := E49 K44 K47 K65 a0
/-! (isochron/port.egress).goodQueues -/
abbrev A30 : List VT := [⟨true, S86⟩]
abbrev B30 : List VT := [⟨false, .bool⟩]
def pl30 : Plan := planA [⟨S144, flatTy S144, []⟩, ⟨S143, flatTy S143, []⟩, ⟨S134, flatTy S134, []⟩, ⟨S133, flatTy S133, []⟩, ⟨S91, flatTy S91, []⟩, ⟨S90, flatTy S90, []⟩, ⟨S88, flatTy S88, []⟩, ⟨S87, flatTy S87, []⟩, ⟨S79, flatTy S79, []⟩, ⟨S64, flatTy S64, []⟩, ⟨S61, flatTy S61, []⟩, ⟨S59, flatTy S59, []⟩, ⟨S58, flatTy S58, []⟩, ⟨S42, flatTy S42, []⟩, ⟨S35, flatTy S35, []⟩, ⟨S34, flatTy S34, []⟩, ⟨S43, flatTy S43, []⟩, ⟨S33, flatTy S33, []⟩, ⟨S32, flatTy S32, []⟩, ⟨S31, flatTy S31, []⟩, ⟨S30, flatTy S30, []⟩, ⟨S26, flatTy S26, []⟩, ⟨S25, flatTy S25, []⟩, ⟨S24, flatTy S24, []⟩, ⟨S23, flatTy S23, []⟩, ⟨S65, flatTy S65, []⟩, ⟨S14, flatTy S14, []⟩, ⟨S13, flatTy S13, []⟩, ⟨S8, flatTy S8, []⟩, ⟨S7, flatTy S7, []⟩] [] []
def R30 (G49 : (D43 × Unit) → Option (Int × Unit)) (G48 : (D86 × Unit) → Option (Bool × Unit)) (a0 : D86) : Option (Bool × Unit) :=
  bif !(ieqF ((((a0.2.2.1).length : Nat) : Int)) (8)) then some (false, ())
  else opt (iterK (fun s0 : ((Bool × (Int × (Int × Unit))) × Unit) =>
      bif (iltF (s0.1.2.2.1) ((((a0.2.2.1).length : Nat) : Int))) then opt (atI (a0.2.2.1) (s0.1.2.2.1)) fun x1 =>
        opt (G49 ((x1, ()))) fun x2 =>
        bif !(ieqF (x2.1) (0)) then some (.inl ((0 + 1), ((false, (s0.1.2.1, (s0.1.2.2.1, ()))), ())))
        else opt (iterK (fun s3 : ((Bool × (Int × (Int × Unit))) × Unit) =>
            bif (iltF (s3.1.2.2.1) ((((x1.2).length : Nat) : Int))) then opt (atI (x1.2) (s3.1.2.2.1)) fun x4 =>
              bif !(ieqF (x4.1.2.2.1) (s0.1.2.2.1)) then some (.inl ((0 + 1), ((false, (s3.1.2.1, (s3.1.2.2.1, ()))), ())))
              else opt (bif x4.2.2 then some (0, (((wrF .i64 ((s3.1.2.1 + 1))), ()), ()))
                  else some (0, ((s3.1.2.1, ()), ()))) fun x5 =>
                some (.inr ((s3.1.1, (x5.2.1.1, ((wrF .i64 ((s3.1.2.2.1 + 1))), ()))), ()))
            else some (.inl (0, ((s3.1.1, (s3.1.2.1, (s3.1.2.2.1, ()))), ())))) bigN ((s0.1.1, (s0.1.2.1, (0, ()))), ())) fun x6 =>
          bif (Nat.beq x6.1 0) then some (.inr ((x6.2.1.1, (x6.2.1.2.1, ((wrF .i64 ((s0.1.2.2.1 + 1))), ()))), ()))
          else some (.inl ((0 + 1), ((x6.2.1.1, (x6.2.1.2.1, (s0.1.2.2.1, ()))), ())))
      else some (.inl (0, ((s0.1.1, (s0.1.2.1, (s0.1.2.2.1, ()))), ())))) bigN ((false, (0, (0, ()))), ())) fun x7 =>
    bif (Nat.beq x7.1 0) then bif (ieqF (x7.2.1.2.1) (0)) then some (true, ())
      else bif (ieqF (x7.2.1.2.1) (1)) then opt (G48 ((a0, ()))) fun x8 =>
          some (!x8.1, ())
        else some (false, ())
    else some (x7.2.1.1, ())
theorem E30 (G49 : (D43 × Unit) → Option (Int × Unit)) (G48 : (D86 × Unit) → Option (Bool × Unit)) (a0 : D86) : sF Try.prog [(49, ⟨A49, B49, G49⟩), (48, ⟨A48, B48, G48⟩)] pl30 (autoJ []) 30 30 A30 B30 (a0, ()) = R30 G49 G48 a0 := by kernel_rfl
def K30 : (D86 × Unit) → Option (Bool × Unit) := sF Try.prog [(49, ⟨A49, B49, K49⟩), (48, ⟨A48, B48, K48⟩)] pl30 (autoJ []) 30 30 A30 B30
theorem K30_ok : Con.Ok Try.prog 30 ⟨A30, B30, K30⟩ := sF_ok (tblOk_cons K49_ok (tblOk_cons K48_ok tblOk_nil)) special (by kernel_rfl)
theorem K30_eq (a0 : D86) : K30 (a0, ()) = R30 K49 K48 a0 := E30 K49 K48 a0
/-! isochron/port.Check -/
abbrev A12 : List VT := [⟨true, S35⟩]
abbrev B12 : List VT := [⟨false, I⟩]
def pl12 : Plan := planA [⟨S144, flatTy S144, []⟩, ⟨S143, flatTy S143, []⟩, ⟨S134, flatTy S134, []⟩, ⟨S133, flatTy S133, []⟩, ⟨S91, flatTy S91, []⟩, ⟨S90, flatTy S90, []⟩, ⟨S88, flatTy S88, []⟩, ⟨S87, flatTy S87, []⟩, ⟨S79, flatTy S79, []⟩, ⟨S64, flatTy S64, []⟩, ⟨S61, flatTy S61, []⟩, ⟨S59, flatTy S59, []⟩, ⟨S58, flatTy S58, []⟩, ⟨S42, flatTy S42, []⟩, ⟨S35, flatTy S35, []⟩, ⟨S34, flatTy S34, []⟩, ⟨S43, flatTy S43, []⟩, ⟨S33, flatTy S33, []⟩, ⟨S32, flatTy S32, []⟩, ⟨S31, flatTy S31, []⟩, ⟨S30, flatTy S30, []⟩, ⟨S26, flatTy S26, []⟩, ⟨S25, flatTy S25, []⟩, ⟨S24, flatTy S24, []⟩, ⟨S23, flatTy S23, []⟩, ⟨S65, flatTy S65, []⟩, ⟨S14, flatTy S14, []⟩, ⟨S13, flatTy S13, []⟩, ⟨S8, flatTy S8, []⟩, ⟨S7, flatTy S7, []⟩] [] []
def R12 (G25 : (D26 × Unit) → Option (Int × Unit)) (G29 : (D86 × Unit) → Option (Bool × Unit)) (G30 : (D86 × Unit) → Option (Bool × Unit)) (a0 : D35) : Option (Int × Unit) :=
  opt (opt (G25 ((a0.1, ()))) fun x0 =>
    bif !(ieqF (x0.1) (0)) then some ((0 + 1), ((a0, (480, ())), ()))
    else bif (iltF (a0.2.1) (0)) then some ((0 + 1), ((a0, (480, ())), ()))
      else bif (iltF (549755813888) (a0.2.1)) then some ((0 + 1), ((a0, (480, ())), ()))
        else some (0, ((a0, (0, ())), ()))) fun x1 =>
  bif (Nat.beq x1.1 0) then opt (opt (G29 ((x1.2.1.1, ()))) fun x2 =>
      bif !x2.1 then some ((0 + 1), ((x1.2.1.1, (480, ())), ()))
      else opt (G30 ((x1.2.1.1, ()))) fun x3 =>
        bif !x3.1 then some ((0 + 1), ((x1.2.1.1, (480, ())), ()))
        else some (0, ((x1.2.1.1, (x1.2.1.2.1, ())), ()))) fun x4 =>
    bif (Nat.beq x4.1 0) then some (0, ())
    else some (x4.2.1.2.1, ())
  else some (x1.2.1.2.1, ())
theorem E12 (G25 : (D26 × Unit) → Option (Int × Unit)) (G29 : (D86 × Unit) → Option (Bool × Unit)) (G30 : (D86 × Unit) → Option (Bool × Unit)) (a0 : D35) : sF Try.prog [(25, ⟨A25, B25, G25⟩), (29, ⟨A29, B29, G29⟩), (30, ⟨A30, B30, G30⟩)] pl12 (autoJ []) 30 12 A12 B12 (a0, ()) = R12 G25 G29 G30 a0 := by kernel_rfl
def K12 : (D35 × Unit) → Option (Int × Unit) := sF Try.prog [(25, ⟨A25, B25, K25⟩), (29, ⟨A29, B29, K29⟩), (30, ⟨A30, B30, K30⟩)] pl12 (autoJ []) 30 12 A12 B12
theorem K12_ok : Con.Ok Try.prog 12 ⟨A12, B12, K12⟩ := sF_ok (tblOk_cons K25_ok (tblOk_cons K29_ok (tblOk_cons K30_ok tblOk_nil))) special (by kernel_rfl)
theorem K12_eq (a0 : D35) : K12 (a0, ()) = R12 K25 K29 K30 a0 := E12 K25 K29 K30 a0
/-! (isochron/queue.line).octets$1 -/
abbrev A88 : List VT := [⟨true, S33⟩]
abbrev B88 : List VT := [⟨false, I⟩]
def pl88 : Plan := planA [⟨S144, flatTy S144, []⟩, ⟨S143, flatTy S143, []⟩, ⟨S134, flatTy S134, []⟩, ⟨S133, flatTy S133, []⟩, ⟨S91, flatTy S91, []⟩, ⟨S90, flatTy S90, []⟩, ⟨S88, flatTy S88, []⟩, ⟨S87, flatTy S87, []⟩, ⟨S79, flatTy S79, []⟩, ⟨S64, flatTy S64, []⟩, ⟨S61, flatTy S61, []⟩, ⟨S59, flatTy S59, []⟩, ⟨S58, flatTy S58, []⟩, ⟨S42, flatTy S42, []⟩, ⟨S35, flatTy S35, []⟩, ⟨S34, flatTy S34, []⟩, ⟨S43, flatTy S43, []⟩, ⟨S33, flatTy S33, []⟩, ⟨S32, flatTy S32, []⟩, ⟨S31, flatTy S31, []⟩, ⟨S30, flatTy S30, []⟩, ⟨S26, flatTy S26, []⟩, ⟨S25, flatTy S25, []⟩, ⟨S24, flatTy S24, []⟩, ⟨S23, flatTy S23, []⟩, ⟨S65, flatTy S65, []⟩, ⟨S14, flatTy S14, []⟩, ⟨S13, flatTy S13, []⟩, ⟨S8, flatTy S8, []⟩, ⟨S7, flatTy S7, []⟩] [] []
def R88  (a0 : D33) : Option (Int × Unit) :=
  some (a0.2.1, ())
theorem E88  (a0 : D33) : sF Try.prog [] pl88 (autoJ []) 30 88 A88 B88 (a0, ()) = R88  a0 := by kernel_rfl
def K88 : (D33 × Unit) → Option (Int × Unit) := sF Try.prog [] pl88 (autoJ []) 30 88 A88 B88
theorem K88_ok : Con.Ok Try.prog 88 ⟨A88, B88, K88⟩ := sF_ok tblOk_nil special (by kernel_rfl)
theorem K88_eq (a0 : D33) : K88 (a0, ()) = R88  a0 := E88  a0
/-! (isochron/queue.line).octets -/
abbrev A70 : List VT := [⟨true, S127⟩]
abbrev B70 : List VT := [⟨false, I⟩]
def pl70 : Plan := planA [⟨S144, flatTy S144, []⟩, ⟨S143, flatTy S143, []⟩, ⟨S134, flatTy S134, []⟩, ⟨S133, flatTy S133, []⟩, ⟨S91, flatTy S91, []⟩, ⟨S90, flatTy S90, []⟩, ⟨S88, flatTy S88, []⟩, ⟨S87, flatTy S87, []⟩, ⟨S79, flatTy S79, []⟩, ⟨S64, flatTy S64, []⟩, ⟨S61, flatTy S61, []⟩, ⟨S59, flatTy S59, []⟩, ⟨S58, flatTy S58, []⟩, ⟨S42, flatTy S42, []⟩, ⟨S35, flatTy S35, []⟩, ⟨S34, flatTy S34, []⟩, ⟨S43, flatTy S43, []⟩, ⟨S33, flatTy S33, []⟩, ⟨S32, flatTy S32, []⟩, ⟨S31, flatTy S31, []⟩, ⟨S30, flatTy S30, []⟩, ⟨S26, flatTy S26, []⟩, ⟨S25, flatTy S25, []⟩, ⟨S24, flatTy S24, []⟩, ⟨S23, flatTy S23, []⟩, ⟨S65, flatTy S65, []⟩, ⟨S14, flatTy S14, []⟩, ⟨S13, flatTy S13, []⟩, ⟨S8, flatTy S8, []⟩, ⟨S7, flatTy S7, []⟩] [] []
def R70 (G88 : (D33 × Unit) → Option (Int × Unit)) (a0 : D127) : Option (Int × Unit) :=
  opt (iterK (fun s0 : ((Int × (Int × Unit)) × Unit) =>
    bif (iltF (s0.1.2.1) ((((a0.2).length : Nat) : Int))) then opt (atI (a0.2) (s0.1.2.1)) fun x1 =>
      opt (G88 ((x1, ()))) fun x2 =>
      some (.inr (((wrF .i64 ((s0.1.1 + x2.1))), ((wrF .i64 ((s0.1.2.1 + 1))), ())), ()))
    else some (.inl (0, ((s0.1.1, (s0.1.2.1, ())), ())))) bigN ((0, (0, ())), ())) fun x3 =>
  some (x3.2.1.1, ())
theorem E70 (G88 : (D33 × Unit) → Option (Int × Unit)) (a0 : D127) : sF Try.prog [(88, ⟨A88, B88, G88⟩)] pl70 (autoJ []) 30 70 A70 B70 (a0, ()) = R70 G88 a0 := by kernel_rfl
def K70 : (D127 × Unit) → Option (Int × Unit) := sF Try.prog [(88, ⟨A88, B88, K88⟩)] pl70 (autoJ []) 30 70 A70 B70
theorem K70_ok : Con.Ok Try.prog 70 ⟨A70, B70, K70⟩ := sF_ok (tblOk_cons K88_ok tblOk_nil) special (by kernel_rfl)
theorem K70_eq (a0 : D127) : K70 (a0, ()) = R70 K88 a0 := E70 K88 a0
/-! isochron/queue.Return -/
abbrev A55 : List VT := [⟨true, S43⟩, ⟨true, S33⟩]
abbrev B55 : List VT := [⟨true, S43⟩, ⟨false, I⟩]
def pl55 : Plan := planA [⟨S144, flatTy S144, []⟩, ⟨S143, flatTy S143, []⟩, ⟨S134, flatTy S134, []⟩, ⟨S133, flatTy S133, []⟩, ⟨S91, flatTy S91, []⟩, ⟨S90, flatTy S90, []⟩, ⟨S88, flatTy S88, []⟩, ⟨S87, flatTy S87, []⟩, ⟨S79, flatTy S79, []⟩, ⟨S64, flatTy S64, []⟩, ⟨S61, flatTy S61, []⟩, ⟨S59, flatTy S59, []⟩, ⟨S58, flatTy S58, []⟩, ⟨S42, flatTy S42, []⟩, ⟨S35, flatTy S35, []⟩, ⟨S34, flatTy S34, []⟩, ⟨S43, flatTy S43, []⟩, ⟨S33, flatTy S33, []⟩, ⟨S32, flatTy S32, []⟩, ⟨S31, flatTy S31, []⟩, ⟨S30, flatTy S30, []⟩, ⟨S26, flatTy S26, []⟩, ⟨S25, flatTy S25, []⟩, ⟨S24, flatTy S24, []⟩, ⟨S23, flatTy S23, []⟩, ⟨S65, flatTy S65, []⟩, ⟨S14, flatTy S14, []⟩, ⟨S13, flatTy S13, []⟩, ⟨S8, flatTy S8, []⟩, ⟨S7, flatTy S7, []⟩] [] []
def R55 (G49 : (D43 × Unit) → Option (Int × Unit)) (G47 : (D33 × Unit) → Option (Int × Unit)) (a0 : D43) (a1 : D33) : Option (D43 × Int × Unit) :=
  opt (G49 ((a0, ()))) fun x0 =>
  bif !(ieqF (x0.1) (0)) then some ((0, []), (x0.1, ()))
  else opt (G47 ((a1, ()))) fun x1 =>
    bif !(ieqF (x1.1) (0)) then some ((0, []), (x1.1, ()))
    else opt (bif !a1.2.2 then some ((0 + 1), (((0, []), (2, ())), ()))
        else bif (iltF (0) ((((a0.2).length : Nat) : Int))) then opt (atI (a0.2) (0)) fun x2 =>
            bif x2.2.2 then some ((0 + 1), (((0, []), (2, ())), ()))
            else some (0, (((0, []), (0, ())), ()))
          else some (0, (((0, []), (0, ())), ()))) fun x3 =>
      bif (Nat.beq x3.1 0) then opt (cutI ((a1 :: [])) none (some (1)) (some (1))) fun x4 =>
        bif (appOk ((x4).length) ((a0.2).length) (56)) then some ((a0.1, (x4 ++ a0.2)), (0, ()))
        else none
      else some (x3.2.1.1, (x3.2.1.2.1, ()))
theorem E55 (G49 : (D43 × Unit) → Option (Int × Unit)) (G47 : (D33 × Unit) → Option (Int × Unit)) (a0 : D43) (a1 : D33) : sF Try.prog [(49, ⟨A49, B49, G49⟩), (47, ⟨A47, B47, G47⟩)] pl55 (autoJ []) 30 55 A55 B55 (a0, a1, ()) = R55 G49 G47 a0 a1 := by kernel_rfl
def K55 : (D43 × D33 × Unit) → Option (D43 × Int × Unit) := sF Try.prog [(49, ⟨A49, B49, K49⟩), (47, ⟨A47, B47, K47⟩)] pl55 (autoJ []) 30 55 A55 B55
theorem K55_ok : Con.Ok Try.prog 55 ⟨A55, B55, K55⟩ := sF_ok (tblOk_cons K49_ok (tblOk_cons K47_ok tblOk_nil)) special (by kernel_rfl)
theorem K55_eq (a0 : D43) (a1 : D33) : K55 (a0, a1, ()) = R55 K49 K47 a0 a1 := E55 K49 K47 a0 a1
/-! (isochron/port.egress).end -/
abbrev A38 : List VT := [⟨true, S86⟩, ⟨false, I⟩]
abbrev B38 : List VT := [⟨true, S86⟩, ⟨true, S31⟩, ⟨false, .bool⟩]
def pl38 : Plan := planA [⟨S144, flatTy S144, []⟩, ⟨S143, flatTy S143, []⟩, ⟨S134, flatTy S134, []⟩, ⟨S133, flatTy S133, []⟩, ⟨S91, flatTy S91, []⟩, ⟨S90, flatTy S90, []⟩, ⟨S88, flatTy S88, []⟩, ⟨S87, flatTy S87, []⟩, ⟨S79, flatTy S79, []⟩, ⟨S64, flatTy S64, []⟩, ⟨S61, flatTy S61, []⟩, ⟨S59, flatTy S59, []⟩, ⟨S58, flatTy S58, []⟩, ⟨S42, flatTy S42, []⟩, ⟨S35, flatTy S35, []⟩, ⟨S34, flatTy S34, []⟩, ⟨S43, flatTy S43, []⟩, ⟨S33, flatTy S33, []⟩, ⟨S32, flatTy S32, []⟩, ⟨S31, flatTy S31, []⟩, ⟨S30, flatTy S30, []⟩, ⟨S26, flatTy S26, []⟩, ⟨S25, flatTy S25, []⟩, ⟨S24, flatTy S24, []⟩, ⟨S23, flatTy S23, []⟩, ⟨S65, flatTy S65, []⟩, ⟨S14, flatTy S14, []⟩, ⟨S13, flatTy S13, []⟩, ⟨S8, flatTy S8, []⟩, ⟨S7, flatTy S7, []⟩] [] []
def R38 (G55 : (D43 × D33 × Unit) → Option (D43 × Int × Unit)) (a0 : D86) (a1 : Int) : Option (D86 × D31 × Bool × Unit) :=
  bif (ieqF (a0.2.2.2.2.2.2.2) (0)) then some ((a0.1, (a1, (a0.2.2.1, (false, (((0, (0, (0, (0, 0)))), (0, false)), (0, (0, 0))))))), (a0.2.2.2.2.1.1, (true, ())))
  else bif (mkOk ((((a0.2.2.1).length : Nat) : Int)) ((((a0.2.2.1).length : Nat) : Int)) (32)) then opt (atI ((copyL ((List.replicate ((Int.toNat (((a0.2.2.1).length : Nat) : Int))) ((0, [])))) (a0.2.2.1))) (a0.2.2.2.2.1.1.2.2.1)) fun x0 =>
      opt (gl ((copyL ((List.replicate ((Int.toNat (((a0.2.2.1).length : Nat) : Int))) ((0, [])))) (a0.2.2.1))) ((Int.toNat a0.2.2.2.2.1.1.2.2.1))) fun x1 =>
      opt (G55 ((x1, ((a0.2.2.2.2.1.1, (a0.2.2.2.2.2.2.2, true)), ())))) fun x2 =>
      bif !(ieqF (x2.2.1) (0)) then opt (atI ((copyL ((List.replicate ((Int.toNat (((a0.2.2.1).length : Nat) : Int))) ((0, [])))) (a0.2.2.1))) (a0.2.2.2.2.1.1.2.2.1)) fun x3 =>
        opt (gl ((copyL ((List.replicate ((Int.toNat (((a0.2.2.1).length : Nat) : Int))) ((0, [])))) (a0.2.2.1))) ((Int.toNat a0.2.2.2.2.1.1.2.2.1))) fun x4 =>
        some ((a0.1, (a1, ((((copyL ((List.replicate ((Int.toNat (((a0.2.2.1).length : Nat) : Int))) ((0, [])))) (a0.2.2.1))).set ((Int.toNat a0.2.2.2.2.1.1.2.2.1)) (x1)), (false, (((0, (0, (0, (0, 0)))), (0, false)), (0, (0, 0))))))), ((0, (0, (0, (0, 0)))), (false, ())))
      else opt (atI ((copyL ((List.replicate ((Int.toNat (((a0.2.2.1).length : Nat) : Int))) ((0, [])))) (a0.2.2.1))) (a0.2.2.2.2.1.1.2.2.1)) fun x5 =>
        opt (gl ((copyL ((List.replicate ((Int.toNat (((a0.2.2.1).length : Nat) : Int))) ((0, [])))) (a0.2.2.1))) ((Int.toNat a0.2.2.2.2.1.1.2.2.1))) fun x6 =>
        some ((a0.1, (a1, ((((copyL ((List.replicate ((Int.toNat (((a0.2.2.1).length : Nat) : Int))) ((0, [])))) (a0.2.2.1))).set ((Int.toNat a0.2.2.2.2.1.1.2.2.1)) (x2.1)), (false, (((0, (0, (0, (0, 0)))), (0, false)), (0, (0, 0))))))), ((0, (0, (0, (0, 0)))), (false, ())))
    else none
theorem E38 (G55 : (D43 × D33 × Unit) → Option (D43 × Int × Unit)) (a0 : D86) (a1 : Int) : sF Try.prog [(55, ⟨A55, B55, G55⟩)] pl38 (autoJ []) 30 38 A38 B38 (a0, a1, ()) = R38 G55 a0 a1 := by kernel_rfl
def K38 : (D86 × Int × Unit) → Option (D86 × D31 × Bool × Unit) := sF Try.prog [(55, ⟨A55, B55, K55⟩)] pl38 (autoJ []) 30 38 A38 B38
theorem K38_ok : Con.Ok Try.prog 38 ⟨A38, B38, K38⟩ := sF_ok (tblOk_cons K55_ok tblOk_nil) special (by kernel_rfl)
theorem K38_eq (a0 : D86) (a1 : Int) : K38 (a0, a1, ()) = R38 K55 a0 a1 := E38 K55 a0 a1
/-! isochron/queue.Push -/
abbrev A57 : List VT := [⟨true, S43⟩, ⟨true, S31⟩]
abbrev B57 : List VT := [⟨true, S43⟩, ⟨false, .bool⟩, ⟨false, I⟩]
def pl57 : Plan := planA [⟨S144, flatTy S144, []⟩, ⟨S143, flatTy S143, []⟩, ⟨S134, flatTy S134, []⟩, ⟨S133, flatTy S133, []⟩, ⟨S91, flatTy S91, []⟩, ⟨S90, flatTy S90, []⟩, ⟨S88, flatTy S88, []⟩, ⟨S87, flatTy S87, []⟩, ⟨S79, flatTy S79, []⟩, ⟨S64, flatTy S64, []⟩, ⟨S61, flatTy S61, []⟩, ⟨S59, flatTy S59, []⟩, ⟨S58, flatTy S58, []⟩, ⟨S42, flatTy S42, [1]⟩, ⟨S35, flatTy S35, []⟩, ⟨S34, flatTy S34, []⟩, ⟨S43, flatTy S43, [1]⟩, ⟨S33, flatTy S33, []⟩, ⟨S32, flatTy S32, []⟩, ⟨S31, flatTy S31, []⟩, ⟨S30, flatTy S30, []⟩, ⟨S26, flatTy S26, []⟩, ⟨S25, flatTy S25, []⟩, ⟨S24, flatTy S24, []⟩, ⟨S23, flatTy S23, []⟩, ⟨S65, flatTy S65, []⟩, ⟨S14, flatTy S14, []⟩, ⟨S13, flatTy S13, []⟩, ⟨S8, flatTy S8, []⟩, ⟨S7, flatTy S7, []⟩] [] [⟨2, 54, none, S33, true⟩, ⟨5, 54, none, S33, true⟩, ⟨8, 54, none, S33, true⟩]
def R57 (G49 : (D43 × Unit) → Option (Int × Unit)) (G39 : (D31 × Unit) → Option (Int × Unit)) (G70 : (D127 × Unit) → Option (Int × Unit)) (G63 : (D31 × Unit) → Option (D33 × Unit)) (a0 : D43) (a1 : D31) : Option (D43 × Bool × Int × Unit) :=
  opt (G49 ((a0, ()))) fun x0 =>
  bif !(ieqF (x0.1) (0)) then some ((0, []), (false, (x0.1, ())))
  else opt (G39 ((a1, ()))) fun x1 =>
    bif !(ieqF (x1.1) (0)) then some ((0, []), (false, (x1.1, ())))
    else opt (G70 ((a0, ()))) fun x2 =>
      bif (iltF (a0.1) ((wrF .i64 ((x2.1 + a1.2.2.2.1))))) then some (a0, (false, (0, ())))
      else opt (cutI (a0.2) none (some ((((a0.2).length : Nat) : Int))) (some ((((a0.2).length : Nat) : Int)))) fun x3 =>
        opt (G63 ((a1, ()))) fun x4 =>
        bif (appOk ((x3).length) (((x4.1 :: [])).length) (56)) then some ((a0.1, (x3 ++ (x4.1 :: []))), (true, (0, ())))
        else none
theorem E57 (G49 : (D43 × Unit) → Option (Int × Unit)) (G39 : (D31 × Unit) → Option (Int × Unit)) (G70 : (D127 × Unit) → Option (Int × Unit)) (G63 : (D31 × Unit) → Option (D33 × Unit)) (a0 : D43) (a1 : D31) : sF Try.prog [(49, ⟨A49, B49, G49⟩), (39, ⟨A39, B39, G39⟩), (70, ⟨A70, B70, G70⟩), (63, ⟨A63, B63, G63⟩)] pl57 (autoJ []) 30 57 A57 B57 (a0, a1, ()) = R57 G49 G39 G70 G63 a0 a1 := by kernel_rfl
def K57 : (D43 × D31 × Unit) → Option (D43 × Bool × Int × Unit) := sF Try.prog [(49, ⟨A49, B49, K49⟩), (39, ⟨A39, B39, K39⟩), (70, ⟨A70, B70, K70⟩), (63, ⟨A63, B63, K63⟩)] pl57 (autoJ []) 30 57 A57 B57
theorem K57_ok : Con.Ok Try.prog 57 ⟨A57, B57, K57⟩ := sF_ok (tblOk_cons K49_ok (tblOk_cons K39_ok (tblOk_cons K70_ok (tblOk_cons K63_ok tblOk_nil)))) special (by kernel_rfl)
theorem K57_eq (a0 : D43) (a1 : D31) : K57 (a0, a1, ()) = R57 K49 K39 K70 K63 a0 a1 := E57 K49 K39 K70 K63 a0 a1
/-! (isochron/port.egress).arrive -/
abbrev A40 : List VT := [⟨true, S86⟩, ⟨false, I⟩, ⟨true, S31⟩]
abbrev B40 : List VT := [⟨true, S86⟩, ⟨false, .bool⟩]
def pl40 : Plan := planA [⟨S144, flatTy S144, []⟩, ⟨S143, flatTy S143, []⟩, ⟨S134, flatTy S134, []⟩, ⟨S133, flatTy S133, []⟩, ⟨S91, flatTy S91, []⟩, ⟨S90, flatTy S90, []⟩, ⟨S88, flatTy S88, []⟩, ⟨S87, flatTy S87, []⟩, ⟨S79, flatTy S79, []⟩, ⟨S64, flatTy S64, []⟩, ⟨S61, flatTy S61, []⟩, ⟨S59, flatTy S59, []⟩, ⟨S58, flatTy S58, []⟩, ⟨S42, flatTy S42, []⟩, ⟨S35, flatTy S35, []⟩, ⟨S34, flatTy S34, []⟩, ⟨S43, flatTy S43, []⟩, ⟨S33, flatTy S33, []⟩, ⟨S32, flatTy S32, []⟩, ⟨S31, flatTy S31, []⟩, ⟨S30, flatTy S30, []⟩, ⟨S26, flatTy S26, []⟩, ⟨S25, flatTy S25, []⟩, ⟨S24, flatTy S24, []⟩, ⟨S23, flatTy S23, []⟩, ⟨S65, flatTy S65, []⟩, ⟨S14, flatTy S14, []⟩, ⟨S13, flatTy S13, []⟩, ⟨S8, flatTy S8, []⟩, ⟨S7, flatTy S7, []⟩] [] []
def R40 (G57 : (D43 × D31 × Unit) → Option (D43 × Bool × Int × Unit)) (a0 : D86) (a1 : Int) (a2 : D31) : Option (D86 × Bool × Unit) :=
  bif (mkOk ((((a0.2.2.1).length : Nat) : Int)) ((((a0.2.2.1).length : Nat) : Int)) (32)) then opt (atI ((copyL ((List.replicate ((Int.toNat (((a0.2.2.1).length : Nat) : Int))) ((0, [])))) (a0.2.2.1))) (a2.2.2.1)) fun x0 =>
    opt (gl ((copyL ((List.replicate ((Int.toNat (((a0.2.2.1).length : Nat) : Int))) ((0, [])))) (a0.2.2.1))) ((Int.toNat a2.2.2.1))) fun x1 =>
    opt (G57 ((x1, (a2, ())))) fun x2 =>
    opt (bif !(ieqF (x2.2.2.1) (0)) then some ((0 + 1), ((x1, ()), ()))
      else bif !x2.2.1 then some ((0 + 1), ((x1, ()), ()))
        else some (0, (((0, []), ()), ()))) fun x3 =>
    bif (Nat.beq x3.1 0) then opt (atI ((copyL ((List.replicate ((Int.toNat (((a0.2.2.1).length : Nat) : Int))) ((0, [])))) (a0.2.2.1))) (a2.2.2.1)) fun x4 =>
      opt (gl ((copyL ((List.replicate ((Int.toNat (((a0.2.2.1).length : Nat) : Int))) ((0, [])))) (a0.2.2.1))) ((Int.toNat a2.2.2.1))) fun x5 =>
      some ((a0.1, (a1, ((((copyL ((List.replicate ((Int.toNat (((a0.2.2.1).length : Nat) : Int))) ((0, [])))) (a0.2.2.1))).set ((Int.toNat a2.2.2.1)) (x2.1)), a0.2.2.2))), (true, ()))
    else opt (atI ((copyL ((List.replicate ((Int.toNat (((a0.2.2.1).length : Nat) : Int))) ((0, [])))) (a0.2.2.1))) (a2.2.2.1)) fun x6 =>
      opt (gl ((copyL ((List.replicate ((Int.toNat (((a0.2.2.1).length : Nat) : Int))) ((0, [])))) (a0.2.2.1))) ((Int.toNat a2.2.2.1))) fun x7 =>
      some ((a0.1, (a1, ((((copyL ((List.replicate ((Int.toNat (((a0.2.2.1).length : Nat) : Int))) ((0, [])))) (a0.2.2.1))).set ((Int.toNat a2.2.2.1)) (x3.2.1.1)), a0.2.2.2))), (false, ()))
  else none
theorem E40 (G57 : (D43 × D31 × Unit) → Option (D43 × Bool × Int × Unit)) (a0 : D86) (a1 : Int) (a2 : D31) : sF Try.prog [(57, ⟨A57, B57, G57⟩)] pl40 (autoJ []) 30 40 A40 B40 (a0, a1, a2, ()) = R40 G57 a0 a1 a2 := by kernel_rfl
def K40 : (D86 × Int × D31 × Unit) → Option (D86 × Bool × Unit) := sF Try.prog [(57, ⟨A57, B57, K57⟩)] pl40 (autoJ []) 30 40 A40 B40
theorem K40_ok : Con.Ok Try.prog 40 ⟨A40, B40, K40⟩ := sF_ok (tblOk_cons K57_ok tblOk_nil) special (by kernel_rfl)
theorem K40_eq (a0 : D86) (a1 : Int) (a2 : D31) : K40 (a0, a1, a2, ()) = R40 K57 a0 a1 a2 := E40 K57 a0 a1 a2
/-! isochron/queue.Head -/
abbrev A69 : List VT := [⟨true, S43⟩]
abbrev B69 : List VT := [⟨true, S33⟩, ⟨false, .bool⟩]
def pl69 : Plan := planA [⟨S144, flatTy S144, []⟩, ⟨S143, flatTy S143, []⟩, ⟨S134, flatTy S134, []⟩, ⟨S133, flatTy S133, []⟩, ⟨S91, flatTy S91, []⟩, ⟨S90, flatTy S90, []⟩, ⟨S88, flatTy S88, []⟩, ⟨S87, flatTy S87, []⟩, ⟨S79, flatTy S79, []⟩, ⟨S64, flatTy S64, []⟩, ⟨S61, flatTy S61, []⟩, ⟨S59, flatTy S59, []⟩, ⟨S58, flatTy S58, []⟩, ⟨S42, flatTy S42, []⟩, ⟨S35, flatTy S35, []⟩, ⟨S34, flatTy S34, []⟩, ⟨S43, flatTy S43, []⟩, ⟨S33, flatTy S33, []⟩, ⟨S32, flatTy S32, []⟩, ⟨S31, flatTy S31, []⟩, ⟨S30, flatTy S30, []⟩, ⟨S26, flatTy S26, []⟩, ⟨S25, flatTy S25, []⟩, ⟨S24, flatTy S24, []⟩, ⟨S23, flatTy S23, []⟩, ⟨S65, flatTy S65, []⟩, ⟨S14, flatTy S14, []⟩, ⟨S13, flatTy S13, []⟩, ⟨S8, flatTy S8, []⟩, ⟨S7, flatTy S7, []⟩] [] []
def R69 (G49 : (D43 × Unit) → Option (Int × Unit)) (a0 : D43) : Option (D33 × Bool × Unit) :=
  opt (opt (G49 ((a0, ()))) fun x0 =>
    bif !(ieqF (x0.1) (0)) then some ((0 + 1), ((a0, (((0, (0, (0, (0, 0)))), (0, false)), (false, ()))), ()))
    else bif (ieqF ((((a0.2).length : Nat) : Int)) (0)) then some ((0 + 1), ((a0, (((0, (0, (0, (0, 0)))), (0, false)), (false, ()))), ()))
      else some (0, ((a0, (((0, (0, (0, (0, 0)))), (0, false)), (false, ()))), ()))) fun x1 =>
  bif (Nat.beq x1.1 0) then opt (atI (x1.2.1.1.2) (0)) fun x2 =>
    some (x2, (true, ()))
  else some (x1.2.1.2.1, (x1.2.1.2.2.1, ()))
theorem E69 (G49 : (D43 × Unit) → Option (Int × Unit)) (a0 : D43) : sF Try.prog [(49, ⟨A49, B49, G49⟩)] pl69 (autoJ []) 30 69 A69 B69 (a0, ()) = R69 G49 a0 := by kernel_rfl
def K69 : (D43 × Unit) → Option (D33 × Bool × Unit) := sF Try.prog [(49, ⟨A49, B49, K49⟩)] pl69 (autoJ []) 30 69 A69 B69
theorem K69_ok : Con.Ok Try.prog 69 ⟨A69, B69, K69⟩ := sF_ok (tblOk_cons K49_ok tblOk_nil) special (by kernel_rfl)
theorem K69_eq (a0 : D43) : K69 (a0, ()) = R69 K49 a0 := E69 K49 a0
/-! (isochron/port.egress).heads -/
abbrev A52 : List VT := [⟨true, S86⟩]
abbrev B52 : List VT := [⟨false, (.list S33)⟩]
def pl52 : Plan := planA [⟨S144, flatTy S144, []⟩, ⟨S143, flatTy S143, []⟩, ⟨S134, flatTy S134, []⟩, ⟨S133, flatTy S133, []⟩, ⟨S91, flatTy S91, []⟩, ⟨S90, flatTy S90, []⟩, ⟨S88, flatTy S88, []⟩, ⟨S87, flatTy S87, []⟩, ⟨S79, flatTy S79, []⟩, ⟨S64, flatTy S64, []⟩, ⟨S61, flatTy S61, []⟩, ⟨S59, flatTy S59, []⟩, ⟨S58, flatTy S58, []⟩, ⟨S42, flatTy S42, []⟩, ⟨S35, flatTy S35, []⟩, ⟨S34, flatTy S34, []⟩, ⟨S43, flatTy S43, []⟩, ⟨S33, flatTy S33, []⟩, ⟨S32, flatTy S32, []⟩, ⟨S31, flatTy S31, []⟩, ⟨S30, flatTy S30, []⟩, ⟨S26, flatTy S26, []⟩, ⟨S25, flatTy S25, []⟩, ⟨S24, flatTy S24, []⟩, ⟨S23, flatTy S23, []⟩, ⟨S65, flatTy S65, []⟩, ⟨S14, flatTy S14, []⟩, ⟨S13, flatTy S13, []⟩, ⟨S8, flatTy S8, []⟩, ⟨S7, flatTy S7, []⟩] [] [⟨3, 30, some 2, S33, false⟩, ⟨6, 30, some 2, S33, false⟩]
def R52 (G69 : (D43 × Unit) → Option (D33 × Bool × Unit)) (a0 : D86) : Option ((List D33) × Unit) :=
  bif (mkOk (8) (8) (56)) then opt (iterK (fun s0 : ((Int × Unit) × ((List ((Int × (Int × (Int × (Int × Int)))) × (Int × Bool))) × Unit)) =>
      bif (iltF (s0.1.1) ((((a0.2.2.1).length : Nat) : Int))) then opt (atI (a0.2.2.1) (s0.1.1)) fun x1 =>
        opt (G69 ((x1, ()))) fun x2 =>
        opt (bif x2.2.1 then opt (atI (s0.2.1) (s0.1.1)) fun x3 =>
            opt (gl (s0.2.1) ((Int.toNat s0.1.1))) fun x4 =>
            some (0, ((), (((s0.2.1).set ((Int.toNat s0.1.1)) (x2.1)), ())))
          else some (0, ((), (s0.2.1, ())))) fun x5 =>
        some (.inr (((wrF .i64 ((s0.1.1 + 1))), ()), (x5.2.2.1, ())))
      else some (.inl (0, ((s0.1.1, ()), (s0.2.1, ()))))) bigN ((0, ()), ((List.replicate ((Int.toNat 8)) (((0, (0, (0, (0, 0)))), (0, false)))), ()))) fun x6 =>
    some (x6.2.2.1, ())
  else none
theorem E52 (G69 : (D43 × Unit) → Option (D33 × Bool × Unit)) (a0 : D86) : sF Try.prog [(69, ⟨A69, B69, G69⟩)] pl52 (autoJ []) 30 52 A52 B52 (a0, ()) = R52 G69 a0 := by kernel_rfl
def K52 : (D86 × Unit) → Option ((List D33) × Unit) := sF Try.prog [(69, ⟨A69, B69, K69⟩)] pl52 (autoJ []) 30 52 A52 B52
theorem K52_ok : Con.Ok Try.prog 52 ⟨A52, B52, K52⟩ := sF_ok (tblOk_cons K69_ok tblOk_nil) special (by kernel_rfl)
theorem K52_eq (a0 : D86) : K52 (a0, ()) = R52 K69 a0 := E52 K69 a0
/-! isochron/choose.CheckHeads -/
abbrev A84 : List VT := [⟨false, (.list S33)⟩]
abbrev B84 : List VT := [⟨false, I⟩]
def pl84 : Plan := planA [⟨S144, flatTy S144, []⟩, ⟨S143, flatTy S143, []⟩, ⟨S134, flatTy S134, []⟩, ⟨S133, flatTy S133, []⟩, ⟨S91, flatTy S91, []⟩, ⟨S90, flatTy S90, []⟩, ⟨S88, flatTy S88, []⟩, ⟨S87, flatTy S87, []⟩, ⟨S79, flatTy S79, []⟩, ⟨S64, flatTy S64, []⟩, ⟨S61, flatTy S61, []⟩, ⟨S59, flatTy S59, []⟩, ⟨S58, flatTy S58, []⟩, ⟨S42, flatTy S42, []⟩, ⟨S35, flatTy S35, []⟩, ⟨S34, flatTy S34, []⟩, ⟨S43, flatTy S43, []⟩, ⟨S33, flatTy S33, []⟩, ⟨S32, flatTy S32, []⟩, ⟨S31, flatTy S31, []⟩, ⟨S30, flatTy S30, []⟩, ⟨S26, flatTy S26, []⟩, ⟨S25, flatTy S25, []⟩, ⟨S24, flatTy S24, []⟩, ⟨S23, flatTy S23, []⟩, ⟨S65, flatTy S65, []⟩, ⟨S14, flatTy S14, []⟩, ⟨S13, flatTy S13, []⟩, ⟨S8, flatTy S8, []⟩, ⟨S7, flatTy S7, []⟩] [] []
def R84 (G47 : (D33 × Unit) → Option (Int × Unit)) (a0 : (List D33)) : Option (Int × Unit) :=
  bif !(ieqF ((((a0).length : Nat) : Int)) (8)) then some (470, ())
  else opt (iterK (fun s0 : ((Int × (Int × (Int × Unit))) × Unit) =>
      bif (iltF (s0.1.2.2.1) ((((a0).length : Nat) : Int))) then opt (atI (a0) (s0.1.2.2.1)) fun x1 =>
        bif (((ieqF (x1.1.1) (0)) && ((ieqF (x1.1.2.1) (0)) && ((ieqF (x1.1.2.2.1) (0)) && ((ieqF (x1.1.2.2.2.1) (0)) && ((ieqF (x1.1.2.2.2.2) (0)) && true))))) && ((ieqF (x1.2.1) (0)) && ((x1.2.2 == false) && true))) then some (.inr ((s0.1.1, (s0.1.2.1, ((wrF .i64 ((s0.1.2.2.1 + 1))), ()))), ()))
        else opt (opt (G47 ((x1, ()))) fun x2 =>
            bif !(ieqF (x2.1) (0)) then some ((0 + 1), ((x1, (470, ())), ()))
            else bif !(ieqF (x1.1.2.2.1) (s0.1.2.2.1)) then some ((0 + 1), ((x1, (470, ())), ()))
              else some (0, ((x1, (s0.1.1, ())), ()))) fun x3 =>
          bif (Nat.beq x3.1 0) then opt (bif x3.2.1.1.2.2 then some (0, (((wrF .i64 ((s0.1.2.1 + 1))), ()), ()))
              else some (0, ((s0.1.2.1, ()), ()))) fun x4 =>
            some (.inr ((x3.2.1.2.1, (x4.2.1.1, ((wrF .i64 ((s0.1.2.2.1 + 1))), ()))), ()))
          else some (.inl ((0 + 1), ((x3.2.1.2.1, (s0.1.2.1, (s0.1.2.2.1, ()))), ())))
      else some (.inl (0, ((s0.1.1, (s0.1.2.1, (s0.1.2.2.1, ()))), ())))) bigN ((0, (0, (0, ()))), ())) fun x5 =>
    bif (Nat.beq x5.1 0) then bif (iltF (1) (x5.2.1.2.1)) then some (470, ())
      else some (0, ())
    else some (x5.2.1.1, ())
theorem E84 (G47 : (D33 × Unit) → Option (Int × Unit)) (a0 : (List D33)) : sF Try.prog [(47, ⟨A47, B47, G47⟩)] pl84 (autoJ []) 30 84 A84 B84 (a0, ()) = R84 G47 a0 := by kernel_rfl
def K84 : ((List D33) × Unit) → Option (Int × Unit) := sF Try.prog [(47, ⟨A47, B47, K47⟩)] pl84 (autoJ []) 30 84 A84 B84
theorem K84_ok : Con.Ok Try.prog 84 ⟨A84, B84, K84⟩ := sF_ok (tblOk_cons K47_ok tblOk_nil) special (by kernel_rfl)
theorem K84_eq (a0 : (List D33)) : K84 (a0, ()) = R84 K47 a0 := E84 K47 a0
/-! isochron/choose.check -/
abbrev A66 : List VT := [⟨true, S26⟩, ⟨false, (.list S33)⟩, ⟨false, I⟩]
abbrev B66 : List VT := [⟨false, I⟩]
def pl66 : Plan := planA [⟨S144, flatTy S144, []⟩, ⟨S143, flatTy S143, []⟩, ⟨S134, flatTy S134, []⟩, ⟨S133, flatTy S133, []⟩, ⟨S91, flatTy S91, []⟩, ⟨S90, flatTy S90, []⟩, ⟨S88, flatTy S88, []⟩, ⟨S87, flatTy S87, []⟩, ⟨S79, flatTy S79, []⟩, ⟨S64, flatTy S64, []⟩, ⟨S61, flatTy S61, []⟩, ⟨S59, flatTy S59, []⟩, ⟨S58, flatTy S58, []⟩, ⟨S42, flatTy S42, []⟩, ⟨S35, flatTy S35, []⟩, ⟨S34, flatTy S34, []⟩, ⟨S43, flatTy S43, []⟩, ⟨S33, flatTy S33, []⟩, ⟨S32, flatTy S32, []⟩, ⟨S31, flatTy S31, []⟩, ⟨S30, flatTy S30, []⟩, ⟨S26, flatTy S26, []⟩, ⟨S25, flatTy S25, []⟩, ⟨S24, flatTy S24, []⟩, ⟨S23, flatTy S23, []⟩, ⟨S65, flatTy S65, []⟩, ⟨S14, flatTy S14, []⟩, ⟨S13, flatTy S13, []⟩, ⟨S8, flatTy S8, []⟩, ⟨S7, flatTy S7, []⟩] [] []
def R66 (G25 : (D26 × Unit) → Option (Int × Unit)) (G84 : ((List D33) × Unit) → Option (Int × Unit)) (a0 : D26) (a1 : (List D33)) (a2 : Int) : Option (Int × Unit) :=
  opt (G25 ((a0, ()))) fun x0 =>
  bif !(ieqF (x0.1) (0)) then some (x0.1, ())
  else opt (G84 ((a1, ()))) fun x1 =>
    bif !(ieqF (x1.1) (0)) then some (x1.1, ())
    else opt (bif (iltF (a2) (0)) then some ((0 + 1), ((2, ()), ()))
        else bif (iltF (549755813888) (a2)) then some ((0 + 1), ((2, ()), ()))
          else some (0, ((0, ()), ()))) fun x2 =>
      bif (Nat.beq x2.1 0) then some (0, ())
      else some (x2.2.1.1, ())
theorem E66 (G25 : (D26 × Unit) → Option (Int × Unit)) (G84 : ((List D33) × Unit) → Option (Int × Unit)) (a0 : D26) (a1 : (List D33)) (a2 : Int) : sF Try.prog [(25, ⟨A25, B25, G25⟩), (84, ⟨A84, B84, G84⟩)] pl66 (autoJ []) 30 66 A66 B66 (a0, a1, a2, ()) = R66 G25 G84 a0 a1 a2 := by kernel_rfl
def K66 : (D26 × (List D33) × Int × Unit) → Option (Int × Unit) := sF Try.prog [(25, ⟨A25, B25, K25⟩), (84, ⟨A84, B84, K84⟩)] pl66 (autoJ []) 30 66 A66 B66
theorem K66_ok : Con.Ok Try.prog 66 ⟨A66, B66, K66⟩ := sF_ok (tblOk_cons K25_ok (tblOk_cons K84_ok tblOk_nil)) special (by kernel_rfl)
theorem K66_eq (a0 : D26) (a1 : (List D33)) (a2 : Int) : K66 (a0, a1, a2, ()) = R66 K25 K84 a0 a1 a2 := E66 K25 K84 a0 a1 a2
/-! (isochron/choose.view).full -/
abbrev A78 : List VT := [⟨true, S134⟩, ⟨false, I⟩]
abbrev B78 : List VT := [⟨false, .bool⟩]
def pl78 : Plan := planA [⟨S144, flatTy S144, []⟩, ⟨S143, flatTy S143, []⟩, ⟨S134, flatTy S134, []⟩, ⟨S133, flatTy S133, []⟩, ⟨S91, flatTy S91, []⟩, ⟨S90, flatTy S90, []⟩, ⟨S88, flatTy S88, []⟩, ⟨S87, flatTy S87, []⟩, ⟨S79, flatTy S79, []⟩, ⟨S64, flatTy S64, []⟩, ⟨S61, flatTy S61, []⟩, ⟨S59, flatTy S59, []⟩, ⟨S58, flatTy S58, []⟩, ⟨S42, flatTy S42, []⟩, ⟨S35, flatTy S35, []⟩, ⟨S34, flatTy S34, []⟩, ⟨S43, flatTy S43, []⟩, ⟨S33, flatTy S33, []⟩, ⟨S32, flatTy S32, []⟩, ⟨S31, flatTy S31, []⟩, ⟨S30, flatTy S30, []⟩, ⟨S26, flatTy S26, []⟩, ⟨S25, flatTy S25, []⟩, ⟨S24, flatTy S24, []⟩, ⟨S23, flatTy S23, []⟩, ⟨S65, flatTy S65, []⟩, ⟨S14, flatTy S14, []⟩, ⟨S13, flatTy S13, []⟩, ⟨S8, flatTy S8, []⟩, ⟨S7, flatTy S7, []⟩] [] []
def R78  (a0 : D134) (a1 : Int) : Option (Bool × Unit) :=
  opt (atI (a0.2) (a1)) fun x0 =>
  some (!(((ieqF (x0.1.1) (0)) && ((ieqF (x0.1.2.1) (0)) && ((ieqF (x0.1.2.2.1) (0)) && ((ieqF (x0.1.2.2.2.1) (0)) && ((ieqF (x0.1.2.2.2.2) (0)) && true))))) && ((ieqF (x0.2.1) (0)) && ((x0.2.2 == false) && true))), ())
theorem E78  (a0 : D134) (a1 : Int) : sF Try.prog [] pl78 (autoJ []) 30 78 A78 B78 (a0, a1, ()) = R78  a0 a1 := by kernel_rfl
def K78 : (D134 × Int × Unit) → Option (Bool × Unit) := sF Try.prog [] pl78 (autoJ []) 30 78 A78 B78
theorem K78_ok : Con.Ok Try.prog 78 ⟨A78, B78, K78⟩ := sF_ok tblOk_nil special (by kernel_rfl)
theorem K78_eq (a0 : D134) (a1 : Int) : K78 (a0, a1, ()) = R78  a0 a1 := E78  a0 a1
/-! (isochron/choose.view).free -/
abbrev A85 : List VT := [⟨true, S134⟩, ⟨false, I⟩]
abbrev B85 : List VT := [⟨false, .bool⟩]
def pl85 : Plan := planA [⟨S144, flatTy S144, []⟩, ⟨S143, flatTy S143, []⟩, ⟨S134, flatTy S134, []⟩, ⟨S133, flatTy S133, []⟩, ⟨S91, flatTy S91, []⟩, ⟨S90, flatTy S90, []⟩, ⟨S88, flatTy S88, []⟩, ⟨S87, flatTy S87, []⟩, ⟨S79, flatTy S79, []⟩, ⟨S64, flatTy S64, []⟩, ⟨S61, flatTy S61, []⟩, ⟨S59, flatTy S59, []⟩, ⟨S58, flatTy S58, []⟩, ⟨S42, flatTy S42, []⟩, ⟨S35, flatTy S35, []⟩, ⟨S34, flatTy S34, []⟩, ⟨S43, flatTy S43, []⟩, ⟨S33, flatTy S33, []⟩, ⟨S32, flatTy S32, []⟩, ⟨S31, flatTy S31, []⟩, ⟨S30, flatTy S30, []⟩, ⟨S26, flatTy S26, []⟩, ⟨S25, flatTy S25, []⟩, ⟨S24, flatTy S24, []⟩, ⟨S23, flatTy S23, []⟩, ⟨S65, flatTy S65, []⟩, ⟨S14, flatTy S14, []⟩, ⟨S13, flatTy S13, []⟩, ⟨S8, flatTy S8, []⟩, ⟨S7, flatTy S7, []⟩] [] []
def R85  (a0 : D134) (a1 : Int) : Option (Bool × Unit) :=
  bif !(iltF (a1) (6)) then some (true, ())
  else opt (iterK (fun s0 : ((Bool × (Int × Unit)) × Unit) =>
      bif (iltF (s0.1.2.1) ((((a0.2).length : Nat) : Int))) then opt (atI (a0.2) (s0.1.2.1)) fun x1 =>
        opt (bif !(ieqF (s0.1.2.1) (a1)) then bif x1.2.2 then some ((0 + 1), ((false, ()), ()))
            else some (0, ((s0.1.1, ()), ()))
          else some (0, ((s0.1.1, ()), ()))) fun x2 =>
        bif (Nat.beq x2.1 0) then some (.inr ((x2.2.1.1, ((wrF .i64 ((s0.1.2.1 + 1))), ())), ()))
        else some (.inl ((0 + 1), ((x2.2.1.1, (s0.1.2.1, ())), ())))
      else some (.inl (0, ((s0.1.1, (s0.1.2.1, ())), ())))) bigN ((false, (0, ())), ())) fun x3 =>
    bif (Nat.beq x3.1 0) then some (true, ())
    else some (x3.2.1.1, ())
theorem E85  (a0 : D134) (a1 : Int) : sF Try.prog [] pl85 (autoJ []) 30 85 A85 B85 (a0, a1, ()) = R85  a0 a1 := by kernel_rfl
def K85 : (D134 × Int × Unit) → Option (Bool × Unit) := sF Try.prog [] pl85 (autoJ []) 30 85 A85 B85
theorem K85_ok : Con.Ok Try.prog 85 ⟨A85, B85, K85⟩ := sF_ok tblOk_nil special (by kernel_rfl)
theorem K85_eq (a0 : D134) (a1 : Int) : K85 (a0, a1, ()) = R85  a0 a1 := E85  a0 a1
/-! isochron/gates.check -/
abbrev A42 : List VT := [⟨true, S24⟩, ⟨false, I⟩, ⟨false, I⟩, ⟨false, I⟩]
abbrev B42 : List VT := [⟨false, I⟩]
def pl42 : Plan := planA [⟨S144, flatTy S144, []⟩, ⟨S143, flatTy S143, []⟩, ⟨S134, flatTy S134, []⟩, ⟨S133, flatTy S133, []⟩, ⟨S91, flatTy S91, []⟩, ⟨S90, flatTy S90, []⟩, ⟨S88, flatTy S88, []⟩, ⟨S87, flatTy S87, []⟩, ⟨S79, flatTy S79, []⟩, ⟨S64, flatTy S64, []⟩, ⟨S61, flatTy S61, []⟩, ⟨S59, flatTy S59, []⟩, ⟨S58, flatTy S58, []⟩, ⟨S42, flatTy S42, []⟩, ⟨S35, flatTy S35, []⟩, ⟨S34, flatTy S34, []⟩, ⟨S43, flatTy S43, []⟩, ⟨S33, flatTy S33, []⟩, ⟨S32, flatTy S32, []⟩, ⟨S31, flatTy S31, []⟩, ⟨S30, flatTy S30, []⟩, ⟨S26, flatTy S26, []⟩, ⟨S25, flatTy S25, []⟩, ⟨S24, flatTy S24, []⟩, ⟨S23, flatTy S23, []⟩, ⟨S65, flatTy S65, []⟩, ⟨S14, flatTy S14, []⟩, ⟨S13, flatTy S13, []⟩, ⟨S8, flatTy S8, []⟩, ⟨S7, flatTy S7, []⟩] [] []
def R42 (G17 : (D24 × Unit) → Option (Int × Unit)) (a0 : D24) (a1 : Int) (a2 : Int) (a3 : Int) : Option (Int × Unit) :=
  opt (G17 ((a0, ()))) fun x0 =>
  bif !(ieqF (x0.1) (0)) then some (x0.1, ())
  else opt (bif (iltF (a1) (0)) then some ((0 + 1), ((2, ()), ()))
      else bif !(iltF (a1) (8)) then some ((0 + 1), ((2, ()), ()))
        else bif (iltF (a2) ((-1099511627776))) then some ((0 + 1), ((2, ()), ()))
          else bif (iltF (1099511627776) (a2)) then some ((0 + 1), ((2, ()), ()))
            else bif (iltF (a3) (0)) then some ((0 + 1), ((2, ()), ()))
              else bif (iltF (1099511627776) (a3)) then some ((0 + 1), ((2, ()), ()))
                else some (0, ((0, ()), ()))) fun x1 =>
    bif (Nat.beq x1.1 0) then some (0, ())
    else some (x1.2.1.1, ())
theorem E42 (G17 : (D24 × Unit) → Option (Int × Unit)) (a0 : D24) (a1 : Int) (a2 : Int) (a3 : Int) : sF Try.prog [(17, ⟨A17, B17, G17⟩)] pl42 (autoJ []) 30 42 A42 B42 (a0, a1, a2, a3, ()) = R42 G17 a0 a1 a2 a3 := by kernel_rfl
def K42 : (D24 × Int × Int × Int × Unit) → Option (Int × Unit) := sF Try.prog [(17, ⟨A17, B17, K17⟩)] pl42 (autoJ []) 30 42 A42 B42
theorem K42_ok : Con.Ok Try.prog 42 ⟨A42, B42, K42⟩ := sF_ok (tblOk_cons K17_ok tblOk_nil) special (by kernel_rfl)
theorem K42_eq (a0 : D24) (a1 : Int) (a2 : Int) (a3 : Int) : K42 (a0, a1, a2, a3, ()) = R42 K17 a0 a1 a2 a3 := E42 K17 a0 a1 a2 a3
/-! isochron/gates.find -/
abbrev A80 : List VT := [⟨true, S24⟩, ⟨false, I⟩]
abbrev B80 : List VT := [⟨false, I⟩, ⟨false, I⟩]
def pl80 : Plan := planA [⟨S144, flatTy S144, []⟩, ⟨S143, flatTy S143, []⟩, ⟨S134, flatTy S134, []⟩, ⟨S133, flatTy S133, []⟩, ⟨S91, flatTy S91, []⟩, ⟨S90, flatTy S90, []⟩, ⟨S88, flatTy S88, []⟩, ⟨S87, flatTy S87, []⟩, ⟨S79, flatTy S79, []⟩, ⟨S64, flatTy S64, []⟩, ⟨S61, flatTy S61, []⟩, ⟨S59, flatTy S59, []⟩, ⟨S58, flatTy S58, []⟩, ⟨S42, flatTy S42, []⟩, ⟨S35, flatTy S35, []⟩, ⟨S34, flatTy S34, []⟩, ⟨S43, flatTy S43, []⟩, ⟨S33, flatTy S33, []⟩, ⟨S32, flatTy S32, []⟩, ⟨S31, flatTy S31, []⟩, ⟨S30, flatTy S30, []⟩, ⟨S26, flatTy S26, []⟩, ⟨S25, flatTy S25, []⟩, ⟨S24, flatTy S24, []⟩, ⟨S23, flatTy S23, []⟩, ⟨S65, flatTy S65, []⟩, ⟨S14, flatTy S14, []⟩, ⟨S13, flatTy S13, []⟩, ⟨S8, flatTy S8, []⟩, ⟨S7, flatTy S7, []⟩] [] []
def R80  (a0 : D24) (a1 : Int) : Option (Int × Int × Unit) :=
  bif (ieqF (a0.2) (0)) then none
  else bif (ieqF (a0.2) (0)) then none
    else opt (atI (a0.1) (0)) fun x0 =>
      bif !(iltF ((Int.tmod (wrF .i64 (((Int.tmod a1 a0.2) + a0.2))) a0.2)) (x0.2)) then opt (atI (a0.1) (0)) fun x1 =>
        opt (iterK (fun s2 : ((Int × (Int × (Int × Unit))) × Unit) =>
          opt (atI (a0.1) (s2.1.2.1)) fun x3 =>
          bif !(iltF (s2.1.1) (x3.2)) then opt (atI (a0.1) (s2.1.2.1)) fun x4 =>
            some (.inr (((wrF .i64 ((s2.1.1 - x4.2))), ((wrF .i64 ((s2.1.2.1 + 1))), (s2.1.2.2.1, ()))), ()))
          else opt (atI (a0.1) (s2.1.2.1)) fun x5 =>
            some (.inl (0, ((s2.1.1, (s2.1.2.1, ((wrF .i64 ((x5.2 - s2.1.1))), ()))), ())))) bigN (((wrF .i64 (((Int.tmod (wrF .i64 (((Int.tmod a1 a0.2) + a0.2))) a0.2) - x1.2))), ((wrF .i64 ((0 + 1))), (0, ()))), ())) fun x6 =>
        some (x6.2.1.2.1, (x6.2.1.2.2.1, ()))
      else opt (atI (a0.1) (0)) fun x7 =>
        some (0, ((wrF .i64 ((x7.2 - (Int.tmod (wrF .i64 (((Int.tmod a1 a0.2) + a0.2))) a0.2)))), ()))
theorem E80  (a0 : D24) (a1 : Int) : sF Try.prog [] pl80 (autoJ []) 30 80 A80 B80 (a0, a1, ()) = R80  a0 a1 := by kernel_rfl
def K80 : (D24 × Int × Unit) → Option (Int × Int × Unit) := sF Try.prog [] pl80 (autoJ []) 30 80 A80 B80
theorem K80_ok : Con.Ok Try.prog 80 ⟨A80, B80, K80⟩ := sF_ok tblOk_nil special (by kernel_rfl)
theorem K80_eq (a0 : D24) (a1 : Int) : K80 (a0, a1, ()) = R80  a0 a1 := E80  a0 a1
/-! isochron/gates.open -/
abbrev A43 : List VT := [⟨true, S24⟩, ⟨false, I⟩, ⟨false, I⟩]
abbrev B43 : List VT := [⟨false, I⟩]
def pl43 : Plan := planA [⟨S144, flatTy S144, []⟩, ⟨S143, flatTy S143, []⟩, ⟨S134, flatTy S134, []⟩, ⟨S133, flatTy S133, []⟩, ⟨S91, flatTy S91, []⟩, ⟨S90, flatTy S90, []⟩, ⟨S88, flatTy S88, []⟩, ⟨S87, flatTy S87, []⟩, ⟨S79, flatTy S79, []⟩, ⟨S64, flatTy S64, []⟩, ⟨S61, flatTy S61, []⟩, ⟨S59, flatTy S59, []⟩, ⟨S58, flatTy S58, []⟩, ⟨S42, flatTy S42, []⟩, ⟨S35, flatTy S35, []⟩, ⟨S34, flatTy S34, []⟩, ⟨S43, flatTy S43, []⟩, ⟨S33, flatTy S33, []⟩, ⟨S32, flatTy S32, []⟩, ⟨S31, flatTy S31, []⟩, ⟨S30, flatTy S30, []⟩, ⟨S26, flatTy S26, []⟩, ⟨S25, flatTy S25, []⟩, ⟨S24, flatTy S24, []⟩, ⟨S23, flatTy S23, []⟩, ⟨S65, flatTy S65, []⟩, ⟨S14, flatTy S14, []⟩, ⟨S13, flatTy S13, []⟩, ⟨S8, flatTy S8, []⟩, ⟨S7, flatTy S7, []⟩] [] []
def R43 (G80 : (D24 × Int × Unit) → Option (Int × Int × Unit)) (a0 : D24) (a1 : Int) (a2 : Int) : Option (Int × Unit) :=
  opt (G80 ((a0, (a2, ())))) fun x0 =>
  opt (iterK (fun s1 : ((Int × (((List (Int × Int)) × Int) × (Int × (Int × (Int × (Int × (Int × Unit))))))) × Unit) =>
    bif (iltF (s1.1.2.2.2.2.2.2.1) ((wrF .i64 (((((a0.1).length : Nat) : Int) + 1))))) then opt (atI (s1.1.2.1.1) (s1.1.2.2.2.2.1)) fun x2 =>
      bif (iltF (s1.1.1) (0)) then none
      else bif !(ieqF ((bitI .and .i64 ((shrI .i64 (x2.1) (s1.1.1))) (1))) (1)) then some (.inl ((0 + 1), ((s1.1.1, (s1.1.2.1, (s1.1.2.2.2.1, (s1.1.2.2.2.1, (s1.1.2.2.2.2.1, (s1.1.2.2.2.2.2.1, (s1.1.2.2.2.2.2.2.1, ()))))))), ())))
        else bif (ieqF ((((s1.1.2.1.1).length : Nat) : Int)) (0)) then none
          else opt (atI (s1.1.2.1.1) ((Int.tmod (wrF .i64 ((s1.1.2.2.2.2.1 + 1))) (((s1.1.2.1.1).length : Nat) : Int)))) fun x3 =>
            some (.inr ((s1.1.1, (s1.1.2.1, (s1.1.2.2.1, ((wrF .i64 ((s1.1.2.2.2.1 + s1.1.2.2.2.2.2.1))), ((Int.tmod (wrF .i64 ((s1.1.2.2.2.2.1 + 1))) (((s1.1.2.1.1).length : Nat) : Int)), (x3.2, ((wrF .i64 ((s1.1.2.2.2.2.2.2.1 + 1))), ()))))))), ()))
    else some (.inl (0, ((s1.1.1, (s1.1.2.1, (s1.1.2.2.1, (s1.1.2.2.2.1, (s1.1.2.2.2.2.1, (s1.1.2.2.2.2.2.1, (s1.1.2.2.2.2.2.2.1, ()))))))), ())))) bigN ((a1, (a0, (0, (0, (x0.1, (x0.2.1, (0, ()))))))), ())) fun x4 =>
  bif (Nat.beq x4.1 0) then bif (ieqF (x4.2.1.2.1.2) (a0.2)) then some (1099511627776, ())
    else some (x4.2.1.2.1.2, ())
  else bif (ieqF (x4.2.1.2.2.1) (a0.2)) then some (1099511627776, ())
    else some (x4.2.1.2.2.1, ())
theorem E43 (G80 : (D24 × Int × Unit) → Option (Int × Int × Unit)) (a0 : D24) (a1 : Int) (a2 : Int) : sF Try.prog [(80, ⟨A80, B80, G80⟩)] pl43 (autoJ []) 30 43 A43 B43 (a0, a1, a2, ()) = R43 G80 a0 a1 a2 := by kernel_rfl
def K43 : (D24 × Int × Int × Unit) → Option (Int × Unit) := sF Try.prog [(80, ⟨A80, B80, K80⟩)] pl43 (autoJ []) 30 43 A43 B43
theorem K43_ok : Con.Ok Try.prog 43 ⟨A43, B43, K43⟩ := sF_ok (tblOk_cons K80_ok tblOk_nil) special (by kernel_rfl)
theorem K43_eq (a0 : D24) (a1 : Int) (a2 : Int) : K43 (a0, a1, a2, ()) = R43 K80 a0 a1 a2 := E43 K80 a0 a1 a2
/-! isochron/gates.Fits -/
abbrev A22 : List VT := [⟨true, S24⟩, ⟨false, I⟩, ⟨false, I⟩, ⟨false, I⟩]
abbrev B22 : List VT := [⟨false, .bool⟩, ⟨false, I⟩]
def pl22 : Plan := planA [⟨S144, flatTy S144, []⟩, ⟨S143, flatTy S143, []⟩, ⟨S134, flatTy S134, []⟩, ⟨S133, flatTy S133, []⟩, ⟨S91, flatTy S91, []⟩, ⟨S90, flatTy S90, []⟩, ⟨S88, flatTy S88, []⟩, ⟨S87, flatTy S87, []⟩, ⟨S79, flatTy S79, []⟩, ⟨S64, flatTy S64, []⟩, ⟨S61, flatTy S61, []⟩, ⟨S59, flatTy S59, []⟩, ⟨S58, flatTy S58, []⟩, ⟨S42, flatTy S42, []⟩, ⟨S35, flatTy S35, []⟩, ⟨S34, flatTy S34, []⟩, ⟨S43, flatTy S43, []⟩, ⟨S33, flatTy S33, []⟩, ⟨S32, flatTy S32, []⟩, ⟨S31, flatTy S31, []⟩, ⟨S30, flatTy S30, []⟩, ⟨S26, flatTy S26, []⟩, ⟨S25, flatTy S25, []⟩, ⟨S24, flatTy S24, []⟩, ⟨S23, flatTy S23, []⟩, ⟨S65, flatTy S65, []⟩, ⟨S14, flatTy S14, []⟩, ⟨S13, flatTy S13, []⟩, ⟨S8, flatTy S8, []⟩, ⟨S7, flatTy S7, []⟩] [] []
def R22 (G42 : (D24 × Int × Int × Int × Unit) → Option (Int × Unit)) (G43 : (D24 × Int × Int × Unit) → Option (Int × Unit)) (a0 : D24) (a1 : Int) (a2 : Int) (a3 : Int) : Option (Bool × Int × Unit) :=
  opt (G42 ((a0, (a1, (a2, (a3, ())))))) fun x0 =>
  bif !(ieqF (x0.1) (0)) then some (false, (x0.1, ()))
  else opt (G43 ((a0, (a1, (a2, ()))))) fun x1 =>
    some (!(iltF (x1.1) (a3)), (0, ()))
theorem E22 (G42 : (D24 × Int × Int × Int × Unit) → Option (Int × Unit)) (G43 : (D24 × Int × Int × Unit) → Option (Int × Unit)) (a0 : D24) (a1 : Int) (a2 : Int) (a3 : Int) : sF Try.prog [(42, ⟨A42, B42, G42⟩), (43, ⟨A43, B43, G43⟩)] pl22 (autoJ []) 30 22 A22 B22 (a0, a1, a2, a3, ()) = R22 G42 G43 a0 a1 a2 a3 := by kernel_rfl
def K22 : (D24 × Int × Int × Int × Unit) → Option (Bool × Int × Unit) := sF Try.prog [(42, ⟨A42, B42, K42⟩), (43, ⟨A43, B43, K43⟩)] pl22 (autoJ []) 30 22 A22 B22
theorem K22_ok : Con.Ok Try.prog 22 ⟨A22, B22, K22⟩ := sF_ok (tblOk_cons K42_ok (tblOk_cons K43_ok tblOk_nil)) special (by kernel_rfl)
theorem K22_eq (a0 : D24) (a1 : Int) (a2 : Int) (a3 : Int) : K22 (a0, a1, a2, a3, ()) = R22 K42 K43 a0 a1 a2 a3 := E22 K42 K43 a0 a1 a2 a3
/-! (isochron/choose.view).fits -/
abbrev A79 : List VT := [⟨true, S134⟩, ⟨false, I⟩, ⟨false, I⟩]
abbrev B79 : List VT := [⟨false, .bool⟩]
def pl79 : Plan := planA [⟨S144, flatTy S144, []⟩, ⟨S143, flatTy S143, []⟩, ⟨S134, flatTy S134, []⟩, ⟨S133, flatTy S133, []⟩, ⟨S91, flatTy S91, []⟩, ⟨S90, flatTy S90, []⟩, ⟨S88, flatTy S88, []⟩, ⟨S87, flatTy S87, []⟩, ⟨S79, flatTy S79, []⟩, ⟨S64, flatTy S64, []⟩, ⟨S61, flatTy S61, []⟩, ⟨S59, flatTy S59, []⟩, ⟨S58, flatTy S58, []⟩, ⟨S42, flatTy S42, []⟩, ⟨S35, flatTy S35, []⟩, ⟨S34, flatTy S34, []⟩, ⟨S43, flatTy S43, []⟩, ⟨S33, flatTy S33, []⟩, ⟨S32, flatTy S32, []⟩, ⟨S31, flatTy S31, []⟩, ⟨S30, flatTy S30, []⟩, ⟨S26, flatTy S26, []⟩, ⟨S25, flatTy S25, []⟩, ⟨S24, flatTy S24, []⟩, ⟨S23, flatTy S23, []⟩, ⟨S65, flatTy S65, []⟩, ⟨S14, flatTy S14, []⟩, ⟨S13, flatTy S13, []⟩, ⟨S8, flatTy S8, []⟩, ⟨S7, flatTy S7, []⟩] [] []
def R79 (G22 : (D24 × Int × Int × Int × Unit) → Option (Bool × Int × Unit)) (a0 : D134) (a1 : Int) (a2 : Int) : Option (Bool × Unit) :=
  opt (atI (a0.2) (a1)) fun x0 =>
  opt (G22 ((a0.1.1, (a1, ((wrF .i64 ((a2 + a0.1.2.2))), ((wrF .i64 ((x0.2.1 * a0.1.2.1))), ())))))) fun x1 =>
  bif (ieqF (x1.2.1) (0)) then some (x1.1, ())
  else some (false, ())
theorem E79 (G22 : (D24 × Int × Int × Int × Unit) → Option (Bool × Int × Unit)) (a0 : D134) (a1 : Int) (a2 : Int) : sF Try.prog [(22, ⟨A22, B22, G22⟩)] pl79 (autoJ []) 30 79 A79 B79 (a0, a1, a2, ()) = R79 G22 a0 a1 a2 := by kernel_rfl
def K79 : (D134 × Int × Int × Unit) → Option (Bool × Unit) := sF Try.prog [(22, ⟨A22, B22, K22⟩)] pl79 (autoJ []) 30 79 A79 B79
theorem K79_ok : Con.Ok Try.prog 79 ⟨A79, B79, K79⟩ := sF_ok (tblOk_cons K22_ok tblOk_nil) special (by kernel_rfl)
theorem K79_eq (a0 : D134) (a1 : Int) (a2 : Int) : K79 (a0, a1, a2, ()) = R79 K22 a0 a1 a2 := E79 K22 a0 a1 a2
/-! (isochron/choose.view).may -/
abbrev A71 : List VT := [⟨true, S134⟩, ⟨false, I⟩, ⟨false, I⟩]
abbrev B71 : List VT := [⟨false, .bool⟩]
def pl71 : Plan := planA [⟨S144, flatTy S144, []⟩, ⟨S143, flatTy S143, []⟩, ⟨S134, flatTy S134, []⟩, ⟨S133, flatTy S133, []⟩, ⟨S91, flatTy S91, []⟩, ⟨S90, flatTy S90, []⟩, ⟨S88, flatTy S88, []⟩, ⟨S87, flatTy S87, []⟩, ⟨S79, flatTy S79, []⟩, ⟨S64, flatTy S64, []⟩, ⟨S61, flatTy S61, []⟩, ⟨S59, flatTy S59, []⟩, ⟨S58, flatTy S58, []⟩, ⟨S42, flatTy S42, []⟩, ⟨S35, flatTy S35, []⟩, ⟨S34, flatTy S34, []⟩, ⟨S43, flatTy S43, []⟩, ⟨S33, flatTy S33, []⟩, ⟨S32, flatTy S32, []⟩, ⟨S31, flatTy S31, []⟩, ⟨S30, flatTy S30, []⟩, ⟨S26, flatTy S26, []⟩, ⟨S25, flatTy S25, []⟩, ⟨S24, flatTy S24, []⟩, ⟨S23, flatTy S23, []⟩, ⟨S65, flatTy S65, []⟩, ⟨S14, flatTy S14, []⟩, ⟨S13, flatTy S13, []⟩, ⟨S8, flatTy S8, []⟩, ⟨S7, flatTy S7, []⟩] [] []
def R71 (G78 : (D134 × Int × Unit) → Option (Bool × Unit)) (G85 : (D134 × Int × Unit) → Option (Bool × Unit)) (G79 : (D134 × Int × Int × Unit) → Option (Bool × Unit)) (a0 : D134) (a1 : Int) (a2 : Int) : Option (Bool × Unit) :=
  opt (iterK (fun s0 : ((Bool × (Int × Unit)) × Unit) =>
    bif (iltF (s0.1.2.1) (3)) then bif (ieqF (s0.1.2.1) (((0 : Nat) : Int))) then opt (G78 ((a0, (a1, ())))) fun x1 =>
        bif !x1.1 then some (.inl ((0 + 1), ((false, (s0.1.2.1, ())), ())))
        else some (.inr ((s0.1.1, ((wrF .i64 ((s0.1.2.1 + 1))), ())), ()))
      else bif (ieqF (s0.1.2.1) ((((0 + 1) : Nat) : Int))) then opt (G85 ((a0, (a1, ())))) fun x2 =>
          bif !x2.1 then some (.inl ((0 + 1), ((false, (s0.1.2.1, ())), ())))
          else some (.inr ((s0.1.1, ((wrF .i64 ((s0.1.2.1 + 1))), ())), ()))
        else bif (ieqF (s0.1.2.1) (((((0 + 1) + 1) : Nat) : Int))) then opt (G79 ((a0, (a1, (a2, ()))))) fun x3 =>
            bif !x3.1 then some (.inl ((0 + 1), ((false, (s0.1.2.1, ())), ())))
            else some (.inr ((s0.1.1, ((wrF .i64 ((s0.1.2.1 + 1))), ())), ()))
          else none
    else some (.inl (0, ((s0.1.1, (s0.1.2.1, ())), ())))) bigN ((false, (0, ())), ())) fun x4 =>
  bif (Nat.beq x4.1 0) then some (true, ())
  else some (x4.2.1.1, ())
theorem E71 (G78 : (D134 × Int × Unit) → Option (Bool × Unit)) (G85 : (D134 × Int × Unit) → Option (Bool × Unit)) (G79 : (D134 × Int × Int × Unit) → Option (Bool × Unit)) (a0 : D134) (a1 : Int) (a2 : Int) : sF Try.prog [(78, ⟨A78, B78, G78⟩), (85, ⟨A85, B85, G85⟩), (79, ⟨A79, B79, G79⟩)] pl71 (autoJ []) 30 71 A71 B71 (a0, a1, a2, ()) = R71 G78 G85 G79 a0 a1 a2 := by kernel_rfl
def K71 : (D134 × Int × Int × Unit) → Option (Bool × Unit) := sF Try.prog [(78, ⟨A78, B78, K78⟩), (85, ⟨A85, B85, K85⟩), (79, ⟨A79, B79, K79⟩)] pl71 (autoJ []) 30 71 A71 B71
theorem K71_ok : Con.Ok Try.prog 71 ⟨A71, B71, K71⟩ := sF_ok (tblOk_cons K78_ok (tblOk_cons K85_ok (tblOk_cons K79_ok tblOk_nil))) special (by kernel_rfl)
theorem K71_eq (a0 : D134) (a1 : Int) (a2 : Int) : K71 (a0, a1, a2, ()) = R71 K78 K85 K79 a0 a1 a2 := E71 K78 K85 K79 a0 a1 a2
/-! isochron/choose.Start -/
abbrev A58 : List VT := [⟨true, S26⟩, ⟨false, (.list S33)⟩, ⟨false, I⟩]
abbrev B58 : List VT := [⟨false, I⟩, ⟨false, I⟩]
def pl58 : Plan := planA [⟨S144, flatTy S144, []⟩, ⟨S143, flatTy S143, []⟩, ⟨S134, flatTy S134, []⟩, ⟨S133, flatTy S133, []⟩, ⟨S91, flatTy S91, []⟩, ⟨S90, flatTy S90, []⟩, ⟨S88, flatTy S88, []⟩, ⟨S87, flatTy S87, []⟩, ⟨S79, flatTy S79, []⟩, ⟨S64, flatTy S64, []⟩, ⟨S61, flatTy S61, []⟩, ⟨S59, flatTy S59, []⟩, ⟨S58, flatTy S58, []⟩, ⟨S42, flatTy S42, []⟩, ⟨S35, flatTy S35, []⟩, ⟨S34, flatTy S34, []⟩, ⟨S43, flatTy S43, []⟩, ⟨S33, flatTy S33, []⟩, ⟨S32, flatTy S32, []⟩, ⟨S31, flatTy S31, []⟩, ⟨S30, flatTy S30, []⟩, ⟨S26, flatTy S26, []⟩, ⟨S25, flatTy S25, []⟩, ⟨S24, flatTy S24, []⟩, ⟨S23, flatTy S23, []⟩, ⟨S65, flatTy S65, []⟩, ⟨S14, flatTy S14, []⟩, ⟨S13, flatTy S13, []⟩, ⟨S8, flatTy S8, []⟩, ⟨S7, flatTy S7, []⟩] [] []
def R58 (G66 : (D26 × (List D33) × Int × Unit) → Option (Int × Unit)) (G71 : (D134 × Int × Int × Unit) → Option (Bool × Unit)) (a0 : D26) (a1 : (List D33)) (a2 : Int) : Option (Int × Int × Unit) :=
  opt (G66 ((a0, (a1, (a2, ()))))) fun x0 =>
  bif !(ieqF (x0.1) (0)) then some (0, (x0.1, ()))
  else opt (iterK (fun s1 : ((Int × (Int × (Int × (Int × Unit)))) × (Unit × (Unit × Unit))) =>
      bif !(iltF (s1.1.2.2.2.1) (0)) then opt (G71 (((a0, a1), (s1.1.2.2.2.1, (s1.1.2.2.1, ()))))) fun x2 =>
        bif !x2.1 then some (.inr ((s1.1.1, (s1.1.2.1, (s1.1.2.2.1, ((wrF .i64 ((s1.1.2.2.2.1 - 1))), ())))), ((), ((), ()))))
        else some (.inl ((((0 + 1) + 1) + 1), ((s1.1.2.2.2.1, (0, (s1.1.2.2.1, (s1.1.2.2.2.1, ())))), ((), ((), ())))))
      else some (.inl (0, ((s1.1.1, (s1.1.2.1, (s1.1.2.2.1, (s1.1.2.2.2.1, ())))), ((), ((), ())))))) bigN ((0, (4, (a2, (7, ())))), ((), ((), ())))) fun x3 =>
    bif (Nat.beq x3.1 0) then some (x3.2.1.1, (x3.2.1.2.1, ()))
    else bif (Nat.beq x3.1 (0 + 1)) then some (x3.2.1.1, (x3.2.1.2.1, ()))
      else bif (Nat.beq x3.1 ((0 + 1) + 1)) then some (x3.2.1.1, (x3.2.1.2.1, ()))
        else some (x3.2.1.1, (x3.2.1.2.1, ()))
theorem E58 (G66 : (D26 × (List D33) × Int × Unit) → Option (Int × Unit)) (G71 : (D134 × Int × Int × Unit) → Option (Bool × Unit)) (a0 : D26) (a1 : (List D33)) (a2 : Int) : sF Try.prog [(66, ⟨A66, B66, G66⟩), (71, ⟨A71, B71, G71⟩)] pl58 (autoJ []) 30 58 A58 B58 (a0, a1, a2, ()) = R58 G66 G71 a0 a1 a2 := by kernel_rfl
def K58 : (D26 × (List D33) × Int × Unit) → Option (Int × Int × Unit) := sF Try.prog [(66, ⟨A66, B66, K66⟩), (71, ⟨A71, B71, K71⟩)] pl58 (autoJ []) 30 58 A58 B58
theorem K58_ok : Con.Ok Try.prog 58 ⟨A58, B58, K58⟩ := sF_ok (tblOk_cons K66_ok (tblOk_cons K71_ok tblOk_nil)) special (by kernel_rfl)
theorem K58_eq (a0 : D26) (a1 : (List D33)) (a2 : Int) : K58 (a0, a1, a2, ()) = R58 K66 K71 a0 a1 a2 := E58 K66 K71 a0 a1 a2
/-! isochron/queue.Pop -/
abbrev A75 : List VT := [⟨true, S43⟩]
abbrev B75 : List VT := [⟨true, S43⟩, ⟨true, S33⟩, ⟨false, I⟩]
def pl75 : Plan := planA [⟨S144, flatTy S144, []⟩, ⟨S143, flatTy S143, []⟩, ⟨S134, flatTy S134, []⟩, ⟨S133, flatTy S133, []⟩, ⟨S91, flatTy S91, []⟩, ⟨S90, flatTy S90, []⟩, ⟨S88, flatTy S88, []⟩, ⟨S87, flatTy S87, []⟩, ⟨S79, flatTy S79, []⟩, ⟨S64, flatTy S64, []⟩, ⟨S61, flatTy S61, []⟩, ⟨S59, flatTy S59, []⟩, ⟨S58, flatTy S58, []⟩, ⟨S42, flatTy S42, []⟩, ⟨S35, flatTy S35, []⟩, ⟨S34, flatTy S34, []⟩, ⟨S43, flatTy S43, []⟩, ⟨S33, flatTy S33, []⟩, ⟨S32, flatTy S32, []⟩, ⟨S31, flatTy S31, []⟩, ⟨S30, flatTy S30, []⟩, ⟨S26, flatTy S26, []⟩, ⟨S25, flatTy S25, []⟩, ⟨S24, flatTy S24, []⟩, ⟨S23, flatTy S23, []⟩, ⟨S65, flatTy S65, []⟩, ⟨S14, flatTy S14, []⟩, ⟨S13, flatTy S13, []⟩, ⟨S8, flatTy S8, []⟩, ⟨S7, flatTy S7, []⟩] [] []
def R75 (G49 : (D43 × Unit) → Option (Int × Unit)) (a0 : D43) : Option (D43 × D33 × Int × Unit) :=
  opt (G49 ((a0, ()))) fun x0 =>
  bif !(ieqF (x0.1) (0)) then some ((0, []), (((0, (0, (0, (0, 0)))), (0, false)), (x0.1, ())))
  else bif (ieqF ((((a0.2).length : Nat) : Int)) (0)) then some ((0, []), (((0, (0, (0, (0, 0)))), (0, false)), (4, ())))
    else opt (cutI (a0.2) (some (1)) none none) fun x1 =>
      opt (atI (a0.2) (0)) fun x2 =>
      some ((a0.1, x1), (x2, (0, ())))
theorem E75 (G49 : (D43 × Unit) → Option (Int × Unit)) (a0 : D43) : sF Try.prog [(49, ⟨A49, B49, G49⟩)] pl75 (autoJ []) 30 75 A75 B75 (a0, ()) = R75 G49 a0 := by kernel_rfl
def K75 : (D43 × Unit) → Option (D43 × D33 × Int × Unit) := sF Try.prog [(49, ⟨A49, B49, K49⟩)] pl75 (autoJ []) 30 75 A75 B75
theorem K75_ok : Con.Ok Try.prog 75 ⟨A75, B75, K75⟩ := sF_ok (tblOk_cons K49_ok tblOk_nil) special (by kernel_rfl)
theorem K75_eq (a0 : D43) : K75 (a0, ()) = R75 K49 a0 := E75 K49 a0
/-! (isochron/port.egress).start -/
abbrev A59 : List VT := [⟨true, S86⟩, ⟨false, I⟩, ⟨false, I⟩]
abbrev B59 : List VT := [⟨true, S86⟩]
def pl59 : Plan := planA [⟨S144, flatTy S144, []⟩, ⟨S143, flatTy S143, []⟩, ⟨S134, flatTy S134, []⟩, ⟨S133, flatTy S133, []⟩, ⟨S91, flatTy S91, []⟩, ⟨S90, flatTy S90, []⟩, ⟨S88, flatTy S88, []⟩, ⟨S87, flatTy S87, []⟩, ⟨S79, flatTy S79, []⟩, ⟨S64, flatTy S64, []⟩, ⟨S61, flatTy S61, []⟩, ⟨S59, flatTy S59, []⟩, ⟨S58, flatTy S58, []⟩, ⟨S42, flatTy S42, []⟩, ⟨S35, flatTy S35, []⟩, ⟨S34, flatTy S34, []⟩, ⟨S43, flatTy S43, []⟩, ⟨S33, flatTy S33, []⟩, ⟨S32, flatTy S32, []⟩, ⟨S31, flatTy S31, []⟩, ⟨S30, flatTy S30, []⟩, ⟨S26, flatTy S26, []⟩, ⟨S25, flatTy S25, []⟩, ⟨S24, flatTy S24, []⟩, ⟨S23, flatTy S23, []⟩, ⟨S65, flatTy S65, []⟩, ⟨S14, flatTy S14, []⟩, ⟨S13, flatTy S13, []⟩, ⟨S8, flatTy S8, []⟩, ⟨S7, flatTy S7, []⟩] [] []
def R59 (G75 : (D43 × Unit) → Option (D43 × D33 × Int × Unit)) (a0 : D86) (a1 : Int) (a2 : Int) : Option (D86 × Unit) :=
  bif (mkOk ((((a0.2.2.1).length : Nat) : Int)) ((((a0.2.2.1).length : Nat) : Int)) (32)) then opt (atI ((copyL ((List.replicate ((Int.toNat (((a0.2.2.1).length : Nat) : Int))) ((0, [])))) (a0.2.2.1))) (a1)) fun x0 =>
    opt (gl ((copyL ((List.replicate ((Int.toNat (((a0.2.2.1).length : Nat) : Int))) ((0, [])))) (a0.2.2.1))) ((Int.toNat a1))) fun x1 =>
    opt (G75 ((x1, ()))) fun x2 =>
    bif !(ieqF (x2.2.2.1) (0)) then opt (atI ((copyL ((List.replicate ((Int.toNat (((a0.2.2.1).length : Nat) : Int))) ((0, [])))) (a0.2.2.1))) (a1)) fun x3 =>
      opt (gl ((copyL ((List.replicate ((Int.toNat (((a0.2.2.1).length : Nat) : Int))) ((0, [])))) (a0.2.2.1))) ((Int.toNat a1))) fun x4 =>
      bif (((ieqF (0) (0)) && ((ieqF (0) (0)) && ((ieqF (0) (0)) && ((ieqF (0) (0)) && ((ieqF (0) (0)) && true))))) && ((ieqF (0) (0)) && true)) then some ((a0.1, (a0.2.1, ((((copyL ((List.replicate ((Int.toNat (((a0.2.2.1).length : Nat) : Int))) ((0, [])))) (a0.2.2.1))).set ((Int.toNat a1)) (x1)), a0.2.2.2))), ())
      else some ((a0.1, (a0.2.1, ((((copyL ((List.replicate ((Int.toNat (((a0.2.2.1).length : Nat) : Int))) ((0, [])))) (a0.2.2.1))).set ((Int.toNat a1)) (x1)), (true, (((0, (0, (0, (0, 0)))), (0, false)), (a2, ((wrF .i64 ((a2 + (wrF .i64 ((0 * a0.1.2.1)))))), 0))))))), ())
    else opt (atI ((copyL ((List.replicate ((Int.toNat (((a0.2.2.1).length : Nat) : Int))) ((0, [])))) (a0.2.2.1))) (a1)) fun x5 =>
      opt (gl ((copyL ((List.replicate ((Int.toNat (((a0.2.2.1).length : Nat) : Int))) ((0, [])))) (a0.2.2.1))) ((Int.toNat a1))) fun x6 =>
      bif (((ieqF (x2.2.1.1.1) (0)) && ((ieqF (x2.2.1.1.2.1) (0)) && ((ieqF (x2.2.1.1.2.2.1) (0)) && ((ieqF (x2.2.1.1.2.2.2.1) (0)) && ((ieqF (x2.2.1.1.2.2.2.2) (0)) && true))))) && ((ieqF (x2.2.1.2.1) (0)) && ((x2.2.1.2.2 == false) && true))) then some ((a0.1, (a0.2.1, ((((copyL ((List.replicate ((Int.toNat (((a0.2.2.1).length : Nat) : Int))) ((0, [])))) (a0.2.2.1))).set ((Int.toNat a1)) (x2.1)), a0.2.2.2))), ())
      else some ((a0.1, (a0.2.1, ((((copyL ((List.replicate ((Int.toNat (((a0.2.2.1).length : Nat) : Int))) ((0, [])))) (a0.2.2.1))).set ((Int.toNat a1)) (x2.1)), (true, (x2.2.1, (a2, ((wrF .i64 ((a2 + (wrF .i64 ((x2.2.1.2.1 * a0.1.2.1)))))), 0))))))), ())
  else none
theorem E59 (G75 : (D43 × Unit) → Option (D43 × D33 × Int × Unit)) (a0 : D86) (a1 : Int) (a2 : Int) : sF Try.prog [(75, ⟨A75, B75, G75⟩)] pl59 (autoJ []) 30 59 A59 B59 (a0, a1, a2, ()) = R59 G75 a0 a1 a2 := by kernel_rfl
def K59 : (D86 × Int × Int × Unit) → Option (D86 × Unit) := sF Try.prog [(75, ⟨A75, B75, K75⟩)] pl59 (autoJ []) 30 59 A59 B59
theorem K59_ok : Con.Ok Try.prog 59 ⟨A59, B59, K59⟩ := sF_ok (tblOk_cons K75_ok tblOk_nil) special (by kernel_rfl)
theorem K59_eq (a0 : D86) (a1 : Int) (a2 : Int) : K59 (a0, a1, a2, ()) = R59 K75 a0 a1 a2 := E59 K75 a0 a1 a2
/-! isochron/choose.Preempt -/
abbrev A60 : List VT := [⟨true, S26⟩, ⟨false, (.list S33)⟩, ⟨false, I⟩, ⟨false, I⟩, ⟨false, I⟩]
abbrev B60 : List VT := [⟨false, I⟩, ⟨false, I⟩, ⟨false, I⟩]
def pl60 : Plan := planA [⟨S144, flatTy S144, []⟩, ⟨S143, flatTy S143, []⟩, ⟨S134, flatTy S134, []⟩, ⟨S133, flatTy S133, []⟩, ⟨S91, flatTy S91, []⟩, ⟨S90, flatTy S90, []⟩, ⟨S88, flatTy S88, []⟩, ⟨S87, flatTy S87, []⟩, ⟨S79, flatTy S79, []⟩, ⟨S64, flatTy S64, []⟩, ⟨S61, flatTy S61, []⟩, ⟨S59, flatTy S59, []⟩, ⟨S58, flatTy S58, []⟩, ⟨S42, flatTy S42, []⟩, ⟨S35, flatTy S35, []⟩, ⟨S34, flatTy S34, []⟩, ⟨S43, flatTy S43, []⟩, ⟨S33, flatTy S33, []⟩, ⟨S32, flatTy S32, []⟩, ⟨S31, flatTy S31, []⟩, ⟨S30, flatTy S30, []⟩, ⟨S26, flatTy S26, []⟩, ⟨S25, flatTy S25, []⟩, ⟨S24, flatTy S24, []⟩, ⟨S23, flatTy S23, []⟩, ⟨S65, flatTy S65, []⟩, ⟨S14, flatTy S14, []⟩, ⟨S13, flatTy S13, []⟩, ⟨S8, flatTy S8, []⟩, ⟨S7, flatTy S7, []⟩] [] []
def R60 (G66 : (D26 × (List D33) × Int × Unit) → Option (Int × Unit)) (G78 : (D134 × Int × Unit) → Option (Bool × Unit)) (G79 : (D134 × Int × Int × Unit) → Option (Bool × Unit)) (a0 : D26) (a1 : (List D33)) (a2 : Int) (a3 : Int) (a4 : Int) : Option (Int × Int × Int × Unit) :=
  opt (G66 ((a0, (a1, (a4, ()))))) fun x0 =>
  bif !(ieqF (x0.1) (0)) then some (0, (0, (x0.1, ())))
  else opt (bif (iltF (a2) (84)) then some ((0 + 1), ((0, (0, (2, ()))), ()))
      else bif (iltF (1542) (a2)) then some ((0 + 1), ((0, (0, (2, ()))), ()))
        else bif (iltF (a3) (0)) then some ((0 + 1), ((0, (0, (2, ()))), ()))
          else bif (iltF (a4) (a3)) then some ((0 + 1), ((0, (0, (2, ()))), ()))
            else bif (iltF ((wrF .i64 ((a3 + (wrF .i64 ((a2 * a0.2.1))))))) (a4)) then some ((0 + 1), ((0, (0, (2, ()))), ()))
              else some (0, ((0, (0, (0, ()))), ()))) fun x1 =>
    bif (Nat.beq x1.1 0) then bif (ieqF (a0.2.1) (0)) then none
      else bif (iltF ((wrF .i64 ((a2 - (maxI (64) ((wrF .i64 ((Int.tdiv (wrF .i64 (((wrF .i64 (((wrF .i64 ((a4 - a3))) + a0.2.1))) - 1))) a0.2.1))))))))) (64)) then some (0, (0, (4, ())))
        else opt (iterK (fun s2 : (((Int × Int) × (Int × (((((List (Int × Int)) × Int) × (Int × Int)) × (List ((Int × (Int × (Int × (Int × Int)))) × (Int × Bool)))) × (Int × (Int × (Int × (Int × Unit))))))) × (Unit × (Unit × Unit))) =>
            bif !(iltF (s2.1.2.2.2.2.2.2.1) (6)) then opt (opt (G78 ((s2.1.2.2.1, (s2.1.2.2.2.2.2.2.1, ())))) fun x3 =>
                bif !x3.1 then some ((0 + 1), (((0, 0), (s2.1.1, (s2.1.2.1, (s2.1.2.2.1, (s2.1.2.2.2.1, (s2.1.2.2.2.2.1, (s2.1.2.2.2.2.2.1, (4, ())))))))), ((), ())))
                else opt (G79 ((s2.1.2.2.1, (s2.1.2.2.2.2.2.2.1, (s2.1.2.2.2.1, ()))))) fun x4 =>
                  bif !x4.1 then some ((0 + 1), (((0, 0), (s2.1.1, (s2.1.2.1, (s2.1.2.2.1, (s2.1.2.2.2.1, (s2.1.2.2.2.2.1, (s2.1.2.2.2.2.2.1, (4, ())))))))), ((), ())))
                  else some (0, (((0, 0), (s2.1.1, (s2.1.2.1, (s2.1.2.2.1, (s2.1.2.2.2.1, (s2.1.2.2.2.2.1, (s2.1.2.2.2.2.2.1, (0, ())))))))), ((), ())))) fun x5 =>
              bif (Nat.beq x5.1 0) then some (.inl ((((0 + 1) + 1) + 1), (((x5.2.1.2.2.2.2.1, (wrF .i64 (((wrF .i64 ((x5.2.1.2.2.2.2.2.1 - x5.2.1.2.2.2.2.2.2.1))) + 24)))), (0, (x5.2.1.2.2.2.1, (x5.2.1.2.2.2.2.1, (x5.2.1.2.2.2.2.2.1, (x5.2.1.2.2.2.2.2.2.1, (s2.1.2.2.2.2.2.2.1, ()))))))), ((), ((), ())))))
              else bif (ieqF (x5.2.1.2.2.2.2.2.2.2.1) (0)) then some (.inl ((((0 + 1) + 1) + 1), ((x5.2.1.1, (0, (x5.2.1.2.2.2.1, (x5.2.1.2.2.2.2.1, (x5.2.1.2.2.2.2.2.1, (x5.2.1.2.2.2.2.2.2.1, (s2.1.2.2.2.2.2.2.1, ()))))))), ((), ((), ())))))
                else some (.inr ((x5.2.1.2.1, (x5.2.1.2.2.1, (x5.2.1.2.2.2.1, (x5.2.1.2.2.2.2.1, (x5.2.1.2.2.2.2.2.1, (x5.2.1.2.2.2.2.2.2.1, ((wrF .i64 ((s2.1.2.2.2.2.2.2.1 - 1))), ()))))))), ((), ((), ()))))
            else some (.inl (0, ((s2.1.1, (s2.1.2.1, (s2.1.2.2.1, (s2.1.2.2.2.1, (s2.1.2.2.2.2.1, (s2.1.2.2.2.2.2.1, (s2.1.2.2.2.2.2.2.1, ()))))))), ((), ((), ())))))) bigN (((0, 0), (4, ((a0, a1), ((wrF .i64 ((a3 + (wrF .i64 (((wrF .i64 (((maxI (64) ((wrF .i64 ((Int.tdiv (wrF .i64 (((wrF .i64 (((wrF .i64 ((a4 - a3))) + a0.2.1))) - 1))) a0.2.1))))) + 24))) * a0.2.1)))))), (a2, ((maxI (64) ((wrF .i64 ((Int.tdiv (wrF .i64 (((wrF .i64 (((wrF .i64 ((a4 - a3))) + a0.2.1))) - 1))) a0.2.1))))), (7, ()))))))), ((), ((), ())))) fun x6 =>
          bif (Nat.beq x6.1 0) then some (x6.2.1.1.1, (x6.2.1.1.2, (x6.2.1.2.1, ())))
          else bif (Nat.beq x6.1 (0 + 1)) then some (x6.2.1.1.1, (x6.2.1.1.2, (x6.2.1.2.1, ())))
            else bif (Nat.beq x6.1 ((0 + 1) + 1)) then some (x6.2.1.1.1, (x6.2.1.1.2, (x6.2.1.2.1, ())))
              else some (x6.2.1.1.1, (x6.2.1.1.2, (x6.2.1.2.1, ())))
    else some (x1.2.1.1, (x1.2.1.2.1, (x1.2.1.2.2.1, ())))
theorem E60 (G66 : (D26 × (List D33) × Int × Unit) → Option (Int × Unit)) (G78 : (D134 × Int × Unit) → Option (Bool × Unit)) (G79 : (D134 × Int × Int × Unit) → Option (Bool × Unit)) (a0 : D26) (a1 : (List D33)) (a2 : Int) (a3 : Int) (a4 : Int) : sF Try.prog [(66, ⟨A66, B66, G66⟩), (78, ⟨A78, B78, G78⟩), (79, ⟨A79, B79, G79⟩)] pl60 (autoJ []) 30 60 A60 B60 (a0, a1, a2, a3, a4, ()) = R60 G66 G78 G79 a0 a1 a2 a3 a4 := by kernel_rfl
def K60 : (D26 × (List D33) × Int × Int × Int × Unit) → Option (Int × Int × Int × Unit) := sF Try.prog [(66, ⟨A66, B66, K66⟩), (78, ⟨A78, B78, K78⟩), (79, ⟨A79, B79, K79⟩)] pl60 (autoJ []) 30 60 A60 B60
theorem K60_ok : Con.Ok Try.prog 60 ⟨A60, B60, K60⟩ := sF_ok (tblOk_cons K66_ok (tblOk_cons K78_ok (tblOk_cons K79_ok tblOk_nil))) special (by kernel_rfl)
theorem K60_eq (a0 : D26) (a1 : (List D33)) (a2 : Int) (a3 : Int) (a4 : Int) : K60 (a0, a1, a2, a3, a4, ()) = R60 K66 K78 K79 a0 a1 a2 a3 a4 := E60 K66 K78 K79 a0 a1 a2 a3 a4
/-! (isochron/port.egress).choose -/
abbrev A41 : List VT := [⟨true, S86⟩, ⟨false, I⟩]
abbrev B41 : List VT := [⟨true, S86⟩]
def pl41 : Plan := planA [⟨S144, flatTy S144, []⟩, ⟨S143, flatTy S143, []⟩, ⟨S134, flatTy S134, []⟩, ⟨S133, flatTy S133, []⟩, ⟨S91, flatTy S91, []⟩, ⟨S90, flatTy S90, []⟩, ⟨S88, flatTy S88, []⟩, ⟨S87, flatTy S87, []⟩, ⟨S79, flatTy S79, []⟩, ⟨S64, flatTy S64, []⟩, ⟨S61, flatTy S61, []⟩, ⟨S59, flatTy S59, []⟩, ⟨S58, flatTy S58, []⟩, ⟨S42, flatTy S42, []⟩, ⟨S35, flatTy S35, []⟩, ⟨S34, flatTy S34, []⟩, ⟨S43, flatTy S43, []⟩, ⟨S33, flatTy S33, []⟩, ⟨S32, flatTy S32, []⟩, ⟨S31, flatTy S31, []⟩, ⟨S30, flatTy S30, []⟩, ⟨S26, flatTy S26, []⟩, ⟨S25, flatTy S25, []⟩, ⟨S24, flatTy S24, []⟩, ⟨S23, flatTy S23, []⟩, ⟨S65, flatTy S65, []⟩, ⟨S14, flatTy S14, []⟩, ⟨S13, flatTy S13, []⟩, ⟨S8, flatTy S8, []⟩, ⟨S7, flatTy S7, []⟩] [] []
def R41 (G52 : (D86 × Unit) → Option ((List D33) × Unit)) (G58 : (D26 × (List D33) × Int × Unit) → Option (Int × Int × Unit)) (G59 : (D86 × Int × Int × Unit) → Option (D86 × Unit)) (G48 : (D86 × Unit) → Option (Bool × Unit)) (G60 : (D26 × (List D33) × Int × Int × Int × Unit) → Option (Int × Int × Int × Unit)) (a0 : D86) (a1 : Int) : Option (D86 × Unit) :=
  bif !a0.2.2.2.1 then opt (G52 (((a0.1, (a1, a0.2.2)), ()))) fun x0 =>
    opt (G58 ((a0.1, (x0.1, (a1, ()))))) fun x1 =>
    bif !(ieqF (x1.2.1) (0)) then some ((a0.1, (a1, a0.2.2)), ())
    else opt (G59 (((a0.1, (a1, a0.2.2)), (x1.1, (a1, ()))))) fun x2 =>
      some (x2.1, ())
  else opt (opt (G48 (((a0.1, (a1, a0.2.2)), ()))) fun x3 =>
      bif x3.1 then bif (ieqF (a0.2.2.2.2.2.2.2) (0)) then opt (G52 (((a0.1, (a1, a0.2.2)), ()))) fun x4 =>
          opt (G60 ((a0.1, (x4.1, (a0.2.2.2.2.1.2.1, (a0.2.2.2.2.2.1, (a1, ()))))))) fun x5 =>
          opt (bif (ieqF (x5.2.2.1) (0)) then some (0, (((a0.1, (a1, (a0.2.2.1, (a0.2.2.2.1, (a0.2.2.2.2.1, (a0.2.2.2.2.2.1, (x5.1, x5.2.1))))))), ()), ()))
            else some (0, (((a0.1, (a1, a0.2.2)), ()), ()))) fun x6 =>
          some (0, ((x6.2.1.1, ()), ()))
        else some (0, (((a0.1, (a1, a0.2.2)), ()), ()))
      else some (0, (((a0.1, (a1, a0.2.2)), ()), ()))) fun x7 =>
    some (x7.2.1.1, ())
theorem E41 (G52 : (D86 × Unit) → Option ((List D33) × Unit)) (G58 : (D26 × (List D33) × Int × Unit) → Option (Int × Int × Unit)) (G59 : (D86 × Int × Int × Unit) → Option (D86 × Unit)) (G48 : (D86 × Unit) → Option (Bool × Unit)) (G60 : (D26 × (List D33) × Int × Int × Int × Unit) → Option (Int × Int × Int × Unit)) (a0 : D86) (a1 : Int) : sF Try.prog [(52, ⟨A52, B52, G52⟩), (58, ⟨A58, B58, G58⟩), (59, ⟨A59, B59, G59⟩), (48, ⟨A48, B48, G48⟩), (60, ⟨A60, B60, G60⟩)] pl41 (autoJ []) 30 41 A41 B41 (a0, a1, ()) = R41 G52 G58 G59 G48 G60 a0 a1 := by kernel_rfl
def K41 : (D86 × Int × Unit) → Option (D86 × Unit) := sF Try.prog [(52, ⟨A52, B52, K52⟩), (58, ⟨A58, B58, K58⟩), (59, ⟨A59, B59, K59⟩), (48, ⟨A48, B48, K48⟩), (60, ⟨A60, B60, K60⟩)] pl41 (autoJ []) 30 41 A41 B41
theorem K41_ok : Con.Ok Try.prog 41 ⟨A41, B41, K41⟩ := sF_ok (tblOk_cons K52_ok (tblOk_cons K58_ok (tblOk_cons K59_ok (tblOk_cons K48_ok (tblOk_cons K60_ok tblOk_nil))))) special (by kernel_rfl)
theorem K41_eq (a0 : D86) (a1 : Int) : K41 (a0, a1, ()) = R41 K52 K58 K59 K48 K60 a0 a1 := E41 K52 K58 K59 K48 K60 a0 a1
/-! isochron/gates.Fit -/
abbrev A86 : List VT := [⟨true, S24⟩, ⟨false, I⟩, ⟨false, I⟩, ⟨false, I⟩]
abbrev B86 : List VT := [⟨false, I⟩, ⟨false, I⟩]
def pl86 : Plan := planA [⟨S144, flatTy S144, []⟩, ⟨S143, flatTy S143, []⟩, ⟨S134, flatTy S134, []⟩, ⟨S133, flatTy S133, []⟩, ⟨S91, flatTy S91, []⟩, ⟨S90, flatTy S90, []⟩, ⟨S88, flatTy S88, []⟩, ⟨S87, flatTy S87, []⟩, ⟨S79, flatTy S79, []⟩, ⟨S64, flatTy S64, []⟩, ⟨S61, flatTy S61, []⟩, ⟨S59, flatTy S59, []⟩, ⟨S58, flatTy S58, []⟩, ⟨S42, flatTy S42, []⟩, ⟨S35, flatTy S35, []⟩, ⟨S34, flatTy S34, []⟩, ⟨S43, flatTy S43, []⟩, ⟨S33, flatTy S33, []⟩, ⟨S32, flatTy S32, []⟩, ⟨S31, flatTy S31, []⟩, ⟨S30, flatTy S30, []⟩, ⟨S26, flatTy S26, []⟩, ⟨S25, flatTy S25, []⟩, ⟨S24, flatTy S24, []⟩, ⟨S23, flatTy S23, []⟩, ⟨S65, flatTy S65, []⟩, ⟨S14, flatTy S14, []⟩, ⟨S13, flatTy S13, []⟩, ⟨S8, flatTy S8, []⟩, ⟨S7, flatTy S7, []⟩] [] []
def R86 (G42 : (D24 × Int × Int × Int × Unit) → Option (Int × Unit)) (G43 : (D24 × Int × Int × Unit) → Option (Int × Unit)) (G80 : (D24 × Int × Unit) → Option (Int × Int × Unit)) (a0 : D24) (a1 : Int) (a2 : Int) (a3 : Int) : Option (Int × Int × Unit) :=
  opt (G42 ((a0, (a1, (a2, (a3, ())))))) fun x0 =>
  bif !(ieqF (x0.1) (0)) then some (0, (x0.1, ()))
  else opt (iterK (fun s1 : ((Int × (((List (Int × Int)) × Int) × (Int × (Int × (Int × Unit))))) × Unit) =>
      bif (iltF (s1.1.2.2.2.2.1) ((wrF .i64 ((a2 + (wrF .i64 ((2 * s1.1.2.1.2)))))))) then opt (G43 ((s1.1.2.1, (s1.1.1, (s1.1.2.2.2.2.1, ()))))) fun x2 =>
        bif !(iltF (x2.1) (a3)) then some (.inl ((0 + 1), ((s1.1.1, (s1.1.2.1, (s1.1.2.2.2.2.1, (0, (s1.1.2.2.2.2.1, ()))))), ())))
        else opt (G80 ((s1.1.2.1, ((wrF .i64 ((s1.1.2.2.2.2.1 + x2.1))), ())))) fun x3 =>
          opt (iterK (fun s4 : ((Int × (((List (Int × Int)) × Int) × (Int × (Int × (Int × (Int × (Int × Unit))))))) × Unit) =>
            bif (iltF (s4.1.2.2.2.2.2.2.1) ((wrF .i64 (((((s1.1.2.1.1).length : Nat) : Int) + 1))))) then opt (atI (s4.1.2.1.1) (s4.1.2.2.2.2.1)) fun x5 =>
              bif (iltF (s4.1.1) (0)) then none
              else bif !(ieqF ((bitI .and .i64 ((shrI .i64 (x5.1) (s4.1.1))) (1))) (0)) then some (.inl ((0 + 1), ((s4.1.1, (s4.1.2.1, (s4.1.2.2.2.1, (s4.1.2.2.2.1, (s4.1.2.2.2.2.1, (s4.1.2.2.2.2.2.1, (s4.1.2.2.2.2.2.2.1, ()))))))), ())))
                else bif (ieqF ((((s4.1.2.1.1).length : Nat) : Int)) (0)) then none
                  else opt (atI (s4.1.2.1.1) ((Int.tmod (wrF .i64 ((s4.1.2.2.2.2.1 + 1))) (((s4.1.2.1.1).length : Nat) : Int)))) fun x6 =>
                    some (.inr ((s4.1.1, (s4.1.2.1, (s4.1.2.2.1, ((wrF .i64 ((s4.1.2.2.2.1 + s4.1.2.2.2.2.2.1))), ((Int.tmod (wrF .i64 ((s4.1.2.2.2.2.1 + 1))) (((s4.1.2.1.1).length : Nat) : Int)), (x6.2, ((wrF .i64 ((s4.1.2.2.2.2.2.2.1 + 1))), ()))))))), ()))
            else some (.inl (0, ((s4.1.1, (s4.1.2.1, (s4.1.2.2.1, (s4.1.2.2.2.1, (s4.1.2.2.2.2.1, (s4.1.2.2.2.2.2.1, (s4.1.2.2.2.2.2.2.1, ()))))))), ())))) bigN ((s1.1.1, (s1.1.2.1, (0, (0, (x3.1, (x3.2.1, (0, ()))))))), ())) fun x7 =>
          bif (Nat.beq x7.1 0) then some (.inr ((x7.2.1.1, (s1.1.2.1, (s1.1.2.2.1, (s1.1.2.2.2.1, ((wrF .i64 (((wrF .i64 ((s1.1.2.2.2.2.1 + x2.1))) + x7.2.1.2.1.2))), ()))))), ()))
          else some (.inr ((x7.2.1.1, (s1.1.2.1, (s1.1.2.2.1, (s1.1.2.2.2.1, ((wrF .i64 (((wrF .i64 ((s1.1.2.2.2.2.1 + x2.1))) + x7.2.1.2.2.1))), ()))))), ()))
      else some (.inl (0, ((s1.1.1, (s1.1.2.1, (s1.1.2.2.1, (s1.1.2.2.2.1, (s1.1.2.2.2.2.1, ()))))), ())))) bigN ((a1, (a0, (0, (0, (a2, ()))))), ())) fun x8 =>
    bif (Nat.beq x8.1 0) then some (0, (4, ()))
    else some (x8.2.1.2.2.1, (x8.2.1.2.2.2.1, ()))
theorem E86 (G42 : (D24 × Int × Int × Int × Unit) → Option (Int × Unit)) (G43 : (D24 × Int × Int × Unit) → Option (Int × Unit)) (G80 : (D24 × Int × Unit) → Option (Int × Int × Unit)) (a0 : D24) (a1 : Int) (a2 : Int) (a3 : Int) : sF Try.prog [(42, ⟨A42, B42, G42⟩), (43, ⟨A43, B43, G43⟩), (80, ⟨A80, B80, G80⟩)] pl86 (autoJ []) 30 86 A86 B86 (a0, a1, a2, a3, ()) = R86 G42 G43 G80 a0 a1 a2 a3 := by kernel_rfl
def K86 : (D24 × Int × Int × Int × Unit) → Option (Int × Int × Unit) := sF Try.prog [(42, ⟨A42, B42, K42⟩), (43, ⟨A43, B43, K43⟩), (80, ⟨A80, B80, K80⟩)] pl86 (autoJ []) 30 86 A86 B86
theorem K86_ok : Con.Ok Try.prog 86 ⟨A86, B86, K86⟩ := sF_ok (tblOk_cons K42_ok (tblOk_cons K43_ok (tblOk_cons K80_ok tblOk_nil))) special (by kernel_rfl)
theorem K86_eq (a0 : D24) (a1 : Int) (a2 : Int) (a3 : Int) : K86 (a0, a1, a2, a3, ()) = R86 K42 K43 K80 a0 a1 a2 a3 := E86 K42 K43 K80 a0 a1 a2 a3
/-! (isochron/choose.view).when -/
abbrev A67 : List VT := [⟨true, S134⟩, ⟨false, I⟩, ⟨false, I⟩]
abbrev B67 : List VT := [⟨false, I⟩, ⟨false, I⟩]
def pl67 : Plan := planA [⟨S144, flatTy S144, []⟩, ⟨S143, flatTy S143, []⟩, ⟨S134, flatTy S134, []⟩, ⟨S133, flatTy S133, []⟩, ⟨S91, flatTy S91, []⟩, ⟨S90, flatTy S90, []⟩, ⟨S88, flatTy S88, []⟩, ⟨S87, flatTy S87, []⟩, ⟨S79, flatTy S79, []⟩, ⟨S64, flatTy S64, []⟩, ⟨S61, flatTy S61, []⟩, ⟨S59, flatTy S59, []⟩, ⟨S58, flatTy S58, []⟩, ⟨S42, flatTy S42, []⟩, ⟨S35, flatTy S35, []⟩, ⟨S34, flatTy S34, []⟩, ⟨S43, flatTy S43, []⟩, ⟨S33, flatTy S33, []⟩, ⟨S32, flatTy S32, []⟩, ⟨S31, flatTy S31, []⟩, ⟨S30, flatTy S30, []⟩, ⟨S26, flatTy S26, []⟩, ⟨S25, flatTy S25, []⟩, ⟨S24, flatTy S24, []⟩, ⟨S23, flatTy S23, []⟩, ⟨S65, flatTy S65, []⟩, ⟨S14, flatTy S14, []⟩, ⟨S13, flatTy S13, []⟩, ⟨S8, flatTy S8, []⟩, ⟨S7, flatTy S7, []⟩] [] []
def R67 (G78 : (D134 × Int × Unit) → Option (Bool × Unit)) (G85 : (D134 × Int × Unit) → Option (Bool × Unit)) (G86 : (D24 × Int × Int × Int × Unit) → Option (Int × Int × Unit)) (a0 : D134) (a1 : Int) (a2 : Int) : Option (Int × Int × Unit) :=
  opt (opt (G78 ((a0, (a1, ())))) fun x0 =>
    bif !x0.1 then some ((0 + 1), ((a0, (0, (4, ()))), ()))
    else opt (G85 ((a0, (a1, ())))) fun x1 =>
      bif !x1.1 then some ((0 + 1), ((a0, (0, (4, ()))), ()))
      else some (0, ((a0, (0, (0, ()))), ()))) fun x2 =>
  bif (Nat.beq x2.1 0) then opt (atI (x2.2.1.1.2) (a1)) fun x3 =>
    opt (G86 ((x2.2.1.1.1.1, (a1, ((wrF .i64 ((a2 + x2.2.1.1.1.2.2))), ((wrF .i64 ((x3.2.1 * x2.2.1.1.1.2.1))), ())))))) fun x4 =>
    bif !(ieqF (x4.2.1) (0)) then some (0, (4, ()))
    else some ((wrF .i64 ((x4.1 - x2.2.1.1.1.2.2))), (0, ()))
  else some (x2.2.1.2.1, (x2.2.1.2.2.1, ()))
theorem E67 (G78 : (D134 × Int × Unit) → Option (Bool × Unit)) (G85 : (D134 × Int × Unit) → Option (Bool × Unit)) (G86 : (D24 × Int × Int × Int × Unit) → Option (Int × Int × Unit)) (a0 : D134) (a1 : Int) (a2 : Int) : sF Try.prog [(78, ⟨A78, B78, G78⟩), (85, ⟨A85, B85, G85⟩), (86, ⟨A86, B86, G86⟩)] pl67 (autoJ []) 30 67 A67 B67 (a0, a1, a2, ()) = R67 G78 G85 G86 a0 a1 a2 := by kernel_rfl
def K67 : (D134 × Int × Int × Unit) → Option (Int × Int × Unit) := sF Try.prog [(78, ⟨A78, B78, K78⟩), (85, ⟨A85, B85, K85⟩), (86, ⟨A86, B86, K86⟩)] pl67 (autoJ []) 30 67 A67 B67
theorem K67_ok : Con.Ok Try.prog 67 ⟨A67, B67, K67⟩ := sF_ok (tblOk_cons K78_ok (tblOk_cons K85_ok (tblOk_cons K86_ok tblOk_nil))) special (by kernel_rfl)
theorem K67_eq (a0 : D134) (a1 : Int) (a2 : Int) : K67 (a0, a1, a2, ()) = R67 K78 K85 K86 a0 a1 a2 := E67 K78 K85 K86 a0 a1 a2
/-! isochron/choose.When -/
abbrev A51 : List VT := [⟨true, S26⟩, ⟨false, (.list S33)⟩, ⟨false, I⟩]
abbrev B51 : List VT := [⟨false, I⟩, ⟨false, I⟩]
def pl51 : Plan := planA [⟨S144, flatTy S144, []⟩, ⟨S143, flatTy S143, []⟩, ⟨S134, flatTy S134, []⟩, ⟨S133, flatTy S133, []⟩, ⟨S91, flatTy S91, []⟩, ⟨S90, flatTy S90, []⟩, ⟨S88, flatTy S88, []⟩, ⟨S87, flatTy S87, []⟩, ⟨S79, flatTy S79, []⟩, ⟨S64, flatTy S64, []⟩, ⟨S61, flatTy S61, []⟩, ⟨S59, flatTy S59, []⟩, ⟨S58, flatTy S58, []⟩, ⟨S42, flatTy S42, []⟩, ⟨S35, flatTy S35, []⟩, ⟨S34, flatTy S34, []⟩, ⟨S43, flatTy S43, []⟩, ⟨S33, flatTy S33, []⟩, ⟨S32, flatTy S32, []⟩, ⟨S31, flatTy S31, []⟩, ⟨S30, flatTy S30, []⟩, ⟨S26, flatTy S26, []⟩, ⟨S25, flatTy S25, []⟩, ⟨S24, flatTy S24, []⟩, ⟨S23, flatTy S23, []⟩, ⟨S65, flatTy S65, []⟩, ⟨S14, flatTy S14, []⟩, ⟨S13, flatTy S13, []⟩, ⟨S8, flatTy S8, []⟩, ⟨S7, flatTy S7, []⟩] [] []
def R51 (G66 : (D26 × (List D33) × Int × Unit) → Option (Int × Unit)) (G67 : (D134 × Int × Int × Unit) → Option (Int × Int × Unit)) (a0 : D26) (a1 : (List D33)) (a2 : Int) : Option (Int × Int × Unit) :=
  opt (G66 ((a0, (a1, (a2, ()))))) fun x0 =>
  bif !(ieqF (x0.1) (0)) then some (0, (x0.1, ()))
  else opt (iterK (fun s1 : ((Int × (Int × (Int × (Int × Unit)))) × (Unit × (Unit × Unit))) =>
      bif !(iltF (s1.1.2.2.2.1) (0)) then opt (G67 (((a0, a1), (s1.1.2.2.2.1, (s1.1.1, ()))))) fun x2 =>
        opt (bif (ieqF (x2.2.1) (0)) then bif !(ieqF (s1.1.2.2.1) (0)) then some (0, ((x2.1, (0, ())), ((), ())))
            else bif (iltF (x2.1) (s1.1.2.1)) then some (0, ((x2.1, (0, ())), ((), ())))
              else some (0, ((s1.1.2.1, (s1.1.2.2.1, ())), ((), ())))
          else some (0, ((s1.1.2.1, (s1.1.2.2.1, ())), ((), ())))) fun x3 =>
        some (.inr ((s1.1.1, (x3.2.1.1, (x3.2.1.2.1, ((wrF .i64 ((s1.1.2.2.2.1 - 1))), ())))), ((), ((), ()))))
      else some (.inl (0, ((s1.1.1, (s1.1.2.1, (s1.1.2.2.1, (s1.1.2.2.2.1, ())))), ((), ((), ())))))) bigN ((a2, (0, (4, (7, ())))), ((), ((), ())))) fun x4 =>
    bif (Nat.beq x4.1 0) then some (x4.2.1.2.1, (x4.2.1.2.2.1, ()))
    else some (x4.2.1.2.1, (x4.2.1.2.2.1, ()))
theorem E51 (G66 : (D26 × (List D33) × Int × Unit) → Option (Int × Unit)) (G67 : (D134 × Int × Int × Unit) → Option (Int × Int × Unit)) (a0 : D26) (a1 : (List D33)) (a2 : Int) : sF Try.prog [(66, ⟨A66, B66, G66⟩), (67, ⟨A67, B67, G67⟩)] pl51 (autoJ []) 30 51 A51 B51 (a0, a1, a2, ()) = R51 G66 G67 a0 a1 a2 := by kernel_rfl
def K51 : (D26 × (List D33) × Int × Unit) → Option (Int × Int × Unit) := sF Try.prog [(66, ⟨A66, B66, K66⟩), (67, ⟨A67, B67, K67⟩)] pl51 (autoJ []) 30 51 A51 B51
theorem K51_ok : Con.Ok Try.prog 51 ⟨A51, B51, K51⟩ := sF_ok (tblOk_cons K66_ok (tblOk_cons K67_ok tblOk_nil)) special (by kernel_rfl)
theorem K51_eq (a0 : D26) (a1 : (List D33)) (a2 : Int) : K51 (a0, a1, a2, ()) = R51 K66 K67 a0 a1 a2 := E51 K66 K67 a0 a1 a2
/-! (isochron/port.egress).next -/
abbrev A36 : List VT := [⟨true, S86⟩]
abbrev B36 : List VT := [⟨false, I⟩, ⟨false, I⟩]
def pl36 : Plan := planA [⟨S144, flatTy S144, []⟩, ⟨S143, flatTy S143, []⟩, ⟨S134, flatTy S134, []⟩, ⟨S133, flatTy S133, []⟩, ⟨S91, flatTy S91, []⟩, ⟨S90, flatTy S90, []⟩, ⟨S88, flatTy S88, []⟩, ⟨S87, flatTy S87, []⟩, ⟨S79, flatTy S79, []⟩, ⟨S64, flatTy S64, []⟩, ⟨S61, flatTy S61, []⟩, ⟨S59, flatTy S59, []⟩, ⟨S58, flatTy S58, []⟩, ⟨S42, flatTy S42, []⟩, ⟨S35, flatTy S35, []⟩, ⟨S34, flatTy S34, []⟩, ⟨S43, flatTy S43, []⟩, ⟨S33, flatTy S33, []⟩, ⟨S32, flatTy S32, []⟩, ⟨S31, flatTy S31, []⟩, ⟨S30, flatTy S30, []⟩, ⟨S26, flatTy S26, []⟩, ⟨S25, flatTy S25, []⟩, ⟨S24, flatTy S24, []⟩, ⟨S23, flatTy S23, []⟩, ⟨S65, flatTy S65, []⟩, ⟨S14, flatTy S14, []⟩, ⟨S13, flatTy S13, []⟩, ⟨S8, flatTy S8, []⟩, ⟨S7, flatTy S7, []⟩] [] []
def R36 (G52 : (D86 × Unit) → Option ((List D33) × Unit)) (G51 : (D26 × (List D33) × Int × Unit) → Option (Int × Int × Unit)) (a0 : D86) : Option (Int × Int × Unit) :=
  bif a0.2.2.2.1 then some (a0.2.2.2.2.2.2.1, (0, ()))
  else opt (G52 ((a0, ()))) fun x0 =>
    opt (G51 ((a0.1, (x0.1, (a0.2.1, ()))))) fun x1 =>
    some (x1.1, (x1.2.1, ()))
theorem E36 (G52 : (D86 × Unit) → Option ((List D33) × Unit)) (G51 : (D26 × (List D33) × Int × Unit) → Option (Int × Int × Unit)) (a0 : D86) : sF Try.prog [(52, ⟨A52, B52, G52⟩), (51, ⟨A51, B51, G51⟩)] pl36 (autoJ []) 30 36 A36 B36 (a0, ()) = R36 G52 G51 a0 := by kernel_rfl
def K36 : (D86 × Unit) → Option (Int × Int × Unit) := sF Try.prog [(52, ⟨A52, B52, K52⟩), (51, ⟨A51, B51, K51⟩)] pl36 (autoJ []) 30 36 A36 B36
theorem K36_ok : Con.Ok Try.prog 36 ⟨A36, B36, K36⟩ := sF_ok (tblOk_cons K52_ok (tblOk_cons K51_ok tblOk_nil)) special (by kernel_rfl)
theorem K36_eq (a0 : D86) : K36 (a0, ()) = R36 K52 K51 a0 := E36 K52 K51 a0
/-! (isochron/port.egress).possible -/
abbrev A37 : List VT := [⟨true, S86⟩, ⟨false, I⟩]
abbrev B37 : List VT := [⟨false, .bool⟩]
def pl37 : Plan := planA [⟨S144, flatTy S144, []⟩, ⟨S143, flatTy S143, []⟩, ⟨S134, flatTy S134, []⟩, ⟨S133, flatTy S133, []⟩, ⟨S91, flatTy S91, []⟩, ⟨S90, flatTy S90, []⟩, ⟨S88, flatTy S88, []⟩, ⟨S87, flatTy S87, []⟩, ⟨S79, flatTy S79, []⟩, ⟨S64, flatTy S64, []⟩, ⟨S61, flatTy S61, []⟩, ⟨S59, flatTy S59, []⟩, ⟨S58, flatTy S58, []⟩, ⟨S42, flatTy S42, []⟩, ⟨S35, flatTy S35, []⟩, ⟨S34, flatTy S34, []⟩, ⟨S43, flatTy S43, []⟩, ⟨S33, flatTy S33, []⟩, ⟨S32, flatTy S32, []⟩, ⟨S31, flatTy S31, []⟩, ⟨S30, flatTy S30, []⟩, ⟨S26, flatTy S26, []⟩, ⟨S25, flatTy S25, []⟩, ⟨S24, flatTy S24, []⟩, ⟨S23, flatTy S23, []⟩, ⟨S65, flatTy S65, []⟩, ⟨S14, flatTy S14, []⟩, ⟨S13, flatTy S13, []⟩, ⟨S8, flatTy S8, []⟩, ⟨S7, flatTy S7, []⟩] [] []
def R37  (a0 : D86) (a1 : Int) : Option (Bool × Unit) :=
  bif !(iltF (a1) (a0.2.1)) then bif !(iltF (549755813888) (a1)) then bif a0.2.2.2.1 then some (!(iltF (a0.2.2.2.2.2.2.1) (a1)), ())
      else some (true, ())
    else some (false, ())
  else some (false, ())
theorem E37  (a0 : D86) (a1 : Int) : sF Try.prog [] pl37 (autoJ []) 30 37 A37 B37 (a0, a1, ()) = R37  a0 a1 := by kernel_rfl
def K37 : (D86 × Int × Unit) → Option (Bool × Unit) := sF Try.prog [] pl37 (autoJ []) 30 37 A37 B37
theorem K37_ok : Con.Ok Try.prog 37 ⟨A37, B37, K37⟩ := sF_ok tblOk_nil special (by kernel_rfl)
theorem K37_eq (a0 : D86) (a1 : Int) : K37 (a0, a1, ()) = R37  a0 a1 := E37  a0 a1
/-! isochron/port.Arrive -/
abbrev A20 : List VT := [⟨true, S35⟩, ⟨false, I⟩, ⟨true, S31⟩]
abbrev B20 : List VT := [⟨true, S35⟩, ⟨false, .bool⟩, ⟨false, I⟩]
def pl20 : Plan := planA [⟨S144, flatTy S144, []⟩, ⟨S143, flatTy S143, []⟩, ⟨S134, flatTy S134, []⟩, ⟨S133, flatTy S133, []⟩, ⟨S91, flatTy S91, []⟩, ⟨S90, flatTy S90, []⟩, ⟨S88, flatTy S88, []⟩, ⟨S87, flatTy S87, []⟩, ⟨S79, flatTy S79, []⟩, ⟨S64, flatTy S64, []⟩, ⟨S61, flatTy S61, []⟩, ⟨S59, flatTy S59, []⟩, ⟨S58, flatTy S58, []⟩, ⟨S42, flatTy S42, []⟩, ⟨S35, flatTy S35, []⟩, ⟨S34, flatTy S34, []⟩, ⟨S43, flatTy S43, []⟩, ⟨S33, flatTy S33, []⟩, ⟨S32, flatTy S32, []⟩, ⟨S31, flatTy S31, []⟩, ⟨S30, flatTy S30, []⟩, ⟨S26, flatTy S26, []⟩, ⟨S25, flatTy S25, []⟩, ⟨S24, flatTy S24, []⟩, ⟨S23, flatTy S23, []⟩, ⟨S65, flatTy S65, []⟩, ⟨S14, flatTy S14, []⟩, ⟨S13, flatTy S13, []⟩, ⟨S8, flatTy S8, []⟩, ⟨S7, flatTy S7, []⟩] [] []
def R20 (G12 : (D35 × Unit) → Option (Int × Unit)) (G37 : (D86 × Int × Unit) → Option (Bool × Unit)) (G39 : (D31 × Unit) → Option (Int × Unit)) (G40 : (D86 × Int × D31 × Unit) → Option (D86 × Bool × Unit)) (a0 : D35) (a1 : Int) (a2 : D31) : Option (D35 × Bool × Int × Unit) :=
  opt (G12 ((a0, ()))) fun x0 =>
  bif !(ieqF (x0.1) (0)) then some (((([], 0), (0, 0)), (0, ([], (false, (((0, (0, (0, (0, 0)))), (0, false)), (0, (0, 0))))))), (false, (x0.1, ())))
  else opt (G37 ((a0, (a1, ())))) fun x1 =>
    bif !x1.1 then some (((([], 0), (0, 0)), (0, ([], (false, (((0, (0, (0, (0, 0)))), (0, false)), (0, (0, 0))))))), (false, (2, ())))
    else opt (G39 ((a2, ()))) fun x2 =>
      bif !(ieqF (x2.1) (0)) then some (((([], 0), (0, 0)), (0, ([], (false, (((0, (0, (0, (0, 0)))), (0, false)), (0, (0, 0))))))), (false, (x2.1, ())))
      else opt (G40 ((a0, (a1, (a2, ()))))) fun x3 =>
        some (x3.1, (x3.2.1, (0, ())))
theorem E20 (G12 : (D35 × Unit) → Option (Int × Unit)) (G37 : (D86 × Int × Unit) → Option (Bool × Unit)) (G39 : (D31 × Unit) → Option (Int × Unit)) (G40 : (D86 × Int × D31 × Unit) → Option (D86 × Bool × Unit)) (a0 : D35) (a1 : Int) (a2 : D31) : sF Try.prog [(12, ⟨A12, B12, G12⟩), (37, ⟨A37, B37, G37⟩), (39, ⟨A39, B39, G39⟩), (40, ⟨A40, B40, G40⟩)] pl20 (autoJ []) 30 20 A20 B20 (a0, a1, a2, ()) = R20 G12 G37 G39 G40 a0 a1 a2 := by kernel_rfl
def K20 : (D35 × Int × D31 × Unit) → Option (D35 × Bool × Int × Unit) := sF Try.prog [(12, ⟨A12, B12, K12⟩), (37, ⟨A37, B37, K37⟩), (39, ⟨A39, B39, K39⟩), (40, ⟨A40, B40, K40⟩)] pl20 (autoJ []) 30 20 A20 B20
theorem K20_ok : Con.Ok Try.prog 20 ⟨A20, B20, K20⟩ := sF_ok (tblOk_cons K12_ok (tblOk_cons K37_ok (tblOk_cons K39_ok (tblOk_cons K40_ok tblOk_nil)))) special (by kernel_rfl)
theorem K20_eq (a0 : D35) (a1 : Int) (a2 : D31) : K20 (a0, a1, a2, ()) = R20 K12 K37 K39 K40 a0 a1 a2 := E20 K12 K37 K39 K40 a0 a1 a2
/-! isochron/port.Choose -/
abbrev A21 : List VT := [⟨true, S35⟩, ⟨false, I⟩]
abbrev B21 : List VT := [⟨true, S35⟩, ⟨false, I⟩]
def pl21 : Plan := planA [⟨S144, flatTy S144, []⟩, ⟨S143, flatTy S143, []⟩, ⟨S134, flatTy S134, []⟩, ⟨S133, flatTy S133, []⟩, ⟨S91, flatTy S91, []⟩, ⟨S90, flatTy S90, []⟩, ⟨S88, flatTy S88, []⟩, ⟨S87, flatTy S87, []⟩, ⟨S79, flatTy S79, []⟩, ⟨S64, flatTy S64, []⟩, ⟨S61, flatTy S61, []⟩, ⟨S59, flatTy S59, []⟩, ⟨S58, flatTy S58, []⟩, ⟨S42, flatTy S42, []⟩, ⟨S35, flatTy S35, []⟩, ⟨S34, flatTy S34, []⟩, ⟨S43, flatTy S43, []⟩, ⟨S33, flatTy S33, []⟩, ⟨S32, flatTy S32, []⟩, ⟨S31, flatTy S31, []⟩, ⟨S30, flatTy S30, []⟩, ⟨S26, flatTy S26, []⟩, ⟨S25, flatTy S25, []⟩, ⟨S24, flatTy S24, []⟩, ⟨S23, flatTy S23, []⟩, ⟨S65, flatTy S65, []⟩, ⟨S14, flatTy S14, []⟩, ⟨S13, flatTy S13, []⟩, ⟨S8, flatTy S8, []⟩, ⟨S7, flatTy S7, []⟩] [] []
def R21 (G12 : (D35 × Unit) → Option (Int × Unit)) (G37 : (D86 × Int × Unit) → Option (Bool × Unit)) (G41 : (D86 × Int × Unit) → Option (D86 × Unit)) (a0 : D35) (a1 : Int) : Option (D35 × Int × Unit) :=
  opt (G12 ((a0, ()))) fun x0 =>
  bif !(ieqF (x0.1) (0)) then some (((([], 0), (0, 0)), (0, ([], (false, (((0, (0, (0, (0, 0)))), (0, false)), (0, (0, 0))))))), (x0.1, ()))
  else opt (G37 ((a0, (a1, ())))) fun x1 =>
    bif !x1.1 then some (((([], 0), (0, 0)), (0, ([], (false, (((0, (0, (0, (0, 0)))), (0, false)), (0, (0, 0))))))), (2, ()))
    else opt (G41 ((a0, (a1, ())))) fun x2 =>
      some (x2.1, (0, ()))
theorem E21 (G12 : (D35 × Unit) → Option (Int × Unit)) (G37 : (D86 × Int × Unit) → Option (Bool × Unit)) (G41 : (D86 × Int × Unit) → Option (D86 × Unit)) (a0 : D35) (a1 : Int) : sF Try.prog [(12, ⟨A12, B12, G12⟩), (37, ⟨A37, B37, G37⟩), (41, ⟨A41, B41, G41⟩)] pl21 (autoJ []) 30 21 A21 B21 (a0, a1, ()) = R21 G12 G37 G41 a0 a1 := by kernel_rfl
def K21 : (D35 × Int × Unit) → Option (D35 × Int × Unit) := sF Try.prog [(12, ⟨A12, B12, K12⟩), (37, ⟨A37, B37, K37⟩), (41, ⟨A41, B41, K41⟩)] pl21 (autoJ []) 30 21 A21 B21
theorem K21_ok : Con.Ok Try.prog 21 ⟨A21, B21, K21⟩ := sF_ok (tblOk_cons K12_ok (tblOk_cons K37_ok (tblOk_cons K41_ok tblOk_nil))) special (by kernel_rfl)
theorem K21_eq (a0 : D35) (a1 : Int) : K21 (a0, a1, ()) = R21 K12 K37 K41 a0 a1 := E21 K12 K37 K41 a0 a1
/-! isochron/port.Next -/
abbrev A18 : List VT := [⟨true, S35⟩]
abbrev B18 : List VT := [⟨false, I⟩, ⟨false, I⟩]
def pl18 : Plan := planA [⟨S144, flatTy S144, []⟩, ⟨S143, flatTy S143, []⟩, ⟨S134, flatTy S134, []⟩, ⟨S133, flatTy S133, []⟩, ⟨S91, flatTy S91, []⟩, ⟨S90, flatTy S90, []⟩, ⟨S88, flatTy S88, []⟩, ⟨S87, flatTy S87, []⟩, ⟨S79, flatTy S79, []⟩, ⟨S64, flatTy S64, []⟩, ⟨S61, flatTy S61, []⟩, ⟨S59, flatTy S59, []⟩, ⟨S58, flatTy S58, []⟩, ⟨S42, flatTy S42, []⟩, ⟨S35, flatTy S35, []⟩, ⟨S34, flatTy S34, []⟩, ⟨S43, flatTy S43, []⟩, ⟨S33, flatTy S33, []⟩, ⟨S32, flatTy S32, []⟩, ⟨S31, flatTy S31, []⟩, ⟨S30, flatTy S30, []⟩, ⟨S26, flatTy S26, []⟩, ⟨S25, flatTy S25, []⟩, ⟨S24, flatTy S24, []⟩, ⟨S23, flatTy S23, []⟩, ⟨S65, flatTy S65, []⟩, ⟨S14, flatTy S14, []⟩, ⟨S13, flatTy S13, []⟩, ⟨S8, flatTy S8, []⟩, ⟨S7, flatTy S7, []⟩] [] []
def R18 (G12 : (D35 × Unit) → Option (Int × Unit)) (G36 : (D86 × Unit) → Option (Int × Int × Unit)) (a0 : D35) : Option (Int × Int × Unit) :=
  opt (G12 ((a0, ()))) fun x0 =>
  bif !(ieqF (x0.1) (0)) then some (0, (x0.1, ()))
  else opt (G36 ((a0, ()))) fun x1 =>
    some (x1.1, (x1.2.1, ()))
theorem E18 (G12 : (D35 × Unit) → Option (Int × Unit)) (G36 : (D86 × Unit) → Option (Int × Int × Unit)) (a0 : D35) : sF Try.prog [(12, ⟨A12, B12, G12⟩), (36, ⟨A36, B36, G36⟩)] pl18 (autoJ []) 30 18 A18 B18 (a0, ()) = R18 G12 G36 a0 := by kernel_rfl
def K18 : (D35 × Unit) → Option (Int × Int × Unit) := sF Try.prog [(12, ⟨A12, B12, K12⟩), (36, ⟨A36, B36, K36⟩)] pl18 (autoJ []) 30 18 A18 B18
theorem K18_ok : Con.Ok Try.prog 18 ⟨A18, B18, K18⟩ := sF_ok (tblOk_cons K12_ok (tblOk_cons K36_ok tblOk_nil)) special (by kernel_rfl)
theorem K18_eq (a0 : D35) : K18 (a0, ()) = R18 K12 K36 a0 := E18 K12 K36 a0
/-! isochron/port.End -/
abbrev A19 : List VT := [⟨true, S35⟩, ⟨false, I⟩]
abbrev B19 : List VT := [⟨true, S35⟩, ⟨true, S31⟩, ⟨false, .bool⟩, ⟨false, I⟩]
def pl19 : Plan := planA [⟨S144, flatTy S144, []⟩, ⟨S143, flatTy S143, []⟩, ⟨S134, flatTy S134, []⟩, ⟨S133, flatTy S133, []⟩, ⟨S91, flatTy S91, []⟩, ⟨S90, flatTy S90, []⟩, ⟨S88, flatTy S88, []⟩, ⟨S87, flatTy S87, []⟩, ⟨S79, flatTy S79, []⟩, ⟨S64, flatTy S64, []⟩, ⟨S61, flatTy S61, []⟩, ⟨S59, flatTy S59, []⟩, ⟨S58, flatTy S58, []⟩, ⟨S42, flatTy S42, []⟩, ⟨S35, flatTy S35, []⟩, ⟨S34, flatTy S34, []⟩, ⟨S43, flatTy S43, []⟩, ⟨S33, flatTy S33, []⟩, ⟨S32, flatTy S32, []⟩, ⟨S31, flatTy S31, []⟩, ⟨S30, flatTy S30, []⟩, ⟨S26, flatTy S26, []⟩, ⟨S25, flatTy S25, []⟩, ⟨S24, flatTy S24, []⟩, ⟨S23, flatTy S23, []⟩, ⟨S65, flatTy S65, []⟩, ⟨S14, flatTy S14, []⟩, ⟨S13, flatTy S13, []⟩, ⟨S8, flatTy S8, []⟩, ⟨S7, flatTy S7, []⟩] [] []
def R19 (G12 : (D35 × Unit) → Option (Int × Unit)) (G37 : (D86 × Int × Unit) → Option (Bool × Unit)) (G38 : (D86 × Int × Unit) → Option (D86 × D31 × Bool × Unit)) (a0 : D35) (a1 : Int) : Option (D35 × D31 × Bool × Int × Unit) :=
  opt (G12 ((a0, ()))) fun x0 =>
  bif !(ieqF (x0.1) (0)) then some (((([], 0), (0, 0)), (0, ([], (false, (((0, (0, (0, (0, 0)))), (0, false)), (0, (0, 0))))))), ((0, (0, (0, (0, 0)))), (false, (x0.1, ()))))
  else opt (bif !a0.2.2.2.1 then some ((0 + 1), ((a0, (((([], 0), (0, 0)), (0, ([], (false, (((0, (0, (0, (0, 0)))), (0, false)), (0, (0, 0))))))), ((0, (0, (0, (0, 0)))), (false, (2, ()))))), ()))
      else bif !(ieqF (a1) (a0.2.2.2.2.2.2.1)) then some ((0 + 1), ((a0, (((([], 0), (0, 0)), (0, ([], (false, (((0, (0, (0, (0, 0)))), (0, false)), (0, (0, 0))))))), ((0, (0, (0, (0, 0)))), (false, (2, ()))))), ()))
        else opt (G37 ((a0, (a1, ())))) fun x1 =>
          bif !x1.1 then some ((0 + 1), ((a0, (((([], 0), (0, 0)), (0, ([], (false, (((0, (0, (0, (0, 0)))), (0, false)), (0, (0, 0))))))), ((0, (0, (0, (0, 0)))), (false, (2, ()))))), ()))
          else some (0, ((a0, (((([], 0), (0, 0)), (0, ([], (false, (((0, (0, (0, (0, 0)))), (0, false)), (0, (0, 0))))))), ((0, (0, (0, (0, 0)))), (false, (0, ()))))), ()))) fun x2 =>
    bif (Nat.beq x2.1 0) then opt (G38 ((x2.2.1.1, (a1, ())))) fun x3 =>
      some (x3.1, (x3.2.1, (x3.2.2.1, (0, ()))))
    else some (x2.2.1.2.1, (x2.2.1.2.2.1, (x2.2.1.2.2.2.1, (x2.2.1.2.2.2.2.1, ()))))
theorem E19 (G12 : (D35 × Unit) → Option (Int × Unit)) (G37 : (D86 × Int × Unit) → Option (Bool × Unit)) (G38 : (D86 × Int × Unit) → Option (D86 × D31 × Bool × Unit)) (a0 : D35) (a1 : Int) : sF Try.prog [(12, ⟨A12, B12, G12⟩), (37, ⟨A37, B37, G37⟩), (38, ⟨A38, B38, G38⟩)] pl19 (autoJ []) 30 19 A19 B19 (a0, a1, ()) = R19 G12 G37 G38 a0 a1 := by kernel_rfl
def K19 : (D35 × Int × Unit) → Option (D35 × D31 × Bool × Int × Unit) := sF Try.prog [(12, ⟨A12, B12, K12⟩), (37, ⟨A37, B37, K37⟩), (38, ⟨A38, B38, K38⟩)] pl19 (autoJ []) 30 19 A19 B19
theorem K19_ok : Con.Ok Try.prog 19 ⟨A19, B19, K19⟩ := sF_ok (tblOk_cons K12_ok (tblOk_cons K37_ok (tblOk_cons K38_ok tblOk_nil))) special (by kernel_rfl)
theorem K19_eq (a0 : D35) (a1 : Int) : K19 (a0, a1, ()) = R19 K12 K37 K38 a0 a1 := E19 K12 K37 K38 a0 a1
/-! isochron/isochronlaw38.frames -/
abbrev A13 : List VT := [⟨false, (.list S88)⟩]
abbrev B13 : List VT := [⟨false, (.list S61)⟩, ⟨false, I⟩]
def pl13 : Plan := planA [⟨S144, flatTy S144, []⟩, ⟨S143, flatTy S143, []⟩, ⟨S134, flatTy S134, []⟩, ⟨S133, flatTy S133, []⟩, ⟨S91, flatTy S91, []⟩, ⟨S90, flatTy S90, []⟩, ⟨S88, flatTy S88, []⟩, ⟨S87, flatTy S87, []⟩, ⟨S79, flatTy S79, []⟩, ⟨S64, flatTy S64, []⟩, ⟨S61, flatTy S61, []⟩, ⟨S59, flatTy S59, []⟩, ⟨S58, flatTy S58, []⟩, ⟨S42, flatTy S42, []⟩, ⟨S35, flatTy S35, []⟩, ⟨S34, flatTy S34, []⟩, ⟨S43, flatTy S43, []⟩, ⟨S33, flatTy S33, []⟩, ⟨S32, flatTy S32, []⟩, ⟨S31, flatTy S31, []⟩, ⟨S30, flatTy S30, []⟩, ⟨S26, flatTy S26, []⟩, ⟨S25, flatTy S25, []⟩, ⟨S24, flatTy S24, []⟩, ⟨S23, flatTy S23, []⟩, ⟨S65, flatTy S65, []⟩, ⟨S14, flatTy S14, []⟩, ⟨S13, flatTy S13, []⟩, ⟨S8, flatTy S8, []⟩, ⟨S7, flatTy S7, []⟩] [] [⟨4, 43, some 2, S61, false⟩, ⟨4, 43, some 4, S61, true⟩]
def R13  (a0 : (List D88)) : Option ((List D61) × Int × Unit) :=
  opt (cutI (a0) none (some ((minI ((((a0).length : Nat) : Int)) (16)))) none) fun x0 =>
  opt (iterK (fun s1 : ((Int × (Int × Unit)) × ((List (Int × (Int × (Int × (Int × (Int × Int)))))) × Unit)) =>
    bif (iltF (s1.1.2.1) ((((x0).length : Nat) : Int))) then opt (atI (x0) (s1.1.2.1)) fun x2 =>
      bif (appOk ((s1.2.1).length) (((((wrF .i64 ((s1.1.1 + (wrF .i64 (x2.1))))), (0, (s1.1.2.1, ((wrF .i64 ((Int.tmod x2.2.1 8))), ((wrF .i64 ((84 + (Int.tmod (wrF .i64 (x2.2.2)) 1459)))), 0))))) :: [])).length) (48)) then some (.inr (((wrF .i64 ((s1.1.1 + (wrF .i64 (x2.1))))), ((wrF .i64 ((s1.1.2.1 + 1))), ())), ((s1.2.1 ++ (((wrF .i64 ((s1.1.1 + (wrF .i64 (x2.1))))), (0, (s1.1.2.1, ((wrF .i64 ((Int.tmod x2.2.1 8))), ((wrF .i64 ((84 + (Int.tmod (wrF .i64 (x2.2.2)) 1459)))), 0))))) :: [])), ())))
      else none
    else some (.inl (0, ((s1.1.1, (s1.1.2.1, ())), (s1.2.1, ()))))) bigN ((0, (0, ())), ([], ()))) fun x3 =>
  some (x3.2.2.1, (x3.2.1.1, ()))
theorem E13  (a0 : (List D88)) : sF Try.prog [] pl13 (autoJ []) 30 13 A13 B13 (a0, ()) = R13  a0 := by kernel_rfl
def K13 : ((List D88) × Unit) → Option ((List D61) × Int × Unit) := sF Try.prog [] pl13 (autoJ []) 30 13 A13 B13
theorem K13_ok : Con.Ok Try.prog 13 ⟨A13, B13, K13⟩ := sF_ok tblOk_nil special (by kernel_rfl)
theorem K13_eq (a0 : (List D88)) : K13 (a0, ()) = R13  a0 := E13  a0
/-! isochron/isochronlaw38.open -/
abbrev A14 : List VT := [⟨false, I⟩]
abbrev B14 : List VT := [⟨true, S26⟩]
def pl14 : Plan := planA [⟨S144, flatTy S144, []⟩, ⟨S143, flatTy S143, []⟩, ⟨S134, flatTy S134, []⟩, ⟨S133, flatTy S133, []⟩, ⟨S91, flatTy S91, []⟩, ⟨S90, flatTy S90, []⟩, ⟨S88, flatTy S88, []⟩, ⟨S87, flatTy S87, []⟩, ⟨S79, flatTy S79, []⟩, ⟨S64, flatTy S64, []⟩, ⟨S61, flatTy S61, []⟩, ⟨S59, flatTy S59, []⟩, ⟨S58, flatTy S58, []⟩, ⟨S42, flatTy S42, []⟩, ⟨S35, flatTy S35, []⟩, ⟨S34, flatTy S34, []⟩, ⟨S43, flatTy S43, []⟩, ⟨S33, flatTy S33, []⟩, ⟨S32, flatTy S32, []⟩, ⟨S31, flatTy S31, []⟩, ⟨S30, flatTy S30, []⟩, ⟨S26, flatTy S26, []⟩, ⟨S25, flatTy S25, []⟩, ⟨S24, flatTy S24, []⟩, ⟨S23, flatTy S23, []⟩, ⟨S65, flatTy S65, []⟩, ⟨S14, flatTy S14, []⟩, ⟨S13, flatTy S13, []⟩, ⟨S8, flatTy S8, []⟩, ⟨S7, flatTy S7, []⟩] [] []
def R14  (a0 : Int) : Option (D26 × Unit) :=
  some (((((255, 1) :: []), 1), (a0, 0)), ())
theorem E14  (a0 : Int) : sF Try.prog [] pl14 (autoJ []) 30 14 A14 B14 (a0, ()) = R14  a0 := by kernel_rfl
def K14 : (Int × Unit) → Option (D26 × Unit) := sF Try.prog [] pl14 (autoJ []) 30 14 A14 B14
theorem K14_ok : Con.Ok Try.prog 14 ⟨A14, B14, K14⟩ := sF_ok tblOk_nil special (by kernel_rfl)
theorem K14_eq (a0 : Int) : K14 (a0, ()) = R14  a0 := E14  a0
/-! isochron/isochronlaw38.caps -/
abbrev A15 : List VT := [⟨false, I⟩]
abbrev B15 : List VT := [⟨false, (.list I)⟩]
def pl15 : Plan := planA [⟨S144, flatTy S144, []⟩, ⟨S143, flatTy S143, []⟩, ⟨S134, flatTy S134, []⟩, ⟨S133, flatTy S133, []⟩, ⟨S91, flatTy S91, []⟩, ⟨S90, flatTy S90, []⟩, ⟨S88, flatTy S88, []⟩, ⟨S87, flatTy S87, []⟩, ⟨S79, flatTy S79, []⟩, ⟨S64, flatTy S64, []⟩, ⟨S61, flatTy S61, []⟩, ⟨S59, flatTy S59, []⟩, ⟨S58, flatTy S58, []⟩, ⟨S42, flatTy S42, []⟩, ⟨S35, flatTy S35, []⟩, ⟨S34, flatTy S34, []⟩, ⟨S43, flatTy S43, []⟩, ⟨S33, flatTy S33, []⟩, ⟨S32, flatTy S32, []⟩, ⟨S31, flatTy S31, []⟩, ⟨S30, flatTy S30, []⟩, ⟨S26, flatTy S26, []⟩, ⟨S25, flatTy S25, []⟩, ⟨S24, flatTy S24, []⟩, ⟨S23, flatTy S23, []⟩, ⟨S65, flatTy S65, []⟩, ⟨S14, flatTy S14, []⟩, ⟨S13, flatTy S13, []⟩, ⟨S8, flatTy S8, []⟩, ⟨S7, flatTy S7, []⟩] [] []
def R15  (a0 : Int) : Option ((List Int) × Unit) :=
  some ((a0 :: (a0 :: (a0 :: (a0 :: (a0 :: (a0 :: (a0 :: (a0 :: [])))))))), ())
theorem E15  (a0 : Int) : sF Try.prog [] pl15 (autoJ []) 30 15 A15 B15 (a0, ()) = R15  a0 := by kernel_rfl
def K15 : (Int × Unit) → Option ((List Int) × Unit) := sF Try.prog [] pl15 (autoJ []) 30 15 A15 B15
theorem K15_ok : Con.Ok Try.prog 15 ⟨A15, B15, K15⟩ := sF_ok tblOk_nil special (by kernel_rfl)
theorem K15_eq (a0 : Int) : K15 (a0, ()) = R15  a0 := E15  a0
/-! isochron/port.checkRun -/
abbrev A31 : List VT := [⟨true, S35⟩, ⟨false, (.list S61)⟩, ⟨false, I⟩]
abbrev B31 : List VT := [⟨false, I⟩]
def pl31 : Plan := planA [⟨S144, flatTy S144, []⟩, ⟨S143, flatTy S143, []⟩, ⟨S134, flatTy S134, []⟩, ⟨S133, flatTy S133, []⟩, ⟨S91, flatTy S91, []⟩, ⟨S90, flatTy S90, []⟩, ⟨S88, flatTy S88, []⟩, ⟨S87, flatTy S87, []⟩, ⟨S79, flatTy S79, []⟩, ⟨S64, flatTy S64, []⟩, ⟨S61, flatTy S61, []⟩, ⟨S59, flatTy S59, []⟩, ⟨S58, flatTy S58, []⟩, ⟨S42, flatTy S42, []⟩, ⟨S35, flatTy S35, []⟩, ⟨S34, flatTy S34, []⟩, ⟨S43, flatTy S43, []⟩, ⟨S33, flatTy S33, []⟩, ⟨S32, flatTy S32, []⟩, ⟨S31, flatTy S31, []⟩, ⟨S30, flatTy S30, []⟩, ⟨S26, flatTy S26, []⟩, ⟨S25, flatTy S25, []⟩, ⟨S24, flatTy S24, []⟩, ⟨S23, flatTy S23, []⟩, ⟨S65, flatTy S65, []⟩, ⟨S14, flatTy S14, []⟩, ⟨S13, flatTy S13, []⟩, ⟨S8, flatTy S8, []⟩, ⟨S7, flatTy S7, []⟩] [] []
def R31 (G39 : (D31 × Unit) → Option (Int × Unit)) (a0 : D35) (a1 : (List D61)) (a2 : Int) : Option (Int × Unit) :=
  opt (iterK (fun s0 : ((Int × (Int × (Int × Unit))) × Unit) =>
    bif (iltF (s0.1.2.2.1) ((((a1).length : Nat) : Int))) then opt (atI (a1) (s0.1.2.2.1)) fun x1 =>
      opt (bif (iltF (x1.1) (s0.1.2.1)) then some ((0 + 1), ((2, ()), ()))
        else bif (iltF (a2) (x1.1)) then some ((0 + 1), ((2, ()), ()))
          else some (0, ((s0.1.1, ()), ()))) fun x2 =>
      bif (Nat.beq x2.1 0) then some (.inr ((x2.2.1.1, (x1.1, ((wrF .i64 ((s0.1.2.2.1 + 1))), ()))), ()))
      else some (.inl ((0 + 1), ((x2.2.1.1, (s0.1.2.1, (s0.1.2.2.1, ()))), ())))
    else some (.inl (0, ((s0.1.1, (s0.1.2.1, (s0.1.2.2.1, ()))), ())))) bigN ((0, (a0.2.1, (0, ()))), ())) fun x3 =>
  bif (Nat.beq x3.1 0) then opt (bif (iltF (a2) (a0.2.1)) then some ((0 + 1), ((2, ()), ()))
      else bif (iltF (549755813888) (a2)) then some ((0 + 1), ((2, ()), ()))
        else some (0, ((x3.2.1.1, ()), ()))) fun x4 =>
    bif (Nat.beq x4.1 0) then opt (iterK (fun s5 : ((Int × (Int × Unit)) × Unit) =>
        bif (iltF (s5.1.2.1) ((((a1).length : Nat) : Int))) then opt (atI (a1) (s5.1.2.1)) fun x6 =>
          opt (G39 ((x6.2, ()))) fun x7 =>
          bif !(ieqF (x7.1) (0)) then some (.inl ((0 + 1), ((x7.1, (s5.1.2.1, ())), ())))
          else some (.inr ((s5.1.1, ((wrF .i64 ((s5.1.2.1 + 1))), ())), ()))
        else some (.inl (0, ((s5.1.1, (s5.1.2.1, ())), ())))) bigN ((x4.2.1.1, (0, ())), ())) fun x8 =>
      bif (Nat.beq x8.1 0) then some (0, ())
      else some (x8.2.1.1, ())
    else some (x4.2.1.1, ())
  else some (x3.2.1.1, ())
theorem E31 (G39 : (D31 × Unit) → Option (Int × Unit)) (a0 : D35) (a1 : (List D61)) (a2 : Int) : sF Try.prog [(39, ⟨A39, B39, G39⟩)] pl31 (autoJ []) 30 31 A31 B31 (a0, a1, a2, ()) = R31 G39 a0 a1 a2 := by kernel_rfl
def K31 : (D35 × (List D61) × Int × Unit) → Option (Int × Unit) := sF Try.prog [(39, ⟨A39, B39, K39⟩)] pl31 (autoJ []) 30 31 A31 B31
theorem K31_ok : Con.Ok Try.prog 31 ⟨A31, B31, K31⟩ := sF_ok (tblOk_cons K39_ok tblOk_nil) special (by kernel_rfl)
theorem K31_eq (a0 : D35) (a1 : (List D61)) (a2 : Int) : K31 (a0, a1, a2, ()) = R31 K39 a0 a1 a2 := E31 K39 a0 a1 a2
/-! isochron/port.Run -/
abbrev A16 : List VT := [⟨true, S35⟩, ⟨false, (.list S61)⟩, ⟨false, I⟩]
abbrev B16 : List VT := [⟨true, S35⟩, ⟨false, (.list S59)⟩, ⟨false, I⟩]
def pl16 : Plan := planA [⟨S144, flatTy S144, []⟩, ⟨S143, flatTy S143, []⟩, ⟨S134, flatTy S134, []⟩, ⟨S133, flatTy S133, []⟩, ⟨S91, flatTy S91, [18]⟩, ⟨S90, flatTy S90, [18]⟩, ⟨S88, flatTy S88, []⟩, ⟨S87, flatTy S87, []⟩, ⟨S79, flatTy S79, []⟩, ⟨S64, flatTy S64, []⟩, ⟨S61, flatTy S61, []⟩, ⟨S59, flatTy S59, []⟩, ⟨S58, flatTy S58, []⟩, ⟨S42, flatTy S42, []⟩, ⟨S35, flatTy S35, []⟩, ⟨S34, flatTy S34, []⟩, ⟨S43, flatTy S43, []⟩, ⟨S33, flatTy S33, []⟩, ⟨S32, flatTy S32, []⟩, ⟨S31, flatTy S31, []⟩, ⟨S30, flatTy S30, []⟩, ⟨S26, flatTy S26, []⟩, ⟨S25, flatTy S25, []⟩, ⟨S24, flatTy S24, []⟩, ⟨S23, flatTy S23, []⟩, ⟨S65, flatTy S65, []⟩, ⟨S14, flatTy S14, []⟩, ⟨S13, flatTy S13, []⟩, ⟨S8, flatTy S8, []⟩, ⟨S7, flatTy S7, []⟩] [] [⟨2, 57, some 7, S59, false⟩, ⟨5, 57, some 7, S59, false⟩, ⟨12, 57, some 7, S59, false⟩, ⟨14, 57, some 7, S59, false⟩, ⟨9, 57, some 7, S59, false⟩, ⟨0, 51, none, S59, true⟩, ⟨3, 51, none, S59, true⟩]
def R16 (G12 : (D35 × Unit) → Option (Int × Unit)) (G31 : (D35 × (List D61) × Int × Unit) → Option (Int × Unit)) (G38 : (D86 × Int × Unit) → Option (D86 × D31 × Bool × Unit)) (G40 : (D86 × Int × D31 × Unit) → Option (D86 × Bool × Unit)) (G41 : (D86 × Int × Unit) → Option (D86 × Unit)) (G36 : (D86 × Unit) → Option (Int × Int × Unit)) (a0 : D35) (a1 : (List D61)) (a2 : Int) : Option (D35 × (List D59) × Int × Unit) :=
  opt (G12 ((a0, ()))) fun x0 =>
  bif !(ieqF (x0.1) (0)) then some (((([], 0), (0, 0)), (0, ([], (false, (((0, (0, (0, (0, 0)))), (0, false)), (0, (0, 0))))))), ([], (x0.1, ())))
  else opt (G31 ((a0, (a1, (a2, ()))))) fun x1 =>
    bif !(ieqF (x1.1) (0)) then some (((([], 0), (0, 0)), (0, ([], (false, (((0, (0, (0, (0, 0)))), (0, false)), (0, (0, 0))))))), ([], (x1.1, ())))
    else opt (iterK (fun s2 : ((Unit × Unit) × ((((((List (Int × Int)) × Int) × (Int × Int)) × (Int × ((List (Int × (List ((Int × (Int × (Int × (Int × Int)))) × (Int × Bool))))) × (Bool × (((Int × (Int × (Int × (Int × Int)))) × (Int × Bool)) × (Int × (Int × Int))))))) × ((List (Int × (Int × (Int × (Int × (Int × Int)))))) × ((List (Int × (Int × (Int × (Int × (Int × Int)))))) × Unit))) × (Unit × (Unit × Unit)))) =>
        opt (G36 ((s2.2.1.1, ()))) fun x3 =>
        opt (bif (iltF (0) ((((s2.2.1.2.1).length : Nat) : Int))) then bif !(ieqF (x3.2.1) (0)) then opt (atI (s2.2.1.2.1) (0)) fun x4 =>
              some (0, ((x4.1, (0, ())), ((), ((), ()))))
            else opt (atI (s2.2.1.2.1) (0)) fun x5 =>
              bif (iltF (x5.1) (x3.1)) then opt (atI (s2.2.1.2.1) (0)) fun x6 =>
                some (0, ((x6.1, (0, ())), ((), ((), ()))))
              else some (0, ((x3.1, (x3.2.1, ())), ((), ((), ()))))
          else some (0, ((x3.1, (x3.2.1, ())), ((), ((), ()))))) fun x7 =>
        bif (Nat.beq x7.1 0) then bif !(ieqF (x7.2.1.2.1) (0)) then some (.inl (0, (((), ()), ((s2.2.1.1, (s2.2.1.2.1, (s2.2.1.2.2.1, ()))), ((), ((), ()))))))
          else opt (iterK (fun s8 : ((Unit × (Int × Unit)) × ((((((List (Int × Int)) × Int) × (Int × Int)) × (Int × ((List (Int × (List ((Int × (Int × (Int × (Int × Int)))) × (Int × Bool))))) × (Bool × (((Int × (Int × (Int × (Int × Int)))) × (Int × Bool)) × (Int × (Int × Int))))))) × ((List (Int × (Int × (Int × (Int × (Int × Int)))))) × ((List (Int × (Int × (Int × (Int × (Int × Int)))))) × Unit))) × (Unit × Unit))) =>
              bif (iltF (s8.1.2.1) (3)) then bif (ieqF (s8.1.2.1) (((0 : Nat) : Int))) then bif (iltF (a2) (x7.2.1.1)) then some (.inl ((0 + 1), (((), (s8.1.2.1, ())), ((s8.2.1.1, (s8.2.1.2.1, (s8.2.1.2.2.1, ()))), ((), ())))))
                  else bif !s8.2.1.1.2.2.2.1 then some (.inr (((), ((wrF .i64 ((s8.1.2.1 + 1))), ())), ((s8.2.1.1, (s8.2.1.2.1, (s8.2.1.2.2.1, ()))), ((), ()))))
                    else bif !(ieqF (s8.2.1.1.2.2.2.2.2.2.1) (x7.2.1.1)) then some (.inr (((), ((wrF .i64 ((s8.1.2.1 + 1))), ())), ((s8.2.1.1, (s8.2.1.2.1, (s8.2.1.2.2.1, ()))), ((), ()))))
                      else opt (G38 ((s8.2.1.1, (x7.2.1.1, ())))) fun x9 =>
                        opt (bif x9.2.2.1 then bif (appOk ((s8.2.1.2.2.1).length) ((((x7.2.1.1, x9.2.1) :: [])).length) (48)) then some (0, (((), ()), ((x9.1, (s8.2.1.2.1, ((s8.2.1.2.2.1 ++ ((x7.2.1.1, x9.2.1) :: [])), ()))), ((), ()))))
                            else none
                          else some (0, (((), ()), ((x9.1, (s8.2.1.2.1, (s8.2.1.2.2.1, ()))), ((), ()))))) fun x10 =>
                        some (.inr (((), ((wrF .i64 ((s8.1.2.1 + 1))), ())), ((x10.2.2.1.1, (x10.2.2.1.2.1, (x10.2.2.1.2.2.1, ()))), ((), ()))))
                else bif (ieqF (s8.1.2.1) ((((0 + 1) : Nat) : Int))) then bif (iltF (a2) (x7.2.1.1)) then some (.inl ((0 + 1), (((), (s8.1.2.1, ())), ((s8.2.1.1, (s8.2.1.2.1, (s8.2.1.2.2.1, ()))), ((), ())))))
                    else opt (iterK (fun s11 : ((Unit × Unit) × ((((((List (Int × Int)) × Int) × (Int × Int)) × (Int × ((List (Int × (List ((Int × (Int × (Int × (Int × Int)))) × (Int × Bool))))) × (Bool × (((Int × (Int × (Int × (Int × Int)))) × (Int × Bool)) × (Int × (Int × Int))))))) × ((List (Int × (Int × (Int × (Int × (Int × Int)))))) × ((List (Int × (Int × (Int × (Int × (Int × Int)))))) × Unit))) × (Unit × Unit))) =>
                        bif (iltF (0) ((((s11.2.1.2.1).length : Nat) : Int))) then opt (atI (s11.2.1.2.1) (0)) fun x12 =>
                          bif (ieqF (x12.1) (x7.2.1.1)) then opt (atI (s11.2.1.2.1) (0)) fun x13 =>
                            opt (G40 ((s11.2.1.1, (x7.2.1.1, (x13.2, ()))))) fun x14 =>
                            opt (cutI (s11.2.1.2.1) (some (1)) none none) fun x15 =>
                            some (.inr (((), ()), ((x14.1, (x15, (s11.2.1.2.2.1, ()))), ((), ()))))
                          else some (.inl (0, (((), ()), ((s11.2.1.1, (s11.2.1.2.1, (s11.2.1.2.2.1, ()))), ((), ())))))
                        else some (.inl (0, (((), ()), ((s11.2.1.1, (s11.2.1.2.1, (s11.2.1.2.2.1, ()))), ((), ())))))) bigN (((), ()), ((s8.2.1.1, (s8.2.1.2.1, (s8.2.1.2.2.1, ()))), ((), ())))) fun x16 =>
                      some (.inr (((), ((wrF .i64 ((s8.1.2.1 + 1))), ())), ((x16.2.2.1.1, (x16.2.2.1.2.1, (x16.2.2.1.2.2.1, ()))), ((), ()))))
                  else bif (ieqF (s8.1.2.1) (((((0 + 1) + 1) : Nat) : Int))) then bif (iltF (a2) (x7.2.1.1)) then some (.inl ((0 + 1), (((), (s8.1.2.1, ())), ((s8.2.1.1, (s8.2.1.2.1, (s8.2.1.2.2.1, ()))), ((), ())))))
                      else opt (G41 ((s8.2.1.1, (x7.2.1.1, ())))) fun x17 =>
                        some (.inr (((), ((wrF .i64 ((s8.1.2.1 + 1))), ())), ((x17.1, (s8.2.1.2.1, (s8.2.1.2.2.1, ()))), ((), ()))))
                    else none
              else some (.inl (0, (((), (s8.1.2.1, ())), ((s8.2.1.1, (s8.2.1.2.1, (s8.2.1.2.2.1, ()))), ((), ())))))) bigN (((), (0, ())), ((s2.2.1.1, (s2.2.1.2.1, (s2.2.1.2.2.1, ()))), ((), ())))) fun x18 =>
            bif (Nat.beq x18.1 0) then some (.inr (((), ()), ((x18.2.2.1.1, (x18.2.2.1.2.1, (x18.2.2.1.2.2.1, ()))), ((), ((), ())))))
            else some (.inl ((0 + 1), (((), ()), ((x18.2.2.1.1, (x18.2.2.1.2.1, (x18.2.2.1.2.2.1, ()))), ((), ((), ()))))))
        else bif !(ieqF (x7.2.1.2.1) (0)) then some (.inl ((0 + 1), (((), ()), ((s2.2.1.1, (s2.2.1.2.1, (s2.2.1.2.2.1, ()))), ((), ((), ()))))))
          else none) bigN (((), ()), ((a0, (a1, ([], ()))), ((), ((), ()))))) fun x19 =>
      bif (Nat.beq x19.1 0) then some ((x19.2.2.1.1.1, (a2, x19.2.2.1.1.2.2)), (x19.2.2.1.2.2.1, (0, ())))
      else some ((x19.2.2.1.1.1, (a2, x19.2.2.1.1.2.2)), (x19.2.2.1.2.2.1, (0, ())))
theorem E16 (G12 : (D35 × Unit) → Option (Int × Unit)) (G31 : (D35 × (List D61) × Int × Unit) → Option (Int × Unit)) (G38 : (D86 × Int × Unit) → Option (D86 × D31 × Bool × Unit)) (G40 : (D86 × Int × D31 × Unit) → Option (D86 × Bool × Unit)) (G41 : (D86 × Int × Unit) → Option (D86 × Unit)) (G36 : (D86 × Unit) → Option (Int × Int × Unit)) (a0 : D35) (a1 : (List D61)) (a2 : Int) : sF Try.prog [(12, ⟨A12, B12, G12⟩), (31, ⟨A31, B31, G31⟩), (38, ⟨A38, B38, G38⟩), (40, ⟨A40, B40, G40⟩), (41, ⟨A41, B41, G41⟩), (36, ⟨A36, B36, G36⟩)] pl16 (autoJ []) 30 16 A16 B16 (a0, a1, a2, ()) = R16 G12 G31 G38 G40 G41 G36 a0 a1 a2 := by kernel_rfl
def K16 : (D35 × (List D61) × Int × Unit) → Option (D35 × (List D59) × Int × Unit) := sF Try.prog [(12, ⟨A12, B12, K12⟩), (31, ⟨A31, B31, K31⟩), (38, ⟨A38, B38, K38⟩), (40, ⟨A40, B40, K40⟩), (41, ⟨A41, B41, K41⟩), (36, ⟨A36, B36, K36⟩)] pl16 (autoJ []) 30 16 A16 B16
theorem K16_ok : Con.Ok Try.prog 16 ⟨A16, B16, K16⟩ := sF_ok (tblOk_cons K12_ok (tblOk_cons K31_ok (tblOk_cons K38_ok (tblOk_cons K40_ok (tblOk_cons K41_ok (tblOk_cons K36_ok tblOk_nil)))))) special (by kernel_rfl)
theorem K16_eq (a0 : D35) (a1 : (List D61)) (a2 : Int) : K16 (a0, a1, a2, ()) = R16 K12 K31 K38 K40 K41 K36 a0 a1 a2 := E16 K12 K31 K38 K40 K41 K36 a0 a1 a2
end Go.Proofs.Ytfpbgiaiifcnlaa.pg
/- wakes: a closed run. -/
noncomputable section
namespace Go.Proofs.Ytfpbgiaiifcnlaa.pg
open Go Go.Fz Go.Fz.Sy
set_option maxRecDepth 100000
set_option maxHeartbeats 0
set_option linter.unusedVariables false
def C44 : T (prodTy A44) → Option (T (prodTy B44)) := sF Try.prog [] (fun _ _ _ _ => none) (fun _ _ => false) 100 44 A44 B44
theorem C44_ok : Con.Ok Try.prog 44 ⟨A44, B44, C44⟩ := sF_ok tblOk_nil special (by kernel_rfl)
def C17 : T (prodTy A17) → Option (T (prodTy B17)) := sF Try.prog [] (fun _ _ _ _ => none) (fun _ _ => false) 100 17 A17 B17
theorem C17_ok : Con.Ok Try.prog 17 ⟨A17, B17, C17⟩ := sF_ok tblOk_nil special (by kernel_rfl)
def C25 : T (prodTy A25) → Option (T (prodTy B25)) := sF Try.prog [(17, ⟨A17, B17, C17⟩)] (fun _ _ _ _ => none) (fun _ _ => false) 100 25 A25 B25
theorem C25_ok : Con.Ok Try.prog 25 ⟨A25, B25, C25⟩ := sF_ok (tblOk_cons C17_ok tblOk_nil) special (by kernel_rfl)
def C26 : T (prodTy A26) → Option (T (prodTy B26)) := sF Try.prog [(44, ⟨A44, B44, C44⟩)] (fun _ _ _ _ => none) (fun _ _ => false) 100 26 A26 B26
theorem C26_ok : Con.Ok Try.prog 26 ⟨A26, B26, C26⟩ := sF_ok (tblOk_cons C44_ok tblOk_nil) special (by kernel_rfl)
def C8 : T (prodTy A8) → Option (T (prodTy B8)) := sF Try.prog [(25, ⟨A25, B25, C25⟩), (26, ⟨A26, B26, C26⟩)] (fun _ _ _ _ => none) (fun _ _ => false) 100 8 A8 B8
theorem C8_ok : Con.Ok Try.prog 8 ⟨A8, B8, C8⟩ := sF_ok (tblOk_cons C25_ok (tblOk_cons C26_ok tblOk_nil)) special (by kernel_rfl)
def C39 : T (prodTy A39) → Option (T (prodTy B39)) := sF Try.prog [(44, ⟨A44, B44, C44⟩)] (fun _ _ _ _ => none) (fun _ _ => false) 100 39 A39 B39
theorem C39_ok : Con.Ok Try.prog 39 ⟨A39, B39, C39⟩ := sF_ok (tblOk_cons C44_ok tblOk_nil) special (by kernel_rfl)
def C63 : T (prodTy A63) → Option (T (prodTy B63)) := sF Try.prog [] (fun _ _ _ _ => none) (fun _ _ => false) 100 63 A63 B63
theorem C63_ok : Con.Ok Try.prog 63 ⟨A63, B63, C63⟩ := sF_ok tblOk_nil special (by kernel_rfl)
def C47 : T (prodTy A47) → Option (T (prodTy B47)) := sF Try.prog [(39, ⟨A39, B39, C39⟩), (63, ⟨A63, B63, C63⟩), (44, ⟨A44, B44, C44⟩)] (fun _ _ _ _ => none) (fun _ _ => false) 100 47 A47 B47
theorem C47_ok : Con.Ok Try.prog 47 ⟨A47, B47, C47⟩ := sF_ok (tblOk_cons C39_ok (tblOk_cons C63_ok (tblOk_cons C44_ok tblOk_nil))) special (by kernel_rfl)
def C48 : T (prodTy A48) → Option (T (prodTy B48)) := sF Try.prog [] (fun _ _ _ _ => none) (fun _ _ => false) 100 48 A48 B48
theorem C48_ok : Con.Ok Try.prog 48 ⟨A48, B48, C48⟩ := sF_ok tblOk_nil special (by kernel_rfl)
def C29 : T (prodTy A29) → Option (T (prodTy B29)) := sF Try.prog [(47, ⟨A47, B47, C47⟩), (48, ⟨A48, B48, C48⟩)] (fun _ _ _ _ => none) (fun _ _ => false) 100 29 A29 B29
theorem C29_ok : Con.Ok Try.prog 29 ⟨A29, B29, C29⟩ := sF_ok (tblOk_cons C47_ok (tblOk_cons C48_ok tblOk_nil)) special (by kernel_rfl)
def C83 : T (prodTy A83) → Option (T (prodTy B83)) := sF Try.prog [] (fun _ _ _ _ => none) (fun _ _ => false) 100 83 A83 B83
theorem C83_ok : Con.Ok Try.prog 83 ⟨A83, B83, C83⟩ := sF_ok tblOk_nil special (by kernel_rfl)
def C65 : T (prodTy A65) → Option (T (prodTy B65)) := sF Try.prog [(83, ⟨A83, B83, C83⟩)] (fun _ _ _ _ => none) (fun _ _ => false) 100 65 A65 B65
theorem C65_ok : Con.Ok Try.prog 65 ⟨A65, B65, C65⟩ := sF_ok (tblOk_cons C83_ok tblOk_nil) special (by kernel_rfl)
def C49 : T (prodTy A49) → Option (T (prodTy B49)) := sF Try.prog [(44, ⟨A44, B44, C44⟩), (47, ⟨A47, B47, C47⟩), (65, ⟨A65, B65, C65⟩)] (fun _ _ _ _ => none) (fun _ _ => false) 100 49 A49 B49
theorem C49_ok : Con.Ok Try.prog 49 ⟨A49, B49, C49⟩ := sF_ok (tblOk_cons C44_ok (tblOk_cons C47_ok (tblOk_cons C65_ok tblOk_nil))) special (by kernel_rfl)
def C30 : T (prodTy A30) → Option (T (prodTy B30)) := sF Try.prog [(49, ⟨A49, B49, C49⟩), (48, ⟨A48, B48, C48⟩)] (fun _ _ _ _ => none) (fun _ _ => false) 100 30 A30 B30
theorem C30_ok : Con.Ok Try.prog 30 ⟨A30, B30, C30⟩ := sF_ok (tblOk_cons C49_ok (tblOk_cons C48_ok tblOk_nil)) special (by kernel_rfl)
def C12 : T (prodTy A12) → Option (T (prodTy B12)) := sF Try.prog [(25, ⟨A25, B25, C25⟩), (29, ⟨A29, B29, C29⟩), (30, ⟨A30, B30, C30⟩)] (fun _ _ _ _ => none) (fun _ _ => false) 100 12 A12 B12
theorem C12_ok : Con.Ok Try.prog 12 ⟨A12, B12, C12⟩ := sF_ok (tblOk_cons C25_ok (tblOk_cons C29_ok (tblOk_cons C30_ok tblOk_nil))) special (by kernel_rfl)
def C88 : T (prodTy A88) → Option (T (prodTy B88)) := sF Try.prog [] (fun _ _ _ _ => none) (fun _ _ => false) 100 88 A88 B88
theorem C88_ok : Con.Ok Try.prog 88 ⟨A88, B88, C88⟩ := sF_ok tblOk_nil special (by kernel_rfl)
def C70 : T (prodTy A70) → Option (T (prodTy B70)) := sF Try.prog [(88, ⟨A88, B88, C88⟩)] (fun _ _ _ _ => none) (fun _ _ => false) 100 70 A70 B70
theorem C70_ok : Con.Ok Try.prog 70 ⟨A70, B70, C70⟩ := sF_ok (tblOk_cons C88_ok tblOk_nil) special (by kernel_rfl)
def C55 : T (prodTy A55) → Option (T (prodTy B55)) := sF Try.prog [(49, ⟨A49, B49, C49⟩), (47, ⟨A47, B47, C47⟩)] (fun _ _ _ _ => none) (fun _ _ => false) 100 55 A55 B55
theorem C55_ok : Con.Ok Try.prog 55 ⟨A55, B55, C55⟩ := sF_ok (tblOk_cons C49_ok (tblOk_cons C47_ok tblOk_nil)) special (by kernel_rfl)
def C38 : T (prodTy A38) → Option (T (prodTy B38)) := sF Try.prog [(55, ⟨A55, B55, C55⟩)] (fun _ _ _ _ => none) (fun _ _ => false) 100 38 A38 B38
theorem C38_ok : Con.Ok Try.prog 38 ⟨A38, B38, C38⟩ := sF_ok (tblOk_cons C55_ok tblOk_nil) special (by kernel_rfl)
def C57 : T (prodTy A57) → Option (T (prodTy B57)) := sF Try.prog [(49, ⟨A49, B49, C49⟩), (39, ⟨A39, B39, C39⟩), (70, ⟨A70, B70, C70⟩), (63, ⟨A63, B63, C63⟩)] (fun _ _ _ _ => none) (fun _ _ => false) 100 57 A57 B57
theorem C57_ok : Con.Ok Try.prog 57 ⟨A57, B57, C57⟩ := sF_ok (tblOk_cons C49_ok (tblOk_cons C39_ok (tblOk_cons C70_ok (tblOk_cons C63_ok tblOk_nil)))) special (by kernel_rfl)
def C40 : T (prodTy A40) → Option (T (prodTy B40)) := sF Try.prog [(57, ⟨A57, B57, C57⟩)] (fun _ _ _ _ => none) (fun _ _ => false) 100 40 A40 B40
theorem C40_ok : Con.Ok Try.prog 40 ⟨A40, B40, C40⟩ := sF_ok (tblOk_cons C57_ok tblOk_nil) special (by kernel_rfl)
def C69 : T (prodTy A69) → Option (T (prodTy B69)) := sF Try.prog [(49, ⟨A49, B49, C49⟩)] (fun _ _ _ _ => none) (fun _ _ => false) 100 69 A69 B69
theorem C69_ok : Con.Ok Try.prog 69 ⟨A69, B69, C69⟩ := sF_ok (tblOk_cons C49_ok tblOk_nil) special (by kernel_rfl)
def C52 : T (prodTy A52) → Option (T (prodTy B52)) := sF Try.prog [(69, ⟨A69, B69, C69⟩)] (fun _ _ _ _ => none) (fun _ _ => false) 100 52 A52 B52
theorem C52_ok : Con.Ok Try.prog 52 ⟨A52, B52, C52⟩ := sF_ok (tblOk_cons C69_ok tblOk_nil) special (by kernel_rfl)
def C84 : T (prodTy A84) → Option (T (prodTy B84)) := sF Try.prog [(47, ⟨A47, B47, C47⟩)] (fun _ _ _ _ => none) (fun _ _ => false) 100 84 A84 B84
theorem C84_ok : Con.Ok Try.prog 84 ⟨A84, B84, C84⟩ := sF_ok (tblOk_cons C47_ok tblOk_nil) special (by kernel_rfl)
def C66 : T (prodTy A66) → Option (T (prodTy B66)) := sF Try.prog [(25, ⟨A25, B25, C25⟩), (84, ⟨A84, B84, C84⟩)] (fun _ _ _ _ => none) (fun _ _ => false) 100 66 A66 B66
theorem C66_ok : Con.Ok Try.prog 66 ⟨A66, B66, C66⟩ := sF_ok (tblOk_cons C25_ok (tblOk_cons C84_ok tblOk_nil)) special (by kernel_rfl)
def C78 : T (prodTy A78) → Option (T (prodTy B78)) := sF Try.prog [] (fun _ _ _ _ => none) (fun _ _ => false) 100 78 A78 B78
theorem C78_ok : Con.Ok Try.prog 78 ⟨A78, B78, C78⟩ := sF_ok tblOk_nil special (by kernel_rfl)
def C85 : T (prodTy A85) → Option (T (prodTy B85)) := sF Try.prog [] (fun _ _ _ _ => none) (fun _ _ => false) 100 85 A85 B85
theorem C85_ok : Con.Ok Try.prog 85 ⟨A85, B85, C85⟩ := sF_ok tblOk_nil special (by kernel_rfl)
def C42 : T (prodTy A42) → Option (T (prodTy B42)) := sF Try.prog [(17, ⟨A17, B17, C17⟩)] (fun _ _ _ _ => none) (fun _ _ => false) 100 42 A42 B42
theorem C42_ok : Con.Ok Try.prog 42 ⟨A42, B42, C42⟩ := sF_ok (tblOk_cons C17_ok tblOk_nil) special (by kernel_rfl)
def C80 : T (prodTy A80) → Option (T (prodTy B80)) := sF Try.prog [] (fun _ _ _ _ => none) (fun _ _ => false) 100 80 A80 B80
theorem C80_ok : Con.Ok Try.prog 80 ⟨A80, B80, C80⟩ := sF_ok tblOk_nil special (by kernel_rfl)
def C43 : T (prodTy A43) → Option (T (prodTy B43)) := sF Try.prog [(80, ⟨A80, B80, C80⟩)] (fun _ _ _ _ => none) (fun _ _ => false) 100 43 A43 B43
theorem C43_ok : Con.Ok Try.prog 43 ⟨A43, B43, C43⟩ := sF_ok (tblOk_cons C80_ok tblOk_nil) special (by kernel_rfl)
def C22 : T (prodTy A22) → Option (T (prodTy B22)) := sF Try.prog [(42, ⟨A42, B42, C42⟩), (43, ⟨A43, B43, C43⟩)] (fun _ _ _ _ => none) (fun _ _ => false) 100 22 A22 B22
theorem C22_ok : Con.Ok Try.prog 22 ⟨A22, B22, C22⟩ := sF_ok (tblOk_cons C42_ok (tblOk_cons C43_ok tblOk_nil)) special (by kernel_rfl)
def C79 : T (prodTy A79) → Option (T (prodTy B79)) := sF Try.prog [(22, ⟨A22, B22, C22⟩)] (fun _ _ _ _ => none) (fun _ _ => false) 100 79 A79 B79
theorem C79_ok : Con.Ok Try.prog 79 ⟨A79, B79, C79⟩ := sF_ok (tblOk_cons C22_ok tblOk_nil) special (by kernel_rfl)
def C71 : T (prodTy A71) → Option (T (prodTy B71)) := sF Try.prog [(78, ⟨A78, B78, C78⟩), (85, ⟨A85, B85, C85⟩), (79, ⟨A79, B79, C79⟩)] (fun _ _ _ _ => none) (fun _ _ => false) 100 71 A71 B71
theorem C71_ok : Con.Ok Try.prog 71 ⟨A71, B71, C71⟩ := sF_ok (tblOk_cons C78_ok (tblOk_cons C85_ok (tblOk_cons C79_ok tblOk_nil))) special (by kernel_rfl)
def C58 : T (prodTy A58) → Option (T (prodTy B58)) := sF Try.prog [(66, ⟨A66, B66, C66⟩), (71, ⟨A71, B71, C71⟩)] (fun _ _ _ _ => none) (fun _ _ => false) 100 58 A58 B58
theorem C58_ok : Con.Ok Try.prog 58 ⟨A58, B58, C58⟩ := sF_ok (tblOk_cons C66_ok (tblOk_cons C71_ok tblOk_nil)) special (by kernel_rfl)
def C75 : T (prodTy A75) → Option (T (prodTy B75)) := sF Try.prog [(49, ⟨A49, B49, C49⟩)] (fun _ _ _ _ => none) (fun _ _ => false) 100 75 A75 B75
theorem C75_ok : Con.Ok Try.prog 75 ⟨A75, B75, C75⟩ := sF_ok (tblOk_cons C49_ok tblOk_nil) special (by kernel_rfl)
def C59 : T (prodTy A59) → Option (T (prodTy B59)) := sF Try.prog [(75, ⟨A75, B75, C75⟩)] (fun _ _ _ _ => none) (fun _ _ => false) 100 59 A59 B59
theorem C59_ok : Con.Ok Try.prog 59 ⟨A59, B59, C59⟩ := sF_ok (tblOk_cons C75_ok tblOk_nil) special (by kernel_rfl)
def C60 : T (prodTy A60) → Option (T (prodTy B60)) := sF Try.prog [(66, ⟨A66, B66, C66⟩), (78, ⟨A78, B78, C78⟩), (79, ⟨A79, B79, C79⟩)] (fun _ _ _ _ => none) (fun _ _ => false) 100 60 A60 B60
theorem C60_ok : Con.Ok Try.prog 60 ⟨A60, B60, C60⟩ := sF_ok (tblOk_cons C66_ok (tblOk_cons C78_ok (tblOk_cons C79_ok tblOk_nil))) special (by kernel_rfl)
def C41 : T (prodTy A41) → Option (T (prodTy B41)) := sF Try.prog [(52, ⟨A52, B52, C52⟩), (58, ⟨A58, B58, C58⟩), (59, ⟨A59, B59, C59⟩), (48, ⟨A48, B48, C48⟩), (60, ⟨A60, B60, C60⟩)] (fun _ _ _ _ => none) (fun _ _ => false) 100 41 A41 B41
theorem C41_ok : Con.Ok Try.prog 41 ⟨A41, B41, C41⟩ := sF_ok (tblOk_cons C52_ok (tblOk_cons C58_ok (tblOk_cons C59_ok (tblOk_cons C48_ok (tblOk_cons C60_ok tblOk_nil))))) special (by kernel_rfl)
def C86 : T (prodTy A86) → Option (T (prodTy B86)) := sF Try.prog [(42, ⟨A42, B42, C42⟩), (43, ⟨A43, B43, C43⟩), (80, ⟨A80, B80, C80⟩)] (fun _ _ _ _ => none) (fun _ _ => false) 100 86 A86 B86
theorem C86_ok : Con.Ok Try.prog 86 ⟨A86, B86, C86⟩ := sF_ok (tblOk_cons C42_ok (tblOk_cons C43_ok (tblOk_cons C80_ok tblOk_nil))) special (by kernel_rfl)
def C67 : T (prodTy A67) → Option (T (prodTy B67)) := sF Try.prog [(78, ⟨A78, B78, C78⟩), (85, ⟨A85, B85, C85⟩), (86, ⟨A86, B86, C86⟩)] (fun _ _ _ _ => none) (fun _ _ => false) 100 67 A67 B67
theorem C67_ok : Con.Ok Try.prog 67 ⟨A67, B67, C67⟩ := sF_ok (tblOk_cons C78_ok (tblOk_cons C85_ok (tblOk_cons C86_ok tblOk_nil))) special (by kernel_rfl)
def C51 : T (prodTy A51) → Option (T (prodTy B51)) := sF Try.prog [(66, ⟨A66, B66, C66⟩), (67, ⟨A67, B67, C67⟩)] (fun _ _ _ _ => none) (fun _ _ => false) 100 51 A51 B51
theorem C51_ok : Con.Ok Try.prog 51 ⟨A51, B51, C51⟩ := sF_ok (tblOk_cons C66_ok (tblOk_cons C67_ok tblOk_nil)) special (by kernel_rfl)
def C36 : T (prodTy A36) → Option (T (prodTy B36)) := sF Try.prog [(52, ⟨A52, B52, C52⟩), (51, ⟨A51, B51, C51⟩)] (fun _ _ _ _ => none) (fun _ _ => false) 100 36 A36 B36
theorem C36_ok : Con.Ok Try.prog 36 ⟨A36, B36, C36⟩ := sF_ok (tblOk_cons C52_ok (tblOk_cons C51_ok tblOk_nil)) special (by kernel_rfl)
def C37 : T (prodTy A37) → Option (T (prodTy B37)) := sF Try.prog [] (fun _ _ _ _ => none) (fun _ _ => false) 100 37 A37 B37
theorem C37_ok : Con.Ok Try.prog 37 ⟨A37, B37, C37⟩ := sF_ok tblOk_nil special (by kernel_rfl)
def C20 : T (prodTy A20) → Option (T (prodTy B20)) := sF Try.prog [(12, ⟨A12, B12, C12⟩), (37, ⟨A37, B37, C37⟩), (39, ⟨A39, B39, C39⟩), (40, ⟨A40, B40, C40⟩)] (fun _ _ _ _ => none) (fun _ _ => false) 100 20 A20 B20
theorem C20_ok : Con.Ok Try.prog 20 ⟨A20, B20, C20⟩ := sF_ok (tblOk_cons C12_ok (tblOk_cons C37_ok (tblOk_cons C39_ok (tblOk_cons C40_ok tblOk_nil)))) special (by kernel_rfl)
def C21 : T (prodTy A21) → Option (T (prodTy B21)) := sF Try.prog [(12, ⟨A12, B12, C12⟩), (37, ⟨A37, B37, C37⟩), (41, ⟨A41, B41, C41⟩)] (fun _ _ _ _ => none) (fun _ _ => false) 100 21 A21 B21
theorem C21_ok : Con.Ok Try.prog 21 ⟨A21, B21, C21⟩ := sF_ok (tblOk_cons C12_ok (tblOk_cons C37_ok (tblOk_cons C41_ok tblOk_nil))) special (by kernel_rfl)
def C18 : T (prodTy A18) → Option (T (prodTy B18)) := sF Try.prog [(12, ⟨A12, B12, C12⟩), (36, ⟨A36, B36, C36⟩)] (fun _ _ _ _ => none) (fun _ _ => false) 100 18 A18 B18
theorem C18_ok : Con.Ok Try.prog 18 ⟨A18, B18, C18⟩ := sF_ok (tblOk_cons C12_ok (tblOk_cons C36_ok tblOk_nil)) special (by kernel_rfl)
def C19 : T (prodTy A19) → Option (T (prodTy B19)) := sF Try.prog [(12, ⟨A12, B12, C12⟩), (37, ⟨A37, B37, C37⟩), (38, ⟨A38, B38, C38⟩)] (fun _ _ _ _ => none) (fun _ _ => false) 100 19 A19 B19
theorem C19_ok : Con.Ok Try.prog 19 ⟨A19, B19, C19⟩ := sF_ok (tblOk_cons C12_ok (tblOk_cons C37_ok (tblOk_cons C38_ok tblOk_nil))) special (by kernel_rfl)
def C14 : T (prodTy A14) → Option (T (prodTy B14)) := sF Try.prog [] (fun _ _ _ _ => none) (fun _ _ => false) 100 14 A14 B14
theorem C14_ok : Con.Ok Try.prog 14 ⟨A14, B14, C14⟩ := sF_ok tblOk_nil special (by kernel_rfl)
def C15 : T (prodTy A15) → Option (T (prodTy B15)) := sF Try.prog [] (fun _ _ _ _ => none) (fun _ _ => false) 100 15 A15 B15
theorem C15_ok : Con.Ok Try.prog 15 ⟨A15, B15, C15⟩ := sF_ok tblOk_nil special (by kernel_rfl)
abbrev A23 : List VT := [⟨false, I⟩, ⟨false, I⟩]
abbrev B23 : List VT := [⟨true, (.pair I (.pair I (.pair I (.pair I I))))⟩]
def C23 : T (prodTy A23) → Option (T (prodTy B23)) := sF Try.prog [] (fun _ _ _ _ => none) (fun _ _ => false) 100 23 A23 B23
theorem C23_ok : Con.Ok Try.prog 23 ⟨A23, B23, C23⟩ := sF_ok tblOk_nil special (by kernel_rfl)
def C31 : T (prodTy A31) → Option (T (prodTy B31)) := sF Try.prog [(39, ⟨A39, B39, C39⟩)] (fun _ _ _ _ => none) (fun _ _ => false) 100 31 A31 B31
theorem C31_ok : Con.Ok Try.prog 31 ⟨A31, B31, C31⟩ := sF_ok (tblOk_cons C39_ok tblOk_nil) special (by kernel_rfl)
abbrev A24 : List VT := [⟨false, (.list (.pair I (.pair I (.pair I (.pair I (.pair I I))))))⟩, ⟨false, (.list (.pair I (.pair I (.pair I (.pair I (.pair I I))))))⟩]
abbrev B24 : List VT := [⟨false, .bool⟩]
def C24 : T (prodTy A24) → Option (T (prodTy B24)) := sF Try.prog [] (fun _ _ _ _ => none) (fun _ _ => false) 100 24 A24 B24
theorem C24_ok : Con.Ok Try.prog 24 ⟨A24, B24, C24⟩ := sF_ok tblOk_nil special (by kernel_rfl)
def C16 : T (prodTy A16) → Option (T (prodTy B16)) := sF Try.prog [(12, ⟨A12, B12, C12⟩), (31, ⟨A31, B31, C31⟩), (38, ⟨A38, B38, C38⟩), (40, ⟨A40, B40, C40⟩), (41, ⟨A41, B41, C41⟩), (36, ⟨A36, B36, C36⟩)] (fun _ _ _ _ => none) (fun _ _ => false) 100 16 A16 B16
theorem C16_ok : Con.Ok Try.prog 16 ⟨A16, B16, C16⟩ := sF_ok (tblOk_cons C12_ok (tblOk_cons C31_ok (tblOk_cons C38_ok (tblOk_cons C40_ok (tblOk_cons C41_ok (tblOk_cons C36_ok tblOk_nil)))))) special (by kernel_rfl)
abbrev A7 : List VT := []
abbrev B7 : List VT := [⟨false, .bool⟩]
def C7 : T (prodTy A7) → Option (T (prodTy B7)) := sF Try.prog [(14, ⟨A14, B14, C14⟩), (15, ⟨A15, B15, C15⟩), (8, ⟨A8, B8, C8⟩), (23, ⟨A23, B23, C23⟩), (16, ⟨A16, B16, C16⟩), (20, ⟨A20, B20, C20⟩), (21, ⟨A21, B21, C21⟩), (18, ⟨A18, B18, C18⟩), (19, ⟨A19, B19, C19⟩), (24, ⟨A24, B24, C24⟩), (12, ⟨A12, B12, C12⟩)] (fun _ _ _ _ => none) (fun _ _ => false) 100 7 A7 B7
theorem C7_ok : Con.Ok Try.prog 7 ⟨A7, B7, C7⟩ := sF_ok (tblOk_cons C14_ok (tblOk_cons C15_ok (tblOk_cons C8_ok (tblOk_cons C23_ok (tblOk_cons C16_ok (tblOk_cons C20_ok (tblOk_cons C21_ok (tblOk_cons C18_ok (tblOk_cons C19_ok (tblOk_cons C24_ok (tblOk_cons C12_ok tblOk_nil))))))))))) special (by kernel_rfl)
theorem run7 : C7 () = some (true, ()) := by kernel_rfl
abbrev K7 : Unit → Option (Bool × Unit) := C7
theorem K7_ok : Con.Ok Try.prog 7 ⟨A7, B7, K7⟩ := C7_ok
theorem K7_s : K7 () = some (true, ()) := run7
end Go.Proofs.Ytfpbgiaiifcnlaa.pg
/- What the port's functions make of valid data: items, parts, gate lists, lines, queues. -/
namespace Go.Proofs.Ytfpbgiaiifcnlaa.pg
open Go Go.Fz Go.Fz.Sy
set_option linter.unusedVariables false
set_option linter.unusedSimpArgs false
abbrev Item := Int × Int × Int × Int × Int
abbrev Part := Item × Int × Bool
abbrev Queue := Int × List Part
abbrev Gates := List (Int × Int) × Int
abbrev Line := Gates × Int × Int
abbrev Port := Line × Int × List Queue × Bool × Part × Int × Int × Int
abbrev zI : Item := (0, 0, 0, 0, 0)
abbrev zP : Part := (zI, 0, false)
structure itemOk (x : Item) : Prop where
  s0 : 0 ≤ x.1
  s1 : x.1 ≤ 1099511627776
  q0 : 0 ≤ x.2.1
  q1 : x.2.1 ≤ 1099511627776
  c0 : 0 ≤ x.2.2.1
  c1 : x.2.2.1 ≤ 7
  z0 : 84 ≤ x.2.2.2.1
  z1 : x.2.2.2.1 ≤ 1542
  t0 : 0 ≤ x.2.2.2.2
  t1 : x.2.2.2.2 ≤ 1099511627776
structure partOk (x : Part) : Prop where
  it : itemOk x.1
  sh : (x.2.1 = x.1.2.2.2.1 ∧ x.2.2 = false) ∨ (x.2.2 = true ∧ x.1.2.2.1 ≤ 5 ∧ 88 ≤ x.2.1 ∧ x.2.1 ≤ x.1.2.2.2.1 - 40)
theorem partOk.left {x : Part} (h : partOk x) : 44 ≤ x.2.1 ∧ x.2.1 ≤ 1542 := by
  have := h.it.z0; have := h.it.z1
  rcases h.sh with ⟨h1, _⟩ | ⟨_, _, h1, h2⟩ <;> omega
theorem K44_s (a b c : Int) : K44 (a, b, c, ()) = some (decide (b ≤ a) && decide (a ≤ c), ()) := by
  rw [K44_eq]; unfold R44
  simp only [iltF_eq]
  by_cases h : a < b
  · have : ¬ b ≤ a := by omega
    simp [h, this]
  · have : b ≤ a := by omega
    by_cases h2 : c < a
    · have : ¬ a ≤ c := by omega
      simp [h, h2, this]
    · have h3 : a ≤ c := by omega
      simp [h, h2, this, h3]
theorem K39_s {x : Item} (h : itemOk x) : K39 (x, ()) = some (0, ()) := by
  obtain ⟨h1, h2, h3, h4, h5, h6, h7, h8, h9, h10⟩ := h
  rw [K39_eq]; unfold R39
  simp only [K44_s, opt_s, h1, h2, h3, h4, h5, h6, h7, h8, h9, h10, decide_true, Bool.and_self, Bool.not_true, cond_false]
  rfl
theorem K63_s (x : Item) : K63 (x, ()) = some ((x, x.2.2.2.1, false), ()) := by rw [K63_eq]; rfl
theorem K47_s {x : Part} (h : partOk x) : K47 (x, ()) = some (0, ()) := by
  obtain ⟨h0, h1⟩ := h
  have := h0.z0; have := h0.z1
  have e : wrF .i64 (x.1.2.2.2.1 - 40) = x.1.2.2.2.1 - 40 := wr64 (by omega) (by omega)
  rw [K47_eq]; unfold R47
  simp only [K39_s h0, K63_s, opt_s, ieqF_eq, iltF_eq, e]
  rcases h1 with ⟨h1, h2⟩ | ⟨h1, h2, h3, h4⟩
  · simp [h1, h2]
  · have h5 : ¬ 5 < x.1.2.2.1 := by omega
    have h6 : ¬ x.2.1 = x.1.2.2.2.1 := by omega
    simp [h1, h5, h6, K44_s, opt_s, h3, h4]
/-! ### Gate lists -/
structure gatesOk (g : Gates) : Prop where
  n0 : 1 ≤ g.1.length
  n1 : g.1.length ≤ 128
  el : ∀ e ∈ g.1, 0 ≤ e.1 ∧ e.1 ≤ 255 ∧ 1 ≤ e.2 ∧ e.2 ≤ 9600000
  cy : (g.1.map (·.2)).sum = g.2
  c1 : g.2 ≤ 9600000
theorem sum_take_le {l : List Int} (h : ∀ x ∈ l, 0 ≤ x) : ∀ n, 0 ≤ (l.take n).sum ∧ (l.take n).sum ≤ l.sum := by
  induction l with
  | nil => intro n; simp
  | cons a l ih =>
    intro n
    have ha := h a (by simp)
    have ih := ih (fun x hx => h x (by simp [hx]))
    cases n with
    | zero => have := (ih l.length).1; simp at this ⊢; omega
    | succ n => have := ih n; simp; omega
theorem sum_take_succ {l : List Int} {n : Nat} {x : Int} (h : l[n]? = some x) : (l.take (n + 1)).sum = (l.take n).sum + x := by
  rw [List.take_add_one, h]; simp
theorem K17_s {g : Gates} (h : gatesOk g) : K17 (g, ()) = some (0, ()) := by
  have h0 := h.n0; have h1 := h.n1
  have hnn : ∀ x ∈ g.1.map (·.2), 0 ≤ x := fun x hx => by
    obtain ⟨e, he, rfl⟩ := List.mem_map.1 hx
    have := (h.el e he).2.2.1; omega
  have hs : ∀ n, 0 ≤ ((g.1.map (·.2)).take n).sum ∧ ((g.1.map (·.2)).take n).sum ≤ 9600000 := fun n => by
    have := sum_take_le hnn n
    have := h.cy; have := h.c1; omega
  rw [K17_eq]; unfold R17
  have c1 : ¬ ((g.1.length : Nat) : Int) < 1 := by omega
  have c2 : ¬ 128 < ((g.1.length : Nat) : Int) := by omega
  simp only [iltF_eq, c1, c2, decide_false, cond_false, opt_s]
  rw [show (Nat.beq 0 0) = true from rfl, cond_true]
  rw [iter_steps (st := fun i => ((0, ((g.1.map (·.2)).take i).sum, (i : Int), ()), ())) (n := g.1.length) (x := (0, ((0, ((g.1.map (·.2)).take g.1.length).sum, (g.1.length : Int), ()), ()))) ?_ ?_ ?_ (by omega)]
  · simp only [opt_s]
    rw [show (Nat.beq 0 0) = true from rfl, cond_true]
    have e1 : ((g.1.map (·.2)).take g.1.length).sum = g.2 := by
      rw [List.take_of_length_le (by simp)]; exact h.cy
    have c3 : ¬ 9600000 < g.2 := by have := h.c1; omega
    simp only [e1, ieqF_eq, beq_self_eq_true, Bool.not_true, cond_false, c3, decide_false, opt_s]
    rfl
  · simp
  · intro i hi
    have hx : g.1[i]? = some g.1[i] := List.getElem?_eq_getElem hi
    obtain ⟨x1, x2, x3, x4⟩ := h.el _ (List.getElem_mem hi)
    have hlt : ((i : Int) < ((g.1.length : Nat) : Int)) := by omega
    have d1 : ¬ g.1[i].1 < 0 := by omega
    have d2 : ¬ 255 < g.1[i].1 := by omega
    have d3 : ¬ g.1[i].2 < 1 := by omega
    have d4 : ¬ 9600000 < g.1[i].2 := by omega
    have e2 := sum_take_succ (l := g.1.map (·.2)) (n := i) (x := g.1[i].2) (by simp [hx])
    have e3 : wrF .i64 (((g.1.map (·.2)).take i).sum + g.1[i].2) = ((g.1.map (·.2)).take (i + 1)).sum := by
      rw [e2, wr64] <;> (have := hs i; omega)
    have e4 : wrF .i64 ((i : Int) + 1) = ((i + 1 : Nat) : Int) := by rw [wr64] <;> omega
    simp only [hlt, decide_true, cond_true, atI_get hx, opt_s, d1, d2, d3, d4, decide_false, cond_false, e3, e4]
    rfl
  · have : ¬ ((g.1.length : Nat) : Int) < ((g.1.length : Nat) : Int) := by omega
    simp only [this, decide_false, cond_false]
theorem K17_nil : K17 (([], 0), ()) = some (370, ()) := by rw [K17_eq]; rfl
structure lineOk (l : Line) : Prop where
  g : gatesOk l.1
  p0 : 1 ≤ l.2.1
  p1 : l.2.1 ≤ 1000
  s0 : -1000 ≤ l.2.2
  s1 : l.2.2 ≤ 1000
theorem K25_s {l : Line} (h : lineOk l) : K25 (l, ()) = some (0, ()) := by
  obtain ⟨h1, h2, h3, h4, h5⟩ := h
  have d1 : ¬ l.2.1 < 1 := by omega
  have d2 : ¬ 1000 < l.2.1 := by omega
  have d3 : ¬ l.2.2 < -1000 := by omega
  have d4 : ¬ 1000 < l.2.2 := by omega
  rw [K25_eq]; unfold R25
  simp only [K17_s h1, opt_s, ieqF_eq, iltF_eq, d1, d2, d3, d4, decide_false, cond_false, beq_self_eq_true, Bool.not_true]
  rfl
end Go.Proofs.Ytfpbgiaiifcnlaa.pg
/- What the port's functions make of valid queues. -/
namespace Go.Proofs.Ytfpbgiaiifcnlaa.pg
open Go Go.Fz Go.Fz.Sy
set_option linter.unusedVariables false
set_option linter.unusedSimpArgs false
def fr1 (x : Part) : Int := if x.2.2 then 0 else x.2.1
def frS (l : List Part) : Int := (l.map fr1).sum
def ocS (l : List Part) : Int := (l.map (·.2.1)).sum
theorem K83_s (x : Part) : K83 (x, ()) = some (fr1 x, ()) := by
  rw [K83_eq]; unfold R83 fr1
  cases x.2.2 <;> simp
theorem K88_s (x : Part) : K88 (x, ()) = some (x.2.1, ()) := by rw [K88_eq]; rfl
theorem sum_bd {l : List Int} {M : Int} (h : ∀ x ∈ l, 0 ≤ x ∧ x ≤ M) (n : Nat) : 0 ≤ (l.take n).sum ∧ (l.take n).sum ≤ M * l.length := by
  induction l generalizing n with
  | nil => simp
  | cons a l ih =>
    have ha := h a (by simp)
    cases n with
    | zero =>
      have := ih (fun x hx => h x (by simp [hx])) l.length
      rw [List.take_length] at this
      have h2 : M * ((l.length + 1 : Nat) : Int) = M * l.length + M := by push_cast; rw [Int.mul_add]; omega
      simp only [List.take_zero, List.sum_nil, List.length_cons]
      omega
    | succ n =>
      have := ih (fun x hx => h x (by simp [hx])) n
      have h2 : M * ((l.length + 1 : Nat) : Int) = M * l.length + M := by push_cast; rw [Int.mul_add]; omega
      simp only [List.take_succ_cons, List.sum_cons, List.length_cons]
      omega
theorem fr1_bd {x : Part} (h : partOk x) : 0 ≤ fr1 x ∧ fr1 x ≤ 1542 := by
  have := h.left
  unfold fr1; split <;> omega
theorem fold65 {q : Queue} (f : Part → Int) (hb : ∀ x ∈ q.2, 0 ≤ f x ∧ f x ≤ 1542) (hn : q.2.length ≤ 1000) (n : Nat) : 0 ≤ ((q.2.map f).take n).sum ∧ ((q.2.map f).take n).sum ≤ 1542000 := by
  have := sum_bd (l := q.2.map f) (M := 1542) (fun y hy => by
    obtain ⟨x, hx, rfl⟩ := List.mem_map.1 hy
    exact hb x hx) n
  simp only [List.length_map] at this
  omega
theorem K65_s {q : Queue} (hp : ∀ x ∈ q.2, partOk x) (hn : q.2.length ≤ 1000) : K65 (q, ()) = some (frS q.2, ()) := by
  have hs := fold65 (q := q) fr1 (fun x hx => fr1_bd (hp x hx)) hn
  rw [K65_eq]; unfold R65
  rw [iter_steps (st := fun i => ((((q.2.map fr1).take i).sum, (i : Int), ()), ())) (n := q.2.length) (x := (0, ((((q.2.map fr1).take q.2.length).sum, (q.2.length : Int), ()), ()))) ?_ ?_ ?_ (by omega)]
  · simp only [opt_s]
    rw [List.take_of_length_le (by simp)]
    rfl
  · simp
  · intro i hi
    have hx : q.2[i]? = some q.2[i] := List.getElem?_eq_getElem hi
    have hlt : ((i : Int) < ((q.2.length : Nat) : Int)) := by omega
    have e2 := sum_take_succ (l := q.2.map fr1) (n := i) (x := fr1 q.2[i]) (by simp [hx])
    have e3 : wrF .i64 (((q.2.map fr1).take i).sum + fr1 q.2[i]) = ((q.2.map fr1).take (i + 1)).sum := by
      rw [e2, wr64] <;> (have := hs i; have := fr1_bd (hp _ (List.getElem_mem hi)); omega)
    have e4 : wrF .i64 ((i : Int) + 1) = ((i + 1 : Nat) : Int) := by rw [wr64] <;> omega
    simp only [iltF_eq, hlt, decide_true, cond_true, atI_get hx, opt_s, K83_s, e3, e4]
  · have : ¬ ((q.2.length : Nat) : Int) < ((q.2.length : Nat) : Int) := by omega
    simp only [iltF_eq, this, decide_false, cond_false]
theorem K70_s {q : Queue} (hp : ∀ x ∈ q.2, partOk x) (hn : q.2.length ≤ 1000) : K70 (q, ()) = some (ocS q.2, ()) := by
  have hs := fold65 (q := q) (·.2.1) (fun x hx => by have := (hp x hx).left; omega) hn
  rw [K70_eq]; unfold R70
  rw [iter_steps (st := fun i => ((((q.2.map (·.2.1)).take i).sum, (i : Int), ()), ())) (n := q.2.length) (x := (0, ((((q.2.map (·.2.1)).take q.2.length).sum, (q.2.length : Int), ()), ()))) ?_ ?_ ?_ (by omega)]
  · simp only [opt_s]
    rw [List.take_of_length_le (by simp)]
    rfl
  · simp
  · intro i hi
    have hx : q.2[i]? = some q.2[i] := List.getElem?_eq_getElem hi
    have hlt : ((i : Int) < ((q.2.length : Nat) : Int)) := by omega
    have e2 := sum_take_succ (l := q.2.map (·.2.1)) (n := i) (x := q.2[i].2.1) (by simp [hx])
    have e3 : wrF .i64 (((q.2.map (·.2.1)).take i).sum + q.2[i].2.1) = ((q.2.map (·.2.1)).take (i + 1)).sum := by
      rw [e2, wr64] <;> (have := hs i; have := (hp _ (List.getElem_mem hi)).left; omega)
    have e4 : wrF .i64 ((i : Int) + 1) = ((i + 1 : Nat) : Int) := by rw [wr64] <;> omega
    simp only [iltF_eq, hlt, decide_true, cond_true, atI_get hx, opt_s, K88_s, e3, e4]
  · have : ¬ ((q.2.length : Nat) : Int) < ((q.2.length : Nat) : Int) := by omega
    simp only [iltF_eq, this, decide_false, cond_false]
structure queueOk (q : Queue) : Prop where
  c0 : 0 ≤ q.1
  c1 : q.1 ≤ 65536
  n1 : q.2.length ≤ 1000
  ps : ∀ x ∈ q.2, partOk x
  rs : ∀ (i : Nat) x, q.2[i]? = some x → x.2.2 = true → i = 0
  fr : frS q.2 ≤ q.1
theorem K49_s {q : Queue} (h : queueOk q) : K49 (q, ()) = some (0, ()) := by
  obtain ⟨h0, h1, hn, hp, hr, hf⟩ := h
  rw [K49_eq]; unfold R49
  simp only [K44_s, opt_s, h0, h1, decide_true, Bool.and_self, Bool.not_true, cond_false]
  rw [iter_steps (st := fun i => ((false, (i : Int), ()), ((), (), ()))) (n := q.2.length) (x := (0, ((false, (q.2.length : Int), ()), ((), (), ())))) ?_ ?_ ?_ (by omega)]
  · have c : ¬ q.1 < frS q.2 := by omega
    simp only [opt_s, cond_false, K65_s hp hn, iltF_eq, c, decide_false]
    rfl
  · simp
  · intro i hi
    have hx : q.2[i]? = some q.2[i] := List.getElem?_eq_getElem hi
    have hlt : ((i : Int) < ((q.2.length : Nat) : Int)) := by omega
    have e4 : wrF .i64 ((i : Int) + 1) = ((i + 1 : Nat) : Int) := by rw [wr64] <;> omega
    simp only [iltF_eq, ieqF_eq, hlt, decide_true, cond_true, atI_get hx, opt_s, K47_s (hp _ (List.getElem_mem hi)), beq_self_eq_true, Bool.not_true, cond_false, e4]
    cases hrest : q.2[i].2.2 with
    | false => rfl
    | true =>
      have : i = 0 := hr i _ hx hrest
      subst this
      rfl
  · have : ¬ ((q.2.length : Nat) : Int) < ((q.2.length : Nat) : Int) := by omega
    simp only [iltF_eq, this, decide_false, cond_false]
theorem cutI_all {α : Type} (l : List α) : cutI l none (some ((l.length : Nat) : Int)) (some ((l.length : Nat) : Int)) = some l := by
  show (match (bif Nat.ble l.length l.length then some l.length else none) with | some h => (match some 0 with | some p => bif (Nat.beq l.length h) then some ((l.take h).drop p) else none | none => none) | none => none) = _
  rw [show Nat.ble l.length l.length = true from Nat.ble_eq_true_of_le (Nat.le_refl _)]
  simp
theorem cutI_from {α : Type} (l : List α) (n : Nat) (h : n ≤ l.length) : cutI l (some (n : Int)) none none = some (l.drop n) := by
  show (match (bif Nat.ble n l.length then some n else none) with | some p => bif true then some ((l.take l.length).drop p) else none | none => none) = _
  rw [show Nat.ble n l.length = true from Nat.ble_eq_true_of_le h]
  simp
theorem cutI_to {α : Type} (l : List α) (n : Nat) (h : n ≤ l.length) : cutI l none (some (n : Int)) none = some (l.take n) := by
  show (match (bif Nat.ble n l.length then some n else none) with | some h => (match some 0 with | some p => bif true then some ((l.take h).drop p) else none | none => none) | none => none) = _
  rw [show Nat.ble n l.length = true from Nat.ble_eq_true_of_le h]
  simp
theorem appOk_s {n m b : Nat} (h : n + m ≤ 100000) (hb : b ≤ 1000) : appOk n m b = true := by
  unfold appOk
  have h1 : n + m ≤ maxLen := Nat.le_trans h (by decide)
  have h2 : (n + m) * b ≤ 100000 * 1000 := Nat.mul_le_mul h hb
  rw [Nat.ble_eq_true_of_le h1, Nat.ble_eq_true_of_le (Nat.le_trans h2 (by omega))]
  rfl
theorem K57_s {q : Queue} {x : Item} (h : queueOk q) (hx : itemOk x) (hc : ocS q.2 + x.2.2.2.1 ≤ q.1) : K57 (q, x, ()) = some ((q.1, q.2 ++ [(x, x.2.2.2.1, false)]), true, 0, ()) := by
  have := h.c1; have := hx.z0
  have h0 : 0 ≤ ocS q.2 := by
    have := (fold65 (q := q) (·.2.1) (fun x hx => by have := (h.ps x hx).left; omega) h.n1 q.2.length).1
    rwa [List.take_of_length_le (by simp)] at this
  have e1 : wrF .i64 (ocS q.2 + x.2.2.2.1) = ocS q.2 + x.2.2.2.1 := wr64 (by omega) (by omega)
  have c1 : ¬ q.1 < ocS q.2 + x.2.2.2.1 := by omega
  have := h.n1
  rw [K57_eq]; unfold R57
  simp only [K49_s h, K39_s hx, K70_s h.ps h.n1, opt_s, ieqF_eq, iltF_eq, beq_self_eq_true, Bool.not_true, cond_false, e1, c1, decide_false, cutI_all, K63_s, List.length_cons, List.length_nil]
  rw [appOk_s (by omega) (by omega)]
  rfl
def hd (q : Queue) : Part := match q.2 with
  | [] => zP
  | x :: _ => x
theorem K69_s {q : Queue} (h : queueOk q) : K69 (q, ()) = some (hd q, !q.2.isEmpty, ()) := by
  rw [K69_eq]; unfold R69 hd
  simp only [K49_s h, opt_s, ieqF_eq, beq_self_eq_true, Bool.not_true, cond_false]
  cases hq : q.2 with
  | nil => rfl
  | cons y r =>
    have : ¬ ((y :: r).length : Int) = 0 := by simp; omega
    simp only [beq_iff_eq, this, Bool.false_eq_true, List.length_cons]
    rw [show (((r.length + 1 : Nat) : Int) == 0) = false by simp; omega]
    simp only [cond_false, opt_s]
    rw [show (Nat.beq 0 0) = true from rfl, cond_true, hq]
    rfl
theorem K75_s {q : Queue} (h : queueOk q) {x : Part} {r : List Part} (hq : q.2 = x :: r) : K75 (q, ()) = some ((q.1, r), x, 0, ()) := by
  rw [K75_eq]; unfold R75
  simp only [K49_s h, opt_s, ieqF_eq, beq_self_eq_true, Bool.not_true, cond_false, hq]
  rw [show ((((x :: r).length : Nat) : Int) == 0) = false by simp; omega]
  have e := cutI_from (x :: r) 1 (by simp)
  simp only [cond_false]
  rw [show (some (1 : Int)) = some ((1 : Nat) : Int) from rfl, e]
  rfl
theorem K55_s {q : Queue} (h : queueOk q) {x : Part} (hx : partOk x) (hr : x.2.2 = true) (hn : ∀ y, q.2[0]? = some y → y.2.2 = false) : K55 (q, x, ()) = some ((q.1, x :: q.2), 0, ()) := by
  have := h.n1
  rw [K55_eq]; unfold R55
  simp only [K49_s h, K47_s hx, opt_s, ieqF_eq, iltF_eq, beq_self_eq_true, Bool.not_true, cond_false, hr]
  have key : ∀ (b : Bool) (k : Nat × ((Int × List Part) × Int × Unit) × Unit → Option (Queue × Int × Unit)), opt (bif decide ((0 : Int) < ((q.2.length : Nat) : Int)) then opt (atI q.2 0) fun x2 => bif x2.2.2 then some (0 + 1, ((0, []), 2, ()), ()) else some (0, ((0, []), 0, ()), ()) else some (0, ((0, []), 0, ()), ())) k = k (0, ((0, []), 0, ()), ()) := fun b k => by
    cases hq : q.2 with
    | nil => rfl
    | cons y r =>
      have hy := hn y (by rw [hq]; rfl)
      have : (0 : Int) < (((y :: r).length : Nat) : Int) := by simp only [List.length_cons]; omega
      simp only [this, decide_true, cond_true]
      show opt (opt (some y) _) k = _
      simp only [opt_s, hy, cond_false]
  rw [key true]
  simp only [show (Nat.beq 0 0) = true from rfl, cond_true, show cutI (x :: []) none (some 1) (some 1) = some [x] from rfl, opt_s, List.length_cons, List.length_nil]
  rw [appOk_s (by omega) (by omega)]
  rfl
end Go.Proofs.Ytfpbgiaiifcnlaa.pg
/- What the port's functions make of valid ports: Check. -/
namespace Go.Proofs.Ytfpbgiaiifcnlaa.pg
open Go Go.Fz Go.Fz.Sy
set_option linter.unusedVariables false
set_option linter.unusedSimpArgs false
def r1 (x : Part) : Int := if x.2.2 then 1 else 0
def rq (l : List Part) : Int := (l.map r1).sum
def rT (qs : List Queue) : Int := (qs.map fun q => rq q.2).sum
theorem r1_bd (x : Part) : 0 ≤ r1 x ∧ r1 x ≤ 1 := by unfold r1; split <;> omega
theorem rq_bd (l : List Part) (n : Nat) : 0 ≤ ((l.map r1).take n).sum ∧ ((l.map r1).take n).sum ≤ l.length := by
  have := sum_bd (l := l.map r1) (M := 1) (fun y hy => by
    obtain ⟨x, hx, rfl⟩ := List.mem_map.1 hy
    exact r1_bd x) n
  simp only [List.length_map] at this
  omega
theorem rq_all (l : List Part) : 0 ≤ rq l ∧ rq l ≤ l.length := by
  have := rq_bd l l.length
  rwa [List.take_of_length_le (by simp)] at this
def pre (p : Port) : Bool := p.2.2.2.1 && decide (p.2.2.2.2.1.1.2.2.1 < 6)
theorem K48_s (p : Port) : K48 (p, ()) = some (pre p, ()) := by
  rw [K48_eq]; unfold R48 pre
  cases p.2.2.2.1 <;> simp [iltF_eq]
structure qsOk (qs : List Queue) : Prop where
  n8 : qs.length = 8
  qs : ∀ (i : Nat) q, qs[i]? = some q → queueOk q ∧ ∀ x ∈ q.2, x.1.2.2.1 = (i : Int)
theorem rT_bd {qs : List Queue} (h : qsOk qs) (n : Nat) : 0 ≤ ((qs.map fun q => rq q.2).take n).sum ∧ ((qs.map fun q => rq q.2).take n).sum ≤ 8000 := by
  have := sum_bd (l := qs.map fun q => rq q.2) (M := 1000) (fun y hy => by
    obtain ⟨q, hq, rfl⟩ := List.mem_map.1 hy
    obtain ⟨i, hi⟩ := List.getElem?_of_mem hq
    have := (h.qs i q hi).1.n1
    have := rq_all q.2
    omega) n
  have h8 := h.n8
  simp only [List.length_map] at this
  omega
theorem inner30 {l : List Part} {c : Int} (hc : ∀ x ∈ l, x.1.2.2.1 = c) (hn : l.length ≤ 1000) {r0 : Int} (h0 : 0 ≤ r0) (h1 : r0 ≤ 8000) :
    iterK (fun s3 : ((Bool × (Int × (Int × Unit))) × Unit) =>
            bif (iltF (s3.1.2.2.1) ((((l).length : Nat) : Int))) then opt (atI (l) (s3.1.2.2.1)) fun x4 =>
              bif !(ieqF (x4.1.2.2.1) (c)) then some (.inl ((0 + 1), ((false, (s3.1.2.1, (s3.1.2.2.1, ()))), ())))
              else opt (bif x4.2.2 then some (0, (((wrF .i64 ((s3.1.2.1 + 1))), ()), ()))
                  else some (0, ((s3.1.2.1, ()), ()))) fun x5 =>
                some (.inr ((s3.1.1, (x5.2.1.1, ((wrF .i64 ((s3.1.2.2.1 + 1))), ()))), ()))
            else some (.inl (0, ((s3.1.1, (s3.1.2.1, (s3.1.2.2.1, ()))), ())))) bigN ((false, (r0, (0, ()))), ()) = some ((0 : Nat), ((false, (r0 + rq l, ((l.length : Nat) : Int), ())), ())) := by
  rw [iter_steps (st := fun i => ((false, r0 + ((l.map r1).take i).sum, (i : Int), ()), ())) (n := l.length) (x := (0, ((false, r0 + ((l.map r1).take l.length).sum, (l.length : Int), ()), ()))) ?_ ?_ ?_ (by omega)]
  · rw [List.take_of_length_le (by simp)]; rfl
  · simp
  · intro i hi
    have hx : l[i]? = some l[i] := List.getElem?_eq_getElem hi
    have hlt : ((i : Int) < ((l.length : Nat) : Int)) := by omega
    have e2 := sum_take_succ (l := l.map r1) (n := i) (x := r1 l[i]) (by simp [hx])
    have e4 : wrF .i64 ((i : Int) + 1) = ((i + 1 : Nat) : Int) := by rw [wr64] <;> omega
    have hcl := hc _ (List.getElem_mem hi)
    have hb := rq_bd l i
    simp only [iltF_eq, ieqF_eq, hlt, decide_true, cond_true, atI_get hx, opt_s, hcl, beq_self_eq_true, Bool.not_true, cond_false, e4, e2]
    cases hr : l[i].2.2 with
    | true =>
      have e5 : wrF .i64 (r0 + ((l.map r1).take i).sum + 1) = r0 + (((l.map r1).take i).sum + r1 l[i]) := by
        have : r1 l[i] = 1 := by unfold r1; rw [hr]; rfl
        rw [this, wr64] <;> omega
      simp only [cond_true, opt_s, e5]
    | false =>
      have : r1 l[i] = 0 := by unfold r1; rw [hr]; rfl
      simp only [cond_false, opt_s, this, Int.add_zero]
  · have : ¬ ((l.length : Nat) : Int) < ((l.length : Nat) : Int) := by omega
    simp only [iltF_eq, this, decide_false, cond_false]
theorem K30_s {p : Port} (h : qsOk p.2.2.1) : K30 (p, ()) = some (bif rT p.2.2.1 == 0 then true else bif rT p.2.2.1 == 1 then !pre p else false, ()) := by
  have h8 := h.n8
  rw [K30_eq]; unfold R30
  rw [show (ieqF ((p.2.2.1.length : Nat) : Int) 8) = true by rw [ieqF_eq, h8]; rfl]
  simp only [Bool.not_true, cond_false]
  rw [iter_steps (st := fun i => ((false, ((p.2.2.1.map fun q => rq q.2).take i).sum, (i : Int), ()), ())) (n := p.2.2.1.length) (x := (0, ((false, ((p.2.2.1.map fun q => rq q.2).take p.2.2.1.length).sum, (p.2.2.1.length : Int), ()), ()))) ?_ ?_ ?_ (by omega)]
  · rw [List.take_of_length_le (by simp)]
    simp only [opt_s, show (Nat.beq 0 0) = true from rfl, cond_true, ieqF_eq, K48_s]
    show (bif rT p.2.2.1 == 0 then some (true, ()) else bif rT p.2.2.1 == 1 then some (!pre p, ()) else some (false, ())) = _
    cases rT p.2.2.1 == 0 <;> cases rT p.2.2.1 == 1 <;> rfl
  · simp
  · intro i hi
    have hx : p.2.2.1[i]? = some p.2.2.1[i] := List.getElem?_eq_getElem hi
    obtain ⟨hq, hcl⟩ := h.qs i _ hx
    have hlt : ((i : Int) < ((p.2.2.1.length : Nat) : Int)) := by omega
    have e2 := sum_take_succ (l := p.2.2.1.map fun q => rq q.2) (n := i) (x := rq p.2.2.1[i].2) (by simp [hx])
    have e4 : wrF .i64 ((i : Int) + 1) = ((i + 1 : Nat) : Int) := by rw [wr64] <;> omega
    have hb := rT_bd h i
    have key := inner30 (l := p.2.2.1[i].2) (c := (i : Int)) hcl hq.n1 hb.1 hb.2
    simp only [iltF_eq, ieqF_eq, hlt, decide_true, cond_true, atI_get hx, opt_s, K49_s hq, beq_self_eq_true, Bool.not_true, cond_false] at key ⊢
    rw [key]
    simp only [opt_s, show (Nat.beq 0 0) = true from rfl, cond_true, e4, e2]
  · have : ¬ ((p.2.2.1.length : Nat) : Int) < ((p.2.2.1.length : Nat) : Int) := by omega
    simp only [iltF_eq, this, decide_false, cond_false]
structure idle (p : Port) : Prop where
  b : p.2.2.2.1 = false
  s : p.2.2.2.2.1 = zP
  g : p.2.2.2.2.2.1 = 0
  e : p.2.2.2.2.2.2.1 = 0
  r : p.2.2.2.2.2.2.2 = 0
structure sends (p : Port) : Prop where
  b : p.2.2.2.1 = true
  s : partOk p.2.2.2.2.1
  g0 : 0 ≤ p.2.2.2.2.2.1
  g1 : p.2.2.2.2.2.1 ≤ p.2.1
  e : p.2.1 ≤ p.2.2.2.2.2.2.1
  r : (p.2.2.2.2.2.2.2 = 0 ∧ p.2.2.2.2.2.2.1 = p.2.2.2.2.2.1 + p.2.2.2.2.1.2.1 * p.1.2.1) ∨
    (p.2.2.2.2.1.1.2.2.1 < 6 ∧ 88 ≤ p.2.2.2.2.2.2.2 ∧ p.2.2.2.2.2.2.2 ≤ p.2.2.2.2.1.2.1 - 40 ∧ p.2.2.2.2.2.2.1 = p.2.2.2.2.2.1 + (p.2.2.2.2.1.2.1 - p.2.2.2.2.2.2.2 + 48) * p.1.2.1)
structure portOk (p : Port) : Prop where
  l : lineOk p.1
  n0 : 0 ≤ p.2.1
  n1 : p.2.1 ≤ 549755813888
  q : qsOk p.2.2.1
  r1 : rT p.2.2.1 ≤ 1
  rp : pre p = true → rT p.2.2.1 = 0
  s : idle p ∨ sends p
theorem mul_bd {a b : Int} (h0 : 0 ≤ a) (h1 : a ≤ 2000) (h2 : 1 ≤ b) (h3 : b ≤ 1000) : 0 ≤ a * b ∧ a * b ≤ 2000000 := by
  have := Int.mul_nonneg h0 (show 0 ≤ b by omega)
  have h4 : a * b ≤ 2000 * 1000 := Int.mul_le_mul h1 h3 (by omega) (by omega)
  omega
theorem K29_s {p : Port} (h : portOk p) : K29 (p, ()) = some (true, ()) := by
  have l0 := h.l.p0; have l1 := h.l.p1; have n1 := h.n1
  rw [K29_eq]; unfold R29
  rcases h.s with hi | hs
  · obtain ⟨b, s, g, e, r⟩ := hi
    rw [b]
    simp only [s, g, e, r, Bool.not_false, cond_true, ieqF_eq]
    rfl
  · obtain ⟨b, s, g0, g1, e, r⟩ := hs
    have hl := s.left
    have hm := mul_bd (a := p.2.2.2.2.1.2.1) (b := p.1.2.1) (by omega) (by omega) l0 l1
    have e1 : wrF .i64 (p.2.2.2.2.1.2.1 * p.1.2.1) = p.2.2.2.2.1.2.1 * p.1.2.1 := wr64 (by omega) (by omega)
    have e2 : wrF .i64 (p.2.2.2.2.2.1 + p.2.2.2.2.1.2.1 * p.1.2.1) = p.2.2.2.2.2.1 + p.2.2.2.2.1.2.1 * p.1.2.1 := wr64 (by omega) (by omega)
    have c1 : ¬ p.2.2.2.2.2.1 < 0 := by omega
    have c2 : ¬ p.2.1 < p.2.2.2.2.2.1 := by omega
    have c3 : ¬ p.2.2.2.2.2.2.1 < p.2.1 := by omega
    rw [b]
    simp only [Bool.not_true, cond_false, K47_s s, opt_s, ieqF_eq, iltF_eq, beq_self_eq_true, c1, c2, c3, decide_false, show (Nat.beq 0 0) = true from rfl, cond_true, K48_s]
    rcases r with ⟨r1, r2⟩ | ⟨r1, r2, r3, r4⟩
    · simp only [r1, beq_self_eq_true, cond_true, e1, e2, r2]
    · have hp : pre p = true := by unfold pre; rw [b]; simp [r1]
      have hz : (p.2.2.2.2.2.2.2 == 0) = false := by simp; omega
      have e3 : wrF .i64 (p.2.2.2.2.1.2.1 - 40) = p.2.2.2.2.1.2.1 - 40 := wr64 (by omega) (by omega)
      have e4 : wrF .i64 (p.2.2.2.2.1.2.1 - p.2.2.2.2.2.2.2) = p.2.2.2.2.1.2.1 - p.2.2.2.2.2.2.2 := wr64 (by omega) (by omega)
      have e5 : wrF .i64 (p.2.2.2.2.1.2.1 - p.2.2.2.2.2.2.2 + 48) = p.2.2.2.2.1.2.1 - p.2.2.2.2.2.2.2 + 48 := wr64 (by omega) (by omega)
      have hm2 := mul_bd (a := p.2.2.2.2.1.2.1 - p.2.2.2.2.2.2.2 + 48) (b := p.1.2.1) (by omega) (by omega) l0 l1
      have e6 : wrF .i64 ((p.2.2.2.2.1.2.1 - p.2.2.2.2.2.2.2 + 48) * p.1.2.1) = (p.2.2.2.2.1.2.1 - p.2.2.2.2.2.2.2 + 48) * p.1.2.1 := wr64 (by omega) (by omega)
      have e7 : wrF .i64 (p.2.2.2.2.2.1 + (p.2.2.2.2.1.2.1 - p.2.2.2.2.2.2.2 + 48) * p.1.2.1) = p.2.2.2.2.2.1 + (p.2.2.2.2.1.2.1 - p.2.2.2.2.2.2.2 + 48) * p.1.2.1 := wr64 (by omega) (by omega)
      have c4 : ¬ p.2.2.2.2.2.2.2 < 88 := by omega
      have c5 : ¬ p.2.2.2.2.1.2.1 - 40 < p.2.2.2.2.2.2.2 := by omega
      simp only [hz, cond_false, hp, Bool.not_true, c4, decide_false, e3, c5, opt_s, show (Nat.beq 0 0) = true from rfl, cond_true, e4, e5, e6, e7, r4, beq_self_eq_true]
theorem K12_s {p : Port} (h : portOk p) : K12 (p, ()) = some (0, ()) := by
  have c1 : ¬ p.2.1 < 0 := by have := h.n0; omega
  have c2 : ¬ 549755813888 < p.2.1 := by have := h.n1; omega
  have hr : (bif rT p.2.2.1 == 0 then true else bif rT p.2.2.1 == 1 then !pre p else false) = true := by
    have h0 : 0 ≤ rT p.2.2.1 := by
      have := (rT_bd h.q p.2.2.1.length).1
      rwa [List.take_of_length_le (by simp)] at this
    have h1 := h.r1
    by_cases hz : rT p.2.2.1 = 0
    · simp [hz]
    · have : rT p.2.2.1 = 1 := by omega
      rw [this]
      cases hp : pre p with
      | false => rfl
      | true => exact absurd (h.rp hp) hz
  rw [K12_eq]; unfold R12
  simp only [K25_s h.l, opt_s, ieqF_eq, iltF_eq, beq_self_eq_true, Bool.not_true, cond_false, c1, c2, decide_false, show (Nat.beq 0 0) = true from rfl, cond_true, K29_s h, K30_s h.q, hr]
end Go.Proofs.Ytfpbgiaiifcnlaa.pg
