/- The engine, part NS: known calls, with a quick look ahead of the whole one. -/
import Derived.Test.YtecplekkoikmmaaGreatEnNR
noncomputable section
namespace Go.En
set_option linter.unusedVariables false
variable {P : Program} {φ : Ren} {H : Hp} {K : Nat → Prop} {w : World}

/-- Alike but for the names. -/
def simL (f : Value → Value → Bool) (a : List Value) : List Value → Bool := List.rec (motive := fun _ => List Value → Bool) (fun b => match b with | [] => true | _ => false) (fun x _ ih b => match b with | y :: r => bif f x y then ih r else false | [] => false) a
def simV : Nat → Value → Value → Bool
  | _, .bool a, .bool b => match a, b with | true, true => true | false, false => true | _, _ => false
  | _, .int _ a, .int _ b => ieqF a b
  | _, .pointer none, .pointer none => true
  | _, .pointer (some a), .pointer (some b) => Nat.beq a.off b.off
  | _, .slice none n _, .slice none m _ => Nat.beq n m
  | _, .slice (some a) n _, .slice (some b) m _ => bif Nat.beq n m then Nat.beq a.off b.off else false
  | n + 1, .agg a, .agg b => simL (simV n) a.toList b.toList
  | _, .agg _, _ => false
  | _, _, .agg _ => false
  | _, .bool _, _ => false
  | _, .int _ _, _ => false
  | _, _, _ => true
def quickH (H : Hp) : List (Nat × List Value) → List (Nat × Nat) → Bool
  | [], ps => true
  | (b, cs) :: r, ps => match H.get (nmOf ps b) with
    | some (.cells ds _) => bif simL (simV 5) cs ds then quickH H r (matL (matV 5) cs ds ps) else false
    | _ => false
def lookS : List Memo → FuncId → List Value → Hp → Nat → Option (Value × Hp × Nat)
  | [], _, _, _, _ => none
  | m :: ms, f, args, H, nx => bif Nat.beq m.f f then (bif simL (simV 5) m.args args then (bif quickH H m.V (matL (matV 5) m.args args []) then (match useR m args H nx with
    | some r => some r
    | none => lookS ms f args H nx) else lookS ms f args H nx) else lookS ms f args H nx) else lookS ms f args H nx
theorem lookS_ok : ∀ {ms : List Memo}, (∀ m ∈ ms, m.OkR P) → ∀ {f : FuncId} {args : List Value} {H : Hp} {nx : Nat} {v : Value} {H' : Hp} {nx' : Nat}, lookS ms f args H nx = some (v, H', nx') →
    (∃ fn, P.funcs[f]? = some fn ∧ fn.body.isSome = true) ∧ CallOk P f args H nx v H' nx'
  | [], _, _, _, _, _, _, _, _, h => by cases h
  | m :: ms, hm, f, args, H, nx, v, H', nx', h => by
    have ih := @lookS_ok ms (fun m hm' => hm m (by simp [hm'])) f args H nx v H' nx'
    simp only [lookS] at h
    cases hf : Nat.beq m.f f with
    | false => rw [hf] at h; exact ih h
    | true =>
      rw [hf] at h
      simp only [cond_true] at h
      cases h1 : simL (simV 5) m.args args with
      | false => rw [h1] at h; exact ih h
      | true =>
        rw [h1] at h
        simp only [cond_true] at h
        cases h2 : quickH H m.V (matL (matV 5) m.args args []) with
        | false => rw [h2] at h; exact ih h
        | true =>
          rw [h2] at h
          simp only [cond_true] at h
          split at h
          · rename_i r hr
            cases h
            have := Nat.eq_of_beq_eq_true hf
            subst this
            exact useR_ok (hm m (by simp)) hr
          · exact ih h
def evMS (P : Program) (ms : List Memo) : Nat → EvA
  | 0 => ⟨fun _ _ _ _ => none, fun _ _ _ _ _ _ _ => none, fun _ _ _ _ _ _ _ => none, fun _ _ _ _ _ _ _ => none⟩
  | n + 1 =>
    { evStepA P (evMS P ms n) with call := fun f args H nx => match lookS ms f args H nx with
      | some r => some r
      | none => evalCallA P (evMS P ms n) f args H nx }
theorem evMS_ok (hs : NoSpecial P) {ms : List Memo} (hms : ∀ m ∈ ms, m.OkR P) : ∀ n, (evMS P ms n).Ok P
  | 0 => ⟨(fun h => by cases h), (fun h => by cases h), (fun h => by cases h), (fun h => by cases h), (fun h => by cases h)⟩
  | n + 1 => by
    have hE := evStepA_ok (evMS_ok hs hms n) hs
    refine ⟨fun {f args H nx v H' nx'} h => ?_, fun {f args H nx v H' nx'} h => ?_, fun h => hE.code h, fun h => hE.loop h, fun h => hE.scp h⟩
    · simp only [evMS] at h
      split at h
      · rename_i r hr; cases h; exact (lookS_ok hms hr).2
      · exact hE.call h
    · simp only [evMS] at h
      split at h
      · rename_i r hr; cases h; exact (lookS_ok hms hr).1
      · exact hE.named h
def saysTrueS (P : Program) (ms : List Memo) (n : Nat) (f : FuncId) : Bool :=
  match (evMS P ms n).call f [] [] 0 with
  | some (.bool true, _, _) => true
  | _ => false
theorem closed_ofS {n : Nat} {f : FuncId} {ms : List Memo} (hs : NoSpecial P) (hms : ∀ m ∈ ms, m.OkR P) (h : saysTrueS P ms n f = true) : ∃ H' nx', CallOk P f [] [] 0 (.bool true) H' nx' := by
  unfold saysTrueS at h
  split at h
  · rename_i H' nx' he; exact ⟨H', nx', (evMS_ok hs hms n).call he⟩
  · cases h
end Go.En
