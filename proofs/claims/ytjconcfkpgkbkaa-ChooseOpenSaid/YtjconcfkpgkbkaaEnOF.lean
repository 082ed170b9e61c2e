/- The engine, part OF: contracts. -/
import Derived.Test.YtjconcfkpgkbkaaEnOE
namespace Go.En
set_option linter.unusedVariables false
variable {P : Program} {φ : Ren} {H : Hp} {K : Nat → Prop} {w : World}

theorem roHp_below {n : Nat} : ∀ {V : List (Nat × List Value)}, below n V = true → smallH n V = true → hpBelow n (roHp V) = true
  | [], _, _ => rfl
  | (b, cs) :: r, h1, h2 => by
    simp only [below, Bool.and_eq_true] at h1
    simp only [smallH, Bool.and_eq_true] at h2
    simp only [roHp, hpBelow, tidyB, h1.1, h2.1, roHp_below h1.2 h2.2, Bool.and_self]

/-- What a call has made and does not hand out takes no names. -/
theorem call_tidy {f : FuncId} {args : List Value} {n n' : Nat} {v : Value} {H' : Hp} (h : CallOk P f args H n v H' n') (hn : nodupN H' = true) (hH' : hpBelow n H' = true) (hv : small n 5 v = true)
    (hH0 : nodupN H = true) (hH : hpBelow n H = true) (hargs : smallL (small n 5) args = true) : CallOk P f args H n v H' n := by
  refine ⟨Nat.le_refl _, fun φ w K us g hf hl => ?_⟩
  let φ0 : Ren := fun b => if b < n then φ b else none
  have hφ : ∀ b, b < n → φ b = φ0 b := fun b hb => by simp [φ0, hb]
  have g0 : Good φ0 H K w := by have := good_tidy hφ hH0 g; rwa [tidyH_id hH] at this
  refine Calls.mono (h.2 φ0 w K us g0 (fun b h1 h2 => by simp [φ0]; omega) (smallL_rel (fun v v' => small_rel hφ 5 v v') hargs hl)) ?_
  rintro e w' ⟨v', φ', rfl, x1, x2, x3, x4⟩
  have hφ' : ∀ b, b < n → φ' b = φ b := fun b hb => by rw [x2.2 b (.inl hb), hφ b hb]
  have g1 := good_tidy hφ' hn x3
  rw [tidyH_id hH'] at g1
  exact ⟨v', φ, rfl, small_rel hφ' 5 v v' hv x1, Ext.refl _ _ _, g1, x4⟩

/-- A contract of a call that hands out nothing new. -/
theorem memo_pure {hs : Hints} {ch : List CHint} {E : Ev} {f : FuncId} {args : List Value} {V : List (Nat × List Value)} {n : Nat} {v : Value} (n' : Nat) (hE : E.Ok P) (hsp : NoSpecial P) (hk : HintsOk P hs) (hch : CHintsOk P ch)
    (hV : (nodupN (roHp V) && below n V && smallL (small n 5) args && small n 5 v) = true) (hVs : smallH n V = true)
    (h : leftsO (callOut (sCall P hs ch E f args (roHp V) n)) = some ((v, roHp V, n'), rightsO (callOut (sCall P hs ch E f args (roHp V) n)))) : Memo.Ok P ⟨f, n, args, V, v, [], n⟩ := by
  obtain ⟨h1, h2⟩ := call_by hE hsp hk hch h
  simp only [Bool.and_eq_true] at hV
  obtain ⟨⟨⟨q1, q2⟩, q3⟩, q4⟩ := hV
  have hb := roHp_below q2 hVs
  refine ⟨h1, ?_⟩
  have := call_tidy h2 q1 hb q4 q1 hb q3
  simpa [rwHp] using this
/-- A contract of a call that hands out new blocks. -/
theorem memo_new {hs : Hints} {ch : List CHint} {E : Ev} {f : FuncId} {args : List Value} {V new : List (Nat × List Value)} {n n' : Nat} {v : Value} (hE : E.Ok P) (hsp : NoSpecial P) (hk : HintsOk P hs) (hch : CHintsOk P ch)
    (h : leftsO (callOut (sCall P hs ch E f args (roHp V) n)) = some ((v, rwHp new ++ roHp V, n'), rightsO (callOut (sCall P hs ch E f args (roHp V) n)))) : Memo.Ok P ⟨f, n, args, V, v, new, n'⟩ :=
  call_by hE hsp hk hch h

/-- A contract at other names; the blocks may hold more. -/
theorem memo_renW {f : FuncId} {args : List Value} {V new : List (Nat × List Value)} {n n' : Nat} {v : Value} (h : Memo.Ok P ⟨f, n, args, V, v, new, n'⟩) (ρ : Nat → Nat) (nx : Nat) (V' : List (Nat × List Value))
    (hc : (smallL (small n 5) args && below n V && small n' 5 v && inNew n n' new) = true) (hVs : smallH n V = true) (hns : smallH n' new = true)
    (hV' : ∀ b cs, (roHp V).get b = some (.cells cs true) → ∃ ds, (roHp V').get (ρ b) = some (.cells ds true) ∧ ∀ (j : Nat) u, cs[j]? = some u → ds[j]? = some (renV (shift ρ n nx) 5 u)) :
    Memo.Ok P ⟨f, nx, args.map (renV (shift ρ n nx) 5), V', renV (shift ρ n nx) 5 v, renH (shift ρ n nx) new, nx + (n' - n)⟩ := by
  simp only [Bool.and_eq_true] at hc
  obtain ⟨⟨⟨q1, q2⟩, q3⟩, q4⟩ := hc
  exact ⟨h.1, call_ren h.2 ρ nx q1 q2 hVs q3 q4 hns hV'⟩
/-- A contract at other names. -/
theorem memo_ren {f : FuncId} {args : List Value} {V new : List (Nat × List Value)} {n n' : Nat} {v : Value} (h : Memo.Ok P ⟨f, n, args, V, v, new, n'⟩) (ρ : Nat → Nat) (nx : Nat) (V' : List (Nat × List Value))
    (hc : (smallL (small n 5) args && below n V && small n' 5 v && inNew n n' new) = true) (hVs : smallH n V = true) (hns : smallH n' new = true)
    (hV' : ∀ b cs, (roHp V).get b = some (.cells cs true) → (roHp V').get (ρ b) = some (.cells (cs.map (renV (shift ρ n nx) 5)) true)) :
    Memo.Ok P ⟨f, nx, args.map (renV (shift ρ n nx) 5), V', renV (shift ρ n nx) 5 v, renH (shift ρ n nx) new, nx + (n' - n)⟩ :=
  memo_renW h ρ nx V' hc hVs hns fun b cs hb => ⟨_, hV' b cs hb, fun j u hu => by simp [hu]⟩

/-- A contract without blocks, anywhere. -/
theorem memo_any {f : FuncId} {args : List Value} {v : Value} (h : Memo.Ok P ⟨f, 0, args, [], v, [], 0⟩) (nx : Nat) (ha : (smallL (small 0 5) args && small 0 5 v) = true)
    {args' : List Value} {v' : Value} (h1 : args.map (renV (shift (fun b => b) 0 nx) 5) = args') (h2 : renV (shift (fun b => b) 0 nx) 5 v = v') : Memo.Ok P ⟨f, nx, args', [], v', [], nx⟩ := by
  simp only [Bool.and_eq_true] at ha
  have := memo_ren h (fun b => b) nx [] (by simp [ha.1, ha.2, below, inNew]) rfl rfl (fun b cs hb => by simp [roHp, Hp.get] at hb)
  simpa [h1, h2, renH] using this
end Go.En
