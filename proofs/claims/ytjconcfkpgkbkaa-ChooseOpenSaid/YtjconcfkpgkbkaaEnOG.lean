/- The engine, part OG: small things for contracts: loops by their first region, elements of slices. -/
import Derived.Test.YtjconcfkpgkbkaaEnOF
namespace Go.En
set_option linter.unusedVariables false
variable {P : Program} {φ : Ren} {H : Hp} {K : Nat → Prop} {w : World}

/-- The body of the loop whose first region is id. -/
def findLoop (id : Nat) : Code → Option Code
  | .seq a b => match findLoop id a with
    | some c => some c
    | none => findLoop id b
  | .cond _ a b => match findLoop id a with
    | some c => some c
    | none => findLoop id b
  | .block _ c => findLoop id c
  | .loop c => match firstReg c with
    | some i => if i == id then some c else findLoop id c
    | none => findLoop id c
  | .scope c => findLoop id c
  | .rangeFunc _ _ a b => match findLoop id b with
    | some c => some c
    | none => findLoop id a
  | _ => none
def lp (P : Program) (f id : Nat) : Code :=
  match P.funcs[f]? with
  | some fn => match fn.body with
    | some c => match findLoop id c with
      | some c => c
      | none => .skip
    | none => .skip
  | none => .skip

theorem idx_nat {k : IntKind} {i n : Nat} (h : i < n) : idx (.int k i) n = some i := by
  unfold idx
  simp [h]
theorem ix_at {t e : TypeId} {inf : TypeInfo} {b off n c i : Nat} {k : IntKind} (hu : P.underlying t = some (.slice e)) (he : P.info? e = some inf) (h : i < n) :
    doIndexAddr P t (.slice (some ⟨b, off, none⟩) n c) (.int k i) = some (.pointer (some ⟨b, off + i * inf.size, none⟩)) := by
  simp only [doIndexAddr, hu, idx_nat h, he]

/-- A round that goes on, a round that ends. -/
theorem loop_step {r : Option Nat} {c : Code} {tm tm1 : List Value} {ds ds1 : List Nat} {H1 : Hp} {nx nx1 : Nat} {R : Res} (h1 : CodeOk P r c tm ds H nx ⟨.normal, tm1, ds1, H1, nx1⟩) (h2 : LoopOk P r c tm1 ds1 H1 nx1 R) : LoopOk P r c tm ds H nx R :=
  loopOk_more h1 rfl h2

/-- A contract that looks at one block, with that block and the names elsewhere. -/
theorem memo_blk {f : FuncId} {args args' cs : List Value} {v v' : Value} (h : Memo.Ok P ⟨f, 1, args, [(0, cs)], v, [], 1⟩) (hs : avL cs = true) (b nx : Nat) (hc : (smallL (small 1 5) args && small 1 5 v) = true)
    (h1 : args.map (renV (shift (fun _ => b) 1 nx) 5) = args') (h2 : renV (shift (fun _ => b) 1 nx) 5 v = v') : Memo.Ok P ⟨f, nx, args', [(b, cs)], v', [], nx⟩ := by
  simp only [Bool.and_eq_true] at hc
  have := memo_ren h (fun _ => b) nx [(b, cs)] (by simp [hc.1, hc.2, below, inNew]) (by simp [smallH, small_avL hs]) rfl (fun c ds hb => by
    by_cases h0 : 0 = c
    · subst h0
      simp [roHp, Hp.get] at hb ⊢
      subst hb
      exact (renV_avL hs).symm
    · simp [roHp, Hp.get, h0] at hb)
  simpa [h1, h2, renH] using this
end Go.En
