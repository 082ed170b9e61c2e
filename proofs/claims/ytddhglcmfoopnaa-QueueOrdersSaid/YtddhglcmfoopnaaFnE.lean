/- Contracts: New; the functions on a queue without a slice. -/
import Derived.Test.YtddhglcmfoopnaaFnD
namespace Go.Proofs.Ytddhglcmfoopnaa.queue
open Go Go.En
set_option linter.unusedVariables false

/-- A queue whose parts are nil. -/
def q0 (cap : Int) : Value := .agg #[.int .i64 cap, .slice none 0 0]
theorem new_0 (cap : Int) : Memo.Ok Try.prog ⟨19, 0, [.int .i64 cap], [], .tuple #[q0 (bif within cap 0 65536 then cap else 0), .int .i64 (bif within cap 0 65536 then 0 else 2)], [], 0⟩ := by
  have key : ∀ p, within cap 0 65536 = p → Memo.Ok Try.prog ⟨19, 0, [.int .i64 cap], [], .tuple #[q0 (bif p then cap else 0), .int .i64 (bif p then 0 else 2)], [], 0⟩ := by
    intro p hp
    have m := within_m _ _ _ hp 1
    cases p <;> exact memo_pure (hs := [(5, .call _)]) (ch := []) 1 (evk 50) special ⟨m, trivial⟩ trivial (by kernel_rfl) rfl (by kernel_rfl)
  exact key _ rfl
theorem octR_nil (cap : Int) : Memo.Ok Try.prog ⟨18, 0, [q0 cap], [], .int .i64 0, [], 0⟩ :=
  memo_pure (hs := []) (ch := []) 2 (evk 50) special trivial trivial (by kernel_rfl) rfl (by kernel_rfl)
theorem octL_nil (cap : Int) : Memo.Ok Try.prog ⟨34, 0, [q0 cap], [], .int .i64 0, [], 0⟩ :=
  memo_pure (hs := []) (ch := []) 2 (evk 50) special trivial trivial (by kernel_rfl) rfl (by kernel_rfl)
end Go.Proofs.Ytddhglcmfoopnaa.queue
