/- Contracts for queues whose parts are nil. -/
import Derived.Test.YtddhglcmfoopnaaFnJ
namespace Go.Proofs.Ytddhglcmfoopnaa.queue
open Go Go.En
set_option linter.unusedVariables false

theorem right_nil (cap : Int) : Memo.Ok Try.prog ⟨11, 0, [q0 cap], [], .bool (rightS cap []), [], 0⟩ := by
  have key : ∀ p1 p2, decide (cap < 0) = p1 → decide (cap > 65536) = p2 → Memo.Ok Try.prog ⟨11, 0, [q0 cap], [], .bool (!(p1 || p2) && fits cap (some 0)), [], 0⟩ := by
    intro p1 p2 h1 h2
    cases p1
    · cases p2
      · exact memo_pure (hs := [(8, .val (.bool (decide (cap < 0))) (.bool _)), (12, .val (.bool (decide (cap > 65536))) (.bool _))]) (ch := []) 2 (evk 50) special ⟨congrArg Value.bool h1, congrArg Value.bool h2, trivial⟩ trivial (by kernel_rfl) rfl (by kernel_rfl)
      · exact memo_pure (hs := [(8, .val (.bool (decide (cap < 0))) (.bool _)), (12, .val (.bool (decide (cap > 65536))) (.bool _))]) (ch := []) 1 (evk 50) special ⟨congrArg Value.bool h1, congrArg Value.bool h2, trivial⟩ trivial (by kernel_rfl) rfl (by kernel_rfl)
    · cases p2 <;> exact memo_pure (hs := [(8, .val (.bool (decide (cap < 0))) (.bool _))]) (ch := []) 1 (evk 50) special ⟨congrArg Value.bool h1, trivial⟩ trivial (by kernel_rfl) rfl (by kernel_rfl)
  exact key _ _ rfl rfl
theorem same_nil (a b : Int) : Memo.Ok Try.prog ⟨20, 0, [q0 a, q0 b], [], .bool (sameS a b [] []), [], 0⟩ := by
  have key : ∀ p1, (a != b) = p1 → Memo.Ok Try.prog ⟨20, 0, [q0 a, q0 b], [], .bool (!p1 && !false && true), [], 0⟩ := by
    intro p1 h1
    cases p1
    · exact memo_pure (hs := [(10, .val (.bool (a != b)) (.bool _))]) (ch := []) 5 (evk 50) special ⟨congrArg Value.bool h1, trivial⟩ trivial (by kernel_rfl) rfl (by kernel_rfl)
    · exact memo_pure (hs := [(10, .val (.bool (a != b)) (.bool _))]) (ch := []) 2 (evk 50) special ⟨congrArg Value.bool h1, trivial⟩ trivial (by kernel_rfl) rfl (by kernel_rfl)
  exact key _ rfl
theorem check_nil (cap : Int) : Memo.Ok Try.prog ⟨12, 0, [q0 cap], [], .int .i64 (bif checkS cap [] then 0 else 461), [], 0⟩ := by
  have key : ∀ p1 p3, within cap 0 65536 = p1 → decide ((0 : Int) > cap) = p3 → Memo.Ok Try.prog ⟨12, 0, [q0 cap], [], .int .i64 (bif p1 && !(false || p3) then 0 else 461), [], 0⟩ := by
    intro p1 p3 h1 h3
    have m1 := within_m _ _ _ h1 1
    cases p1
    · cases p3 <;> exact memo_pure (hs := [(9, .call _)]) (ch := []) 1 (evk 50) special ⟨m1, trivial⟩ trivial (by kernel_rfl) rfl (by kernel_rfl)
    · cases p3 <;> exact memo_pure (hs := [(9, .call _), (35, .val (.bool (decide ((0 : Int) > cap))) (.bool _))]) (ch := []) 9 (evk 50) special ⟨m1, congrArg Value.bool h3, trivial⟩ trivial (by kernel_rfl) rfl (by kernel_rfl)
  exact key _ _ rfl rfl
theorem check_nm {cap : Int} {p : Bool} (h : checkS cap [] = p) (nx : Nat) : Memo.Ok Try.prog ⟨12, nx, [q0 cap], [], .int .i64 (bif p then 0 else 461), [], nx⟩ :=
  memo_any (h ▸ check_nil cap) nx (by kernel_rfl) rfl rfl
theorem octL_nm (cap : Int) (nx : Nat) : Memo.Ok Try.prog ⟨34, nx, [q0 cap], [], .int .i64 0, [], nx⟩ := memo_any (octL_nil cap) nx (by kernel_rfl) rfl rfl
theorem octR_nm (cap : Int) (nx : Nat) : Memo.Ok Try.prog ⟨18, nx, [q0 cap], [], .int .i64 0, [], nx⟩ := memo_any (octR_nil cap) nx (by kernel_rfl) rfl rfl
theorem octets_nil {cap : Int} {p : Bool} (hp : checkS cap [] = p) : Memo.Ok Try.prog ⟨17, 0, [q0 cap], [], octV p 0, [], 0⟩ := by
  have m1 := check_nm hp 1
  have m2 := octL_nm cap 1
  cases p <;> exact memo_pure (hs := [(7, .call _), (15, .call _)]) (ch := []) 1 (evk 50) special ⟨m1, m2, trivial⟩ trivial (by kernel_rfl) rfl (by kernel_rfl)
theorem octets_nm {cap : Int} {p : Bool} (hp : checkS cap [] = p) (nx : Nat) : Memo.Ok Try.prog ⟨17, nx, [q0 cap], [], octV p 0, [], nx⟩ :=
  memo_any (octets_nil hp) nx (by cases p <;> kernel_rfl) rfl (by cases p <;> rfl)
theorem head_nil {cap : Int} {p : Bool} (hp : checkS cap [] = p) : Memo.Ok Try.prog ⟨23, 0, [q0 cap], [], headV p [], [], 0⟩ := by
  have m1 := check_nm hp 2
  cases p
  · exact memo_pure (hs := [(5, .call _)]) (ch := []) 2 (evk 50) special ⟨m1, trivial⟩ trivial (by kernel_rfl) rfl (by kernel_rfl)
  · exact memo_pure (hs := [(5, .call _)]) (ch := []) 3 (evk 50) special ⟨m1, trivial⟩ trivial (by kernel_rfl) rfl (by kernel_rfl)
theorem pop_nil {cap : Int} {p : Bool} (hp : checkS cap [] = p) : Memo.Ok Try.prog ⟨24, 0, [q0 cap], [], popV p cap 0 0 [], [], 0⟩ := by
  have m1 := check_nm hp 3
  cases p
  · exact memo_pure (hs := [(7, .call _)]) (ch := []) 3 (evk 50) special ⟨m1, trivial⟩ trivial (by kernel_rfl) rfl (by kernel_rfl)
  · exact memo_pure (hs := [(7, .call _)]) (ch := []) 4 (evk 50) special ⟨m1, trivial⟩ trivial (by kernel_rfl) rfl (by kernel_rfl)
theorem rest_nil (cap : Int) : Memo.Ok Try.prog ⟨26, 0, [q0 cap], [], .bool false, [], 0⟩ :=
  memo_pure (hs := []) (ch := []) 2 (evk 50) special trivial trivial (by kernel_rfl) rfl (by kernel_rfl)
theorem pushN_no {cap : Int} {i : It} {p1 p2 p3 : Bool} (h1 : checkS cap [] = p1) (h2 : itemOk i = p2) (h3 : overS cap [] i = p3) (hno : (p1 && p2 && !p3) = false) (q' : Value) :
    Memo.Ok Try.prog ⟨21, 0, [q0 cap, i.v], [], pushV p1 p2 p3 (q0 cap) q', [], 0⟩ := by
  have m1 := check_nm h1 3
  have m2 := checkItem_m _ h2 3
  have m3 := octL_nm cap 4
  obtain ⟨x1, x2, x3, x4, x5⟩ := i
  cases p1
  · cases p2 <;> exact memo_pure (hs := [(11, .call _)]) (ch := []) 3 (evk 50) special ⟨m1, trivial⟩ trivial (by kernel_rfl) rfl (by kernel_rfl)
  · cases p2
    · exact memo_pure (hs := [(11, .call _), (17, .call _)]) (ch := []) 3 (evk 50) special ⟨m1, m2, trivial⟩ trivial (by kernel_rfl) rfl (by kernel_rfl)
    · cases p3
      · cases hno
      · exact memo_pure (hs := [(11, .call _), (17, .call _), (25, .call _), (32, .val (.bool (decide (IntKind.i64.wrap (sumW (·.left) [] 0 + x4) > cap))) (.bool true))]) (ch := []) 4 (evk 50) special ⟨m1, m2, m3, congrArg Value.bool h3, trivial⟩ trivial (by kernel_rfl) rfl (by kernel_rfl)
theorem pushN_yes {cap : Int} {i : It} (h1 : checkS cap [] = true) (h2 : itemOk i = true) (h3 : overS cap [] i = false) :
    Memo.Ok Try.prog ⟨21, 0, [q0 cap, i.v], [], .tuple #[qv cap 7 0 1 oc7, .bool true, .int .i64 0], [(7, pcs [wholeP i])], 8⟩ := by
  have m1 := check_nm h1 3
  have m2 := checkItem_m _ h2 3
  have m3 := octL_nm cap 4
  have m4 := whole_m i 6
  obtain ⟨x1, x2, x3, x4, x5⟩ := i
  exact memo_new (hs := [(11, .call _), (17, .call _), (25, .call _), (32, .val (.bool (decide (IntKind.i64.wrap (sumW (·.left) [] 0 + x4) > cap))) (.bool false)), (47, .call _)]) (ch := []) (evk 50) special
    ⟨m1, m2, m3, congrArg Value.bool h3, m4, trivial⟩ trivial (by kernel_rfl)
theorem pushNR_no {cap : Int} {i : It} (h3 : overS cap [] i = true) : Memo.Ok Try.prog ⟨22, 0, [q0 cap, i.v], [], .tuple #[q0 cap, .bool false], [], 0⟩ := by
  have m3 := octR_nm cap 3
  obtain ⟨x1, x2, x3, x4, x5⟩ := i
  exact memo_pure (hs := [(8, .call _), (14, .val (.bool (decide (IntKind.i64.wrap (sumW (·.left) [] 0 + x4) > cap))) (.bool true))]) (ch := []) 3 (evk 50) special ⟨m3, congrArg Value.bool h3, trivial⟩ trivial (by kernel_rfl) rfl (by kernel_rfl)
theorem pushNR_yes {cap : Int} {i : It} (h3 : overS cap [] i = false) : Memo.Ok Try.prog ⟨22, 0, [q0 cap, i.v], [], .tuple #[qv cap 5 0 1 oc7, .bool true], [(5, pcs [wholeP i])], 6⟩ := by
  have m3 := octR_nm cap 3
  obtain ⟨x1, x2, x3, x4, x5⟩ := i
  exact memo_new (hs := [(8, .call _), (14, .val (.bool (decide (IntKind.i64.wrap (sumW (·.left) [] 0 + x4) > cap))) (.bool false))]) (ch := []) (evk 50) special ⟨m3, congrArg Value.bool h3, trivial⟩ trivial (by kernel_rfl)
theorem returnN_no {cap : Int} {p : Pt} {p1 p2 : Bool} (h1 : checkS cap [] = p1) (h2 : partC p = p2) (hno : (p1 && p2 && p.rest) = false) :
    Memo.Ok Try.prog ⟨25, 0, [q0 cap, p.v], [], retNo p1 p2, [], 0⟩ := by
  have m1 := check_nm h1 3
  have m2 := checkPart_m _ h2 3
  obtain ⟨⟨x1, x2, x3, x4, x5⟩, x6, x7⟩ := p
  cases p1
  · cases p2 <;> exact memo_pure (hs := [(10, .call _)]) (ch := []) 3 (evk 50) special ⟨m1, trivial⟩ trivial (by kernel_rfl) rfl (by kernel_rfl)
  · cases p2
    · exact memo_pure (hs := [(10, .call _), (16, .call _)]) (ch := []) 3 (evk 50) special ⟨m1, m2, trivial⟩ trivial (by kernel_rfl) rfl (by kernel_rfl)
    · cases x7
      · exact memo_pure (hs := [(10, .call _), (16, .call _)]) (ch := []) 3 (evk 50) special ⟨m1, m2, trivial⟩ trivial (by kernel_rfl) rfl (by kernel_rfl)
      · cases hno
theorem returnN_yes {cap : Int} {p : Pt} (h1 : checkS cap [] = true) (h2 : partC p = true) (h3 : p.rest = true) :
    Memo.Ok Try.prog ⟨25, 0, [q0 cap, p.v], [], .tuple #[qv cap 4 0 1 1, .int .i64 0], [(4, pcs [p])], 6⟩ := by
  have m1 := check_nm h1 3
  have m2 := checkPart_m _ h2 3
  obtain ⟨⟨x1, x2, x3, x4, x5⟩, x6, x7⟩ := p
  cases h3
  exact memo_new (hs := [(10, .call _), (16, .call _)]) (ch := []) (evk 50) special ⟨m1, m2, trivial⟩ trivial (by kernel_rfl)
theorem returnNR {cap : Int} {p : Pt} : Memo.Ok Try.prog ⟨27, 0, [q0 cap, p.v], [], qv cap 3 0 1 1, [(3, pcs [p])], 5⟩ := by
  obtain ⟨⟨x1, x2, x3, x4, x5⟩, x6, x7⟩ := p
  exact memo_new (hs := []) (ch := []) (evk 50) special trivial trivial (by kernel_rfl)
end Go.Proofs.Ytddhglcmfoopnaa.queue
