/- The law's wakes() comes to true: a closed call, in pieces. -/
import Derived.Test.YtkngbmaomgfcjaaTpA
namespace Go.Proofs.Ytkngbmaomgfcjaa.topo
open Go Go.En
set_option linter.unusedVariables false
def m0 : Memo := ⟨18, 405, [.agg #[.int .i64 4, .slice (some ⟨1, 0, none⟩) 4 4, .slice (some ⟨2, 0, none⟩) 3 3], .int .i64 0, .slice (some ⟨404, 0, none⟩) 1 1], [(404, [.int .i64 1]), (2, [.int .i64 0, .int .i64 1, .int .i64 8, .int .i64 50, .int .i64 1, .int .i64 2, .int .i64 8, .int .i64 0, .int .i64 2, .int .i64 3, .int .i64 80, .int .i64 7]), (1, [.bool true, .bool false, .bool false, .bool true])], .tuple #[.slice (some ⟨467, 0, none⟩) 4 4, .int .i64 0], [(467, [.bool true, .bool true, .bool false, .bool false])], 484⟩
theorem says0 : memoSays (evM Try.prog [] 400) m0 = true := by kernel_rfl
theorem ok0 : m0.Ok Try.prog := memo_of (evM_ok special (ms := []) (fun _ h => by cases h) 400) says0
def m1 : Memo := ⟨13, 326, [.agg #[.int .i64 4, .slice (some ⟨1, 0, none⟩) 4 4, .slice (some ⟨2, 0, none⟩) 3 3], .int .i64 2, .int .i64 1], [(2, [.int .i64 0, .int .i64 1, .int .i64 8, .int .i64 50, .int .i64 1, .int .i64 2, .int .i64 8, .int .i64 0, .int .i64 2, .int .i64 3, .int .i64 80, .int .i64 7]), (1, [.bool true, .bool false, .bool false, .bool true])], .tuple #[.int .i64 3, .int .i64 0], [], 404⟩
theorem says1 : memoSays (evM Try.prog [] 400) m1 = true := by kernel_rfl
theorem ok1 : m1.Ok Try.prog := memo_of (evM_ok special (ms := []) (fun _ h => by cases h) 400) says1
def m2 : Memo := ⟨12, 244, [.agg #[.int .i64 4, .slice (some ⟨1, 0, none⟩) 4 4, .slice (some ⟨2, 0, none⟩) 3 3], .int .i64 1], [(2, [.int .i64 0, .int .i64 1, .int .i64 8, .int .i64 50, .int .i64 1, .int .i64 2, .int .i64 8, .int .i64 0, .int .i64 2, .int .i64 3, .int .i64 80, .int .i64 7]), (1, [.bool true, .bool false, .bool false, .bool true])], .tuple #[.slice (some ⟨318, 0, none⟩) 2 18446744073709551617, .int .i64 0], [(318, [.int .i64 1, .int .i64 2])], 326⟩
theorem says2 : memoSays (evM Try.prog [] 400) m2 = true := by kernel_rfl
theorem ok2 : m2.Ok Try.prog := memo_of (evM_ok special (ms := []) (fun _ h => by cases h) 400) says2
def m3 : Memo := ⟨24, 484, [.agg #[.int .i64 4, .slice (some ⟨1, 0, none⟩) 4 4, .slice (some ⟨2, 0, none⟩) 3 3], .int .i64 6], [(2, [.int .i64 0, .int .i64 1, .int .i64 8, .int .i64 50, .int .i64 1, .int .i64 2, .int .i64 8, .int .i64 0, .int .i64 2, .int .i64 3, .int .i64 80, .int .i64 7]), (1, [.bool true, .bool false, .bool false, .bool true])], .tuple #[.int .i64 0, .int .i64 2], [], 543⟩
theorem says3 : memoSays (evM Try.prog [] 400) m3 = true := by kernel_rfl
theorem ok3 : m3.Ok Try.prog := memo_of (evM_ok special (ms := []) (fun _ h => by cases h) 400) says3
def m4 : Memo := ⟨24, 4, [.agg #[.int .i64 4, .slice (some ⟨1, 0, none⟩) 4 4, .slice (some ⟨2, 0, none⟩) 3 3], .int .i64 0], [(2, [.int .i64 0, .int .i64 1, .int .i64 8, .int .i64 50, .int .i64 1, .int .i64 2, .int .i64 8, .int .i64 0, .int .i64 2, .int .i64 3, .int .i64 80, .int .i64 7]), (1, [.bool true, .bool false, .bool false, .bool true])], .tuple #[.int .i64 0, .int .i64 0], [], 64⟩
theorem says4 : memoSays (evM Try.prog [] 400) m4 = true := by kernel_rfl
theorem ok4 : m4.Ok Try.prog := memo_of (evM_ok special (ms := []) (fun _ h => by cases h) 400) says4
def m5 : Memo := ⟨25, 64, [.agg #[.int .i64 4, .slice (some ⟨1, 0, none⟩) 4 4, .slice (some ⟨2, 0, none⟩) 3 3], .int .i64 3], [(2, [.int .i64 0, .int .i64 1, .int .i64 8, .int .i64 50, .int .i64 1, .int .i64 2, .int .i64 8, .int .i64 0, .int .i64 2, .int .i64 3, .int .i64 80, .int .i64 7]), (1, [.bool true, .bool false, .bool false, .bool true])], .tuple #[.int .i64 1, .int .i64 0], [], 124⟩
theorem says5 : memoSays (evM Try.prog [] 400) m5 = true := by kernel_rfl
theorem ok5 : m5.Ok Try.prog := memo_of (evM_ok special (ms := []) (fun _ h => by cases h) 400) says5
def m6 : Memo := ⟨27, 184, [.agg #[.int .i64 4, .slice (some ⟨1, 0, none⟩) 4 4, .slice (some ⟨2, 0, none⟩) 3 3], .int .i64 4], [(2, [.int .i64 0, .int .i64 1, .int .i64 8, .int .i64 50, .int .i64 1, .int .i64 2, .int .i64 8, .int .i64 0, .int .i64 2, .int .i64 3, .int .i64 80, .int .i64 7]), (1, [.bool true, .bool false, .bool false, .bool true])], .tuple #[.int .i64 7, .int .i64 0], [], 244⟩
theorem says6 : memoSays (evM Try.prog [] 400) m6 = true := by kernel_rfl
theorem ok6 : m6.Ok Try.prog := memo_of (evM_ok special (ms := []) (fun _ h => by cases h) 400) says6
def m11 : Memo := ⟨10, 0, [], [], .bool true, [], 552⟩
theorem says11 : memoSays (evM Try.prog [m0, m1, m2, m3, m4, m5, m6] 400) m11 = true := by kernel_rfl
theorem ok11 : m11.Ok Try.prog := memo_of (evM_ok special (ms := [m0, m1, m2, m3, m4, m5, m6]) (by intro x hx; simp only [List.mem_cons, List.not_mem_nil, or_false] at hx; rcases hx with rfl | rfl | rfl | rfl | rfl | rfl | rfl <;> first | exact ok0 | exact ok1 | exact ok2 | exact ok3 | exact ok4 | exact ok5 | exact ok6) 400) says11
theorem wakes_0 : Memo.Ok Try.prog ⟨10, 0, [], [], .bool true, [], 0⟩ :=
  ⟨ok11.1, call_tidy ok11.2 rfl rfl rfl rfl rfl rfl⟩
theorem wakes_m (nx : Nat) : Memo.Ok Try.prog ⟨10, nx, [], [], .bool true, [], nx⟩ := memo_any wakes_0 nx (by kernel_rfl) rfl rfl
end Go.Proofs.Ytkngbmaomgfcjaa.topo
