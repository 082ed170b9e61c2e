/- TopoKnown returns true in every world: the closed call is evaluated by the engine, in the kernel, part by part. No condition. -/
import Derived.Test.YtkngbmaomgfcjaaRows
import Derived.Test.YtkngbmaomgfcjaaEnN
import Derived.WalkKit
import Derived.ProofKit
namespace Go.Proofs.Ytkngbmaomgfcjaa.topoKnown
open Go.En

theorem special : NoSpecial Try.prog := noSpecial_of (by kernel_rfl)
def m0 : Memo := ⟨18, 405, [.agg #[.int .i64 4, .slice (some ⟨1, 0, none⟩) 4 4, .slice (some ⟨2, 0, none⟩) 3 3], .int .i64 0, .slice (some ⟨404, 0, none⟩) 1 1], [(404, [.int .i64 1]), (2, [.int .i64 0, .int .i64 1, .int .i64 8, .int .i64 50, .int .i64 1, .int .i64 2, .int .i64 8, .int .i64 0, .int .i64 2, .int .i64 3, .int .i64 80, .int .i64 7]), (1, [.bool true, .bool false, .bool false, .bool true])], .tuple #[.slice (some ⟨467, 0, none⟩) 4 4, .int .i64 0], [(467, [.bool true, .bool true, .bool false, .bool false])], 484⟩
theorem says0 : memoSays (evM Try.prog [] 400) m0 = true := by kernel_rfl
theorem ok0 : m0.Ok Try.prog := memo_of (evM_ok special (ms := []) (fun _ h => by cases h) 400) says0
def m1 : Memo := ⟨13, 326, [.agg #[.int .i64 4, .slice (some ⟨1, 0, none⟩) 4 4, .slice (some ⟨2, 0, none⟩) 3 3], .int .i64 2, .int .i64 1], [(2, [.int .i64 0, .int .i64 1, .int .i64 8, .int .i64 50, .int .i64 1, .int .i64 2, .int .i64 8, .int .i64 0, .int .i64 2, .int .i64 3, .int .i64 80, .int .i64 7]), (1, [.bool true, .bool false, .bool false, .bool true])], .tuple #[.int .i64 3, .int .i64 0], [], 404⟩
theorem says1 : memoSays (evM Try.prog [] 400) m1 = true := by kernel_rfl
theorem ok1 : m1.Ok Try.prog := memo_of (evM_ok special (ms := []) (fun _ h => by cases h) 400) says1
def m2 : Memo := ⟨12, 244, [.agg #[.int .i64 4, .slice (some ⟨1, 0, none⟩) 4 4, .slice (some ⟨2, 0, none⟩) 3 3], .int .i64 1], [(2, [.int .i64 0, .int .i64 1, .int .i64 8, .int .i64 50, .int .i64 1, .int .i64 2, .int .i64 8, .int .i64 0, .int .i64 2, .int .i64 3, .int .i64 80, .int .i64 7]), (1, [.bool true, .bool false, .bool false, .bool true])], .tuple #[.slice (some ⟨318, 0, none⟩) 2 18446744073709551617, .int .i64 0], [(318, [.int .i64 1, .int .i64 2])], 326⟩
theorem says2 : memoSays (evM Try.prog [] 400) m2 = true := by kernel_rfl
theorem ok2 : m2.Ok Try.prog := memo_of (evM_ok special (ms := []) (fun _ h => by cases h) 400) says2
def m3 : Memo := ⟨24, 484, [.agg #[.int .i64 4, .slice (some ⟨1, 0, none⟩) 4 4, .slice (some ⟨2, 0, none⟩) 3 3], .int .i64 6], [(2, [.int .i64 0, .int .i64 1, .int .i64 8, .int .i64 50, .int .i64 1, .int .i64 2, .int .i64 8, .int .i64 0, .int .i64 2, .int .i64 3, .int .i64 80, .int .i64 7]), (1, [.bool true, .bool false, .bool false, .bool true])], .tuple #[.int .i64 0, .int .i64 2], [], 543⟩
theorem says3 : memoSays (evM Try.prog [] 400) m3 = true := by kernel_rfl
theorem ok3 : m3.Ok Try.prog := memo_of (evM_ok special (ms := []) (fun _ h => by cases h) 400) says3
def m4 : Memo := ⟨24, 4, [.agg #[.int .i64 4, .slice (some ⟨1, 0, none⟩) 4 4, .slice (some ⟨2, 0, none⟩) 3 3], .int .i64 0], [(2, [.int .i64 0, .int .i64 1, .int .i64 8, .int .i64 50, .int .i64 1, .int .i64 2, .int .i64 8, .int .i64 0, .int .i64 2, .int .i64 3, .int .i64 80, .int .i64 7]), (1, [.bool true, .bool false, .bool false, .bool true])], .tuple #[.int .i64 0, .int .i64 0], [], 64⟩
theorem says4 : memoSays (evM Try.prog [] 400) m4 = true := by kernel_rfl
theorem ok4 : m4.Ok Try.prog := memo_of (evM_ok special (ms := []) (fun _ h => by cases h) 400) says4
def m5 : Memo := ⟨25, 64, [.agg #[.int .i64 4, .slice (some ⟨1, 0, none⟩) 4 4, .slice (some ⟨2, 0, none⟩) 3 3], .int .i64 3], [(2, [.int .i64 0, .int .i64 1, .int .i64 8, .int .i64 50, .int .i64 1, .int .i64 2, .int .i64 8, .int .i64 0, .int .i64 2, .int .i64 3, .int .i64 80, .int .i64 7]), (1, [.bool true, .bool false, .bool false, .bool true])], .tuple #[.int .i64 1, .int .i64 0], [], 124⟩
theorem says5 : memoSays (evM Try.prog [] 400) m5 = true := by kernel_rfl
theorem ok5 : m5.Ok Try.prog := memo_of (evM_ok special (ms := []) (fun _ h => by cases h) 400) says5
def m6 : Memo := ⟨27, 184, [.agg #[.int .i64 4, .slice (some ⟨1, 0, none⟩) 4 4, .slice (some ⟨2, 0, none⟩) 3 3], .int .i64 4], [(2, [.int .i64 0, .int .i64 1, .int .i64 8, .int .i64 50, .int .i64 1, .int .i64 2, .int .i64 8, .int .i64 0, .int .i64 2, .int .i64 3, .int .i64 80, .int .i64 7]), (1, [.bool true, .bool false, .bool false, .bool true])], .tuple #[.int .i64 7, .int .i64 0], [], 244⟩
theorem says6 : memoSays (evM Try.prog [] 400) m6 = true := by kernel_rfl
theorem ok6 : m6.Ok Try.prog := memo_of (evM_ok special (ms := []) (fun _ h => by cases h) 400) says6
def m7 : Memo := ⟨47, 1342, [.agg #[.int .i64 4, .slice (some ⟨553, 0, none⟩) 4 4, .slice (some ⟨1294, 0, none⟩) 4 18446744073709551620], .int .i64 0, .agg #[.bool false, .bool false, .bool false, .bool false, .bool false, .bool false, .bool false, .bool false, .bool false, .bool false, .bool false, .bool false, .bool false, .bool false, .bool false, .bool false, .bool false, .bool false, .bool false, .bool false, .bool false, .bool false, .bool false, .bool false]], [(1294, [.int .i64 0, .int .i64 1, .int .i64 8, .int .i64 50, .int .i64 1, .int .i64 2, .int .i64 8, .int .i64 0, .int .i64 2, .int .i64 3, .int .i64 80, .int .i64 7, .int .i64 0, .int .i64 2, .int .i64 1000, .int .i64 10000]), (553, [.bool true, .bool false, .bool false, .bool true])], .slice (some ⟨1344, 0, none⟩) 4 4, [(1344, [.bool true, .bool true, .bool true, .bool true])], 1365⟩
theorem says7 : memoSays (evM Try.prog [] 400) m7 = true := by kernel_rfl
theorem ok7 : m7.Ok Try.prog := memo_of (evM_ok special (ms := []) (fun _ h => by cases h) 400) says7
def m8 : Memo := ⟨37, 1233, [.agg #[.int .i64 4, .slice (some ⟨553, 0, none⟩) 4 4, .slice (some ⟨554, 0, none⟩) 3 3]], [(554, [.int .i64 0, .int .i64 1, .int .i64 8, .int .i64 50, .int .i64 1, .int .i64 2, .int .i64 8, .int .i64 0, .int .i64 2, .int .i64 3, .int .i64 80, .int .i64 7]), (553, [.bool true, .bool false, .bool false, .bool true])], .int .i64 0, [], 1289⟩
theorem says8 : memoSays (evM Try.prog [] 400) m8 = true := by kernel_rfl
theorem ok8 : m8.Ok Try.prog := memo_of (evM_ok special (ms := []) (fun _ h => by cases h) 400) says8
def m9 : Memo := ⟨18, 761, [.agg #[.int .i64 4, .slice (some ⟨553, 0, none⟩) 4 4, .slice (some ⟨554, 0, none⟩) 3 3], .int .i64 3, .slice (some ⟨760, 0, none⟩) 2 2], [(760, [.int .i64 0, .int .i64 0]), (554, [.int .i64 0, .int .i64 1, .int .i64 8, .int .i64 50, .int .i64 1, .int .i64 2, .int .i64 8, .int .i64 0, .int .i64 2, .int .i64 3, .int .i64 80, .int .i64 7]), (553, [.bool true, .bool false, .bool false, .bool true])], .tuple #[.slice (some ⟨824, 0, none⟩) 4 4, .int .i64 0], [(824, [.bool false, .bool true, .bool true, .bool true])], 841⟩
theorem says9 : memoSays (evM Try.prog [] 400) m9 = true := by kernel_rfl
theorem ok9 : m9.Ok Try.prog := memo_of (evM_ok special (ms := []) (fun _ h => by cases h) 400) says9
def m10 : Memo := ⟨13, 616, [.agg #[.int .i64 4, .slice (some ⟨553, 0, none⟩) 4 4, .slice (some ⟨554, 0, none⟩) 3 3], .int .i64 0, .int .i64 2], [(554, [.int .i64 0, .int .i64 1, .int .i64 8, .int .i64 50, .int .i64 1, .int .i64 2, .int .i64 8, .int .i64 0, .int .i64 2, .int .i64 3, .int .i64 80, .int .i64 7]), (553, [.bool true, .bool false, .bool false, .bool true])], .tuple #[.int .i64 0, .int .i64 4], [], 699⟩
theorem says10 : memoSays (evM Try.prog [] 400) m10 = true := by kernel_rfl
theorem ok10 : m10.Ok Try.prog := memo_of (evM_ok special (ms := []) (fun _ h => by cases h) 400) says10
def m11 : Memo := ⟨10, 0, [], [], .bool true, [], 552⟩
theorem says11 : memoSays (evM Try.prog [m0, m1, m2, m3, m4, m5, m6] 400) m11 = true := by kernel_rfl
theorem ok11 : m11.Ok Try.prog := memo_of (evM_ok special (ms := [m0, m1, m2, m3, m4, m5, m6]) (by intro x hx; simp only [List.mem_cons, List.not_mem_nil, or_false] at hx; rcases hx with rfl | rfl | rfl | rfl | rfl | rfl | rfl <;> first | exact ok0 | exact ok1 | exact ok2 | exact ok3 | exact ok4 | exact ok5 | exact ok6) 400) says11
def m12 : Memo := ⟨18, 842, [.agg #[.int .i64 4, .slice (some ⟨553, 0, none⟩) 4 4, .slice (some ⟨554, 0, none⟩) 3 3], .int .i64 0, .slice (some ⟨841, 0, none⟩) 1 1], [(841, [.int .i64 3]), (554, [.int .i64 0, .int .i64 1, .int .i64 8, .int .i64 50, .int .i64 1, .int .i64 2, .int .i64 8, .int .i64 0, .int .i64 2, .int .i64 3, .int .i64 80, .int .i64 7]), (553, [.bool true, .bool false, .bool false, .bool true])], .tuple #[.slice none 0 0, .int .i64 2], [], 902⟩
theorem says12 : memoSays (evM Try.prog [] 400) m12 = true := by kernel_rfl
theorem ok12 : m12.Ok Try.prog := memo_of (evM_ok special (ms := []) (fun _ h => by cases h) 400) says12
def m13 : Memo := ⟨13, 699, [.agg #[.int .i64 4, .slice (some ⟨553, 0, none⟩) 4 4, .slice (some ⟨554, 0, none⟩) 3 3], .int .i64 0, .int .i64 4], [(554, [.int .i64 0, .int .i64 1, .int .i64 8, .int .i64 50, .int .i64 1, .int .i64 2, .int .i64 8, .int .i64 0, .int .i64 2, .int .i64 3, .int .i64 80, .int .i64 7]), (553, [.bool true, .bool false, .bool false, .bool true])], .tuple #[.int .i64 0, .int .i64 2], [], 760⟩
theorem says13 : memoSays (evM Try.prog [] 400) m13 = true := by kernel_rfl
theorem ok13 : m13.Ok Try.prog := memo_of (evM_ok special (ms := []) (fun _ h => by cases h) 400) says13
def m14 : Memo := ⟨28, 556, [.agg #[.int .i64 4, .slice (some ⟨553, 0, none⟩) 4 4, .slice (some ⟨554, 0, none⟩) 3 3], .int .i64 2], [(554, [.int .i64 0, .int .i64 1, .int .i64 8, .int .i64 50, .int .i64 1, .int .i64 2, .int .i64 8, .int .i64 0, .int .i64 2, .int .i64 3, .int .i64 80, .int .i64 7]), (553, [.bool true, .bool false, .bool false, .bool true])], .tuple #[.int .i64 3, .int .i64 0], [], 616⟩
theorem says14 : memoSays (evM Try.prog [] 400) m14 = true := by kernel_rfl
theorem ok14 : m14.Ok Try.prog := memo_of (evM_ok special (ms := []) (fun _ h => by cases h) 400) says14
def m15 : Memo := ⟨37, 1295, [.agg #[.int .i64 4, .slice (some ⟨553, 0, none⟩) 4 4, .slice (some ⟨1294, 0, none⟩) 4 18446744073709551620]], [(1294, [.int .i64 0, .int .i64 1, .int .i64 8, .int .i64 50, .int .i64 1, .int .i64 2, .int .i64 8, .int .i64 0, .int .i64 2, .int .i64 3, .int .i64 80, .int .i64 7, .int .i64 0, .int .i64 2, .int .i64 1000, .int .i64 10000]), (553, [.bool true, .bool false, .bool false, .bool true])], .int .i64 0, [], 1366⟩
theorem says15 : memoSays (evM Try.prog [m7] 400) m15 = true := by kernel_rfl
theorem ok15 : m15.Ok Try.prog := memo_of (evM_ok special (ms := [m7]) (by intro x hx; simp only [List.mem_cons, List.not_mem_nil, or_false] at hx; rcases hx with rfl <;> first | exact ok7) 400) says15
def m16 : Memo := ⟨37, 1141, [.agg #[.int .i64 4, .slice (some ⟨553, 0, none⟩) 4 4, .slice (some ⟨954, 0, none⟩) 4 18446744073709551620]], [(954, [.int .i64 0, .int .i64 1, .int .i64 8, .int .i64 50, .int .i64 1, .int .i64 2, .int .i64 8, .int .i64 0, .int .i64 2, .int .i64 3, .int .i64 80, .int .i64 7, .int .i64 0, .int .i64 2, .int .i64 1, .int .i64 10001]), (553, [.bool true, .bool false, .bool false, .bool true])], .int .i64 260, [], 1181⟩
theorem says16 : memoSays (evM Try.prog [] 400) m16 = true := by kernel_rfl
theorem ok16 : m16.Ok Try.prog := memo_of (evM_ok special (ms := []) (fun _ h => by cases h) 400) says16
def m17 : Memo := ⟨37, 1100, [.agg #[.int .i64 4, .slice (some ⟨553, 0, none⟩) 4 4, .slice (some ⟨948, 0, none⟩) 4 18446744073709551620]], [(948, [.int .i64 0, .int .i64 1, .int .i64 8, .int .i64 50, .int .i64 1, .int .i64 2, .int .i64 8, .int .i64 0, .int .i64 2, .int .i64 3, .int .i64 80, .int .i64 7, .int .i64 0, .int .i64 2, .int .i64 1001, .int .i64 0]), (553, [.bool true, .bool false, .bool false, .bool true])], .int .i64 260, [], 1140⟩
theorem says17 : memoSays (evM Try.prog [] 400) m17 = true := by kernel_rfl
theorem ok17 : m17.Ok Try.prog := memo_of (evM_ok special (ms := []) (fun _ h => by cases h) 400) says17
theorem runs : saysTrueM Try.prog [m8, m9, m10, m11, m12, m13, m14, m15, m16, m17] 400 7 = true := by kernel_rfl
theorem closed : ∃ H' nx', CallOk Try.prog 7 [] [] 0 (.bool true) H' nx' := closed_ofM special (ms := [m8, m9, m10, m11, m12, m13, m14, m15, m16, m17]) (by intro x hx; simp only [List.mem_cons, List.not_mem_nil, or_false] at hx; rcases hx with rfl | rfl | rfl | rfl | rfl | rfl | rfl | rfl | rfl | rfl <;> first | exact ok8 | exact ok9 | exact ok10 | exact ok11 | exact ok12 | exact ok13 | exact ok14 | exact ok15 | exact ok16 | exact ok17) runs

open Go.ChangeShapes Go.WideShapes Go.ChangeAt Go.RowKit
theorem own : ownKnob Try.prog.godebug = none := by kernel_rfl
theorem walk (w : World) : Calls Try.prog 7 #[] w fun e w' => e = .returned (.bool true) ∧ Below w.heap.size w w' := by
  obtain ⟨H', nx', h⟩ := closed
  exact calls_closed h w

set_option maxRecDepth 100000 in
theorem lifted (os : Os) (started : os.Started) (H : Type) (enc : TypeId × Value → H) :
    ReturnsInHanded {} Try.checked os 7 .any (Rows.topoKnownSpec.pre6 enc Try.prog Try.f7 Rows.topoKnownRow.domain false) (Rows.topoKnownSpec.post enc Try.prog Try.f7 false true false false) := by
  refine returnsInHanded_of_change (C := Try.checked) own started (by kernel_rfl) Try.func7
    (ChangeSpec.witness6 (enc := enc) (C := Try.checked) false ⟨#[], #[], []⟩ 8 (by kernel_rfl) (by kernel_rfl) (by kernel_rfl) (by kernel_rfl)) ?_
  intro W base args ds gs before hval0 hW hcnd _
  have hA : Try.f7.params.toList = [] := by rw [Try.params7]
  have hW2 := hW
  obtain ⟨p, q, hA0, hV, rfl, hfz, hnd⟩ := hW2
  have hA0 : DataW.TrodAll enc Try.prog W 0 (fun _ => true) true Try.f7.params.toList args.toList ds p := hA0
  rw [hA] at hA0
  obtain ⟨rfl, rfl, rfl⟩ := trodAll_none hA0
  obtain ⟨rfl, rfl⟩ := trodVars_none hV
  refine (walk W).mono fun e W' ⟨he, hb⟩ => ?_
  subst he
  exact ⟨_, rfl, law_post rfl (by kernel_rfl) (by kernel_rfl) rfl Try.underlying4 hW rfl rfl rfl hb⟩

theorem over : Rows.topoKnownRow.holds Try.pinned (OpenSpec.ofChange Rows.topoKnownSpec) :=
  OpenClaim.holds_of_wide 7 Try.f7 rfl rfl rfl rfl rfl rfl rfl ⟨rfl, rfl, rfl, rfl, rfl⟩ rfl rfl rfl rfl rfl (by kernel_rfl) Try.func7 (by kernel_rfl)
    (of_decide_eq_true (by kernel_rfl)) (by unfold Func.isWrapper; first | (rw [if_pos (by decide +kernel)]; kernel_rfl) | (rw [if_neg (by decide +kernel)]; exact ⟨rfl, rfl⟩))
    (fun os started H enc _ => lifted os started H enc)

theorem proved : Rows.TopoKnownSaid := over
#print axioms proved
end Go.Proofs.Ytkngbmaomgfcjaa.topoKnown
