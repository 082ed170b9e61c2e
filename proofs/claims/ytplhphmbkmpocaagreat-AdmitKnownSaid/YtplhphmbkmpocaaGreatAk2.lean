/- Parts of a closed evaluation: calls, each evaluated by itself. -/
import Derived.Test.YtplhphmbkmpocaaGreatAk0
namespace Go.Proofs.YtplhphmbkmpocaaGreat.admitKnown
open Go.En

def m27 : Memo := ⟨101, 5116, [.agg #[.slice (some ⟨10, 0, none⟩) 1 1, .int .i64 100], .int .i64 8, .int .i64 200], [(10, [.int .i64 127, .int .i64 100])], .tuple #[.agg #[.int .i64 131072, .int .i64 1016], .int .i64 0], [], 5155⟩
theorem says27 : memoSays (evM Tryz.prog [] 400) m27 = true := by kernel_rfl
theorem ok27 : m27.Ok Tryz.prog := memo_of (evM_ok special (ms := []) (fun _ h => by cases h) 400) says27
def m28 : Memo := ⟨82, 5670, [.agg #[.int .i64 3, .slice (some ⟨1, 0, none⟩) 3 3, .slice (some ⟨2, 0, none⟩) 2 2], .agg #[.int .i64 1, .int .i64 0, .int .i64 2, .int .i64 6, .int .i64 100, .int .i64 0, .int .i64 200, .int .i64 16384, .int .i64 6000, .slice (some ⟨18, 0, none⟩) 1 1]], [(17, [.int .i64 0, .int .i64 2]), (18, [.slice (some ⟨17, 0, none⟩) 2 2]), (2, [.int .i64 0, .int .i64 1, .int .i64 8, .int .i64 5, .int .i64 1, .int .i64 2, .int .i64 8, .int .i64 5]), (1, [.bool true, .bool false, .bool true])], .bool true, [], 5770⟩
theorem says28 : memoSays (evM Tryz.prog [] 400) m28 = true := by kernel_rfl
theorem ok28 : m28.Ok Tryz.prog := memo_of (evM_ok special (ms := []) (fun _ h => by cases h) 400) says28
def m29 : Memo := ⟨82, 5569, [.agg #[.int .i64 3, .slice (some ⟨1, 0, none⟩) 3 3, .slice (some ⟨2, 0, none⟩) 2 2], .agg #[.int .i64 1, .int .i64 0, .int .i64 2, .int .i64 6, .int .i64 100, .int .i64 0, .int .i64 200, .int .i64 16384, .int .i64 6000, .slice (some ⟨18, 0, none⟩) 1 1]], [(17, [.int .i64 0, .int .i64 2]), (18, [.slice (some ⟨17, 0, none⟩) 2 2]), (2, [.int .i64 0, .int .i64 1, .int .i64 8, .int .i64 5, .int .i64 1, .int .i64 2, .int .i64 8, .int .i64 5]), (1, [.bool true, .bool false, .bool true])], .bool true, [], 5669⟩
theorem says29 : memoSays (evM Tryz.prog [] 400) m29 = true := by kernel_rfl
theorem ok29 : m29.Ok Tryz.prog := memo_of (evM_ok special (ms := []) (fun _ h => by cases h) 400) says29
def m33 : Memo := ⟨51, 5311, [.agg #[.int .i64 3, .slice (some ⟨1, 0, none⟩) 3 3, .slice (some ⟨2, 0, none⟩) 2 2], .agg #[.int .i64 1, .int .i64 0, .int .i64 2, .int .i64 6, .int .i64 100, .int .i64 0, .int .i64 200, .int .i64 16384, .int .i64 6000, .slice (some ⟨18, 0, none⟩) 1 1]], [(17, [.int .i64 0, .int .i64 2]), (18, [.slice (some ⟨17, 0, none⟩) 2 2]), (2, [.int .i64 0, .int .i64 1, .int .i64 8, .int .i64 5, .int .i64 1, .int .i64 2, .int .i64 8, .int .i64 5]), (1, [.bool true, .bool false, .bool true])], .int .i64 0, [], 5452⟩
theorem says33 : memoSays (evM Tryz.prog [] 400) m33 = true := by kernel_rfl
theorem ok33 : m33.Ok Tryz.prog := memo_of (evM_ok special (ms := []) (fun _ h => by cases h) 400) says33
def m35 : Memo := ⟨72, 5845, [.agg #[.int .i64 3, .slice (some ⟨1, 0, none⟩) 3 3, .slice (some ⟨2, 0, none⟩) 2 2], .slice (some ⟨21, 0, none⟩) 1 1], [(17, [.int .i64 0, .int .i64 2]), (18, [.slice (some ⟨17, 0, none⟩) 2 2]), (21, [.int .i64 1, .int .i64 0, .int .i64 2, .int .i64 6, .int .i64 100, .int .i64 0, .int .i64 200, .int .i64 16384, .int .i64 6000, .slice (some ⟨18, 0, none⟩) 1 1]), (2, [.int .i64 0, .int .i64 1, .int .i64 8, .int .i64 5, .int .i64 1, .int .i64 2, .int .i64 8, .int .i64 5]), (1, [.bool true, .bool false, .bool true])], .int .i64 0, [], 5991⟩
theorem says35 : memoSays (evM Tryz.prog [] 400) m35 = true := by kernel_rfl
theorem ok35 : m35.Ok Tryz.prog := memo_of (evM_ok special (ms := []) (fun _ h => by cases h) 400) says35
def m36 : Memo := ⟨80, 6367, [.agg #[.int .i64 3, .slice (some ⟨1, 0, none⟩) 3 3, .slice (some ⟨2, 0, none⟩) 2 2], .int .i64 2], [(2, [.int .i64 0, .int .i64 1, .int .i64 8, .int .i64 5, .int .i64 1, .int .i64 2, .int .i64 8, .int .i64 5]), (1, [.bool true, .bool false, .bool true])], .tuple #[.int .i64 5, .int .i64 0], [], 6410⟩
theorem says36 : memoSays (evM Tryz.prog [] 400) m36 = true := by kernel_rfl
theorem ok36 : m36.Ok Tryz.prog := memo_of (evM_ok special (ms := []) (fun _ h => by cases h) 400) says36
def m37 : Memo := ⟨80, 6321, [.agg #[.int .i64 3, .slice (some ⟨1, 0, none⟩) 3 3, .slice (some ⟨2, 0, none⟩) 2 2], .int .i64 0], [(2, [.int .i64 0, .int .i64 1, .int .i64 8, .int .i64 5, .int .i64 1, .int .i64 2, .int .i64 8, .int .i64 5]), (1, [.bool true, .bool false, .bool true])], .tuple #[.int .i64 5, .int .i64 0], [], 6364⟩
theorem says37 : memoSays (evM Tryz.prog [] 400) m37 = true := by kernel_rfl
theorem ok37 : m37.Ok Tryz.prog := memo_of (evM_ok special (ms := []) (fun _ h => by cases h) 400) says37
def m38 : Memo := ⟨100, 6171, [.agg #[.int .i64 3, .slice (some ⟨1, 0, none⟩) 3 3, .slice (some ⟨2, 0, none⟩) 2 2], .int .i64 2], [(2, [.int .i64 0, .int .i64 1, .int .i64 8, .int .i64 5, .int .i64 1, .int .i64 2, .int .i64 8, .int .i64 5]), (1, [.bool true, .bool false, .bool true])], .tuple #[.int .i64 8, .int .i64 0], [], 6214⟩
theorem says38 : memoSays (evM Tryz.prog [] 400) m38 = true := by kernel_rfl
theorem ok38 : m38.Ok Tryz.prog := memo_of (evM_ok special (ms := []) (fun _ h => by cases h) 400) says38
def m39 : Memo := ⟨100, 6012, [.agg #[.int .i64 3, .slice (some ⟨1, 0, none⟩) 3 3, .slice (some ⟨2, 0, none⟩) 2 2], .int .i64 0], [(2, [.int .i64 0, .int .i64 1, .int .i64 8, .int .i64 5, .int .i64 1, .int .i64 2, .int .i64 8, .int .i64 5]), (1, [.bool true, .bool false, .bool true])], .tuple #[.int .i64 8, .int .i64 0], [], 6055⟩
theorem says39 : memoSays (evM Tryz.prog [] 400) m39 = true := by kernel_rfl
theorem ok39 : m39.Ok Tryz.prog := memo_of (evM_ok special (ms := []) (fun _ h => by cases h) 400) says39
def m40 : Memo := ⟨13, 5777, [.agg #[.int .i64 3, .slice (some ⟨1, 0, none⟩) 3 3, .slice (some ⟨2, 0, none⟩) 2 2, .int .i64 100, .int .i64 2, .int .i64 10, .int .i64 8000, .slice (some ⟨15, 0, none⟩) 4 18446744073709551618, .int .i64 200]], [(13, [.int .i64 127, .int .i64 100]), (10, [.int .i64 127, .int .i64 100]), (7, [.int .i64 127, .int .i64 100]), (4, [.int .i64 127, .int .i64 100]), (15, [.slice (some ⟨4, 0, none⟩) 1 1, .int .i64 100, .slice (some ⟨7, 0, none⟩) 1 1, .int .i64 100, .slice (some ⟨10, 0, none⟩) 1 1, .int .i64 100, .slice (some ⟨13, 0, none⟩) 1 1, .int .i64 100]), (2, [.int .i64 0, .int .i64 1, .int .i64 8, .int .i64 5, .int .i64 1, .int .i64 2, .int .i64 8, .int .i64 5]), (1, [.bool true, .bool false, .bool true])], .int .i64 0, [], 5845⟩
theorem says40 : memoSays (evM Tryz.prog [] 400) m40 = true := by kernel_rfl
theorem ok40 : m40.Ok Tryz.prog := memo_of (evM_ok special (ms := []) (fun _ h => by cases h) 400) says40
def m42 : Memo := ⟨72, 6483, [.agg #[.int .i64 3, .slice (some ⟨1, 0, none⟩) 3 3, .slice (some ⟨2, 0, none⟩) 2 2], .slice (some ⟨21, 0, none⟩) 1 1], [(17, [.int .i64 0, .int .i64 2]), (18, [.slice (some ⟨17, 0, none⟩) 2 2]), (21, [.int .i64 1, .int .i64 0, .int .i64 2, .int .i64 6, .int .i64 100, .int .i64 0, .int .i64 200, .int .i64 16384, .int .i64 6000, .slice (some ⟨18, 0, none⟩) 1 1]), (2, [.int .i64 0, .int .i64 1, .int .i64 8, .int .i64 5, .int .i64 1, .int .i64 2, .int .i64 8, .int .i64 5]), (1, [.bool true, .bool false, .bool true])], .int .i64 0, [], 6629⟩
theorem says42 : memoSays (evM Tryz.prog [] 400) m42 = true := by kernel_rfl
theorem ok42 : m42.Ok Tryz.prog := memo_of (evM_ok special (ms := []) (fun _ h => by cases h) 400) says42
def m43 : Memo := ⟨100, 6809, [.agg #[.int .i64 3, .slice (some ⟨1, 0, none⟩) 3 3, .slice (some ⟨2, 0, none⟩) 2 2], .int .i64 2], [(2, [.int .i64 0, .int .i64 1, .int .i64 8, .int .i64 5, .int .i64 1, .int .i64 2, .int .i64 8, .int .i64 5]), (1, [.bool true, .bool false, .bool true])], .tuple #[.int .i64 8, .int .i64 0], [], 6852⟩
theorem says43 : memoSays (evM Tryz.prog [] 400) m43 = true := by kernel_rfl
theorem ok43 : m43.Ok Tryz.prog := memo_of (evM_ok special (ms := []) (fun _ h => by cases h) 400) says43
def m44 : Memo := ⟨80, 7005, [.agg #[.int .i64 3, .slice (some ⟨1, 0, none⟩) 3 3, .slice (some ⟨2, 0, none⟩) 2 2], .int .i64 2], [(2, [.int .i64 0, .int .i64 1, .int .i64 8, .int .i64 5, .int .i64 1, .int .i64 2, .int .i64 8, .int .i64 5]), (1, [.bool true, .bool false, .bool true])], .tuple #[.int .i64 5, .int .i64 0], [], 7048⟩
theorem says44 : memoSays (evM Tryz.prog [] 400) m44 = true := by kernel_rfl
theorem ok44 : m44.Ok Tryz.prog := memo_of (evM_ok special (ms := []) (fun _ h => by cases h) 400) says44
def m45 : Memo := ⟨80, 6959, [.agg #[.int .i64 3, .slice (some ⟨1, 0, none⟩) 3 3, .slice (some ⟨2, 0, none⟩) 2 2], .int .i64 0], [(2, [.int .i64 0, .int .i64 1, .int .i64 8, .int .i64 5, .int .i64 1, .int .i64 2, .int .i64 8, .int .i64 5]), (1, [.bool true, .bool false, .bool true])], .tuple #[.int .i64 5, .int .i64 0], [], 7002⟩
theorem says45 : memoSays (evM Tryz.prog [] 400) m45 = true := by kernel_rfl
theorem ok45 : m45.Ok Tryz.prog := memo_of (evM_ok special (ms := []) (fun _ h => by cases h) 400) says45
def m46 : Memo := ⟨13, 6415, [.agg #[.int .i64 3, .slice (some ⟨1, 0, none⟩) 3 3, .slice (some ⟨2, 0, none⟩) 2 2, .int .i64 100, .int .i64 2, .int .i64 10, .int .i64 8000, .slice (some ⟨15, 0, none⟩) 4 18446744073709551618, .int .i64 200]], [(13, [.int .i64 127, .int .i64 100]), (10, [.int .i64 127, .int .i64 100]), (7, [.int .i64 127, .int .i64 100]), (4, [.int .i64 127, .int .i64 100]), (15, [.slice (some ⟨4, 0, none⟩) 1 1, .int .i64 100, .slice (some ⟨7, 0, none⟩) 1 1, .int .i64 100, .slice (some ⟨10, 0, none⟩) 1 1, .int .i64 100, .slice (some ⟨13, 0, none⟩) 1 1, .int .i64 100]), (2, [.int .i64 0, .int .i64 1, .int .i64 8, .int .i64 5, .int .i64 1, .int .i64 2, .int .i64 8, .int .i64 5]), (1, [.bool true, .bool false, .bool true])], .int .i64 0, [], 6483⟩
theorem says46 : memoSays (evM Tryz.prog [] 400) m46 = true := by kernel_rfl
theorem ok46 : m46.Ok Tryz.prog := memo_of (evM_ok special (ms := []) (fun _ h => by cases h) 400) says46
def m47 : Memo := ⟨100, 6650, [.agg #[.int .i64 3, .slice (some ⟨1, 0, none⟩) 3 3, .slice (some ⟨2, 0, none⟩) 2 2], .int .i64 0], [(2, [.int .i64 0, .int .i64 1, .int .i64 8, .int .i64 5, .int .i64 1, .int .i64 2, .int .i64 8, .int .i64 5]), (1, [.bool true, .bool false, .bool true])], .tuple #[.int .i64 8, .int .i64 0], [], 6693⟩
theorem says47 : memoSays (evM Tryz.prog [] 400) m47 = true := by kernel_rfl
theorem ok47 : m47.Ok Tryz.prog := memo_of (evM_ok special (ms := []) (fun _ h => by cases h) 400) says47
def m48 : Memo := ⟨101, 6853, [.agg #[.slice (some ⟨10, 0, none⟩) 1 1, .int .i64 100], .int .i64 8, .int .i64 200], [(10, [.int .i64 127, .int .i64 100])], .tuple #[.agg #[.int .i64 131072, .int .i64 1016], .int .i64 0], [], 6892⟩
theorem says48 : memoSays (evM Tryz.prog [] 400) m48 = true := by kernel_rfl
theorem ok48 : m48.Ok Tryz.prog := memo_of (evM_ok special (ms := []) (fun _ h => by cases h) 400) says48
def m50 : Memo := ⟨72, 7435, [.agg #[.int .i64 3, .slice (some ⟨1, 0, none⟩) 3 3, .slice (some ⟨2, 0, none⟩) 2 2], .slice (some ⟨7364, 0, none⟩) 1 18446744073709551626], [(17, [.int .i64 0, .int .i64 2]), (18, [.slice (some ⟨17, 0, none⟩) 2 2]), (7364, [.int .i64 1, .int .i64 0, .int .i64 2, .int .i64 7, .int .i64 100, .int .i64 9, .int .i64 0, .int .i64 0, .int .i64 6000, .slice (some ⟨18, 0, none⟩) 1 1]), (2, [.int .i64 0, .int .i64 1, .int .i64 8, .int .i64 5, .int .i64 1, .int .i64 2, .int .i64 8, .int .i64 5]), (1, [.bool true, .bool false, .bool true])], .int .i64 0, [], 7580⟩
theorem says50 : memoSays (evM Tryz.prog [] 400) m50 = true := by kernel_rfl
theorem ok50 : m50.Ok Tryz.prog := memo_of (evM_ok special (ms := []) (fun _ h => by cases h) 400) says50
def m51 : Memo := ⟨51, 7221, [.agg #[.int .i64 3, .slice (some ⟨1, 0, none⟩) 3 3, .slice (some ⟨2, 0, none⟩) 2 2], .agg #[.int .i64 1, .int .i64 0, .int .i64 2, .int .i64 7, .int .i64 100, .int .i64 9, .int .i64 0, .int .i64 0, .int .i64 6000, .slice (some ⟨18, 0, none⟩) 1 1]], [(17, [.int .i64 0, .int .i64 2]), (18, [.slice (some ⟨17, 0, none⟩) 2 2]), (2, [.int .i64 0, .int .i64 1, .int .i64 8, .int .i64 5, .int .i64 1, .int .i64 2, .int .i64 8, .int .i64 5]), (1, [.bool true, .bool false, .bool true])], .int .i64 0, [], 7361⟩
theorem says51 : memoSays (evM Tryz.prog [] 400) m51 = true := by kernel_rfl
theorem ok51 : m51.Ok Tryz.prog := memo_of (evM_ok special (ms := []) (fun _ h => by cases h) 400) says51
def m52 : Memo := ⟨20, 7058, [.agg #[.int .i64 3, .slice (some ⟨1, 0, none⟩) 3 3, .slice (some ⟨2, 0, none⟩) 2 2, .int .i64 100, .int .i64 2, .int .i64 10, .int .i64 8000, .slice (some ⟨15, 0, none⟩) 4 18446744073709551618, .int .i64 200], .slice none 0 0], [(13, [.int .i64 127, .int .i64 100]), (10, [.int .i64 127, .int .i64 100]), (7, [.int .i64 127, .int .i64 100]), (4, [.int .i64 127, .int .i64 100]), (15, [.slice (some ⟨4, 0, none⟩) 1 1, .int .i64 100, .slice (some ⟨7, 0, none⟩) 1 1, .int .i64 100, .slice (some ⟨10, 0, none⟩) 1 1, .int .i64 100, .slice (some ⟨13, 0, none⟩) 1 1, .int .i64 100]), (2, [.int .i64 0, .int .i64 1, .int .i64 8, .int .i64 5, .int .i64 1, .int .i64 2, .int .i64 8, .int .i64 5]), (1, [.bool true, .bool false, .bool true])], .int .i64 0, [], 7221⟩
theorem says52 : memoSays (evM Tryz.prog [] 400) m52 = true := by kernel_rfl
theorem ok52 : m52.Ok Tryz.prog := memo_of (evM_ok special (ms := []) (fun _ h => by cases h) 400) says52
def m54 : Memo := ⟨72, 7655, [.agg #[.int .i64 3, .slice (some ⟨1, 0, none⟩) 3 3, .slice (some ⟨2, 0, none⟩) 2 2], .slice (some ⟨7582, 0, none⟩) 1 1], [(7052, [.int .i64 0, .int .i64 2]), (7053, [.slice (some ⟨7052, 0, none⟩) 2 2]), (7582, [.int .i64 1, .int .i64 0, .int .i64 2, .int .i64 6, .int .i64 100, .int .i64 0, .int .i64 200, .int .i64 16384, .int .i64 5261, .slice (some ⟨7053, 0, none⟩) 1 1]), (2, [.int .i64 0, .int .i64 1, .int .i64 8, .int .i64 5, .int .i64 1, .int .i64 2, .int .i64 8, .int .i64 5]), (1, [.bool true, .bool false, .bool true])], .int .i64 0, [], 7801⟩
theorem says54 : memoSays (evM Tryz.prog [] 400) m54 = true := by kernel_rfl
theorem ok54 : m54.Ok Tryz.prog := memo_of (evM_ok special (ms := []) (fun _ h => by cases h) 400) says54
def m55 : Memo := ⟨80, 8177, [.agg #[.int .i64 3, .slice (some ⟨1, 0, none⟩) 3 3, .slice (some ⟨2, 0, none⟩) 2 2], .int .i64 2], [(2, [.int .i64 0, .int .i64 1, .int .i64 8, .int .i64 5, .int .i64 1, .int .i64 2, .int .i64 8, .int .i64 5]), (1, [.bool true, .bool false, .bool true])], .tuple #[.int .i64 5, .int .i64 0], [], 8220⟩
theorem says55 : memoSays (evM Tryz.prog [] 400) m55 = true := by kernel_rfl
theorem ok55 : m55.Ok Tryz.prog := memo_of (evM_ok special (ms := []) (fun _ h => by cases h) 400) says55
def m56 : Memo := ⟨100, 7822, [.agg #[.int .i64 3, .slice (some ⟨1, 0, none⟩) 3 3, .slice (some ⟨2, 0, none⟩) 2 2], .int .i64 0], [(2, [.int .i64 0, .int .i64 1, .int .i64 8, .int .i64 5, .int .i64 1, .int .i64 2, .int .i64 8, .int .i64 5]), (1, [.bool true, .bool false, .bool true])], .tuple #[.int .i64 8, .int .i64 0], [], 7865⟩
theorem says56 : memoSays (evM Tryz.prog [] 400) m56 = true := by kernel_rfl
theorem ok56 : m56.Ok Tryz.prog := memo_of (evM_ok special (ms := []) (fun _ h => by cases h) 400) says56
def m57 : Memo := ⟨100, 7981, [.agg #[.int .i64 3, .slice (some ⟨1, 0, none⟩) 3 3, .slice (some ⟨2, 0, none⟩) 2 2], .int .i64 2], [(2, [.int .i64 0, .int .i64 1, .int .i64 8, .int .i64 5, .int .i64 1, .int .i64 2, .int .i64 8, .int .i64 5]), (1, [.bool true, .bool false, .bool true])], .tuple #[.int .i64 8, .int .i64 0], [], 8024⟩
theorem says57 : memoSays (evM Tryz.prog [] 400) m57 = true := by kernel_rfl
theorem ok57 : m57.Ok Tryz.prog := memo_of (evM_ok special (ms := []) (fun _ h => by cases h) 400) says57
end Go.Proofs.YtplhphmbkmpocaaGreat.admitKnown
