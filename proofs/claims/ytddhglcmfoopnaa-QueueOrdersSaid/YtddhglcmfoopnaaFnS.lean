/- Contracts at other names: Head, Pop, Return, Push and the reference's. -/
import Derived.Test.YtddhglcmfoopnaaFnR
namespace Go.Proofs.Ytddhglcmfoopnaa.queue
open Go Go.En
set_option linter.unusedVariables false

theorem holds_snoc (l : List Pt) (p : Pt) : Holds (pcs l ++ pcs [p]) 0 (l ++ [p]) := by
  rw [← pcs_append]; exact holds_0 _
theorem holds_cons (l : List Pt) (p : Pt) : Holds (pcs [p] ++ pcs l) 0 (p :: l) := by
  have := holds_0 (p :: l)
  simpa [pcs] using this
theorem push_noM {cs : List Value} {off c : Nat} {cap : Int} {i : It} (hs : avL cs = true) {l : List Pt} (hl : l.length < 9223372036854775807) (hh : Holds cs off l) {p1 p2 p3 : Bool} (h1 : checkS cap l = p1) (h2 : itemOk i = p2) (h3 : overS cap l i = p3) (hno : (p1 && p2 && !p3) = false) (nx : Nat) :
    Memo.Ok Try.prog ⟨21, nx, [qv cap 0 off l.length c, i.v], [(0, cs)], pushV p1 p2 p3 (qv cap 0 off l.length c) (.bool true), [], nx⟩ :=
  memo_blk (push_no (c := c) hs hl hh h1 h2 h3 hno (.bool true)) hs 0 nx (by cases p1 <;> cases p2 <;> cases p3 <;> kernel_rfl) rfl (by cases p1 <;> cases p2 <;> cases p3 <;> rfl)
theorem push_yesM {cs : List Value} {off c : Nat} {cap : Int} {i : It} (hs : avL cs = true) {l : List Pt} (hl : l.length ≤ 999) (hc : l.length ≤ c) (hc2 : c < openCap) (hh : Holds cs off l) (h1 : checkS cap l = true) (h2 : itemOk i = true) (h3 : overS cap l i = false) (nx : Nat) :
    Memo.Ok Try.prog ⟨21, nx, [qv cap 0 off l.length c, i.v], [(0, cs)], .tuple #[qv cap (nx + 7) 0 (l.length + 1) oc7, .bool true, .int .i64 0], [(nx + 7, pcs l ++ pcs [wholeP i])], nx + 8⟩ :=
  memo_blkN (push_yes hs hl hc hc2 hh h1 h2 h3) hs (avL_app (avL_pcs _) (avL_pcs _)) 0 nx (by kernel_rfl) rfl rfl rfl rfl
theorem pushR_noM {cs : List Value} {off c : Nat} {cap : Int} {i : It} (hs : avL cs = true) {l : List Pt} (hl : l.length < 9223372036854775807) (hh : Holds cs off l) (h3 : overS cap l i = true) (nx : Nat) :
    Memo.Ok Try.prog ⟨22, nx, [qv cap 0 off l.length c, i.v], [(0, cs)], .tuple #[qv cap 0 off l.length c, .bool false], [], nx⟩ :=
  memo_blk (pushR_no hs hl hh h3) hs 0 nx (by kernel_rfl) rfl rfl
theorem pushR_yesM {cs : List Value} {off c : Nat} {cap : Int} {i : It} (hs : avL cs = true) {l : List Pt} (hl : l.length ≤ 999) (hh : Holds cs off l) (h3 : overS cap l i = false) (nx : Nat) :
    Memo.Ok Try.prog ⟨22, nx, [qv cap 0 off l.length c, i.v], [(0, cs)], .tuple #[qv cap (nx + 5) 0 (l.length + 1) oc7, .bool true], [(nx + 5, pcs l ++ pcs [wholeP i])], nx + 6⟩ :=
  memo_blkN (pushR_yes hs hl hh h3) hs (avL_app (avL_pcs _) (avL_pcs _)) 0 nx (by kernel_rfl) rfl rfl rfl rfl

def popO (off c : Nat) : Nat := if c = 1 then off else off + 7
/-- x[1:] -/
theorem slc_1 {off n c : Nat} (h0 : 0 < n) (hm : n ≤ c) (hc : c < openCap) : doSlice Try.prog 22 (.slice (some ⟨0, off, none⟩) n c) (some (.int .i64 1)) none none = some (.slice (some ⟨0, popO off c, none⟩) (n - 1) (c - 1)) := by
  obtain ⟨inf, h1, h2⟩ := i28
  have hb : bnd (.int .i64 1) n = some 1 := bnd_nat (k := .i64) (h := 1) h0
  by_cases h : c = 1
  · subst h
    have : n = 1 := by omega
    subst this
    simp [doSlice, h1, hc, bnds, lowB, highB, hb, popO]
  · simp [doSlice, h1, h2, hc, bnds, lowB, highB, hm, hb, popO, h]
theorem holds_pop {cs : List Value} {off c : Nat} {q : Pt} {m : List Pt} (hh : Holds cs off (q :: m)) (hm : (q :: m).length ≤ c) : Holds cs (popO off c) m := by
  unfold popO
  split
  · have : m = [] := by
      apply List.length_eq_zero_iff.1
      simp at hm; omega
    subst this
    intro i p h; simp at h
  · exact holds_tl hh
theorem head_m {cs : List Value} {off c : Nat} {cap : Int} (hs : avL cs = true) {l : List Pt} (hl : l.length < 9223372036854775807) (hh : Holds cs off l) {p : Bool} (h : checkS cap l = p) (b nx : Nat) :
    Memo.Ok Try.prog ⟨23, nx, [qv cap b off l.length c], [(b, cs)], headV p l, [], nx⟩ :=
  memo_blk (h ▸ head_0 hs hl hh) hs b nx (by cases l <;> cases p <;> kernel_rfl) rfl (by cases l <;> cases p <;> rfl)
theorem rest_m {cs : List Value} {off c : Nat} {cap : Int} (hs : avL cs = true) {l : List Pt} (hl : l.length < 9223372036854775807) (hh : Holds cs off l) (b nx : Nat) :
    Memo.Ok Try.prog ⟨26, nx, [qv cap b off l.length c], [(b, cs)], .bool (restS l), [], nx⟩ :=
  memo_blk (rest_0 hs hl hh) hs b nx (by kernel_rfl) rfl rfl
def popVb (b : Nat) (p : Bool) (cap : Int) (off' c' : Nat) : List Pt → Value
  | [] => .tuple #[q0 0, zp.v, .int .i64 (bif p then 4 else 461)]
  | q :: l => bif p then .tuple #[qv cap b off' l.length c', q.v, .int .i64 0] else .tuple #[q0 0, zp.v, .int .i64 461]
theorem pop_m {cs : List Value} {off c off' c' : Nat} {cap : Int} (hs : avL cs = true) {l : List Pt} (hl : l.length < 9223372036854775807) (hh : Holds cs off l) {p : Bool} (h : checkS cap l = p)
    (hsl : 0 < l.length → doSlice Try.prog 22 (.slice (some ⟨0, off, none⟩) l.length c) (some (.int .i64 1)) none none = some (.slice (some ⟨0, off', none⟩) (l.length - 1) c')) (b nx : Nat) :
    Memo.Ok Try.prog ⟨24, nx, [qv cap b off l.length c], [(b, cs)], popVb b p cap off' c' l, [], nx⟩ :=
  memo_blk (h ▸ pop_0 hs hl hh hsl) hs b nx (by cases l <;> cases p <;> kernel_rfl) rfl (by cases l <;> cases p <;> rfl)
theorem return_noM {cs : List Value} {off c : Nat} {cap : Int} {p : Pt} (hs : avL cs = true) {l : List Pt} (hl : l.length < 9223372036854775807) (hh : Holds cs off l) {p1 p2 p3 : Bool} (h1 : checkS cap l = p1) (h2 : partC p = p2) (h3 : (!p.rest || restS l) = p3) (hno : (p1 && p2 && !p3) = false) (nx : Nat) :
    Memo.Ok Try.prog ⟨25, nx, [qv cap 0 off l.length c, p.v], [(0, cs)], retNo p1 p2, [], nx⟩ :=
  memo_blk (return_no (c := c) hs hl hh h1 h2 h3 hno) hs 0 nx (by kernel_rfl) rfl rfl
theorem return_oneM {cs : List Value} {off c : Nat} {cap : Int} {p : Pt} (hs : avL cs = true) (h1 : checkS cap [] = true) (h2 : partC p = true) (h3 : p.rest = true) (nx : Nat) :
    Memo.Ok Try.prog ⟨25, nx, [qv cap 0 off 0 c, p.v], [(0, cs)], .tuple #[qv cap (nx + 4) 0 1 1, .int .i64 0], [(nx + 4, pcs [p])], nx + 6⟩ :=
  memo_blkN (return_one hs h1 h2 h3) hs (avL_pcs _) 0 nx (by kernel_rfl) rfl rfl rfl rfl
theorem return_yesM {cs : List Value} {off c : Nat} {cap : Int} {p q : Pt} (hs : avL cs = true) {l : List Pt} (hl : (q :: l).length ≤ 999) (hh : Holds cs off (q :: l)) (h1 : checkS cap (q :: l) = true) (h2 : partC p = true) (h3 : p.rest = true) (h4 : q.rest = false) (nx : Nat) :
    Memo.Ok Try.prog ⟨25, nx, [qv cap 0 off (q :: l).length c, p.v], [(0, cs)], .tuple #[qv cap (nx + 6) 0 (1 + (q :: l).length) oc7, .int .i64 0], [(nx + 6, pcs [p] ++ pcs (q :: l))], nx + 7⟩ :=
  memo_blkN (return_yes hs hl hh h1 h2 h3 h4) hs (avL_app (avL_pcs _) (avL_pcs _)) 0 nx (by kernel_rfl) rfl rfl rfl rfl
theorem returnR_oneM {cs : List Value} {off c : Nat} {cap : Int} {p : Pt} (hs : avL cs = true) (nx : Nat) :
    Memo.Ok Try.prog ⟨27, nx, [qv cap 0 off 0 c, p.v], [(0, cs)], qv cap (nx + 3) 0 1 1, [(nx + 3, pcs [p])], nx + 5⟩ :=
  memo_blkN returnR_one hs (avL_pcs _) 0 nx (by kernel_rfl) rfl rfl rfl rfl
theorem returnR_yesM {cs : List Value} {off c : Nat} {cap : Int} {p : Pt} (hs : avL cs = true) {l : List Pt} (h0 : 0 < l.length) (hl : l.length ≤ 999) (hh : Holds cs off l) (nx : Nat) :
    Memo.Ok Try.prog ⟨27, nx, [qv cap 0 off l.length c, p.v], [(0, cs)], qv cap (nx + 4) 0 (1 + l.length) oc7, [(nx + 4, pcs [p] ++ pcs l)], nx + 5⟩ :=
  memo_blkN (returnR_yes h0 hl hh) hs (avL_app (avL_pcs _) (avL_pcs _)) 0 nx (by kernel_rfl) rfl rfl rfl rfl
end Go.Proofs.Ytddhglcmfoopnaa.queue
