/- Contracts of the reference's functions with loops over a queue's parts. -/
import Derived.Test.YtddhglcmfoopnaaFnA
import Derived.Test.YtddhglcmfoopnaaEnOG
namespace Go.Proofs.Ytddhglcmfoopnaa.queue
open Go Go.En
set_option linter.unusedVariables false

/-- The cells hold these parts from off on. -/
def Holds (cs : List Value) (off : Nat) (l : List Pt) : Prop := ∀ (i : Nat) p, l[i]? = some p → ∀ (j : Nat) v, p.cells[j]? = some v → cs[off + i * 7 + j]? = some v
def J : Value := junk
theorem ix22 {b off n c i : Nat} (h : i < n) : doIndexAddr Try.prog 22 (.slice (some ⟨b, off, none⟩) n c) (.int .i64 i) = some (.pointer (some ⟨b, off + i * 7, none⟩)) := by
  have hu : Try.prog.underlying 22 = some (.slice 28) := by kernel_rfl
  have hi : (Try.prog.info? 28).map (·.size) = some 7 := by kernel_rfl
  cases he : Try.prog.info? 28 with
  | none => rw [he] at hi; cases hi
  | some inf =>
    rw [he] at hi
    have h7 : inf.size = 7 := by simpa using hi
    have := ix_at (P := Try.prog) (b := b) (off := off) (c := c) (k := .i64) hu he h
    rwa [h7] at this

def sumW (f : Pt → Int) (l : List Pt) (a : Int) : Int := l.foldl (fun a p => IntKind.i64.wrap (a + f p)) a

def T18 (acc i : Int) : List Value := [J, .pointer (some ⟨1, 0, none⟩), .int .i64 0, .int .i64 acc, .int .i64 i, J, J, J, J, J, J, J, J, J, J, J, J, J, J, J, J]
def H18 (cap : Int) (off n c : Nat) (cs : List Value) : Hp := [(1, .cells [.int .i64 cap, .slice (some ⟨0, off, none⟩) n c] true), (0, .cells cs true)]

theorem H18_below {cap : Int} {off n c : Nat} {cs : List Value} (hs : smallL (small 2 5) cs = true) : hpBelow 2 (H18 cap off n c cs) = true := by
  simp [H18, hpBelow, tidyB, hs, smallL, small]

theorem oct_go {cs : List Value} {off n c : Nat} {cap acc : Int} {i : Nat} {p : Pt} (hi : i < n) (hp : ∀ (j : Nat) v, p.cells[j]? = some v → cs[off + i * 7 + j]? = some v) (hs : smallL (small 2 5) cs = true) :
    CodeOk Try.prog none (lp Try.prog 18 3) (T18 acc i) [] (H18 cap off n c cs) 2 ⟨.normal, T18 (IntKind.i64.wrap (acc + p.left)) (IntKind.i64.wrap (i + 1)), [], H18 cap off n c cs, 2⟩ := by
  obtain ⟨⟨a, b, c', d, e⟩, left, rest⟩ := p
  refine code_by (hs := [(9, .val (.bool (decide ((i : Int) < n))) (.bool true)), (16, .win 22 (.slice (some ⟨0, off, none⟩) n c) (.int .i64 i) 0 (off + i * 7) cs (Pt.cells ⟨⟨a, b, c', d, e⟩, left, rest⟩))]) (ch := []) (evk 50) special
    ⟨congrArg Value.bool (decide_eq_true (by omega)), ⟨ix22 hi, hp⟩, trivial⟩ trivial (T18 0 0) (by kernel_rfl) (H18_below hs) (H18_below hs) (by kernel_rfl)
theorem oct_out {cs : List Value} {off n c : Nat} {cap acc : Int} (hs : smallL (small 2 5) cs = true) :
    CodeOk Try.prog none (lp Try.prog 18 3) (T18 acc n) [] (H18 cap off n c cs) 2 ⟨.exit 0, T18 acc n, [], H18 cap off n c cs, 2⟩ :=
  code_by (hs := [(9, .val (.bool (decide ((n : Int) < n))) (.bool false))]) (ch := []) (evk 50) special
    ⟨congrArg Value.bool (decide_eq_false (by omega)), trivial⟩ trivial (T18 0 0) (by kernel_rfl) (H18_below hs) (H18_below hs) (by kernel_rfl)

theorem wrap_nat {n : Nat} (h : n < 9223372036854775808) : IntKind.i64.wrap (n : Int) = n := by
  simp only [IntKind.wrap, IntKind.signed, IntKind.bits]
  simp
  omega

theorem oct_loop {cs : List Value} {off c : Nat} {cap : Int} (hs : smallL (small 2 5) cs = true) {l : List Pt} (hl : l.length < 9223372036854775807) (hh : Holds cs off l) :
    ∀ (k i : Nat) (acc : Int), i + k = l.length → LoopOk Try.prog none (lp Try.prog 18 3) (T18 acc i) [] (H18 cap off l.length c cs) 2 ⟨.exit 0, T18 (sumW (·.left) (l.drop i) acc) l.length, [], H18 cap off l.length c cs, 2⟩
  | 0, i, acc, hi => by
    have : i = l.length := by omega
    subst this
    rw [List.drop_length]
    exact loopOk_out (oct_out hs) (by simp)
  | k + 1, i, acc, hi => by
    have hil : i < l.length := by omega
    have hp : l[i]? = some l[i] := List.getElem?_eq_getElem hil
    have h1 := oct_go (cap := cap) (acc := acc) (c := c) hil (hh i _ hp) hs
    rw [show (i : Int) + 1 = ((i + 1 : Nat) : Int) by push_cast; rfl, wrap_nat (by omega)] at h1
    refine loop_step h1 ?_
    have := oct_loop (cap := cap) (c := c) hs hl hh k (i + 1) (IntKind.i64.wrap (acc + l[i].left)) (by omega)
    rw [List.drop_eq_getElem_cons hil]
    exact this
termination_by k => k

/-- The queue's value, its parts in block b from off on. -/
def qv (cap : Int) (b off n c : Nat) : Value := .agg #[.int .i64 cap, .slice (some ⟨b, off, none⟩) n c]
theorem octR_0 {cs : List Value} {off c : Nat} {cap : Int} (hs : avL cs = true) {l : List Pt} (hl : l.length < 9223372036854775807) (hh : Holds cs off l) :
    Memo.Ok Try.prog ⟨18, 1, [qv cap 0 off l.length c], [(0, cs)], .int .i64 (sumW (·.left) l 0), [], 1⟩ := by
  have hlo := oct_loop (cap := cap) (c := c) (small_avL hs) hl hh l.length 0 0 (by omega)
  rw [List.drop_zero] at hlo
  exact memo_pure (hs := [(1, .frz)]) (ch := [⟨3, none, .loop (lp Try.prog 18 3), T18 0 0, [], H18 cap off l.length c cs, 2, _, false⟩]) 2 (evk 50) special ⟨trivial, trivial⟩ ⟨codeOk_loop hlo, trivial⟩ (by kernel_rfl) (by simp [smallH, small_avL hs]) (by kernel_rfl)

/-! ### total -/
def T36 (g off n c : Nat) (acc i : Int) : List Value := [J, .func (.func g) #[] #[], J, J, .int .i64 0, .int .i64 acc, J, J, .slice (some ⟨0, off, none⟩) n c, .int .i64 n, .int .i64 i, J, J, J, J, J, J, J, J, J, J]
theorem H1_below {n : Nat} {cs : List Value} (hs : smallL (small n 5) cs = true) (hn : 0 < n) : hpBelow n [(0, .cells cs true)] = true := by
  simp [hpBelow, tidyB, hs, hn]
theorem tot_go {g : Nat} {F : Pt → Int} (hg : (g = 37 ∧ F = freshL) ∨ (g = 38 ∧ F = (·.left))) {cs : List Value} {off n c : Nat} {acc : Int} {i : Nat} {p : Pt} (hi : i < n) (hp : ∀ (j : Nat) v, p.cells[j]? = some v → cs[off + i * 7 + j]? = some v) (hs : smallL (small 2 5) cs = true) :
    CodeOk Try.prog none (lp Try.prog 36 3) (T36 g off n c acc i) [] [(0, .cells cs true)] 2 ⟨.normal, T36 g off n c (IntKind.i64.wrap (acc + F p)) (IntKind.i64.wrap (i + 1)), [], [(0, .cells cs true)], 2⟩ := by
  rcases hg with ⟨rfl, rfl⟩ | ⟨rfl, rfl⟩
  · exact code_by (hs := [(11, .val (.bool (decide ((i : Int) < n))) (.bool true)), (12, .win 22 (.slice (some ⟨0, off, none⟩) n c) (.int .i64 i) 0 (off + i * 7) cs p.cells), (17, .call _)]) (ch := []) (evk 50) special
      ⟨congrArg Value.bool (decide_eq_true (by omega)), ⟨ix22 hi, hp⟩, fresh_m p 4, trivial⟩ trivial (T36 37 0 0 0 0 0) (by kernel_rfl) (H1_below hs (by omega)) (H1_below hs (by omega)) (by kernel_rfl)
  · exact code_by (hs := [(11, .val (.bool (decide ((i : Int) < n))) (.bool true)), (12, .win 22 (.slice (some ⟨0, off, none⟩) n c) (.int .i64 i) 0 (off + i * 7) cs p.cells), (17, .call _)]) (ch := []) (evk 50) special
      ⟨congrArg Value.bool (decide_eq_true (by omega)), ⟨ix22 hi, hp⟩, left_m p 4, trivial⟩ trivial (T36 38 0 0 0 0 0) (by kernel_rfl) (H1_below hs (by omega)) (H1_below hs (by omega)) (by kernel_rfl)
theorem tot_out {g : Nat} {cs : List Value} {off n c : Nat} {acc : Int} (hs : smallL (small 2 5) cs = true) :
    CodeOk Try.prog none (lp Try.prog 36 3) (T36 g off n c acc n) [] [(0, .cells cs true)] 2 ⟨.exit 0, T36 g off n c acc n, [], [(0, .cells cs true)], 2⟩ :=
  code_by (hs := [(11, .val (.bool (decide ((n : Int) < n))) (.bool false))]) (ch := []) (evk 50) special
    ⟨congrArg Value.bool (decide_eq_false (by omega)), trivial⟩ trivial (T36 0 0 0 0 0 0) (by kernel_rfl) (H1_below hs (by omega)) (H1_below hs (by omega)) (by kernel_rfl)
theorem tot_loop {g : Nat} {F : Pt → Int} (hg : (g = 37 ∧ F = freshL) ∨ (g = 38 ∧ F = (·.left))) {cs : List Value} {off c : Nat} (hs : smallL (small 2 5) cs = true) {l : List Pt} (hl : l.length < 9223372036854775807) (hh : Holds cs off l) :
    ∀ (k i : Nat) (acc : Int), i + k = l.length → LoopOk Try.prog none (lp Try.prog 36 3) (T36 g off l.length c acc i) [] [(0, .cells cs true)] 2 ⟨.exit 0, T36 g off l.length c (sumW F (l.drop i) acc) l.length, [], [(0, .cells cs true)], 2⟩
  | 0, i, acc, hi => by
    have : i = l.length := by omega
    subst this
    rw [List.drop_length]
    exact loopOk_out (tot_out hs) (by simp)
  | k + 1, i, acc, hi => by
    have hil : i < l.length := by omega
    have hp : l[i]? = some l[i] := List.getElem?_eq_getElem hil
    have h1 := tot_go hg (acc := acc) (c := c) hil (hh i _ hp) hs
    rw [show (i : Int) + 1 = ((i + 1 : Nat) : Int) by push_cast; rfl, wrap_nat (by omega)] at h1
    refine loop_step h1 ?_
    have := tot_loop hg (c := c) hs hl hh k (i + 1) (IntKind.i64.wrap (acc + F l[i])) (by omega)
    rw [List.drop_eq_getElem_cons hil]
    exact this
termination_by k => k
theorem tot_0 {g : Nat} {F : Pt → Int} (hg : (g = 37 ∧ F = freshL) ∨ (g = 38 ∧ F = (·.left))) {cs : List Value} {off c : Nat} (hs : avL cs = true) {l : List Pt} (hl : l.length < 9223372036854775807) (hh : Holds cs off l) :
    Memo.Ok Try.prog ⟨36, 1, [.slice (some ⟨0, off, none⟩) l.length c, .func (.func g) #[] #[]], [(0, cs)], .int .i64 (sumW F l 0), [], 1⟩ := by
  have hlo := tot_loop hg (c := c) (small_avL hs) hl hh l.length 0 0 (by omega)
  rw [List.drop_zero] at hlo
  exact memo_pure (hs := []) (ch := [⟨3, none, .loop (lp Try.prog 36 3), T36 g off l.length c 0 0, [], [(0, .cells cs true)], 2, _, false⟩]) 2 (evk 50) special trivial ⟨codeOk_loop hlo, trivial⟩ (by kernel_rfl) (by simp [smallH, small_avL hs]) (by kernel_rfl)
end Go.Proofs.Ytddhglcmfoopnaa.queue
