/- Contracts: Return, the reference's Push and Return. -/
import Derived.Test.YtddhglcmfoopnaaFnI
namespace Go.Proofs.Ytddhglcmfoopnaa.queue
open Go Go.En
set_option linter.unusedVariables false

def retNo (p1 p2 : Bool) : Value := .tuple #[q0 0, .int .i64 (bif p1 then (bif p2 then 2 else 460) else 461)]
theorem return_no {cs : List Value} {off c : Nat} {cap : Int} {p : Pt} (hs : avL cs = true) {l : List Pt} (hl : l.length < 9223372036854775807) (hh : Holds cs off l) {p1 p2 p3 : Bool} (h1 : checkS cap l = p1) (h2 : partC p = p2) (h3 : (!p.rest || restS l) = p3) (hno : (p1 && p2 && !p3) = false) :
    Memo.Ok Try.prog ⟨25, 1, [qv cap 0 off l.length c, p.v], [(0, cs)], retNo p1 p2, [], 1⟩ := by
  have hS : smallH 1 [(0, cs)] = true := by simp [smallH, small_avL hs]
  have m1 := check_m (c := c) hs hl hh h1 0 4
  have m2 := checkPart_m _ h2 4
  obtain ⟨⟨x1, x2, x3, x4, x5⟩, x6, x7⟩ := p
  cases p1
  · cases p2 <;> exact memo_pure (hs := [(10, .call _)]) (ch := []) 4 (evk 50) special ⟨m1, trivial⟩ trivial (by kernel_rfl) hS (by kernel_rfl)
  · cases p2
    · exact memo_pure (hs := [(10, .call _), (16, .call _)]) (ch := []) 4 (evk 50) special ⟨m1, m2, trivial⟩ trivial (by kernel_rfl) hS (by kernel_rfl)
    · cases p3
      · cases hno
      · cases x7
        · exact memo_pure (hs := [(10, .call _), (16, .call _)]) (ch := []) 4 (evk 50) special ⟨m1, m2, trivial⟩ trivial (by kernel_rfl) hS (by kernel_rfl)
        · cases l with
          | nil => simp [restS] at h3
          | cons q l =>
            obtain ⟨⟨y1, y2, y3, y4, y5⟩, y6, y7⟩ := q
            simp only [restS, Bool.not_true, Bool.false_or] at h3
            subst h3
            exact memo_pure (hs := [(10, .call _), (16, .call _), (28, .val (.bool (decide ((((Pt.mk ⟨y1, y2, y3, y4, y5⟩ y6 true :: l).length : Nat) : Int) > 0))) (.bool true)), (32, .win 22 (.slice (some ⟨0, off, none⟩) (Pt.mk ⟨y1, y2, y3, y4, y5⟩ y6 true :: l).length c) (.int .i64 (0 : Nat)) 0 _ cs (Pt.cells ⟨⟨y1, y2, y3, y4, y5⟩, y6, true⟩))]) (ch := []) 6 (evk 50) special
              ⟨m1, m2, congrArg Value.bool (decide_eq_true (by simp)), ⟨ix22 (by simp), holds_hd hh⟩, trivial⟩ trivial (by kernel_rfl) hS (by kernel_rfl)
theorem return_one {cs : List Value} {off c : Nat} {cap : Int} {p : Pt} (hs : avL cs = true) (h1 : checkS cap [] = true) (h2 : partC p = true) (h3 : p.rest = true) :
    Memo.Ok Try.prog ⟨25, 1, [qv cap 0 off 0 c, p.v], [(0, cs)], .tuple #[qv cap 5 0 1 1, .int .i64 0], [(5, pcs [p])], 7⟩ := by
  have m1 := check_m (c := c) (cs := cs) (off := off) hs (l := []) (by simp) (fun i p h => by simp at h) h1 0 4
  have m2 := checkPart_m _ h2 4
  obtain ⟨⟨x1, x2, x3, x4, x5⟩, x6, x7⟩ := p
  cases h3
  exact memo_new (hs := [(10, .call _), (16, .call _)]) (ch := []) (evk 50) special ⟨m1, m2, trivial⟩ trivial (by kernel_rfl)
theorem return_yes {cs : List Value} {off c : Nat} {cap : Int} {p q : Pt} (hs : avL cs = true) {l : List Pt} (hl : (q :: l).length ≤ 999) (hh : Holds cs off (q :: l)) (h1 : checkS cap (q :: l) = true) (h2 : partC p = true) (h3 : p.rest = true) (h4 : q.rest = false) :
    Memo.Ok Try.prog ⟨25, 1, [qv cap 0 off (q :: l).length c, p.v], [(0, cs)], .tuple #[qv cap 7 0 (1 + (q :: l).length) oc7, .int .i64 0], [(7, pcs [p] ++ pcs (q :: l))], 8⟩ := by
  have m1 := check_m (c := c) hs (by omega) hh h1 0 4
  have m2 := checkPart_m _ h2 4
  have a := app_full (a := 6) (b := 0) (ca := 1) (cb := c) (holds_1 p) hh (by simp) (by simp) (by simp at hl ⊢; omega) (by unfold openCap; omega)
  obtain ⟨⟨x1, x2, x3, x4, x5⟩, x6, x7⟩ := p
  obtain ⟨⟨y1, y2, y3, y4, y5⟩, y6, y7⟩ := q
  cases h3
  cases h4
  exact memo_new (hs := [(10, .call _), (16, .call _), (28, .val (.bool (decide ((((Pt.mk ⟨y1, y2, y3, y4, y5⟩ y6 false :: l).length : Nat) : Int) > 0))) (.bool true)), (32, .win 22 (.slice (some ⟨0, off, none⟩) (Pt.mk ⟨y1, y2, y3, y4, y5⟩ y6 false :: l).length c) (.int .i64 (0 : Nat)) 0 _ cs (Pt.cells ⟨⟨y1, y2, y3, y4, y5⟩, y6, false⟩)), (46, .app _ _ _ _ _ _ _ _)]) (ch := []) (evk 50) special
              ⟨m1, m2, congrArg Value.bool (decide_eq_true (by simp)), ⟨ix22 (by simp), holds_hd hh⟩, a, trivial⟩ trivial (by kernel_rfl)
theorem returnR_one {cs : List Value} {off c : Nat} {cap : Int} {p : Pt} :
    Memo.Ok Try.prog ⟨27, 1, [qv cap 0 off 0 c, p.v], [(0, cs)], qv cap 4 0 1 1, [(4, pcs [p])], 6⟩ := by
  obtain ⟨⟨x1, x2, x3, x4, x5⟩, x6, x7⟩ := p
  exact memo_new (hs := []) (ch := []) (evk 50) special trivial trivial (by kernel_rfl)
theorem returnR_yes {cs : List Value} {off c : Nat} {cap : Int} {p : Pt} {l : List Pt} (h0 : 0 < l.length) (hl : l.length ≤ 999) (hh : Holds cs off l) :
    Memo.Ok Try.prog ⟨27, 1, [qv cap 0 off l.length c, p.v], [(0, cs)], qv cap 5 0 (1 + l.length) oc7, [(5, pcs [p] ++ pcs l)], 6⟩ := by
  have a := app_full (a := 4) (b := 0) (ca := 1) (cb := c) (holds_1 p) hh h0 (by simp; omega) (by simp; omega) (by unfold openCap; omega)
  obtain ⟨⟨x1, x2, x3, x4, x5⟩, x6, x7⟩ := p
  exact memo_new (hs := [(11, .app _ _ _ _ _ _ _ _)]) (ch := []) (evk 50) special ⟨a, trivial⟩ trivial (by kernel_rfl)
theorem octR_m {cs : List Value} {off c : Nat} {cap : Int} (hs : avL cs = true) {l : List Pt} (hl : l.length < 9223372036854775807) (hh : Holds cs off l) (b nx : Nat) :
    Memo.Ok Try.prog ⟨18, nx, [qv cap b off l.length c], [(b, cs)], .int .i64 (sumW (·.left) l 0), [], nx⟩ :=
  memo_blk (octR_0 hs hl hh) hs b nx (by kernel_rfl) rfl rfl
theorem pushR_no {cs : List Value} {off c : Nat} {cap : Int} {i : It} (hs : avL cs = true) {l : List Pt} (hl : l.length < 9223372036854775807) (hh : Holds cs off l) (h3 : overS cap l i = true) :
    Memo.Ok Try.prog ⟨22, 1, [qv cap 0 off l.length c, i.v], [(0, cs)], .tuple #[qv cap 0 off l.length c, .bool false], [], 1⟩ := by
  have m3 := octR_m (c := c) (cap := cap) hs hl hh 0 4
  obtain ⟨x1, x2, x3, x4, x5⟩ := i
  exact memo_pure (hs := [(8, .call _), (14, .val (.bool (decide (IntKind.i64.wrap (sumW (·.left) l 0 + x4) > cap))) (.bool true))]) (ch := []) 4 (evk 50) special ⟨m3, congrArg Value.bool h3, trivial⟩ trivial (by kernel_rfl) (by simp [smallH, small_avL hs]) (by kernel_rfl)
theorem pushR_yes {cs : List Value} {off c : Nat} {cap : Int} {i : It} (hs : avL cs = true) {l : List Pt} (hl : l.length ≤ 999) (hh : Holds cs off l) (h3 : overS cap l i = false) :
    Memo.Ok Try.prog ⟨22, 1, [qv cap 0 off l.length c, i.v], [(0, cs)], .tuple #[qv cap 6 0 (l.length + 1) oc7, .bool true], [(6, pcs l ++ pcs [wholeP i])], 7⟩ := by
  have m3 := octR_m (c := c) (cap := cap) hs (by omega) hh 0 4
  have h0 := holds_1 (wholeP i)
  obtain ⟨x1, x2, x3, x4, x5⟩ := i
  cases l with
  | nil => exact memo_new (hs := [(8, .call _), (14, .val (.bool (decide (IntKind.i64.wrap (sumW (·.left) [] 0 + x4) > cap))) (.bool false))]) (ch := []) (evk 50) special ⟨m3, congrArg Value.bool h3, trivial⟩ trivial (by kernel_rfl)
  | cons q l =>
    have a1 := app_nil (b := 0) (cb := c) hh (by simp) (by omega)
    have a2 := app_open (a := 4) (b := 5) (cb := 1) (holds_0 (q :: l)) h0 (by simp) (by simp at hl ⊢; omega)
    exact memo_new (hs := [(8, .call _), (14, .val (.bool (decide (IntKind.i64.wrap (sumW (·.left) (q :: l) 0 + x4) > cap))) (.bool false)), (19, .app _ _ _ _ _ _ _ _), (26, .app _ _ _ _ _ _ _ _)]) (ch := []) (evk 50) special ⟨m3, congrArg Value.bool h3, a1, a2, trivial⟩ trivial (by kernel_rfl)
end Go.Proofs.Ytddhglcmfoopnaa.queue
