/- Contracts: Push, Return, and the reference's. -/
import Derived.Test.YtddhglcmfoopnaaFnH
namespace Go.Proofs.Ytddhglcmfoopnaa.queue
open Go Go.En
set_option linter.unusedVariables false

/-- x[:n:n] -/
theorem slc_nn {off n c : Nat} (hm : n ≤ c) (hc : c < openCap) : doSlice Try.prog 22 (.slice (some ⟨0, off, none⟩) n c) none (some (.int .i64 n)) (some (.int .i64 n)) = some (.slice (some ⟨0, off, none⟩) n n) := by
  obtain ⟨inf, h1, h2⟩ := i28
  simp [doSlice, h1, h2, hc, bnds, lowB, bnd_nat hm, bnd_nat (Nat.le_refl n)]
theorem holds_1 (p : Pt) : Holds p.cells 0 [p] := by
  have := holds_0 [p]
  simpa [pcs] using this
def overS (cap : Int) (l : List Pt) (i : It) : Bool := decide (IntKind.i64.wrap (sumW (·.left) l 0 + i.size) > cap)
/-- What Push hands out, and the new block. -/
def pushV (p1 p2 p3 : Bool) (q : Value) (q' : Value) : Value := bif p1 && p2 then (bif p3 then .tuple #[q, .bool false, .int .i64 0] else .tuple #[q', .bool true, .int .i64 0]) else .tuple #[q0 0, .bool false, .int .i64 (bif p1 then 460 else 461)]
theorem push_no {cs : List Value} {off c : Nat} {cap : Int} {i : It} (hs : avL cs = true) {l : List Pt} (hl : l.length < 9223372036854775807) (hh : Holds cs off l) {p1 p2 p3 : Bool} (h1 : checkS cap l = p1) (h2 : itemOk i = p2) (h3 : overS cap l i = p3) (hno : (p1 && p2 && !p3) = false) (q' : Value) :
    Memo.Ok Try.prog ⟨21, 1, [qv cap 0 off l.length c, i.v], [(0, cs)], pushV p1 p2 p3 (qv cap 0 off l.length c) q', [], 1⟩ := by
  have hS : smallH 1 [(0, cs)] = true := by simp [smallH, small_avL hs]
  have m1 := check_m (c := c) hs hl hh h1 0 4
  have m2 := checkItem_m _ h2 4
  have m3 := octL_m (c := c) (cap := cap) hs hl hh 0 5
  obtain ⟨x1, x2, x3, x4, x5⟩ := i
  cases p1
  · cases p2 <;> exact memo_pure (hs := [(11, .call _)]) (ch := []) 4 (evk 50) special ⟨m1, trivial⟩ trivial (by kernel_rfl) hS (by kernel_rfl)
  · cases p2
    · exact memo_pure (hs := [(11, .call _), (17, .call _)]) (ch := []) 4 (evk 50) special ⟨m1, m2, trivial⟩ trivial (by kernel_rfl) hS (by kernel_rfl)
    · cases p3
      · cases hno
      · exact memo_pure (hs := [(11, .call _), (17, .call _), (25, .call _), (32, .val (.bool (decide (IntKind.i64.wrap (sumW (·.left) l 0 + x4) > cap))) (.bool true))]) (ch := []) 5 (evk 50) special ⟨m1, m2, m3, congrArg Value.bool h3, trivial⟩ trivial (by kernel_rfl) hS (by kernel_rfl)
theorem push_yes {cs : List Value} {off c : Nat} {cap : Int} {i : It} (hs : avL cs = true) {l : List Pt} (hl : l.length ≤ 999) (hc : l.length ≤ c) (hc2 : c < openCap) (hh : Holds cs off l) (h1 : checkS cap l = true) (h2 : itemOk i = true) (h3 : overS cap l i = false) :
    Memo.Ok Try.prog ⟨21, 1, [qv cap 0 off l.length c, i.v], [(0, cs)], .tuple #[qv cap 8 0 (l.length + 1) oc7, .bool true, .int .i64 0], [(8, pcs l ++ pcs [wholeP i])], 9⟩ := by
  have m1 := check_m (c := c) hs (by omega) hh h1 0 4
  have m2 := checkItem_m _ h2 4
  have m3 := octL_m (c := c) (cap := cap) hs (by omega) hh 0 5
  have m4 := whole_m i 7
  have a := app_full (a := 0) (b := 7) (ca := l.length) (cb := 1) hh (holds_1 (wholeP i)) (by simp) (by simp) (by simp; omega) (by unfold openCap; omega)
  obtain ⟨x1, x2, x3, x4, x5⟩ := i
  exact memo_new (hs := [(11, .call _), (17, .call _), (25, .call _), (32, .val (.bool (decide (IntKind.i64.wrap (sumW (·.left) l 0 + x4) > cap))) (.bool false)), (45, .slc 22 (.slice (some ⟨0, off, none⟩) l.length c) none (some (.int .i64 l.length)) (some (.int .i64 l.length)) _), (47, .call _), (49, .app _ _ _ _ _ _ _ _)]) (ch := []) (evk 50) special
    ⟨m1, m2, m3, congrArg Value.bool h3, slc_nn hc hc2, m4, a, trivial⟩ trivial (by kernel_rfl)
end Go.Proofs.Ytddhglcmfoopnaa.queue
