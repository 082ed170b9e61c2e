/- Contracts: few, Octets, Head, Pop, Rest. -/
import Derived.Test.YtddhglcmfoopnaaFnF
namespace Go.Proofs.Ytddhglcmfoopnaa.queue
open Go Go.En
set_option linter.unusedVariables false

theorem u22 : Try.prog.underlying 22 = some (.slice 28) := by kernel_rfl
theorem i28 : ∃ inf, Try.prog.info? 28 = some inf ∧ inf.size = 7 := by
  have hi : (Try.prog.info? 28).map (·.size) = some 7 := by kernel_rfl
  cases he : Try.prog.info? 28 with
  | none => rw [he] at hi; cases hi
  | some inf => exact ⟨inf, rfl, by rw [he] at hi; simpa using hi⟩
theorem bnd_nat {k : IntKind} {h n : Nat} (hh : h ≤ n) : bnd (.int k h) n = some h := by
  unfold bnd
  simp [hh]
/-- x[:m] -/
theorem slc_hi {off n c m : Nat} (hm : m ≤ c) (hc : c < openCap) : doSlice Try.prog 22 (.slice (some ⟨0, off, none⟩) n c) none (some (.int .i64 m)) none = some (.slice (some ⟨0, off, none⟩) m c) := by
  obtain ⟨inf, h1, h2⟩ := i28
  simp [doSlice, h1, h2, hc, bnds, highB, lowB, bnd_nat hm]
def minI (n : Nat) : Nat := min n 60
theorem few_0 {off n c : Nat} {cap : Int} {cs : List Value} (hn : n ≤ c) (hc : c < openCap) (hs : avL cs = true) :
    Memo.Ok Try.prog ⟨10, 1, [qv cap 0 off n c], [(0, cs)], qv cap 0 off (minI n) c, [], 1⟩ := by
  have hm : minI n ≤ c := by unfold minI; omega
  exact memo_pure (hs := [(8, .val (.int .i64 (if (60 : Int) < n then 60 else n)) (.int .i64 (minI n))), (9, .slc 22 (.slice (some ⟨0, off, none⟩) n c) none (some (.int .i64 (minI n))) none _)]) (ch := []) 5 (evk 50) special
    ⟨congrArg (Value.int .i64) (by unfold minI; split <;> omega), slc_hi hm hc, trivial⟩ trivial (by kernel_rfl) (by simp [smallH, small_avL hs]) (by kernel_rfl)
theorem few_nil (cap : Int) : Memo.Ok Try.prog ⟨10, 0, [q0 cap], [], q0 cap, [], 0⟩ :=
  memo_pure (hs := []) (ch := []) 4 (evk 50) special trivial trivial (by kernel_rfl) rfl (by kernel_rfl)

theorem check_m {cs : List Value} {off c : Nat} {cap : Int} (hs : avL cs = true) {l : List Pt} (hl : l.length < 9223372036854775807) (hh : Holds cs off l) {p : Bool} (h : checkS cap l = p) (b nx : Nat) :
    Memo.Ok Try.prog ⟨12, nx, [qv cap b off l.length c], [(b, cs)], .int .i64 (bif p then 0 else 461), [], nx⟩ :=
  memo_blk (h ▸ check_0 hs hl hh) hs b nx (by kernel_rfl) rfl rfl
theorem octL_m {cs : List Value} {off c : Nat} {cap : Int} (hs : avL cs = true) {l : List Pt} (hl : l.length < 9223372036854775807) (hh : Holds cs off l) (b nx : Nat) :
    Memo.Ok Try.prog ⟨34, nx, [qv cap b off l.length c], [(b, cs)], .int .i64 (sumW (·.left) l 0), [], nx⟩ :=
  memo_blk (octL_0 hs hl hh) hs b nx (by kernel_rfl) rfl rfl

def octV (p : Bool) (s : Int) : Value := .tuple #[.int .i64 (bif p then s else 0), .int .i64 (bif p then 0 else 461)]
theorem octets_0 {cs : List Value} {off c : Nat} {cap : Int} (hs : avL cs = true) {l : List Pt} (hl : l.length < 9223372036854775807) (hh : Holds cs off l) :
    Memo.Ok Try.prog ⟨17, 1, [qv cap 0 off l.length c], [(0, cs)], octV (checkS cap l) (sumW (·.left) l 0), [], 1⟩ := by
  have key : ∀ p, checkS cap l = p → Memo.Ok Try.prog ⟨17, 1, [qv cap 0 off l.length c], [(0, cs)], octV p (sumW (·.left) l 0), [], 1⟩ := by
    intro p hp
    have m1 := check_m (c := c) hs hl hh hp 0 2
    have m2 := octL_m (c := c) (cap := cap) hs hl hh 0 2
    cases p <;> exact memo_pure (hs := [(7, .call _), (15, .call _)]) (ch := []) 2 (evk 50) special ⟨m1, m2, trivial⟩ trivial (by kernel_rfl) (by simp [smallH, small_avL hs]) (by kernel_rfl)
  exact key _ rfl
theorem octets_m {cs : List Value} {off c : Nat} {cap : Int} (hs : avL cs = true) {l : List Pt} (hl : l.length < 9223372036854775807) (hh : Holds cs off l) {p : Bool} (h : checkS cap l = p) (b nx : Nat) :
    Memo.Ok Try.prog ⟨17, nx, [qv cap b off l.length c], [(b, cs)], octV p (sumW (·.left) l 0), [], nx⟩ :=
  memo_blk (h ▸ octets_0 hs hl hh) hs b nx (by cases p <;> kernel_rfl) rfl (by cases p <;> rfl)

def zp : Pt := ⟨⟨0, 0, 0, 0, 0⟩, 0, false⟩
theorem holds_hd {cs : List Value} {off : Nat} {p : Pt} {l : List Pt} (hh : Holds cs off (p :: l)) : ∀ (j : Nat) v, p.cells[j]? = some v → cs[off + 0 * 7 + j]? = some v := hh 0 p rfl
def headV (b : Bool) : List Pt → Value
  | [] => .tuple #[zp.v, .bool false]
  | p :: _ => bif b then .tuple #[p.v, .bool true] else .tuple #[zp.v, .bool false]
theorem head_0 {cs : List Value} {off c : Nat} {cap : Int} (hs : avL cs = true) {l : List Pt} (hl : l.length < 9223372036854775807) (hh : Holds cs off l) :
    Memo.Ok Try.prog ⟨23, 1, [qv cap 0 off l.length c], [(0, cs)], headV (checkS cap l) l, [], 1⟩ := by
  have hS : smallH 1 [(0, cs)] = true := by simp [smallH, small_avL hs]
  have key : ∀ p, checkS cap l = p → Memo.Ok Try.prog ⟨23, 1, [qv cap 0 off l.length c], [(0, cs)], headV p l, [], 1⟩ := by
    intro p hp
    have m1 := check_m (c := c) hs hl hh hp 0 3
    cases l with
    | nil =>
      cases p
      · exact memo_pure (hs := [(5, .call _)]) (ch := []) 3 (evk 50) special ⟨m1, trivial⟩ trivial (by kernel_rfl) hS (by kernel_rfl)
      · exact memo_pure (hs := [(5, .call _)]) (ch := []) 4 (evk 50) special ⟨m1, trivial⟩ trivial (by kernel_rfl) hS (by kernel_rfl)
    | cons q l =>
      obtain ⟨⟨x1, x2, x3, x4, x5⟩, x6, x7⟩ := q
      cases p
      · exact memo_pure (hs := [(5, .call _)]) (ch := []) 3 (evk 50) special ⟨m1, trivial⟩ trivial (by kernel_rfl) hS (by kernel_rfl)
      · exact memo_pure (hs := [(5, .call _), (11, .val (.bool ((((Pt.mk ⟨x1, x2, x3, x4, x5⟩ x6 x7 :: l).length : Nat) : Int) == 0)) (.bool false)), (16, .ix 22 (.slice (some ⟨0, off, none⟩) (Pt.mk ⟨x1, x2, x3, x4, x5⟩ x6 x7 :: l).length c) (.int .i64 (0 : Nat)) _), (17, .ld 28 _ 0 cs true _)]) (ch := []) 4 (evk 50) special
          ⟨m1, congrArg Value.bool (by simp; omega), ix22 (by simp), ⟨ld28 (holds_hd hh), _, rfl⟩, trivial⟩ trivial (by kernel_rfl) hS (by kernel_rfl)
  exact key _ rfl
def restS : List Pt → Bool
  | [] => false
  | p :: _ => p.rest
theorem rest_0 {cs : List Value} {off c : Nat} {cap : Int} (hs : avL cs = true) {l : List Pt} (hl : l.length < 9223372036854775807) (hh : Holds cs off l) :
    Memo.Ok Try.prog ⟨26, 1, [qv cap 0 off l.length c], [(0, cs)], .bool (restS l), [], 1⟩ := by
  have hS : smallH 1 [(0, cs)] = true := by simp [smallH, small_avL hs]
  cases l with
  | nil => exact memo_pure (hs := []) (ch := []) 3 (evk 50) special trivial trivial (by kernel_rfl) hS (by kernel_rfl)
  | cons q l =>
    obtain ⟨⟨x1, x2, x3, x4, x5⟩, x6, x7⟩ := q
    exact memo_pure (hs := [(6, .val (.bool (decide ((((Pt.mk ⟨x1, x2, x3, x4, x5⟩ x6 x7 :: l).length : Nat) : Int) > 0))) (.bool true)), (10, .win 22 (.slice (some ⟨0, off, none⟩) (Pt.mk ⟨x1, x2, x3, x4, x5⟩ x6 x7 :: l).length c) (.int .i64 (0 : Nat)) 0 _ cs (Pt.cells ⟨⟨x1, x2, x3, x4, x5⟩, x6, x7⟩))]) (ch := []) 4 (evk 50) special
          ⟨congrArg Value.bool (decide_eq_true (by simp)), ⟨ix22 (by simp), holds_hd hh⟩, trivial⟩ trivial (by kernel_rfl) hS (by kernel_rfl)
def popV (b : Bool) (cap : Int) (off' c' : Nat) : List Pt → Value
  | [] => .tuple #[q0 0, zp.v, .int .i64 (bif b then 4 else 461)]
  | p :: l => bif b then .tuple #[qv cap 0 off' l.length c', p.v, .int .i64 0] else .tuple #[q0 0, zp.v, .int .i64 461]
theorem pop_0 {cs : List Value} {off c off' c' : Nat} {cap : Int} (hs : avL cs = true) {l : List Pt} (hl : l.length < 9223372036854775807) (hh : Holds cs off l)
    (hsl : 0 < l.length → doSlice Try.prog 22 (.slice (some ⟨0, off, none⟩) l.length c) (some (.int .i64 1)) none none = some (.slice (some ⟨0, off', none⟩) (l.length - 1) c')) :
    Memo.Ok Try.prog ⟨24, 1, [qv cap 0 off l.length c], [(0, cs)], popV (checkS cap l) cap off' c' l, [], 1⟩ := by
  have hS : smallH 1 [(0, cs)] = true := by simp [smallH, small_avL hs]
  have key : ∀ p, checkS cap l = p → Memo.Ok Try.prog ⟨24, 1, [qv cap 0 off l.length c], [(0, cs)], popV p cap off' c' l, [], 1⟩ := by
    intro p hp
    have m1 := check_m (c := c) hs hl hh hp 0 4
    cases l with
    | nil =>
      cases p
      · exact memo_pure (hs := [(7, .call _)]) (ch := []) 4 (evk 50) special ⟨m1, trivial⟩ trivial (by kernel_rfl) hS (by kernel_rfl)
      · exact memo_pure (hs := [(7, .call _)]) (ch := []) 5 (evk 50) special ⟨m1, trivial⟩ trivial (by kernel_rfl) hS (by kernel_rfl)
    | cons q l =>
      obtain ⟨⟨x1, x2, x3, x4, x5⟩, x6, x7⟩ := q
      cases p
      · exact memo_pure (hs := [(7, .call _)]) (ch := []) 4 (evk 50) special ⟨m1, trivial⟩ trivial (by kernel_rfl) hS (by kernel_rfl)
      · exact memo_pure (hs := [(7, .call _), (16, .val (.bool ((((Pt.mk ⟨x1, x2, x3, x4, x5⟩ x6 x7 :: l).length : Nat) : Int) == 0)) (.bool false)), (23, .slc 22 _ (some (.int .i64 1)) none none _), (27, .ix 22 (.slice (some ⟨0, off, none⟩) (Pt.mk ⟨x1, x2, x3, x4, x5⟩ x6 x7 :: l).length c) (.int .i64 (0 : Nat)) _), (28, .ld 28 _ 0 cs true _)]) (ch := []) 5 (evk 50) special
          ⟨m1, congrArg Value.bool (by simp; omega), hsl (by simp), ix22 (by simp), ⟨ld28 (holds_hd hh), _, rfl⟩, trivial⟩ trivial (by kernel_rfl) hS (by kernel_rfl)
  exact key _ rfl
end Go.Proofs.Ytddhglcmfoopnaa.queue
