/- Contracts: items and parts (layer 36, its reference). -/
import Derived.Test.YtjconcfkpgkbkaaRows
import Derived.Test.YtjconcfkpgkbkaaEnON
import Derived.WalkKit
namespace Go.Proofs.Ytjconcfkpgkbkaa.choose
open Go Go.En
set_option linter.unusedVariables false

theorem special : NoSpecial Try.prog := noSpecial_of (by kernel_rfl)
theorem evk (n : Nat) : (ev Try.prog n).Ok Try.prog := ev_ok special n
def J : Value := junk
def pt (b : Nat) : Value := .pointer (some ⟨b, 0, none⟩)
structure It where
  stream : Int
  seq : Int
  cls : Int
  size : Int
  sent : Int
structure Pt where
  it : It
  left : Int
  rest : Bool
def It.cells (x : It) : List Value := [.int .i64 x.stream, .int .i64 x.seq, .int .i64 x.cls, .int .i64 x.size, .int .i64 x.sent]
def Pt.cells (x : Pt) : List Value := [.int .i64 x.it.stream, .int .i64 x.it.seq, .int .i64 x.it.cls, .int .i64 x.it.size, .int .i64 x.it.sent, .int .i64 x.left, .bool x.rest]
def It.v (x : It) : Value := .agg ⟨x.cells⟩
def Pt.v (x : Pt) : Value := .agg ⟨x.cells⟩

def within (a b c : Int) : Bool := decide (b ≤ a) && decide (a ≤ c)
theorem within_0 (a b c : Int) : Memo.Ok Try.prog ⟨50, 0, [.int .i64 a, .int .i64 b, .int .i64 c], [], .bool (within a b c), [], 0⟩ := by
  have key : ∀ p, decide (a ≥ b) = p → Memo.Ok Try.prog ⟨50, 0, [.int .i64 a, .int .i64 b, .int .i64 c], [], .bool (p && decide (a ≤ c)), [], 0⟩ := by
    intro p hp
    cases p <;> exact memo_pure (hs := [(9, .val (.bool (decide (a ≥ b))) (.bool _))]) (ch := []) 0 (evk 50) special ⟨congrArg Value.bool hp, trivial⟩ trivial (by kernel_rfl) rfl (by kernel_rfl)
  exact key _ rfl
theorem within_m (a b c : Int) {p : Bool} (h : within a b c = p) (nx : Nat) : Memo.Ok Try.prog ⟨50, nx, [.int .i64 a, .int .i64 b, .int .i64 c], [], .bool p, [], nx⟩ :=
  memo_any (h ▸ within_0 a b c) nx (by kernel_rfl) rfl rfl

def itemOk (x : It) : Bool := within x.stream 0 1099511627776 && within x.seq 0 1099511627776 && within x.sent 0 1099511627776 && within x.cls 0 7 && within x.size 84 1542
theorem checkItem_0 (x : It) : Memo.Ok Try.prog ⟨48, 0, [x.v], [], .int .i64 (bif itemOk x then 0 else 460), [], 0⟩ := by
  obtain ⟨a, b, c, d, e⟩ := x
  have key : ∀ p1 p2 p3 p4 p5, within a 0 1099511627776 = p1 → within b 0 1099511627776 = p2 → within e 0 1099511627776 = p3 → within c 0 7 = p4 → within d 84 1542 = p5 →
      Memo.Ok Try.prog ⟨48, 0, [It.v ⟨a, b, c, d, e⟩], [], .int .i64 (bif p1 && p2 && p3 && p4 && p5 then 0 else 460), [], 0⟩ := by
    intro p1 p2 p3 p4 p5 h1 h2 h3 h4 h5
    have m1 := within_m _ _ _ h1 1
    have m2 := within_m _ _ _ h2 1
    have m3 := within_m _ _ _ h3 1
    have m4 := within_m _ _ _ h4 1
    have m5 := within_m _ _ _ h5 1
    cases p1 <;> cases p2 <;> cases p3 <;> cases p4 <;> cases p5 <;>
      exact memo_pure (hs := [(5, .call _), (10, .call _), (16, .call _), (22, .call _), (28, .call _)]) (ch := []) 1 (evk 50) special ⟨m1, m2, m3, m4, m5, trivial⟩ trivial (by kernel_rfl) rfl (by kernel_rfl)
  exact key _ _ _ _ _ rfl rfl rfl rfl rfl
theorem checkItem_m (x : It) {p : Bool} (h : itemOk x = p) (nx : Nat) : Memo.Ok Try.prog ⟨48, nx, [x.v], [], .int .i64 (bif p then 0 else 460), [], nx⟩ :=
  memo_any (h ▸ checkItem_0 x) nx (by kernel_rfl) rfl rfl

def wholeP (x : It) : Pt := ⟨x, x.size, false⟩
theorem whole_0 (x : It) : Memo.Ok Try.prog ⟨49, 0, [x.v], [], (wholeP x).v, [], 0⟩ :=
  memo_pure (hs := []) (ch := []) 2 (evk 50) special trivial trivial (by kernel_rfl) rfl (by kernel_rfl)
theorem whole_m (x : It) (nx : Nat) : Memo.Ok Try.prog ⟨49, nx, [x.v], [], (wholeP x).v, [], nx⟩ :=
  memo_any (whole_0 x) nx (by kernel_rfl) rfl rfl

def from0 (a : Int) : Bool := decide (a ≥ 0) && decide (a ≤ 1099511627776)
theorem from0_0 (a : Int) : Memo.Ok Try.prog ⟨62, 0, [.int .i64 a], [], .bool (from0 a), [], 0⟩ := by
  have key : ∀ p, decide (a ≥ 0) = p → Memo.Ok Try.prog ⟨62, 0, [.int .i64 a], [], .bool (p && decide (a ≤ 1099511627776)), [], 0⟩ := by
    intro p hp
    cases p <;> exact memo_pure (hs := [(4, .val (.bool (decide (a ≥ 0))) (.bool _))]) (ch := []) 0 (evk 50) special ⟨congrArg Value.bool hp, trivial⟩ trivial (by kernel_rfl) rfl (by kernel_rfl)
  exact key _ rfl
theorem from0_m (a : Int) {p : Bool} (h : from0 a = p) (nx : Nat) : Memo.Ok Try.prog ⟨62, nx, [.int .i64 a], [], .bool p, [], nx⟩ :=
  memo_any (h ▸ from0_0 a) nx (by kernel_rfl) rfl rfl

def itemR (x : It) : Bool := from0 x.stream && from0 x.seq && from0 x.sent && decide (x.cls ≥ 0) && decide (x.cls ≤ 7) && decide (x.size ≥ 84) && decide (x.size ≤ 1542)
theorem itemR_0 (x : It) : Memo.Ok Try.prog ⟨51, 0, [x.v], [], .bool (itemR x), [], 0⟩ := by
  obtain ⟨a, b, c, d, e⟩ := x
  have key : ∀ p1 p2 p3 p4 p5 p6, from0 a = p1 → from0 b = p2 → from0 e = p3 → decide (c ≥ 0) = p4 → decide (c ≤ 7) = p5 → decide (d ≥ 84) = p6 →
      Memo.Ok Try.prog ⟨51, 0, [It.v ⟨a, b, c, d, e⟩], [], .bool (p1 && p2 && p3 && p4 && p5 && p6 && decide (d ≤ 1542)), [], 0⟩ := by
    intro p1 p2 p3 p4 p5 p6 h1 h2 h3 h4 h5 h6
    have m1 := from0_m _ h1 1
    have m2 := from0_m _ h2 1
    have m3 := from0_m _ h3 1
    cases p1 <;> cases p2 <;> cases p3 <;> cases p4 <;> cases p5 <;> cases p6 <;>
      exact memo_pure (hs := [(5, .call _), (9, .call _), (14, .call _), (19, .val (.bool (decide (c ≥ 0))) (.bool _)), (24, .val (.bool (decide (c ≤ 7))) (.bool _)), (29, .val (.bool (decide (d ≥ 84))) (.bool _))]) (ch := []) 1 (evk 50) special
        ⟨m1, m2, m3, congrArg Value.bool h4, congrArg Value.bool h5, congrArg Value.bool h6, trivial⟩ trivial (by kernel_rfl) rfl (by kernel_rfl)
  exact key _ _ _ _ _ _ rfl rfl rfl rfl rfl rfl
theorem itemR_m (x : It) {p : Bool} (h : itemR x = p) (nx : Nat) : Memo.Ok Try.prog ⟨51, nx, [x.v], [], .bool p, [], nx⟩ :=
  memo_any (h ▸ itemR_0 x) nx (by kernel_rfl) rfl rfl

def partR (x : Pt) : Bool := itemR x.it && (bif x.rest then decide (x.it.cls ≤ 5) && decide (x.left ≥ 88) && decide (x.left ≤ IntKind.i64.wrap (x.it.size - 40)) else x.left == x.it.size)
theorem partR_0 (x : Pt) : Memo.Ok Try.prog ⟨33, 0, [x.v], [], .bool (partR x), [], 0⟩ := by
  obtain ⟨⟨a, b, c, d, e⟩, l, r⟩ := x
  have key : ∀ p1 p2 p3, itemR ⟨a, b, c, d, e⟩ = p1 → decide (c ≤ 5) = p2 → decide (l ≥ 88) = p3 →
      Memo.Ok Try.prog ⟨33, 0, [Pt.v ⟨⟨a, b, c, d, e⟩, l, r⟩], [], .bool (p1 && (bif r then p2 && p3 && decide (l ≤ IntKind.i64.wrap (d - 40)) else l == d)), [], 0⟩ := by
    intro p1 p2 p3 h1 h2 h3
    have m1 := itemR_m _ h1 1
    cases p1 <;> cases p2 <;> cases p3 <;> cases r <;>
      exact memo_pure (hs := [(5, .call _), (19, .val (.bool (decide (c ≤ 5))) (.bool _)), (23, .val (.bool (decide (l ≥ 88))) (.bool _))]) (ch := []) 1 (evk 50) special
        ⟨m1, congrArg Value.bool h2, congrArg Value.bool h3, trivial⟩ trivial (by kernel_rfl) rfl (by kernel_rfl)
  exact key _ _ _ rfl rfl rfl
theorem partR_m (x : Pt) {p : Bool} (h : partR x = p) (nx : Nat) : Memo.Ok Try.prog ⟨33, nx, [x.v], [], .bool p, [], nx⟩ :=
  memo_any (h ▸ partR_0 x) nx (by kernel_rfl) rfl rfl

def eqIt (p q : It) : Bool := (p.stream == q.stream) && ((p.seq == q.seq) && ((p.cls == q.cls) && ((p.size == q.size) && ((p.sent == q.sent) && true))))
def eqPt (p q : Pt) : Bool := eqIt p.it q.it && ((p.left == q.left) && ((p.rest == q.rest) && true))
theorem eql_pt (p q : Pt) (xo yo : Operand) : doBin Try.prog .eql 57 xo yo p.v q.v = some (.bool (eqPt p q)) ∧ doBin Try.prog .neq 57 xo yo p.v q.v = some (.bool (!eqPt p q)) :=
  bin_eql (by kernel_rfl) (by kernel_rfl) (by kernel_rfl) (by kernel_rfl) xo yo

def partC (x : Pt) : Bool := itemOk x.it && (eqPt x (wholeP x.it) || (x.rest && !(decide (x.it.cls > 5)) && within x.left 88 (IntKind.i64.wrap (x.it.size - 40))))
theorem checkPart_0 (x : Pt) : Memo.Ok Try.prog ⟨31, 0, [x.v], [], .int .i64 (bif partC x then 0 else 460), [], 0⟩ := by
  obtain ⟨⟨a, b, c, d, e⟩, l, r⟩ := x
  have key : ∀ p1 p2 p3 p4, itemOk ⟨a, b, c, d, e⟩ = p1 → eqPt ⟨⟨a, b, c, d, e⟩, l, r⟩ (wholeP ⟨a, b, c, d, e⟩) = p2 → decide (c > 5) = p3 → within l 88 (IntKind.i64.wrap (d - 40)) = p4 →
      Memo.Ok Try.prog ⟨31, 0, [Pt.v ⟨⟨a, b, c, d, e⟩, l, r⟩], [], .int .i64 (bif p1 && (p2 || (r && !p3 && p4)) then 0 else 460), [], 0⟩ := by
    intro p1 p2 p3 p4 h1 h2 h3 h4
    have m1 := checkItem_m _ h1 1
    have m2 := whole_m ⟨a, b, c, d, e⟩ 1
    have m4 := within_m _ _ _ h4 1
    have e2 := fun xo yo => h2 ▸ (eql_pt ⟨⟨a, b, c, d, e⟩, l, r⟩ (wholeP ⟨a, b, c, d, e⟩) xo yo).1
    cases p1 <;> cases p2 <;> cases p3 <;> cases p4 <;> cases r <;>
      exact memo_pure (hs := [(6, .call _), (13, .call _), (14, .bin .eql 57 _ _ _), (22, .val (.bool (decide (c > 5))) (.bool _)), (31, .call _)]) (ch := []) 1 (evk 50) special
        ⟨m1, m2, e2, congrArg Value.bool h3, m4, trivial⟩ trivial (by kernel_rfl) rfl (by kernel_rfl)
  exact key _ _ _ _ rfl rfl rfl rfl
theorem checkPart_m (x : Pt) {p : Bool} (h : partC x = p) (nx : Nat) : Memo.Ok Try.prog ⟨31, nx, [x.v], [], .int .i64 (bif p then 0 else 460), [], nx⟩ :=
  memo_any (h ▸ checkPart_0 x) nx (by kernel_rfl) rfl rfl
theorem item_eq (x : It) : itemOk x = itemR x := by
  rw [Bool.eq_iff_iff]
  simp only [itemOk, itemR, within, from0, Bool.and_eq_true, decide_eq_true_eq]
  omega
theorem eq_whole (x : Pt) : eqPt x (wholeP x.it) = ((x.left == x.it.size) && !x.rest) := by
  cases hr : x.rest <;> simp [eqPt, eqIt, wholeP, hr]
theorem part_eq (x : Pt) : partC x = partR x := by
  unfold partC partR
  rw [item_eq, eq_whole]
  cases hr : x.rest with
  | false => simp
  | true =>
    simp only [Bool.not_true, Bool.and_false, Bool.false_or, Bool.true_and, cond_true, within]
    congr 1
    rw [Bool.eq_iff_iff]
    simp only [Bool.and_eq_true, Bool.not_eq_true', decide_eq_false_iff_not, decide_eq_true_eq]
    omega

abbrev W (a : Int) : Int := IntKind.i64.wrap a
end Go.Proofs.Ytjconcfkpgkbkaa.choose
