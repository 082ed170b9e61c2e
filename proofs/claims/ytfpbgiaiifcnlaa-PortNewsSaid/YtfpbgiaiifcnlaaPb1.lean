/- Parts of a proof, joined: PcA, PcB, PcC, PcD, PcE, PcF, PcG, PcH, PcI, PcJ, PcK, PcL, PcO, PcW, PnA, PnB, PnC. -/
import Derived.HandedShaped
import Derived.ProofKit
import Derived.Test.YtfpbgiaiifcnlaaRows
import Derived.WalkKit
import Derived.Test.YtfpbgiaiifcnlaaEg3
/- Contracts: items and parts (layer 36, its reference). -/
namespace Go.Proofs.Ytfpbgiaiifcnlaa.choose
open Go Go.En
set_option linter.unusedVariables false

theorem special : NoSpecial Try.prog := noSpecial_of (by kernel_rfl)
theorem evk (n : Nat) : (ev Try.prog n).Ok Try.prog := ev_ok special n
def J : Value := junk
def pt (b : Nat) : Value := .pointer (some ⟨b, 0, none⟩)
structure It where
  stream : Int
  seq : Int
  cls : Int
  size : Int
  sent : Int
structure Pt where
  it : It
  left : Int
  rest : Bool
def It.cells (x : It) : List Value := [.int .i64 x.stream, .int .i64 x.seq, .int .i64 x.cls, .int .i64 x.size, .int .i64 x.sent]
def Pt.cells (x : Pt) : List Value := [.int .i64 x.it.stream, .int .i64 x.it.seq, .int .i64 x.it.cls, .int .i64 x.it.size, .int .i64 x.it.sent, .int .i64 x.left, .bool x.rest]
def It.v (x : It) : Value := .agg ⟨x.cells⟩
def Pt.v (x : Pt) : Value := .agg ⟨x.cells⟩

def within (a b c : Int) : Bool := decide (b ≤ a) && decide (a ≤ c)
theorem within_0 (a b c : Int) : Memo.Ok Try.prog ⟨44, 0, [.int .i64 a, .int .i64 b, .int .i64 c], [], .bool (within a b c), [], 0⟩ := by
  have key : ∀ p, decide (a ≥ b) = p → Memo.Ok Try.prog ⟨44, 0, [.int .i64 a, .int .i64 b, .int .i64 c], [], .bool (p && decide (a ≤ c)), [], 0⟩ := by
    intro p hp
    cases p <;> exact memo_pure (hs := [(9, .val (.bool (decide (a ≥ b))) (.bool _))]) (ch := []) 0 (evk 50) special ⟨congrArg Value.bool hp, trivial⟩ trivial (by kernel_rfl) rfl (by kernel_rfl)
  exact key _ rfl
theorem within_m (a b c : Int) {p : Bool} (h : within a b c = p) (nx : Nat) : Memo.Ok Try.prog ⟨44, nx, [.int .i64 a, .int .i64 b, .int .i64 c], [], .bool p, [], nx⟩ :=
  memo_any (h ▸ within_0 a b c) nx (by kernel_rfl) rfl rfl

def itemOk (x : It) : Bool := within x.stream 0 1099511627776 && within x.seq 0 1099511627776 && within x.sent 0 1099511627776 && within x.cls 0 7 && within x.size 84 1542
theorem checkItem_0 (x : It) : Memo.Ok Try.prog ⟨39, 0, [x.v], [], .int .i64 (bif itemOk x then 0 else 460), [], 0⟩ := by
  obtain ⟨a, b, c, d, e⟩ := x
  have key : ∀ p1 p2 p3 p4 p5, within a 0 1099511627776 = p1 → within b 0 1099511627776 = p2 → within e 0 1099511627776 = p3 → within c 0 7 = p4 → within d 84 1542 = p5 →
      Memo.Ok Try.prog ⟨39, 0, [It.v ⟨a, b, c, d, e⟩], [], .int .i64 (bif p1 && p2 && p3 && p4 && p5 then 0 else 460), [], 0⟩ := by
    intro p1 p2 p3 p4 p5 h1 h2 h3 h4 h5
    have m1 := within_m _ _ _ h1 1
    have m2 := within_m _ _ _ h2 1
    have m3 := within_m _ _ _ h3 1
    have m4 := within_m _ _ _ h4 1
    have m5 := within_m _ _ _ h5 1
    cases p1 <;> cases p2 <;> cases p3 <;> cases p4 <;> cases p5 <;>
      exact memo_pure (hs := [(5, .call _), (10, .call _), (16, .call _), (22, .call _), (28, .call _)]) (ch := []) 1 (evk 50) special ⟨m1, m2, m3, m4, m5, trivial⟩ trivial (by kernel_rfl) rfl (by kernel_rfl)
  exact key _ _ _ _ _ rfl rfl rfl rfl rfl
theorem checkItem_m (x : It) {p : Bool} (h : itemOk x = p) (nx : Nat) : Memo.Ok Try.prog ⟨39, nx, [x.v], [], .int .i64 (bif p then 0 else 460), [], nx⟩ :=
  memo_any (h ▸ checkItem_0 x) nx (by kernel_rfl) rfl rfl

def wholeP (x : It) : Pt := ⟨x, x.size, false⟩
theorem whole_0 (x : It) : Memo.Ok Try.prog ⟨63, 0, [x.v], [], (wholeP x).v, [], 0⟩ :=
  memo_pure (hs := []) (ch := []) 2 (evk 50) special trivial trivial (by kernel_rfl) rfl (by kernel_rfl)
theorem whole_m (x : It) (nx : Nat) : Memo.Ok Try.prog ⟨63, nx, [x.v], [], (wholeP x).v, [], nx⟩ :=
  memo_any (whole_0 x) nx (by kernel_rfl) rfl rfl

def from0 (a : Int) : Bool := decide (a ≥ 0) && decide (a ≤ 1099511627776)
def itemR (x : It) : Bool := from0 x.stream && from0 x.seq && from0 x.sent && decide (x.cls ≥ 0) && decide (x.cls ≤ 7) && decide (x.size ≥ 84) && decide (x.size ≤ 1542)
def partR (x : Pt) : Bool := itemR x.it && (bif x.rest then decide (x.it.cls ≤ 5) && decide (x.left ≥ 88) && decide (x.left ≤ IntKind.i64.wrap (x.it.size - 40)) else x.left == x.it.size)
def eqIt (p q : It) : Bool := (p.stream == q.stream) && ((p.seq == q.seq) && ((p.cls == q.cls) && ((p.size == q.size) && ((p.sent == q.sent) && true))))
def eqPt (p q : Pt) : Bool := eqIt p.it q.it && ((p.left == q.left) && ((p.rest == q.rest) && true))
theorem eql_pt (p q : Pt) (xo yo : Operand) : doBin Try.prog .eql 33 xo yo p.v q.v = some (.bool (eqPt p q)) ∧ doBin Try.prog .neq 33 xo yo p.v q.v = some (.bool (!eqPt p q)) :=
  bin_eql (by kernel_rfl) (by kernel_rfl) (by kernel_rfl) (by kernel_rfl) xo yo

def partC (x : Pt) : Bool := itemOk x.it && (eqPt x (wholeP x.it) || (x.rest && !(decide (x.it.cls > 5)) && within x.left 88 (IntKind.i64.wrap (x.it.size - 40))))
theorem checkPart_0 (x : Pt) : Memo.Ok Try.prog ⟨47, 0, [x.v], [], .int .i64 (bif partC x then 0 else 460), [], 0⟩ := by
  obtain ⟨⟨a, b, c, d, e⟩, l, r⟩ := x
  have key : ∀ p1 p2 p3 p4, itemOk ⟨a, b, c, d, e⟩ = p1 → eqPt ⟨⟨a, b, c, d, e⟩, l, r⟩ (wholeP ⟨a, b, c, d, e⟩) = p2 → decide (c > 5) = p3 → within l 88 (IntKind.i64.wrap (d - 40)) = p4 →
      Memo.Ok Try.prog ⟨47, 0, [Pt.v ⟨⟨a, b, c, d, e⟩, l, r⟩], [], .int .i64 (bif p1 && (p2 || (r && !p3 && p4)) then 0 else 460), [], 0⟩ := by
    intro p1 p2 p3 p4 h1 h2 h3 h4
    have m1 := checkItem_m _ h1 1
    have m2 := whole_m ⟨a, b, c, d, e⟩ 1
    have m4 := within_m _ _ _ h4 1
    have e2 := fun xo yo => h2 ▸ (eql_pt ⟨⟨a, b, c, d, e⟩, l, r⟩ (wholeP ⟨a, b, c, d, e⟩) xo yo).1
    cases p1 <;> cases p2 <;> cases p3 <;> cases p4 <;> cases r <;>
      exact memo_pure (hs := [(6, .call _), (13, .call _), (14, .bin .eql 33 _ _ _), (22, .val (.bool (decide (c > 5))) (.bool _)), (31, .call _)]) (ch := []) 1 (evk 50) special
        ⟨m1, m2, e2, congrArg Value.bool h3, m4, trivial⟩ trivial (by kernel_rfl) rfl (by kernel_rfl)
  exact key _ _ _ _ rfl rfl rfl rfl
theorem checkPart_m (x : Pt) {p : Bool} (h : partC x = p) (nx : Nat) : Memo.Ok Try.prog ⟨47, nx, [x.v], [], .int .i64 (bif p then 0 else 460), [], nx⟩ :=
  memo_any (h ▸ checkPart_0 x) nx (by kernel_rfl) rfl rfl
theorem item_eq (x : It) : itemOk x = itemR x := by
  rw [Bool.eq_iff_iff]
  simp only [itemOk, itemR, within, from0, Bool.and_eq_true, decide_eq_true_eq]
  omega
theorem eq_whole (x : Pt) : eqPt x (wholeP x.it) = ((x.left == x.it.size) && !x.rest) := by
  cases hr : x.rest <;> simp [eqPt, eqIt, wholeP, hr]
theorem part_eq (x : Pt) : partC x = partR x := by
  unfold partC partR
  rw [item_eq, eq_whole]
  cases hr : x.rest with
  | false => simp
  | true =>
    simp only [Bool.not_true, Bool.and_false, Bool.false_or, Bool.true_and, cond_true, within]
    congr 1
    rw [Bool.eq_iff_iff]
    simp only [Bool.and_eq_true, Bool.not_eq_true', decide_eq_false_iff_not, decide_eq_true_eq]
    omega

abbrev W (a : Int) : Int := IntKind.i64.wrap a
end Go.Proofs.Ytfpbgiaiifcnlaa.choose
/- Contracts: gates (layer 27): Check, find. -/
namespace Go.Proofs.Ytfpbgiaiifcnlaa.choose
open Go Go.En
set_option linter.unusedVariables false

theorem W_spec (a : Int) : -9223372036854775808 ≤ W a ∧ W a < 9223372036854775808 ∧ (W a - a) % 18446744073709551616 = 0 := by
  simp only [W, IntKind.wrap, IntKind.signed, IntKind.bits]
  simp
  split <;> omega
theorem W_id {a : Int} (h : -9223372036854775808 ≤ a ∧ a < 9223372036854775808) : W a = a := by
  have := W_spec a
  omega
theorem wrap_nat {n : Nat} (h : n < 9223372036854775808) : IntKind.i64.wrap (n : Int) = n := W_id (by omega)
theorem cellsOfL_len {α : Type} {f : α → List Value} {s : Nat} (hf : ∀ a, (f a).length = s) : ∀ l : List α, (cellsOfL f l).length = l.length * s
  | [] => by simp [cellsOfL]
  | a :: l => by simp [cellsOfL, hf a, cellsOfL_len hf l, Nat.add_mul, Nat.add_comm]
theorem cellsOfL_get {α : Type} {f : α → List Value} {s : Nat} (hf : ∀ a, (f a).length = s) : ∀ {l : List α} {i : Nat} {a : α}, l[i]? = some a → ∀ (j : Nat) v, (f a)[j]? = some v → (cellsOfL f l)[0 + i * s + j]? = some v
  | [], i, a, h, j, v, hv => by simp at h
  | b :: l, 0, a, h, j, v, hv => by
    simp only [List.getElem?_cons_zero, Option.some.injEq] at h
    subst h
    have := (List.getElem?_eq_some_iff.1 hv).1
    simp only [cellsOfL]
    rw [List.getElem?_append_left (by omega)]
    simpa using hv
  | b :: l, i + 1, a, h, j, v, hv => by
    simp only [List.getElem?_cons_succ] at h
    have := cellsOfL_get hf h j v hv
    simp only [cellsOfL]
    rw [List.getElem?_append_right (by rw [hf, Nat.add_mul]; omega), ← this]
    congr 1
    rw [hf, Nat.add_mul]; omega
theorem avL_app {a b : List Value} (ha : avL a = true) (hb : avL b = true) : avL (a ++ b) = true := by
  induction a with
  | nil => exact hb
  | cons x a ih =>
    simp only [List.cons_append, avL, Bool.and_eq_true] at ha ⊢
    exact ⟨ha.1, ih ha.2⟩
theorem avL_cellsOfL {α : Type} {f : α → List Value} (hf : ∀ a, avL (f a) = true) : ∀ l : List α, avL (cellsOfL f l) = true
  | [] => rfl
  | a :: l => avL_app (hf a) (avL_cellsOfL hf l)
theorem lt_of {α : Type} {l : List α} {i : Nat} {a : α} (h : l[i]? = some a) : i < l.length := (List.getElem?_eq_some_iff.1 h).1

structure Ent where
  mask : Int
  long : Int
def Ent.cells (x : Ent) : List Value := [.int .i64 x.mask, .int .i64 x.long]
def Ent.v (x : Ent) : Value := .agg ⟨x.cells⟩
abbrev ecs (es : List Ent) : List Value := cellsOfL Ent.cells es
theorem ecs_av (es : List Ent) : avL (ecs es) = true := avL_cellsOfL (fun _ => rfl) es
theorem u22 : Try.prog.underlying 22 = some (.slice 65) := by kernel_rfl
theorem z59 : szIs Try.prog 65 2 true = true := by kernel_rfl
theorem z3 : szIs Try.prog 3 1 false = true := by kernel_rfl
theorem ix22 {n c i : Nat} (h : i < n) : doIndexAddr Try.prog 22 (.slice (some ⟨0, 0, none⟩) n c) (.int .i64 i) = some (.pointer (some ⟨0, 0 + i * 2, none⟩)) := Sl.ix' (.inr rfl) u22 z59 h
theorem ld59 {i : Nat} {es : List Ent} {x : Ent} {ro : Bool} (h : es[i]? = some x) : doLoad Try.prog [(0, .cells (ecs es) ro)] 65 (.pointer (some ⟨0, 0 + i * 2, none⟩)) = some x.v := ldN z59 rfl (cellsOfL_get (f := Ent.cells) (s := 2) (fun _ => rfl) h)
theorem ldM {i : Nat} {es : List Ent} {x : Ent} {ro : Bool} (h : es[i]? = some x) : doLoad Try.prog [(0, .cells (ecs es) ro)] 3 (.pointer (some ⟨0, 0 + i * 2 + 0, none⟩)) = some (.int .i64 x.mask) := ld1 z3 (cellsOfL_get (f := Ent.cells) (s := 2) (fun _ => rfl) h 0 _ rfl)
theorem ldG {i : Nat} {es : List Ent} {x : Ent} {ro : Bool} (h : es[i]? = some x) : doLoad Try.prog [(0, .cells (ecs es) ro)] 3 (.pointer (some ⟨0, 0 + i * 2 + 1, none⟩)) = some (.int .i64 x.long) := ld1 z3 (cellsOfL_get (f := Ent.cells) (s := 2) (fun _ => rfl) h 1 _ rfl)
def esl (n c : Nat) : Value := .slice (some ⟨0, 0, none⟩) n c
def gc (n c : Nat) (cyc : Int) : List Value := [esl n c, .int .i64 cyc]
def gv (n c : Nat) (cyc : Int) : Value := .agg ⟨gc n c cyc⟩
def gv0 (cyc : Int) : Value := .agg #[.slice none 0 0, .int .i64 cyc]

/-! ### Check -/
def entOk (e : Ent) : Bool := !(decide (e.mask < 0) || decide (e.mask > 255) || decide (e.long < 1) || decide (e.long > 9600000))
def T29 (n c : Nat) (s i : Int) : List Value := [J, pt 1, J, .int .i64 s] ++ List.replicate 13 J ++ [esl n c, .int .i64 n, .int .i64 i] ++ List.replicate 34 J
def TR29 (s : Int) : List Value := [J, pt 1, J, .int .i64 s] ++ List.replicate 50 J
def TE29 : List Value := [J, J, .int .i64 370] ++ List.replicate 51 J
def H29 (es : List Ent) (c : Nat) (cyc : Int) : Hp := [(1, .cells (gc es.length c cyc) true), (0, .cells (ecs es) true)]
theorem H29_below (es : List Ent) (c : Nat) (cyc : Int) {n : Nat} (hn : 2 ≤ n) : hpBelow n (H29 es c cyc) = true := by
  have a0 : tidyB n (.cells (ecs es) true) = true := small_avL (ecs_av es)
  have a1 : tidyB n (.cells (gc es.length c cyc) true) = true := by simp [tidyB, gc, esl, En.smallL, En.small]; omega
  simp only [H29, hpBelow, a0, a1, Bool.and_true]
  simp; omega
section
variable {es : List Ent} {c : Nat} {cyc : Int}
theorem k_go {s : Int} {i : Nat} {x : Ent} (hi : es[i]? = some x) {q : Bool} (hq : entOk x = q) :
    CodeOk Try.prog none (lp Try.prog 17 5) (T29 es.length c s i) [] (H29 es c cyc) 5 (bif q then ⟨.normal, T29 es.length c (W (s + x.long)) (W (i + 1)), [], H29 es c cyc, 5⟩ else ⟨.ret, TE29, [], H29 es c cyc, 5⟩) := by
  have hlt := lt_of hi
  have hd : decide ((i : Int) < es.length) = true := decide_eq_true (by omega)
  have l1 := ld59 (ro := true) hi
  obtain ⟨m, g⟩ := x
  have key : ∀ p1 p2 p3 p4, decide (m < 0) = p1 → decide (m > 255) = p2 → decide (g < 1) = p3 → decide (g > 9600000) = p4 → (!(p1 || p2 || p3 || p4)) = q → CodeOk Try.prog none (lp Try.prog 17 5) (T29 es.length c s i) [] (H29 es c cyc) 5 (bif q then ⟨.normal, T29 es.length c (W (s + g)) (W (i + 1)), [], H29 es c cyc, 5⟩ else ⟨.ret, TE29, [], H29 es c cyc, 5⟩) := by
    intro p1 p2 p3 p4 h1 h2 h3 h4 h
    subst h
    cases p1 <;> cases p2 <;> cases p3 <;> cases p4 <;>
      exact code_at (hs := [(20, .val (.bool (decide ((i : Int) < es.length))) (.bool true)), (21, .ix 22 (esl es.length c) (.int .i64 i) _), (22, .ld 65 _ 0 (ecs es) true _), (25, .val (.bool (decide (m < 0))) (.bool _)), (29, .val (.bool (decide (m > 255))) (.bool _)), (34, .val (.bool (decide (g < 1))) (.bool _)), (39, .val (.bool (decide (g > 9600000))) (.bool _))]) (ch := []) (evk 50) special
        ⟨congrArg Value.bool hd, ix22 hlt, ⟨l1, _, rfl⟩, congrArg Value.bool h1, congrArg Value.bool h2, congrArg Value.bool h3, congrArg Value.bool h4, trivial⟩ trivial (by kernel_rfl) (H29_below es c cyc (by omega)) (H29_below es c cyc (by omega)) (by kernel_rfl)
  exact key _ _ _ _ rfl rfl rfl rfl hq
theorem k_out {s : Int} : CodeOk Try.prog none (lp Try.prog 17 5) (T29 es.length c s es.length) [] (H29 es c cyc) 5 ⟨.exit 0, TR29 s, [], H29 es c cyc, 5⟩ := by
  have hd : decide ((es.length : Int) < es.length) = false := decide_eq_false (by omega)
  exact code_at (hs := [(20, .val (.bool (decide ((es.length : Int) < es.length))) (.bool false))]) (ch := []) (evk 50) special ⟨congrArg Value.bool hd, trivial⟩ trivial (by kernel_rfl) (H29_below es c cyc (by omega)) (H29_below es c cyc (by omega)) (by kernel_rfl)
def sumG : List Ent → Int → Option Int
  | [], s => some s
  | e :: r, s => bif entOk e then sumG r (W (s + e.long)) else none
def F29 (es : List Ent) (c : Nat) (cyc : Int) : Option Int → Res
  | some s => ⟨.exit 0, TR29 s, [], H29 es c cyc, 5⟩
  | none => ⟨.ret, TE29, [], H29 es c cyc, 5⟩
theorem k_loop (hn : es.length ≤ 1000) : ∀ (k i : Nat) (s : Int), i + k = es.length → LoopOk Try.prog none (lp Try.prog 17 5) (T29 es.length c s i) [] (H29 es c cyc) 5 (F29 es c cyc (sumG (es.drop i) s))
  | 0, i, s, h => by
    have : i = es.length := by omega
    subst this
    rw [List.drop_length]
    exact loopOk_out k_out (by show Exit.exit 0 ≠ Exit.normal; simp)
  | k + 1, i, s, h => by
    have hlt : i < es.length := by omega
    have hi : es[i]? = some es[i] := List.getElem?_eq_getElem hlt
    rw [List.drop_eq_getElem_cons hlt]
    simp only [sumG]
    cases hq : entOk es[i] with
    | false =>
      have h1 := k_go (c := c) (cyc := cyc) (s := s) hi hq
      exact loopOk_out h1 (by show Exit.ret ≠ Exit.normal; simp)
    | true =>
      have h1 := k_go (c := c) (cyc := cyc) (s := s) hi hq
      simp only [cond_true] at h1
      rw [show (i : Int) + 1 = ((i + 1 : Nat) : Int) by push_cast; rfl, show W ((i + 1 : Nat) : Int) = ((i + 1 : Nat) : Int) from wrap_nat (by omega)] at h1
      exact loop_step h1 (k_loop hn k (i + 1) _ (by omega))
termination_by k => k
def fitG (cyc : Int) : Option Int → Bool
  | none => false
  | some s => !(s != cyc || decide (s > 9600000))
def chkG (es : List Ent) (cyc : Int) : Bool := !(decide ((es.length : Int) < 1) || decide ((es.length : Int) > 128)) && fitG cyc (sumG es 0)
theorem gcheck_0 (hn : es.length ≤ 1000) : Memo.Ok Try.prog ⟨17, 1, [gv es.length c cyc], [(0, ecs es)], .int .i64 (bif chkG es cyc then 0 else 370), [], 1⟩ := by
  have hS : En.smallH 1 [(0, ecs es)] = true := by simp [En.smallH, small_avL (ecs_av es)]
  have hlo := k_loop (c := c) (cyc := cyc) hn es.length 0 0 (by omega)
  rw [List.drop_zero] at hlo
  have key : ∀ p1 p2 g, decide ((es.length : Int) < 1) = p1 → decide ((es.length : Int) > 128) = p2 → sumG es 0 = g → Memo.Ok Try.prog ⟨17, 1, [gv es.length c cyc], [(0, ecs es)], .int .i64 (bif !(p1 || p2) && fitG cyc g then 0 else 370), [], 1⟩ := by
    intro p1 p2 g h1 h2 hg
    rw [hg] at hlo
    cases p1
    · cases p2
      · cases g with
        | none =>
          exact memo_pure (hs := [(1, .frz), (9, .val (.bool (decide ((es.length : Int) < 1))) (.bool false)), (14, .val (.bool (decide ((es.length : Int) > 128))) (.bool false))]) (ch := [⟨5, none, .loop (lp Try.prog 17 5), T29 es.length c 0 0, [], H29 es c cyc, 5, _, true⟩]) 5 (evk 50) special
            ⟨trivial, congrArg Value.bool h1, congrArg Value.bool h2, trivial⟩ ⟨codeOk_loop hlo, trivial⟩ (by kernel_rfl) hS (by kernel_rfl)
        | some s =>
          have key2 : ∀ q1 q2, (s != cyc) = q1 → decide (s > 9600000) = q2 → Memo.Ok Try.prog ⟨17, 1, [gv es.length c cyc], [(0, ecs es)], .int .i64 (bif !(false || false) && !(q1 || q2) then 0 else 370), [], 1⟩ := by
            intro q1 q2 e1 e2
            cases q1 <;> cases q2 <;>
              exact memo_pure (hs := [(1, .frz), (9, .val (.bool (decide ((es.length : Int) < 1))) (.bool false)), (14, .val (.bool (decide ((es.length : Int) > 128))) (.bool false)), (49, .val (.bool (s != cyc)) (.bool _)), (52, .val (.bool (decide (s > 9600000))) (.bool _))]) (ch := [⟨5, none, .loop (lp Try.prog 17 5), T29 es.length c 0 0, [], H29 es c cyc, 5, _, true⟩]) 5 (evk 50) special
                ⟨trivial, congrArg Value.bool h1, congrArg Value.bool h2, congrArg Value.bool e1, congrArg Value.bool e2, trivial⟩ ⟨codeOk_loop hlo, trivial⟩ (by kernel_rfl) hS (by kernel_rfl)
          exact key2 _ _ rfl rfl
      · exact memo_pure (hs := [(1, .frz), (9, .val (.bool (decide ((es.length : Int) < 1))) (.bool false)), (14, .val (.bool (decide ((es.length : Int) > 128))) (.bool true))]) (ch := []) 4 (evk 50) special
            ⟨trivial, congrArg Value.bool h1, congrArg Value.bool h2, trivial⟩ trivial (by kernel_rfl) hS (by kernel_rfl)
    · cases p2 <;> exact memo_pure (hs := [(1, .frz), (9, .val (.bool (decide ((es.length : Int) < 1))) (.bool true))]) (ch := []) 3 (evk 50) special
            ⟨trivial, congrArg Value.bool h1, trivial⟩ trivial (by kernel_rfl) hS (by kernel_rfl)
  exact key _ _ _ rfl rfl rfl
theorem gcheck_nil (cyc : Int) : Memo.Ok Try.prog ⟨17, 0, [gv0 cyc], [], .int .i64 370, [], 0⟩ :=
  memo_pure (hs := []) (ch := []) 2 (evk 50) special trivial trivial (by kernel_rfl) rfl (by kernel_rfl)
end
end Go.Proofs.Ytfpbgiaiifcnlaa.choose
/- Contracts: gates (layer 27): find. -/
namespace Go.Proofs.Ytfpbgiaiifcnlaa.choose
open Go Go.En
set_option linter.unusedVariables false

/-! ### What a valid list is -/
def lsum : List Ent → Int
  | [] => 0
  | e :: r => e.long + lsum r
theorem entOk_iff {e : Ent} : entOk e = true ↔ 0 ≤ e.mask ∧ e.mask ≤ 255 ∧ 1 ≤ e.long ∧ e.long ≤ 9600000 := by
  simp only [entOk, Bool.not_eq_true', Bool.or_eq_false_iff, decide_eq_false_iff_not]
  omega
theorem sumG_some : ∀ {es : List Ent} {s r : Int}, 0 ≤ s → s + 9600000 * es.length ≤ 9000000000000000 → sumG es s = some r → (∀ e ∈ es, entOk e = true) ∧ r = s + lsum es
  | [], s, r, _, _, h => by simp only [sumG, Option.some.injEq] at h; simp [lsum, h]
  | e :: es, s, r, h0, hb, h => by
    simp only [sumG] at h
    cases he : entOk e with
    | false => rw [he] at h; cases h
    | true =>
      rw [he] at h
      simp only [cond_true] at h
      obtain ⟨h1, h2, h3, h4⟩ := entOk_iff.1 he
      simp only [List.length_cons] at hb
      push_cast at hb
      rw [W_id (a := s + e.long) (by omega)] at h
      obtain ⟨g1, g2⟩ := sumG_some (es := es) (by omega) (by omega) h
      refine ⟨fun x hx => ?_, by simp only [lsum]; omega⟩
      rcases List.mem_cons.1 hx with rfl | hx
      · exact he
      · exact g1 x hx
structure Good (es : List Ent) (cyc : Int) : Prop where
  n1 : 1 ≤ es.length
  n128 : es.length ≤ 128
  ok : ∀ e ∈ es, entOk e = true
  sum : lsum es = cyc
  le : cyc ≤ 9600000
theorem good_of {es : List Ent} {cyc : Int} (h : chkG es cyc = true) : Good es cyc := by
  simp only [chkG, Bool.and_eq_true, Bool.not_eq_true', Bool.or_eq_false_iff, decide_eq_false_iff_not] at h
  obtain ⟨⟨h1, h2⟩, h3⟩ := h
  cases hs : sumG es 0 with
  | none => rw [hs] at h3; cases h3
  | some s =>
    rw [hs] at h3
    simp only [fitG, Bool.not_eq_true', Bool.or_eq_false_iff, decide_eq_false_iff_not, bne_eq_false_iff_eq] at h3
    obtain ⟨g1, g2⟩ := sumG_some (Int.le_refl 0) (by omega) hs
    exact ⟨by omega, by omega, g1, by omega, by omega⟩
theorem lsum_ge : ∀ {es : List Ent}, (∀ e ∈ es, entOk e = true) → (es.length : Int) ≤ lsum es
  | [], _ => by simp [lsum]
  | e :: es, h => by
    have h1 := entOk_iff.1 (h e (by simp))
    have h2 := lsum_ge (es := es) fun x hx => h x (by simp [hx])
    simp only [lsum, List.length_cons]
    push_cast
    omega
theorem Good.pos {es : List Ent} {cyc : Int} (h : Good es cyc) : 1 ≤ cyc := by
  have := lsum_ge h.ok
  have := h.n1
  have := h.sum
  omega
theorem Good.at {es : List Ent} {cyc : Int} (h : Good es cyc) {i : Nat} {x : Ent} (hi : es[i]? = some x) : 0 ≤ x.mask ∧ x.mask ≤ 255 ∧ 1 ≤ x.long ∧ x.long ≤ 9600000 := entOk_iff.1 (h.ok x (List.mem_of_getElem? hi))

/-! ### find -/
def ph (t cyc : Int) : Int := Int.tmod (W (Int.tmod t cyc + cyc)) cyc
theorem ph_range {t cyc : Int} (h1 : 1 ≤ cyc) (h2 : cyc ≤ 9600000) : 0 ≤ ph t cyc ∧ ph t cyc < cyc := by
  have a1 := Int.tmod_lt_of_pos t (show 0 < cyc by omega)
  have a2 : -cyc < Int.tmod t cyc := by
    have h3 := Int.lt_tmod_of_pos t (show 0 < cyc by omega)
    omega
  have hw : W (Int.tmod t cyc + cyc) = Int.tmod t cyc + cyc := W_id (by omega)
  unfold ph
  rw [hw]
  exact ⟨Int.tmod_nonneg _ (by omega), Int.tmod_lt_of_pos _ (by omega)⟩
def findP : List Ent → Int → Nat → Nat × Int
  | [], _, i => (i, 0)
  | e :: r, t, i => bif decide (t ≥ e.long) then findP r (t - e.long) (i + 1) else (i, e.long - t)
def T71 (r i : Int) : List Value := [J, .int .i64 r, pt 1, J, .int .i64 i, .int .i64 0] ++ List.replicate 37 J
def TR71 (i l : Int) : List Value := [J, J, J, J, .int .i64 i, .int .i64 l] ++ List.replicate 37 J
section
variable {es : List Ent} {c : Nat} {cyc : Int}
theorem f_go {r : Int} {i : Nat} {x : Ent} (hi : es[i]? = some x) {q : Bool} (hq : decide (r ≥ x.long) = q) :
    CodeOk Try.prog none (after (scp Try.prog 80) 0) (T71 r i) [] (H29 es c cyc) 2 (bif q then ⟨.goto 0, T71 (W (r - x.long)) (W (i + 1)), [], H29 es c cyc, 2⟩ else ⟨.ret, TR71 i (W (x.long - r)), [], H29 es c cyc, 2⟩) := by
  have hlt := lt_of hi
  have l1 := ldG (ro := true) hi
  obtain ⟨m, g⟩ := x
  cases q
  · exact code_at (hs := [(20, .ix 22 (esl es.length c) (.int .i64 i) _), (22, .ld 3 _ 0 (ecs es) true _), (23, .val (.bool (decide (r ≥ g))) (.bool _)), (38, .ix 22 (esl es.length c) (.int .i64 i) _), (40, .ld 3 _ 0 (ecs es) true _)]) (ch := []) (evk 50) special
      ⟨ix22 hlt, ⟨l1, _, rfl⟩, congrArg Value.bool hq, ix22 hlt, ⟨l1, _, rfl⟩, trivial⟩ trivial (by kernel_rfl) (H29_below es c cyc (by omega)) (H29_below es c cyc (by omega)) (by kernel_rfl)
  · exact code_at (hs := [(20, .ix 22 (esl es.length c) (.int .i64 i) _), (22, .ld 3 _ 0 (ecs es) true _), (23, .val (.bool (decide (r ≥ g))) (.bool _)), (28, .ix 22 (esl es.length c) (.int .i64 i) _), (30, .ld 3 _ 0 (ecs es) true _)]) (ch := []) (evk 50) special
      ⟨ix22 hlt, ⟨l1, _, rfl⟩, congrArg Value.bool hq, ix22 hlt, ⟨l1, _, rfl⟩, trivial⟩ trivial (by kernel_rfl) (H29_below es c cyc (by omega)) (H29_below es c cyc (by omega)) (by kernel_rfl)
theorem f_st {t : Int} (h0 : cyc ≠ 0) {x : Ent} (hi : es[0]? = some x) {q : Bool} (hq : decide (ph t cyc ≥ x.long) = q) :
    CodeOk Try.prog none (scp Try.prog 80) (T71 t 0) [] (H29 es c cyc) 2 (bif q then ⟨.goto 0, T71 (W (ph t cyc - x.long)) 1, [], H29 es c cyc, 2⟩ else ⟨.ret, TR71 0 (W (x.long - ph t cyc)), [], H29 es c cyc, 2⟩) := by
  have hlt := lt_of hi
  have l1 := ldG (ro := true) hi
  have b1 := fun xo yo => rem_bin (P := Try.prog) (t := 3) (k := .i64) (a := t) h0 xo yo
  have b2 := fun xo yo => rem_bin (P := Try.prog) (t := 3) (k := .i64) (a := W (Int.tmod t cyc + cyc)) h0 xo yo
  obtain ⟨m, g⟩ := x
  cases q
  · exact code_at (hs := [(9, .bin .rem 3 _ _ _), (15, .bin .rem 3 _ _ _), (20, .ix 22 (esl es.length c) (.int .i64 (0 : Nat)) _), (22, .ld 3 _ 0 (ecs es) true _), (23, .val (.bool (decide (ph t cyc ≥ g))) (.bool _)), (38, .ix 22 (esl es.length c) (.int .i64 (0 : Nat)) _), (40, .ld 3 _ 0 (ecs es) true _)]) (ch := []) (evk 50) special
      ⟨b1, b2, ix22 hlt, ⟨l1, _, rfl⟩, congrArg Value.bool hq, ix22 hlt, ⟨l1, _, rfl⟩, trivial⟩ trivial (by kernel_rfl) (H29_below es c cyc (by omega)) (H29_below es c cyc (by omega)) (by kernel_rfl)
  · exact code_at (hs := [(9, .bin .rem 3 _ _ _), (15, .bin .rem 3 _ _ _), (20, .ix 22 (esl es.length c) (.int .i64 (0 : Nat)) _), (22, .ld 3 _ 0 (ecs es) true _), (23, .val (.bool (decide (ph t cyc ≥ g))) (.bool _)), (28, .ix 22 (esl es.length c) (.int .i64 (0 : Nat)) _), (30, .ld 3 _ 0 (ecs es) true _)]) (ch := []) (evk 50) special
      ⟨b1, b2, ix22 hlt, ⟨l1, _, rfl⟩, congrArg Value.bool hq, ix22 hlt, ⟨l1, _, rfl⟩, trivial⟩ trivial (by kernel_rfl) (H29_below es c cyc (by omega)) (H29_below es c cyc (by omega)) (by kernel_rfl)
def F71 (es : List Ent) (c : Nat) (cyc : Int) (p : Nat × Int) : Res := ⟨.ret, TR71 p.1 p.2, [], H29 es c cyc, 2⟩
theorem lsum_drop {es : List Ent} {i : Nat} (h : i < es.length) : lsum (es.drop i) = es[i].long + lsum (es.drop (i + 1)) := by
  rw [List.drop_eq_getElem_cons h]; rfl
theorem f_lbl : findLabel (scp Try.prog 80) 0 = some (after (scp Try.prog 80) 0) := by kernel_rfl
theorem f_scp (hG : Good es cyc) : ∀ (k i : Nat) (r : Int), i + k = es.length → 0 ≤ r → r < lsum (es.drop i) → r ≤ 9600000 → ScpOk Try.prog (scp Try.prog 80) (after (scp Try.prog 80) 0) (T71 r i) [] (H29 es c cyc) 2 (F71 es c cyc (findP (es.drop i) r i))
  | 0, i, r, h, h0, hs, _ => by
    rw [List.drop_eq_nil_of_le (by omega)] at hs
    simp only [lsum] at hs
    omega
  | k + 1, i, r, h, h0, hs, hr => by
    have hlt : i < es.length := by omega
    have hi : es[i]? = some es[i] := List.getElem?_eq_getElem hlt
    have hx := hG.at hi
    have h128 := hG.n128
    rw [lsum_drop hlt] at hs
    rw [List.drop_eq_getElem_cons hlt]
    simp only [findP]
    cases hq : decide (r ≥ es[i].long) with
    | false =>
      have h1 := f_go (c := c) (cyc := cyc) hi hq
      simp only [cond_false] at h1 ⊢
      rw [W_id (a := es[i].long - r) (by omega)] at h1
      exact scpOk_out h1 (fun l => by show Exit.ret ≠ Exit.goto l; simp)
    | true =>
      have h1 := f_go (c := c) (cyc := cyc) hi hq
      simp only [decide_eq_true_eq] at hq
      simp only [cond_true] at h1 ⊢
      rw [W_id (a := r - es[i].long) (by omega), show (i : Int) + 1 = ((i + 1 : Nat) : Int) by push_cast; rfl, show W ((i + 1 : Nat) : Int) = ((i + 1 : Nat) : Int) from wrap_nat (by omega)] at h1
      exact scpOk_jump h1 rfl f_lbl (f_scp hG k (i + 1) _ (by omega) (by omega) (by omega) (by omega))
termination_by k => k
theorem f_all (hG : Good es cyc) (t : Int) : ScpOk Try.prog (scp Try.prog 80) (scp Try.prog 80) (T71 t 0) [] (H29 es c cyc) 2 (F71 es c cyc (findP es (ph t cyc) 0)) := by
  have hp := hG.pos
  have hle := hG.le
  have h128 := hG.n128
  obtain ⟨p0, p1⟩ := ph_range (t := t) hp hle
  have hsum := hG.sum
  cases hes : es with
  | nil => have := hG.n1; rw [hes] at this; simp at this
  | cons e r =>
    rw [← hes]
    have hlt : 0 < es.length := hG.n1
    have hi : es[0]? = some e := by rw [hes]; rfl
    have hx := hG.at hi
    have hd : es.drop 1 = r := by rw [hes]; rfl
    have hl : lsum es = e.long + lsum r := by rw [hes]; rfl
    have hf : findP es (ph t cyc) 0 = bif decide (ph t cyc ≥ e.long) then findP r (ph t cyc - e.long) 1 else (0, e.long - ph t cyc) := by rw [hes]; rfl
    rw [hf]
    cases hq : decide (ph t cyc ≥ e.long) with
    | false =>
      have h1 := f_st (c := c) (t := t) (by omega) hi hq
      simp only [cond_false] at h1 ⊢
      rw [W_id (a := e.long - ph t cyc) (by omega)] at h1
      exact scpOk_out h1 (fun l => by show Exit.ret ≠ Exit.goto l; simp)
    | true =>
      have h1 := f_st (c := c) (t := t) (by omega) hi hq
      simp only [decide_eq_true_eq] at hq
      simp only [cond_true] at h1 ⊢
      rw [W_id (a := ph t cyc - e.long) (by omega)] at h1
      have h2 := f_scp (c := c) hG (es.length - 1) 1 (ph t cyc - e.long) (by omega) (by omega) (by rw [hd]; omega) (by omega)
      rw [hd] at h2
      exact scpOk_jump h1 rfl f_lbl h2
def findS (es : List Ent) (t cyc : Int) : Nat × Int := findP es (ph t cyc) 0
theorem find_0 (hG : Good es cyc) (t : Int) : Memo.Ok Try.prog ⟨80, 1, [gv es.length c cyc, .int .i64 t], [(0, ecs es)], .tuple #[.int .i64 (findS es t cyc).1, .int .i64 (findS es t cyc).2], [], 1⟩ := by
  have hS : En.smallH 1 [(0, ecs es)] = true := by simp [En.smallH, small_avL (ecs_av es)]
  have h := codeOk_scope (f_all (c := c) hG t)
  unfold findS
  generalize findP es (ph t cyc) 0 = p at h ⊢
  exact memo_pure (hs := [(2, .frz)]) (ch := [⟨1001, none, .scope (scp Try.prog 80), T71 t 0, [], H29 es c cyc, 2, _, true⟩]) 2 (evk 50) special ⟨trivial, trivial⟩ ⟨h, trivial⟩ (by kernel_rfl) hS (by kernel_rfl)
end
end Go.Proofs.Ytfpbgiaiifcnlaa.choose
/- Contracts: gates (layer 27): stretch. -/
namespace Go.Proofs.Ytfpbgiaiifcnlaa.choose
open Go Go.En
set_option linter.unusedVariables false

def andS (x : Int) : Int := IntKind.i64.wrap ((BitVec.ofInt IntKind.i64.bits x &&& BitVec.ofInt IntKind.i64.bits 1).toNat)
def bitS (m cls : Int) : Int := andS (m.fdiv (2 ^ (min cls.toNat IntKind.i64.bits)))
def openS (cls m : Int) : Bool := bitS m cls == 1
def shutS (cls m : Int) : Bool := bitS m cls == 0
theorem has_open {cls : Int} (h : 0 ≤ cls) (m : Int) : Memo.Ok Try.prog ⟨62, 1, [.int .i64 m, pt 0], [(0, [.int .i64 cls])], .bool (openS cls m), [], 1⟩ := by
  have b := fun xo yo => shr_bin (P := Try.prog) (t := 3) (k := .i64) (k' := .i64) (a := m) h xo yo
  exact memo_pure (hs := [(6, .bin .shr 3 _ _ _)]) (ch := []) 1 (evk 50) special ⟨b, trivial⟩ trivial (by kernel_rfl) rfl (by kernel_rfl)
theorem has_shut {cls : Int} (h : 0 ≤ cls) (m : Int) : Memo.Ok Try.prog ⟨92, 1, [.int .i64 m, pt 0], [(0, [.int .i64 cls])], .bool (shutS cls m), [], 1⟩ := by
  have b := fun xo yo => shr_bin (P := Try.prog) (t := 3) (k := .i64) (k' := .i64) (a := m) h xo yo
  exact memo_pure (hs := [(6, .bin .shr 3 _ _ _)]) (ch := []) 1 (evk 50) special ⟨b, trivial⟩ trivial (by kernel_rfl) rfl (by kernel_rfl)
/-- The two properties that masks are asked for. -/
def hasG (g : Nat) (cls m : Int) : Bool := if g = 62 then openS cls m else shutS cls m
theorem has_m {g : Nat} (hg : g = 62 ∨ g = 92) {cls : Int} (h : 0 ≤ cls) (m : Int) {p : Bool} (hp : hasG g cls m = p) (nx : Nat) : Memo.Ok Try.prog ⟨g, nx, [.int .i64 m, pt 1], [(1, [.int .i64 cls])], .bool p, [], nx⟩ := by
  rcases hg with rfl | rfl
  · have hp : openS cls m = p := by simpa [hasG] using hp
    exact memo_blk (hp ▸ has_open h m) rfl 1 nx (by kernel_rfl) rfl rfl
  · have hp : shutS cls m = p := by simpa [hasG] using hp
    exact memo_blk (hp ▸ has_shut h m) rfl 1 nx (by kernel_rfl) rfl rfl
theorem gcheck_m {es : List Ent} {c : Nat} {cyc : Int} (hn : es.length ≤ 1000) {p : Bool} (h : chkG es cyc = p) (nx : Nat) : Memo.Ok Try.prog ⟨17, nx, [gv es.length c cyc], [(0, ecs es)], .int .i64 (bif p then 0 else 370), [], nx⟩ :=
  memo_blk (h ▸ gcheck_0 hn) (ecs_av es) 0 nx (by kernel_rfl) rfl rfl
theorem find_m {es : List Ent} {c : Nat} {cyc : Int} (hG : Good es cyc) (t : Int) (nx : Nat) : Memo.Ok Try.prog ⟨80, nx, [gv es.length c cyc, .int .i64 t], [(0, ecs es)], .tuple #[.int .i64 (findS es t cyc).1, .int .i64 (findS es t cyc).2], [], nx⟩ :=
  memo_blk (find_0 hG t) (ecs_av es) 0 nx (by kernel_rfl) rfl rfl
theorem findP_ok : ∀ {es : List Ent} {r : Int} {i : Nat}, (∀ e ∈ es, entOk e = true) → 0 ≤ r → r < lsum es → i ≤ (findP es r i).1 ∧ (findP es r i).1 < i + es.length ∧ 1 ≤ (findP es r i).2 ∧ (findP es r i).2 ≤ 9600000
  | [], r, i, _, h0, h1 => by simp only [lsum] at h1; omega
  | e :: es, r, i, hok, h0, h1 => by
    have he := entOk_iff.1 (hok e (by simp))
    simp only [lsum] at h1
    simp only [findP, List.length_cons]
    cases hq : decide (r ≥ e.long) with
    | true =>
      simp only [decide_eq_true_eq] at hq
      have := findP_ok (es := es) (r := r - e.long) (i := i + 1) (fun x hx => hok x (by simp [hx])) (by omega) (by omega)
      simp only [cond_true]
      omega
    | false =>
      simp only [decide_eq_false_iff_not] at hq
      simp only [cond_false]
      omega
theorem findS_ok {es : List Ent} {cyc : Int} (hG : Good es cyc) (t : Int) : (findS es t cyc).1 < es.length ∧ 1 ≤ (findS es t cyc).2 ∧ (findS es t cyc).2 ≤ 9600000 := by
  have hp := ph_range (t := t) hG.pos hG.le
  have hs := hG.sum
  have := findP_ok (i := 0) hG.ok hp.1 (by omega)
  unfold findS
  omega
def longAt (es : List Ent) (i : Nat) : Int := (es.getD i ⟨0, 0⟩).long
def maskAt (es : List Ent) (i : Nat) : Int := (es.getD i ⟨0, 0⟩).mask
def strP (es : List Ent) (has : Int → Bool) (cyc : Int) : Nat → Nat → Int → Int → Int
  | 0, _, _, _ => cyc
  | k + 1, i, left, n => bif has (maskAt es i) then strP es has cyc k ((i + 1) % es.length) (longAt es ((i + 1) % es.length)) (n + left) else n
def fv (g : Nat) : Value := .func (.func g) #[] #[pt 1]
def T66 (g n c : Nat) (i left s m k : Int) : List Value := [J, J, fv g, pt 2, J, J, .int .i64 0, .int .i64 i, .int .i64 left, .int .i64 s] ++ List.replicate 9 J ++ [.int .i64 m, .int .i64 k] ++ List.replicate 29 J
def TR66 (s : Int) : List Value := [J, J, J, J, J, J, .int .i64 s] ++ List.replicate 43 J
def TX66 : List Value := [J, J, J, pt 2] ++ List.replicate 46 J
def H66 (es : List Ent) (c : Nat) (cyc cls : Int) : Hp := [(2, .cells (gc es.length c cyc) true), (0, .cells (ecs es) true), (1, .cells [.int .i64 cls] true)]
theorem H66_below (es : List Ent) (c : Nat) (cyc cls : Int) {n : Nat} (hn : 3 ≤ n) : hpBelow n (H66 es c cyc cls) = true := by
  have a0 : tidyB n (.cells (ecs es) true) = true := small_avL (ecs_av es)
  have a1 : tidyB n (.cells (gc es.length c cyc) true) = true := by simp [tidyB, gc, esl, En.smallL, En.small]; omega
  have a2 : tidyB n (.cells [.int .i64 cls] true) = true := rfl
  simp only [H66, hpBelow, a0, a1, a2, Bool.and_true]
  simp; omega
theorem at_some {es : List Ent} {i : Nat} (h : i < es.length) : es[i]? = some (es.getD i ⟨0, 0⟩) := by
  rw [List.getD_eq_getElem?_getD, List.getElem?_eq_getElem h]; rfl
section
variable {es : List Ent} {c : Nat} {cyc cls : Int} {g : Nat}
theorem s_no (hg : g = 62 ∨ g = 92) (hcls : 0 ≤ cls) {i : Nat} (hi : i < es.length) {left s m k : Int} (hk : decide (k < m) = true) (hq : hasG g cls (maskAt es i) = false) :
    CodeOk Try.prog none (lp Try.prog 61 4) (T66 g es.length c i left s m k) [] (H66 es c cyc cls) 4 ⟨.ret, TR66 s, [], H66 es c cyc cls, 4⟩ := by
  have mh := has_m hg hcls (maskAt es i) hq 4
  have l1 := ldM (ro := true) (at_some hi)
  rcases hg with rfl | rfl <;>
    exact code_at (hs := [(21, .val (.bool (decide (k < m))) (.bool true)), (26, .ix 22 (esl es.length c) (.int .i64 i) _), (28, .ld 3 _ 0 (ecs es) true _), (29, .call _)]) (ch := []) (evk 50) special
      ⟨congrArg Value.bool hk, ix22 hi, ⟨l1, _, rfl⟩, mh, trivial⟩ trivial (by kernel_rfl) (H66_below es c cyc cls (by omega)) (H66_below es c cyc cls (by omega)) (by kernel_rfl)
theorem s_yes (hg : g = 62 ∨ g = 92) (hcls : 0 ≤ cls) (h1000 : es.length ≤ 1000) {i : Nat} (hi : i < es.length) {left s m k : Int} (hk : decide (k < m) = true) (hq : hasG g cls (maskAt es i) = true) :
    CodeOk Try.prog none (lp Try.prog 61 4) (T66 g es.length c i left s m k) [] (H66 es c cyc cls) 4 ⟨.normal, T66 g es.length c ((i + 1) % es.length : Nat) (longAt es ((i + 1) % es.length)) (W (s + left)) m (W (k + 1)), [], H66 es c cyc cls, 4⟩ := by
  have mh := has_m hg hcls (maskAt es i) hq 4
  have l1 := ldM (ro := true) (at_some hi)
  have hj : (i + 1) % es.length < es.length := Nat.mod_lt _ (by omega)
  have l2 := ldG (ro := true) (at_some hj)
  have w1 : W ((i : Int) + 1) = ((i + 1 : Nat) : Int) := by rw [show (i : Int) + 1 = ((i + 1 : Nat) : Int) by push_cast; rfl]; exact wrap_nat (by omega)
  have b := fun xo yo => rem_bin (P := Try.prog) (t := 3) (k := .i64) (a := ((i + 1 : Nat) : Int)) (b := (es.length : Int)) (by omega) xo yo
  rw [← Int.ofNat_tmod] at b
  rcases hg with rfl | rfl <;>
    exact code_at (hs := [(21, .val (.bool (decide (k < m))) (.bool true)), (26, .ix 22 (esl es.length c) (.int .i64 i) _), (28, .ld 3 _ 0 (ecs es) true _), (29, .call _), (36, .val (.int .i64 (W (i + 1))) (.int .i64 (i + 1 : Nat))), (40, .bin .rem 3 _ _ _), (44, .ix 22 (esl es.length c) (.int .i64 ((i + 1) % es.length : Nat)) _), (46, .ld 3 _ 0 (ecs es) true _)]) (ch := []) (evk 50) special
      ⟨congrArg Value.bool hk, ix22 hi, ⟨l1, _, rfl⟩, mh, congrArg (Value.int .i64) w1, b, ix22 hj, ⟨l2, _, rfl⟩, trivial⟩ trivial (by kernel_rfl) (H66_below es c cyc cls (by omega)) (H66_below es c cyc cls (by omega)) (by kernel_rfl)
theorem s_out (hg : g = 62 ∨ g = 92) {i left s m k : Int} (hk : decide (k < m) = false) :
    CodeOk Try.prog none (lp Try.prog 61 4) (T66 g es.length c i left s m k) [] (H66 es c cyc cls) 4 ⟨.exit 0, TX66, [], H66 es c cyc cls, 4⟩ := by
  rcases hg with rfl | rfl <;>
    exact code_at (hs := [(21, .val (.bool (decide (k < m))) (.bool false))]) (ch := []) (evk 50) special ⟨congrArg Value.bool hk, trivial⟩ trivial (by kernel_rfl) (H66_below es c cyc cls (by omega)) (H66_below es c cyc cls (by omega)) (by kernel_rfl)
/-- What the loop comes to: nothing (all masks have it), or how long. -/
def strO (es : List Ent) (has : Int → Bool) : Nat → Nat → Int → Int → Option Int
  | 0, _, _, _ => none
  | k + 1, i, left, n => bif has (maskAt es i) then strO es has k ((i + 1) % es.length) (longAt es ((i + 1) % es.length)) (n + left) else some n
def F66 (es : List Ent) (c : Nat) (cyc cls : Int) : Option Int → Res
  | none => ⟨.exit 0, TX66, [], H66 es c cyc cls, 4⟩
  | some s => ⟨.ret, TR66 s, [], H66 es c cyc cls, 4⟩
theorem long_ok (hG : Good es cyc) {i : Nat} (h : i < es.length) : 1 ≤ longAt es i ∧ longAt es i ≤ 9600000 := by
  have := hG.at (at_some h)
  exact this.2.2
theorem s_loop (hg : g = 62 ∨ g = 92) (hcls : 0 ≤ cls) (hG : Good es cyc) {m : Nat} (hm : m ≤ 200) : ∀ (k j i : Nat) (left s : Int), j + k = m → i < es.length → 1 ≤ left → left ≤ 9600000 → 0 ≤ s → s ≤ 9600000 * j →
    LoopOk Try.prog none (lp Try.prog 61 4) (T66 g es.length c i left s m j) [] (H66 es c cyc cls) 4 (F66 es c cyc cls (strO es (hasG g cls) k i left s))
  | 0, j, i, left, s, h, hi, _, _, _, _ => by
    exact loopOk_out (s_out hg (decide_eq_false (by omega))) (by show Exit.exit 0 ≠ Exit.normal; simp)
  | k + 1, j, i, left, s, h, hi, h1, h2, h3, h4 => by
    have h128 := hG.n128
    simp only [strO]
    cases hq : hasG g cls (maskAt es i) with
    | false => exact loopOk_out (s_no hg hcls hi (decide_eq_true (by omega)) hq) (by show Exit.ret ≠ Exit.normal; simp)
    | true =>
      have h5 := s_yes (c := c) (cyc := cyc) hg hcls (by omega) hi (left := left) (s := s) (m := m) (k := j) (decide_eq_true (by omega)) hq
      rw [W_id (a := s + left) (by omega), show (j : Int) + 1 = ((j + 1 : Nat) : Int) by push_cast; rfl, show W ((j + 1 : Nat) : Int) = ((j + 1 : Nat) : Int) from wrap_nat (by omega)] at h5
      have hj : (i + 1) % es.length < es.length := Nat.mod_lt _ (by omega)
      have hl := long_ok hG hj
      exact loop_step h5 (s_loop hg hcls hG hm k (j + 1) _ _ _ (by omega) hj hl.1 hl.2 (by omega) (by push_cast; omega))
termination_by k => k
def strS (es : List Ent) (has : Int → Bool) (t cyc : Int) : Int := (strO es has (es.length + 1) (findS es t cyc).1 (findS es t cyc).2 0).getD cyc
theorem stretch_0 (hg : g = 62 ∨ g = 92) (hcls : 0 ≤ cls) (hG : Good es cyc) (t : Int) :
    Memo.Ok Try.prog ⟨61, 2, [gv es.length c cyc, .int .i64 t, fv g], [(0, ecs es), (1, [.int .i64 cls])], .int .i64 (strS es (hasG g cls) t cyc), [], 2⟩ := by
  have hS : En.smallH 2 [(0, ecs es), (1, [.int .i64 cls])] = true := by simp [En.smallH, small_avL (ecs_av es)]; rfl
  have h128 := hG.n128
  have mf := find_m (c := c) hG t 3
  have hf := findS_ok hG t
  have hlo := s_loop (c := c) hg hcls hG (m := es.length + 1) (by omega) (es.length + 1) 0 (findS es t cyc).1 (findS es t cyc).2 0 (by omega) hf.1 hf.2.1 hf.2.2 (by omega) (by omega)
  have w1 : W ((es.length : Int) + 1) = ((es.length + 1 : Nat) : Int) := by rw [show (es.length : Int) + 1 = ((es.length + 1 : Nat) : Int) by push_cast; rfl]; exact wrap_nat (by omega)
  unfold strS
  generalize strO es (hasG g cls) (es.length + 1) (findS es t cyc).1 (findS es t cyc).2 0 = o at hlo ⊢
  generalize findS es t cyc = p at mf hlo
  rcases hg with rfl | rfl <;> cases o <;>
    exact memo_pure (hs := [(3, .frz), (13, .call _), (19, .val (.int .i64 (W (es.length + 1))) (.int .i64 (es.length + 1 : Nat)))]) (ch := [⟨4, none, .loop (lp Try.prog 61 4), T66 _ es.length c p.1 p.2 0 (es.length + 1 : Nat) 0, [], H66 es c cyc cls, 4, _, true⟩]) 4 (evk 50) special ⟨trivial, mf, congrArg (Value.int .i64) w1, trivial⟩ ⟨codeOk_loop hlo, trivial⟩ (by kernel_rfl) hS (by kernel_rfl)
end
end Go.Proofs.Ytfpbgiaiifcnlaa.choose
/- Contracts: gates (layer 27): open, check, Fits. -/
namespace Go.Proofs.Ytfpbgiaiifcnlaa.choose
open Go Go.En
set_option linter.unusedVariables false

def ρ1 (b : Nat) : Nat → Nat
  | 0 => 0
  | _ => b
section
variable {es : List Ent} {c : Nat} {cyc cls : Int}
theorem stretch_m {g : Nat} (hg : g = 62 ∨ g = 92) (hcls : 0 ≤ cls) (hG : Good es cyc) (t : Int) (b nx : Nat) :
    Memo.Ok Try.prog ⟨61, nx, [gv es.length c cyc, .int .i64 t, .func (.func g) #[] #[pt (b + 1)]], [(0, ecs es), (b + 1, [.int .i64 cls])], .int .i64 (strS es (hasG g cls) t cyc), [], nx⟩ := by
  have := memo_ren (stretch_0 (c := c) hg hcls hG t) (ρ1 (b + 1)) nx [(0, ecs es), (b + 1, [.int .i64 cls])] (by rcases hg with rfl | rfl <;> kernel_rfl) (by simp [En.smallH, small_avL (ecs_av es)]; rfl) rfl (fun x cs hx => by
    by_cases h0 : 0 = x
    · subst h0
      simp [roHp, Hp.get, ρ1] at hx ⊢
      subst hx
      exact (renV_avL (ecs_av es)).symm
    · by_cases h1 : 1 = x
      · subst h1
        simp [roHp, Hp.get, ρ1] at hx ⊢
        subst hx
        rfl
      · simp [roHp, Hp.get, h0, h1] at hx)
  exact this
def openN (es : List Ent) (cls t cyc : Int) : Int := bif strS es (hasG 62 cls) t cyc == cyc then 1099511627776 else strS es (hasG 62 cls) t cyc
theorem open_0 (hcls : 0 ≤ cls) (hG : Good es cyc) (t : Int) : Memo.Ok Try.prog ⟨43, 1, [gv es.length c cyc, .int .i64 cls, .int .i64 t], [(0, ecs es)], .int .i64 (openN es cls t cyc), [], 1⟩ := by
  have hS : En.smallH 1 [(0, ecs es)] = true := by simp [En.smallH, small_avL (ecs_av es)]
  have ms := stretch_m (c := c) (g := 62) (.inl rfl) hcls hG t 1 3
  unfold openN
  generalize strS es (hasG 62 cls) t cyc = n at ms ⊢
  have key : ∀ q, (n == cyc) = q → Memo.Ok Try.prog ⟨43, 1, [gv es.length c cyc, .int .i64 cls, .int .i64 t], [(0, ecs es)], .int .i64 (bif q then 1099511627776 else n), [], 1⟩ := by
    intro q hq
    cases q <;> exact memo_pure (hs := [(3, .frz), (4, .frz), (11, .call _), (15, .val (.bool (n == cyc)) (.bool _))]) (ch := []) 3 (evk 50) special ⟨trivial, trivial, ms, congrArg Value.bool hq, trivial⟩ trivial (by kernel_rfl) hS (by kernel_rfl)
  exact key _ rfl
theorem open_m (hcls : 0 ≤ cls) (hG : Good es cyc) (t : Int) {v : Int} (hv : openN es cls t cyc = v) (nx : Nat) : Memo.Ok Try.prog ⟨43, nx, [gv es.length c cyc, .int .i64 cls, .int .i64 t], [(0, ecs es)], .int .i64 v, [], nx⟩ :=
  memo_blk (hv ▸ open_0 hcls hG t) (ecs_av es) 0 nx (by kernel_rfl) rfl rfl
def argG (cls t long : Int) : Bool := decide (cls < 0) || (decide (cls ≥ 8) || (decide (t < -1099511627776) || (decide (t > 1099511627776) || (decide (long < 0) || decide (long > 1099511627776)))))
def errG (es : List Ent) (cyc cls t long : Int) : Int := bif chkG es cyc then (bif argG cls t long then 2 else 0) else 370
theorem gargs_0 (hn : es.length ≤ 1000) (cls t long : Int) : Memo.Ok Try.prog ⟨42, 1, [gv es.length c cyc, .int .i64 cls, .int .i64 t, .int .i64 long], [(0, ecs es)], .int .i64 (errG es cyc cls t long), [], 1⟩ := by
  have hS : En.smallH 1 [(0, ecs es)] = true := by simp [En.smallH, small_avL (ecs_av es)]
  unfold errG argG
  have key : ∀ p p1 p2 p3 p4 p5 p6, chkG es cyc = p → decide (cls < 0) = p1 → decide (cls ≥ 8) = p2 → decide (t < -1099511627776) = p3 → decide (t > 1099511627776) = p4 → decide (long < 0) = p5 → decide (long > 1099511627776) = p6 →
      Memo.Ok Try.prog ⟨42, 1, [gv es.length c cyc, .int .i64 cls, .int .i64 t, .int .i64 long], [(0, ecs es)], .int .i64 (bif p then (bif p1 || (p2 || (p3 || (p4 || (p5 || p6)))) then 2 else 0) else 370), [], 1⟩ := by
    intro p p1 p2 p3 p4 p5 p6 h h1 h2 h3 h4 h5 h6
    have mc := gcheck_m (c := c) hn h 2
    cases p
    · exact memo_pure (hs := [(4, .frz), (11, .call _)]) (ch := []) 2 (evk 50) special ⟨trivial, mc, trivial⟩ trivial (by kernel_rfl) hS (by kernel_rfl)
    · cases p1 <;> cases p2 <;> cases p3 <;> cases p4 <;> cases p5 <;> cases p6 <;>
        exact memo_pure (hs := [(4, .frz), (11, .call _), (16, .val (.bool (decide (cls < 0))) (.bool _)), (19, .val (.bool (decide (cls ≥ 8))) (.bool _)), (23, .val (.bool (decide (t < -1099511627776))) (.bool _)), (27, .val (.bool (decide (t > 1099511627776))) (.bool _)), (31, .val (.bool (decide (long < 0))) (.bool _)), (35, .val (.bool (decide (long > 1099511627776))) (.bool _))]) (ch := []) 2 (evk 50) special
          ⟨trivial, mc, congrArg Value.bool h1, congrArg Value.bool h2, congrArg Value.bool h3, congrArg Value.bool h4, congrArg Value.bool h5, congrArg Value.bool h6, trivial⟩ trivial (by kernel_rfl) hS (by kernel_rfl)
  exact key _ _ _ _ _ _ _ rfl rfl rfl rfl rfl rfl rfl
theorem gargs_m (hn : es.length ≤ 1000) {cls t long e : Int} (h : errG es cyc cls t long = e) (nx : Nat) : Memo.Ok Try.prog ⟨42, nx, [gv es.length c cyc, .int .i64 cls, .int .i64 t, .int .i64 long], [(0, ecs es)], .int .i64 e, [], nx⟩ :=
  memo_blk (h ▸ gargs_0 hn cls t long) (ecs_av es) 0 nx (by kernel_rfl) rfl rfl
/-- Whether a class fits, where the list is valid. -/
def fitsG (es : List Ent) (cyc cls t long : Int) : Bool := !argG cls t long && decide (openN es cls t cyc ≥ long)
def fitsV (es : List Ent) (cyc cls t long : Int) : Value := .tuple #[.bool (fitsG es cyc cls t long), .int .i64 (bif argG cls t long then 2 else 0)]
theorem gfits_0 (hG : Good es cyc) (hk : chkG es cyc = true) (cls t long : Int) : Memo.Ok Try.prog ⟨22, 1, [gv es.length c cyc, .int .i64 cls, .int .i64 t, .int .i64 long], [(0, ecs es)], fitsV es cyc cls t long, [], 1⟩ := by
  have hS : En.smallH 1 [(0, ecs es)] = true := by simp [En.smallH, small_avL (ecs_av es)]
  have h128 := hG.n128
  unfold fitsV fitsG
  cases ha : argG cls t long with
  | true =>
    have ma := gargs_m (c := c) (by omega) (show errG es cyc cls t long = 2 by unfold errG; rw [hk, ha]; rfl) 2
    exact memo_pure (hs := [(4, .frz), (15, .call _)]) (ch := []) 2 (evk 50) special ⟨trivial, ma, trivial⟩ trivial (by kernel_rfl) hS (by kernel_rfl)
  | false =>
    have ma := gargs_m (c := c) (by omega) (show errG es cyc cls t long = 0 by unfold errG; rw [hk, ha]; rfl) 2
    have hcls : 0 ≤ cls := by
      simp only [argG, Bool.or_eq_false_iff, decide_eq_false_iff_not] at ha
      omega
    have mo := open_m (c := c) hcls hG t rfl 2
    exact memo_pure (hs := [(4, .frz), (15, .call _), (22, .call _)]) (ch := []) 2 (evk 50) special ⟨trivial, ma, mo, trivial⟩ trivial (by kernel_rfl) hS (by kernel_rfl)
end
end Go.Proofs.Ytfpbgiaiifcnlaa.choose
/- Contracts: choose (layer 37): CheckLine, CheckHeads, check. -/
namespace Go.Proofs.Ytfpbgiaiifcnlaa.choose
open Go Go.En
set_option linter.unusedVariables false

abbrev pcs (l : List Pt) : List Value := cellsOfL Pt.cells l
theorem pcs_av (l : List Pt) : avL (pcs l) = true := avL_cellsOfL (fun _ => rfl) l
theorem u27 : Try.prog.underlying 41 = some (.slice 33) := by kernel_rfl
theorem z57 : szIs Try.prog 33 7 true = true := by kernel_rfl
theorem z4 : szIs Try.prog 4 1 false = true := by kernel_rfl
theorem ix27 {b n c i : Nat} (h : i < n) : doIndexAddr Try.prog 41 (.slice (some ⟨b, 0, none⟩) n c) (.int .i64 i) = some (.pointer (some ⟨b, 0 + i * 7, none⟩)) := Sl.ix' (.inr rfl) u27 z57 h
theorem ld57 {b i : Nat} {hs : List Pt} {x : Pt} {ro : Bool} (h : hs[i]? = some x) : doLoad Try.prog [(b, .cells (pcs hs) ro)] 33 (.pointer (some ⟨b, 0 + i * 7, none⟩)) = some x.v := ldN z57 rfl (cellsOfL_get (f := Pt.cells) (s := 7) (fun _ => rfl) h)
theorem ldL {b i : Nat} {hs : List Pt} {x : Pt} {ro : Bool} (h : hs[i]? = some x) : doLoad Try.prog [(b, .cells (pcs hs) ro)] 3 (.pointer (some ⟨b, 0 + i * 7 + 5, none⟩)) = some (.int .i64 x.left) := ld1 z3 (cellsOfL_get (f := Pt.cells) (s := 7) (fun _ => rfl) h 5 _ rfl)
def zp : Pt := ⟨⟨0, 0, 0, 0, 0⟩, 0, false⟩
def lc (n c : Nat) (cyc per sh : Int) : List Value := [esl n c, .int .i64 cyc, .int .i64 per, .int .i64 sh]
def lv (n c : Nat) (cyc per sh : Int) : Value := .agg ⟨lc n c cyc per sh⟩
def lv0 (cyc per sh : Int) : Value := .agg #[.slice none 0 0, .int .i64 cyc, .int .i64 per, .int .i64 sh]
def hv (b n c : Nat) : Value := .slice (some ⟨b, 0, none⟩) n c
def lineS (p : Bool) (per sh : Int) : Bool := p && !(decide (per < 1) || (decide (per > 1000) || (decide (sh < -1000) || decide (sh > 1000))))
theorem line_0 {es : List Ent} {c : Nat} {cyc per sh : Int} (hn : es.length ≤ 1000) : Memo.Ok Try.prog ⟨25, 1, [lv es.length c cyc per sh], [(0, ecs es)], .int .i64 (bif lineS (chkG es cyc) per sh then 0 else 471), [], 1⟩ := by
  have hS : En.smallH 1 [(0, ecs es)] = true := by simp [En.smallH, small_avL (ecs_av es)]
  unfold lineS
  have key : ∀ p p1 p2 p3 p4, chkG es cyc = p → decide (per < 1) = p1 → decide (per > 1000) = p2 → decide (sh < -1000) = p3 → decide (sh > 1000) = p4 →
      Memo.Ok Try.prog ⟨25, 1, [lv es.length c cyc per sh], [(0, ecs es)], .int .i64 (bif p && !(p1 || (p2 || (p3 || p4))) then 0 else 471), [], 1⟩ := by
    intro p p1 p2 p3 p4 h h1 h2 h3 h4
    have mc := gcheck_m (c := c) hn h 2
    cases p
    · exact memo_pure (hs := [(1, .frz), (5, .call _)]) (ch := []) 2 (evk 50) special ⟨trivial, mc, trivial⟩ trivial (by kernel_rfl) hS (by kernel_rfl)
    · cases p1 <;> cases p2 <;> cases p3 <;> cases p4 <;>
        exact memo_pure (hs := [(1, .frz), (5, .call _), (10, .val (.bool (decide (per < 1))) (.bool _)), (15, .val (.bool (decide (per > 1000))) (.bool _)), (20, .val (.bool (decide (sh < -1000))) (.bool _)), (25, .val (.bool (decide (sh > 1000))) (.bool _))]) (ch := []) 2 (evk 50) special
          ⟨trivial, mc, congrArg Value.bool h1, congrArg Value.bool h2, congrArg Value.bool h3, congrArg Value.bool h4, trivial⟩ trivial (by kernel_rfl) hS (by kernel_rfl)
  exact key _ _ _ _ _ rfl rfl rfl rfl rfl
theorem line_m {es : List Ent} {c : Nat} {cyc per sh : Int} (hn : es.length ≤ 1000) {p : Bool} (h : lineS (chkG es cyc) per sh = p) (nx : Nat) : Memo.Ok Try.prog ⟨25, nx, [lv es.length c cyc per sh], [(0, ecs es)], .int .i64 (bif p then 0 else 471), [], nx⟩ :=
  memo_blk (h ▸ line_0 hn) (ecs_av es) 0 nx (by kernel_rfl) rfl rfl
theorem line_nil (cyc per sh : Int) : Memo.Ok Try.prog ⟨25, 0, [lv0 cyc per sh], [], .int .i64 471, [], 0⟩ := by
  have mc := memo_any (gcheck_nil cyc) 1 (by kernel_rfl) rfl rfl
  exact memo_pure (hs := [(5, .call _)]) (ch := []) 1 (evk 50) special ⟨mc, trivial⟩ trivial (by kernel_rfl) rfl (by kernel_rfl)

/-! ### CheckHeads -/
theorem pt_at {hs : List Pt} {i : Nat} (h : i < hs.length) : hs[i]? = some (hs.getD i zp) := by
  rw [List.getD_eq_getElem?_getD, List.getElem?_eq_getElem h]; rfl
def T15 (n c : Nat) (r i : Int) : List Value := [J, J, J, .int .i64 r] ++ List.replicate 5 J ++ [hv 0 n c, .int .i64 n, .int .i64 i] ++ List.replicate 24 J
def TR15 (r : Int) : List Value := [J, J, J, .int .i64 r] ++ List.replicate 32 J
def TE15 : List Value := [J, J, .int .i64 470] ++ List.replicate 33 J
def H1 (cs : List Value) : Hp := [(0, .cells cs true)]
theorem H1_below {cs : List Value} (h : avL cs = true) {n : Nat} (hn : 1 ≤ n) : hpBelow n (H1 cs) = true := by
  have a0 : tidyB n (.cells cs true) = true := small_avL h
  simp only [H1, hpBelow, a0]
  simp; omega
def hbad (p : Pt) (i : Nat) : Bool := !partC p || (p.it.cls != (i : Int))
def Q15 (hs : List Pt) (n c : Nat) (i : Int) : Option Int → Res
  | some r => ⟨.normal, T15 n c r (W (i + 1)), [], H1 (pcs hs), 3⟩
  | none => ⟨.ret, TE15, [], H1 (pcs hs), 3⟩
def hstep (p : Pt) (i : Nat) (r : Int) : Option Int := bif eqPt p zp then some r else bif hbad p i then none else some (bif p.rest then W (r + 1) else r)
theorem h_go {hs : List Pt} {n c i : Nat} {x : Pt} (hi : hs[i]? = some x) (hlt : i < n) (r : Int) :
    CodeOk Try.prog none (lp Try.prog 84 5) (T15 n c r i) [] (H1 (pcs hs)) 3 (Q15 hs n c i (hstep x i r)) := by
  have hd : decide ((i : Int) < n) = true := decide_eq_true (by omega)
  have l1 := ld57 (b := 0) (ro := true) hi
  unfold hstep hbad
  have key : ∀ q1 q2 q3 q4, eqPt x zp = q1 → partC x = q2 → (x.it.cls != (i : Int)) = q3 → x.rest = q4 → CodeOk Try.prog none (lp Try.prog 84 5) (T15 n c r i) [] (H1 (pcs hs)) 3 (Q15 hs n c i (bif q1 then some r else bif !q2 || q3 then none else some (bif q4 then W (r + 1) else r))) := by
    intro q1 q2 q3 q4 h1 h2 h3 h4
    have e1 := fun xo yo => h1 ▸ (eql_pt x zp xo yo).1
    have m2 := checkPart_m x h2 4
    obtain ⟨⟨a, b, cl, d, e⟩, l, rr⟩ := x
    simp only at h3 h4
    subst h4
    cases q1
    · cases q2
      · exact code_at (hs := [(12, .val (.bool (decide ((i : Int) < n))) (.bool true)), (14, .ix 41 (hv 0 n c) (.int .i64 i) _), (15, .ld 33 _ 0 (pcs hs) true _), (18, .bin .eql 33 _ _ _), (20, .call _)]) (ch := []) (evk 50) special
          ⟨congrArg Value.bool hd, ix27 hlt, ⟨l1, _, rfl⟩, e1, m2, trivial⟩ trivial (by kernel_rfl) (H1_below (pcs_av hs) (by omega)) (H1_below (pcs_av hs) (by omega)) (by kernel_rfl)
      · cases q3
        · cases rr <;> exact code_at (hs := [(12, .val (.bool (decide ((i : Int) < n))) (.bool true)), (14, .ix 41 (hv 0 n c) (.int .i64 i) _), (15, .ld 33 _ 0 (pcs hs) true _), (18, .bin .eql 33 _ _ _), (20, .call _), (27, .val (.bool (cl != (i : Int))) (.bool _))]) (ch := []) (evk 50) special
            ⟨congrArg Value.bool hd, ix27 hlt, ⟨l1, _, rfl⟩, e1, m2, congrArg Value.bool h3, trivial⟩ trivial (by kernel_rfl) (H1_below (pcs_av hs) (by omega)) (H1_below (pcs_av hs) (by omega)) (by kernel_rfl)
        · exact code_at (hs := [(12, .val (.bool (decide ((i : Int) < n))) (.bool true)), (14, .ix 41 (hv 0 n c) (.int .i64 i) _), (15, .ld 33 _ 0 (pcs hs) true _), (18, .bin .eql 33 _ _ _), (20, .call _), (27, .val (.bool (cl != (i : Int))) (.bool _))]) (ch := []) (evk 50) special
            ⟨congrArg Value.bool hd, ix27 hlt, ⟨l1, _, rfl⟩, e1, m2, congrArg Value.bool h3, trivial⟩ trivial (by kernel_rfl) (H1_below (pcs_av hs) (by omega)) (H1_below (pcs_av hs) (by omega)) (by kernel_rfl)
    · exact code_at (hs := [(12, .val (.bool (decide ((i : Int) < n))) (.bool true)), (14, .ix 41 (hv 0 n c) (.int .i64 i) _), (15, .ld 33 _ 0 (pcs hs) true _), (18, .bin .eql 33 _ _ _)]) (ch := []) (evk 50) special
          ⟨congrArg Value.bool hd, ix27 hlt, ⟨l1, _, rfl⟩, e1, trivial⟩ trivial (by kernel_rfl) (H1_below (pcs_av hs) (by omega)) (H1_below (pcs_av hs) (by omega)) (by kernel_rfl)
  exact key _ _ _ _ rfl rfl rfl rfl
theorem h_out {hs : List Pt} {n c : Nat} {r : Int} : CodeOk Try.prog none (lp Try.prog 84 5) (T15 n c r n) [] (H1 (pcs hs)) 3 ⟨.exit 0, TR15 r, [], H1 (pcs hs), 3⟩ := by
  have hd : decide ((n : Int) < n) = false := decide_eq_false (by omega)
  exact code_at (hs := [(12, .val (.bool (decide ((n : Int) < n))) (.bool false))]) (ch := []) (evk 50) special ⟨congrArg Value.bool hd, trivial⟩ trivial (by kernel_rfl) (H1_below (pcs_av hs) (by omega)) (H1_below (pcs_av hs) (by omega)) (by kernel_rfl)
def headsGo : List Pt → Nat → Int → Option Int
  | [], _, r => some r
  | p :: l, i, r => match hstep p i r with
    | none => none
    | some r' => headsGo l (i + 1) r'
def F15 (hs : List Pt) : Option Int → Res
  | some r => ⟨.exit 0, TR15 r, [], H1 (pcs hs), 3⟩
  | none => ⟨.ret, TE15, [], H1 (pcs hs), 3⟩
theorem h_loop {hs : List Pt} {c : Nat} (h1000 : hs.length ≤ 1000) : ∀ (k i : Nat) (r : Int), i + k = hs.length → LoopOk Try.prog none (lp Try.prog 84 5) (T15 hs.length c r i) [] (H1 (pcs hs)) 3 (F15 hs (headsGo (hs.drop i) i r))
  | 0, i, r, h => by
    have : i = hs.length := by omega
    subst this
    rw [List.drop_length]
    exact loopOk_out h_out (by show Exit.exit 0 ≠ Exit.normal; simp)
  | k + 1, i, r, h => by
    have hlt : i < hs.length := by omega
    have h1 := h_go (c := c) (List.getElem?_eq_getElem hlt) hlt r
    rw [List.drop_eq_getElem_cons hlt]
    simp only [headsGo]
    cases hq : hstep hs[i] i r with
    | none => rw [hq] at h1; exact loopOk_out h1 (by show Exit.ret ≠ Exit.normal; simp)
    | some r' =>
      rw [hq] at h1
      simp only [Q15] at h1
      rw [show (i : Int) + 1 = ((i + 1 : Nat) : Int) by push_cast; rfl, show W ((i + 1 : Nat) : Int) = ((i + 1 : Nat) : Int) from wrap_nat (by omega)] at h1
      exact loop_step h1 (h_loop h1000 k (i + 1) _ (by omega))
termination_by k => k
def fewR : Option Int → Bool
  | none => false
  | some r => !decide (r > 1)
def headsS (hs : List Pt) : Bool := !((hs.length : Int) != 8) && fewR (headsGo hs 0 0)
theorem heads_0 {hs : List Pt} {c : Nat} (h1000 : hs.length ≤ 1000) : Memo.Ok Try.prog ⟨84, 1, [hv 0 hs.length c], [(0, pcs hs)], .int .i64 (bif headsS hs then 0 else 470), [], 1⟩ := by
  have hS : En.smallH 1 [(0, pcs hs)] = true := by simp [En.smallH, small_avL (pcs_av hs)]
  have hlo := h_loop (c := c) h1000 hs.length 0 0 (by omega)
  rw [List.drop_zero] at hlo
  unfold headsS
  have key : ∀ p g, ((hs.length : Int) != 8) = p → headsGo hs 0 0 = g → Memo.Ok Try.prog ⟨84, 1, [hv 0 hs.length c], [(0, pcs hs)], .int .i64 (bif !p && fewR g then 0 else 470), [], 1⟩ := by
    intro p g hp hg
    rw [hg] at hlo
    cases p
    · cases g with
      | none => exact memo_pure (hs := [(8, .val (.bool ((hs.length : Int) != 8)) (.bool false))]) (ch := [⟨5, none, .loop (lp Try.prog 84 5), T15 hs.length c 0 0, [], H1 (pcs hs), 3, _, true⟩]) 3 (evk 50) special ⟨congrArg Value.bool hp, trivial⟩ ⟨codeOk_loop hlo, trivial⟩ (by kernel_rfl) hS (by kernel_rfl)
      | some r =>
        have key2 : ∀ q, decide (r > 1) = q → Memo.Ok Try.prog ⟨84, 1, [hv 0 hs.length c], [(0, pcs hs)], .int .i64 (bif !false && !q then 0 else 470), [], 1⟩ := by
          intro q hq
          cases q <;> exact memo_pure (hs := [(8, .val (.bool ((hs.length : Int) != 8)) (.bool false)), (35, .val (.bool (decide (r > 1))) (.bool _))]) (ch := [⟨5, none, .loop (lp Try.prog 84 5), T15 hs.length c 0 0, [], H1 (pcs hs), 3, _, true⟩]) 3 (evk 50) special ⟨congrArg Value.bool hp, congrArg Value.bool hq, trivial⟩ ⟨codeOk_loop hlo, trivial⟩ (by kernel_rfl) hS (by kernel_rfl)
        exact key2 _ rfl
    · exact memo_pure (hs := [(8, .val (.bool ((hs.length : Int) != 8)) (.bool true))]) (ch := []) 2 (evk 50) special ⟨congrArg Value.bool hp, trivial⟩ trivial (by kernel_rfl) hS (by kernel_rfl)
  exact key _ _ rfl rfl
theorem heads_m {hs : List Pt} {c : Nat} (h1000 : hs.length ≤ 1000) {p : Bool} (h : headsS hs = p) (b nx : Nat) : Memo.Ok Try.prog ⟨84, nx, [hv b hs.length c], [(b, pcs hs)], .int .i64 (bif p then 0 else 470), [], nx⟩ :=
  memo_blk (h ▸ heads_0 h1000) (pcs_av hs) b nx (by kernel_rfl) rfl rfl
end Go.Proofs.Ytfpbgiaiifcnlaa.choose
/- Contracts: choose (layer 37): check, full, free, fits. -/
namespace Go.Proofs.Ytfpbgiaiifcnlaa.choose
open Go Go.En
set_option linter.unusedVariables false

/-- A line and heads. -/
structure Cx where
  es : List Ent
  c : Nat
  cyc : Int
  per : Int
  sh : Int
  hs : List Pt
  k : Nat
  hE : es.length ≤ 1000
  hH : hs.length ≤ 1000
namespace Cx
variable (X : Cx)
def lc : List Value := choose.lc X.es.length X.c X.cyc X.per X.sh
def lv : Value := .agg ⟨X.lc⟩
def gv : Value := choose.gv X.es.length X.c X.cyc
def hv (b : Nat) : Value := choose.hv b X.hs.length X.k
def vc (b : Nat) : List Value := X.lc ++ [X.hv b]
def vv (b : Nat) : Value := .agg ⟨X.vc b⟩
def V (b : Nat) : List (Nat × List Value) := [(0, ecs X.es), (b, pcs X.hs)]
def at_ (i : Nat) : Pt := X.hs.getD i zp
theorem smallH (n b : Nat) : En.smallH n (X.V b) = true := by simp [V, En.smallH, small_avL (ecs_av _), small_avL (pcs_av _)]
theorem mv {f : FuncId} {args args' : List Value} {v : Value} (h : Memo.Ok Try.prog ⟨f, 2, args, X.V 1, v, [], 2⟩) (b nx : Nat) (hc : (En.smallL (En.small 2 5) args && En.small 2 5 v) = true)
    (h1 : args.map (renV (shift (ρ1 (b + 1)) 2 nx) 5) = args') (h2 : renV (shift (ρ1 (b + 1)) 2 nx) 5 v = v) : Memo.Ok Try.prog ⟨f, nx, args', X.V (b + 1), v, [], nx⟩ := by
  simp only [Bool.and_eq_true] at hc
  have hb : below 2 (X.V 1) = true := by kernel_rfl
  have := memo_ren h (ρ1 (b + 1)) nx (X.V (b + 1)) (by simp only [hc.1, hc.2, hb, inNew, Bool.and_self]) (X.smallH 2 1) rfl (fun x cs hx => by
    by_cases h0 : 0 = x
    · subst h0
      simp [V, roHp, Hp.get, ρ1] at hx ⊢
      subst hx
      exact (renV_avL (ecs_av X.es)).symm
    · by_cases h1 : 1 = x
      · subst h1
        simp [V, roHp, Hp.get, ρ1] at hx ⊢
        subst hx
        exact (renV_avL (pcs_av X.hs)).symm
      · simp [V, roHp, Hp.get, h0, h1] at hx)
  simpa [h1, h2, renH] using this
end Cx
def lateS (t : Int) : Bool := decide (t < 0) || decide (t > 549755813888)
def lineX (X : Cx) : Bool := lineS (chkG X.es X.cyc) X.per X.sh
def errC (X : Cx) (t : Int) : Int := bif lineX X then (bif headsS X.hs then (bif lateS t then 2 else 0) else 470) else 471
theorem check_0 (X : Cx) (t : Int) : Memo.Ok Try.prog ⟨66, 2, [X.lv, X.hv 1, .int .i64 t], X.V 1, .int .i64 (errC X t), [], 2⟩ := by
  unfold errC lateS
  have key : ∀ p1 p2 p3 p4, lineX X = p1 → headsS X.hs = p2 → decide (t < 0) = p3 → decide (t > 549755813888) = p4 → Memo.Ok Try.prog ⟨66, 2, [X.lv, X.hv 1, .int .i64 t], X.V 1, .int .i64 (bif p1 then (bif p2 then (bif p3 || p4 then 2 else 0) else 470) else 471), [], 2⟩ := by
    intro p1 p2 p3 p4 h1 h2 h3 h4
    have m1 := line_m (c := X.c) X.hE h1 3
    have m2 := heads_m (c := X.k) X.hH h2 1 3
    cases p1
    · exact memo_pure (hs := [(3, .frz), (10, .call _)]) (ch := []) 3 (evk 50) special ⟨trivial, m1, trivial⟩ trivial (by kernel_rfl) (X.smallH 2 1) (by kernel_rfl)
    · cases p2
      · exact memo_pure (hs := [(3, .frz), (10, .call _), (15, .call _)]) (ch := []) 3 (evk 50) special ⟨trivial, m1, m2, trivial⟩ trivial (by kernel_rfl) (X.smallH 2 1) (by kernel_rfl)
      · cases p3 <;> cases p4 <;>
          exact memo_pure (hs := [(3, .frz), (10, .call _), (15, .call _), (20, .val (.bool (decide (t < 0))) (.bool _)), (23, .val (.bool (decide (t > 549755813888))) (.bool _))]) (ch := []) 3 (evk 50) special ⟨trivial, m1, m2, congrArg Value.bool h3, congrArg Value.bool h4, trivial⟩ trivial (by kernel_rfl) (X.smallH 2 1) (by kernel_rfl)
  exact key _ _ _ _ rfl rfl rfl rfl
theorem check_m (X : Cx) (t : Int) {e : Int} (h : errC X t = e) (b nx : Nat) : Memo.Ok Try.prog ⟨66, nx, [X.lv, X.hv (b + 1), .int .i64 t], X.V (b + 1), .int .i64 e, [], nx⟩ :=
  X.mv (h ▸ check_0 X t) b nx (by kernel_rfl) rfl rfl
/-! ### full, free, fits -/
def fullS (X : Cx) (i : Nat) : Bool := !eqPt (X.at_ i) zp
theorem full_0 (X : Cx) {i : Nat} (hi : i < X.hs.length) : Memo.Ok Try.prog ⟨78, 2, [X.vv 1, .int .i64 i], X.V 1, .bool (fullS X i), [], 2⟩ := by
  have l1 := ld57 (b := 1) (ro := true) (pt_at hi)
  have e1 := fun xo yo => (eql_pt (X.at_ i) zp xo yo).2
  unfold fullS
  generalize eqPt (X.at_ i) zp = q at e1 ⊢
  exact memo_pure (hs := [(2, .frz), (8, .ix 41 (X.hv 1) (.int .i64 i) _), (9, .ld 33 _ 1 (pcs X.hs) true _), (11, .bin .neq 33 _ _ _)]) (ch := []) 3 (evk 50) special ⟨trivial, ix27 hi, ⟨l1, _, rfl⟩, e1, trivial⟩ trivial (by kernel_rfl) (X.smallH 2 1) (by kernel_rfl)
def T54 (X : Cx) (i k : Int) : List Value := [J, .int .i64 i, J, J, .bool false] ++ List.replicate 5 J ++ [X.hv 1, .int .i64 X.hs.length, .int .i64 k] ++ List.replicate 12 J
def TJ54 : List Value := [J, J, J, J, .bool false] ++ List.replicate 20 J
def H54 (X : Cx) : Hp := [(0, .cells (ecs X.es) true), (1, .cells (pcs X.hs) true)]
theorem H54_below (X : Cx) {n : Nat} (hn : 2 ≤ n) : hpBelow n (H54 X) = true := by
  have a0 : tidyB n (.cells (ecs X.es) true) = true := small_avL (ecs_av _)
  have a1 : tidyB n (.cells (pcs X.hs) true) = true := small_avL (pcs_av _)
  simp only [H54, hpBelow, a0, a1]
  simp; omega
def heldP (p : Pt) (i k : Nat) : Bool := ((k : Int) != (i : Int)) && p.rest
theorem fr_go (X : Cx) {i k : Nat} (hk : k < X.hs.length) {q : Bool} (hq : heldP (X.at_ k) i k = q) :
    CodeOk Try.prog none (lp Try.prog 85 4) (T54 X i k) [] (H54 X) 4 (bif q then ⟨.ret, TJ54, [], H54 X, 4⟩ else ⟨.normal, T54 X i (W (k + 1)), [], H54 X, 4⟩) := by
  have hd : decide ((k : Int) < X.hs.length) = true := decide_eq_true (by omega)
  have l1 := ld57 (b := 1) (ro := true) (pt_at hk)
  have key : ∀ q1 p, ((k : Int) != (i : Int)) = q1 → X.hs.getD k zp = p → (q1 && p.rest) = q → CodeOk Try.prog none (lp Try.prog 85 4) (T54 X i k) [] (H54 X) 4 (bif q then ⟨.ret, TJ54, [], H54 X, 4⟩ else ⟨.normal, T54 X i (W (k + 1)), [], H54 X, 4⟩) := by
    intro q1 p h1 hp h
    rw [hp] at l1
    obtain ⟨⟨a, b, c, d, e⟩, l, r⟩ := p
    simp only at h
    subst h
    cases q1 <;> cases r <;>
      exact code_at (hs := [(13, .val (.bool (decide ((k : Int) < X.hs.length))) (.bool true)), (15, .ix 41 (X.hv 1) (.int .i64 k) _), (16, .ld 33 _ 1 (pcs X.hs) true _), (19, .val (.bool ((k : Int) != (i : Int))) (.bool _))]) (ch := []) (evk 50) special
        ⟨congrArg Value.bool hd, ix27 hk, ⟨l1, _, rfl⟩, congrArg Value.bool h1, trivial⟩ trivial (by kernel_rfl) (H54_below X (by omega)) (H54_below X (by omega)) (by kernel_rfl)
  exact key _ _ rfl rfl hq
theorem fr_out (X : Cx) {i : Int} : CodeOk Try.prog none (lp Try.prog 85 4) (T54 X i X.hs.length) [] (H54 X) 4 ⟨.exit 0, TJ54, [], H54 X, 4⟩ := by
  have hd : decide ((X.hs.length : Int) < X.hs.length) = false := decide_eq_false (by omega)
  exact code_at (hs := [(13, .val (.bool (decide ((X.hs.length : Int) < X.hs.length))) (.bool false))]) (ch := []) (evk 50) special ⟨congrArg Value.bool hd, trivial⟩ trivial (by kernel_rfl) (H54_below X (by omega)) (H54_below X (by omega)) (by kernel_rfl)
def heldGo (X : Cx) (i : Nat) : Nat → Nat → Bool
  | 0, _ => false
  | n + 1, k => heldP (X.at_ k) i k || heldGo X i n (k + 1)
def F54 (X : Cx) : Bool → Res
  | true => ⟨.ret, TJ54, [], H54 X, 4⟩
  | false => ⟨.exit 0, TJ54, [], H54 X, 4⟩
theorem fr_loop (X : Cx) {i : Nat} : ∀ (n k : Nat), k + n = X.hs.length → LoopOk Try.prog none (lp Try.prog 85 4) (T54 X i k) [] (H54 X) 4 (F54 X (heldGo X i n k))
  | 0, k, h => by
    have : k = X.hs.length := by omega
    subst this
    exact loopOk_out (fr_out X) (by show Exit.exit 0 ≠ Exit.normal; simp)
  | n + 1, k, h => by
    have hH := X.hH
    simp only [heldGo]
    cases hq : heldP (X.at_ k) i k with
    | true => exact loopOk_out (fr_go X (by omega) hq) (by show Exit.ret ≠ Exit.normal; simp)
    | false =>
      have h1 := fr_go X (i := i) (by omega) hq
      simp only [cond_false] at h1
      rw [show (k : Int) + 1 = ((k + 1 : Nat) : Int) by push_cast; rfl, show W ((k + 1 : Nat) : Int) = ((k + 1 : Nat) : Int) from wrap_nat (by omega)] at h1
      exact loop_step h1 (fr_loop X n (k + 1) (by omega))
termination_by n => n
def heldS (X : Cx) (i : Nat) : Bool := heldGo X i X.hs.length 0
def freeS (X : Cx) (i : Nat) : Bool := decide ((i : Int) ≥ 6) || !heldS X i
theorem free_0 (X : Cx) (i : Nat) : Memo.Ok Try.prog ⟨85, 2, [X.vv 1, .int .i64 i], X.V 1, .bool (freeS X i), [], 2⟩ := by
  have hlo := fr_loop X (i := i) X.hs.length 0 (by omega)
  unfold freeS
  have key : ∀ p g, decide ((i : Int) ≥ 6) = p → heldS X i = g → Memo.Ok Try.prog ⟨85, 2, [X.vv 1, .int .i64 i], X.V 1, .bool (p || !g), [], 2⟩ := by
    intro p g hp hg
    unfold heldS at hg
    rw [hg] at hlo
    cases p
    · cases g <;>
        exact memo_pure (hs := [(2, .frz), (8, .val (.bool (decide ((i : Int) ≥ 6))) (.bool false))]) (ch := [⟨4, none, .loop (lp Try.prog 85 4), T54 X i 0, [], H54 X, 4, _, false⟩]) 4 (evk 50) special ⟨trivial, congrArg Value.bool hp, trivial⟩ ⟨codeOk_loop hlo, trivial⟩ (by kernel_rfl) (X.smallH 2 1) (by kernel_rfl)
    · cases g <;> exact memo_pure (hs := [(2, .frz), (8, .val (.bool (decide ((i : Int) ≥ 6))) (.bool true))]) (ch := []) 3 (evk 50) special ⟨trivial, congrArg Value.bool hp, trivial⟩ trivial (by kernel_rfl) (X.smallH 2 1) (by kernel_rfl)
  exact key _ _ rfl rfl
def fitsX (X : Cx) (i : Nat) (t : Int) : Bool := fitsG X.es X.cyc i (W (t + X.sh)) (W ((X.at_ i).left * X.per))
theorem gfits_m {es : List Ent} {c : Nat} {cyc : Int} (hG : Good es cyc) (hk : chkG es cyc = true) (cls t long : Int) (nx : Nat) : Memo.Ok Try.prog ⟨22, nx, [gv es.length c cyc, .int .i64 cls, .int .i64 t, .int .i64 long], [(0, ecs es)], fitsV es cyc cls t long, [], nx⟩ :=
  memo_blk (gfits_0 hG hk cls t long) (ecs_av es) 0 nx (by kernel_rfl) rfl rfl
theorem fits_0 (X : Cx) (hk : chkG X.es X.cyc = true) {i : Nat} (hi : i < X.hs.length) (t : Int) : Memo.Ok Try.prog ⟨79, 2, [X.vv 1, .int .i64 i, .int .i64 t], X.V 1, .bool (fitsX X i t), [], 2⟩ := by
  have l1 := ldL (b := 1) (ro := true) (pt_at hi)
  have m1 := gfits_m (c := X.c) (good_of hk) hk i (W (t + X.sh)) (W ((X.at_ i).left * X.per)) 3
  unfold fitsV fitsG at m1
  unfold fitsX fitsG
  generalize decide (openN X.es i (W (t + X.sh)) X.cyc ≥ W ((X.at_ i).left * X.per)) = d at m1 ⊢
  generalize argG i (W (t + X.sh)) (W ((X.at_ i).left * X.per)) = a at m1 ⊢
  cases a <;> cases d <;>
    exact memo_pure (hs := [(3, .frz), (22, .ix 41 (X.hv 1) (.int .i64 i) _), (24, .ld 3 _ 1 (pcs X.hs) true _), (29, .call _)]) (ch := []) 3 (evk 50) special ⟨trivial, ix27 hi, ⟨l1, _, rfl⟩, m1, trivial⟩ trivial (by kernel_rfl) (X.smallH 2 1) (by kernel_rfl)
end Go.Proofs.Ytfpbgiaiifcnlaa.choose
/- Contracts: choose (layer 37): may, May. -/
namespace Go.Proofs.Ytfpbgiaiifcnlaa.choose
open Go Go.En
set_option linter.unusedVariables false

theorem full_m (X : Cx) {i : Nat} (hi : i < X.hs.length) {p : Bool} (h : fullS X i = p) (b nx : Nat) : Memo.Ok Try.prog ⟨78, nx, [X.vv (b + 1), .int .i64 i], X.V (b + 1), .bool p, [], nx⟩ :=
  X.mv (h ▸ full_0 X hi) b nx (by kernel_rfl) rfl rfl
theorem free_m (X : Cx) {i : Nat} {p : Bool} (h : freeS X i = p) (b nx : Nat) : Memo.Ok Try.prog ⟨85, nx, [X.vv (b + 1), .int .i64 i], X.V (b + 1), .bool p, [], nx⟩ :=
  X.mv (h ▸ free_0 X i) b nx (by kernel_rfl) rfl rfl
theorem fits_m (X : Cx) (hk : chkG X.es X.cyc = true) {i : Nat} (hi : i < X.hs.length) {t : Int} {p : Bool} (h : fitsX X i t = p) (b nx : Nat) : Memo.Ok Try.prog ⟨79, nx, [X.vv (b + 1), .int .i64 i, .int .i64 t], X.V (b + 1), .bool p, [], nx⟩ :=
  X.mv (h ▸ fits_0 X hk hi t) b nx (by kernel_rfl) rfl rfl
/-! ### may: its three conditions are functions that look at its variables -/
def V35 (X : Cx) (i : Nat) (t : Int) : List (Nat × List Value) := [(4, [.int .i64 t]), (3, [.int .i64 i]), (2, X.vc 1), (0, ecs X.es), (1, pcs X.hs)]
theorem V35_small (X : Cx) (i : Nat) (t : Int) : En.smallH 6 (V35 X i t) = true := by
  have a : En.smallL (En.small 6 5) (X.vc 1) = true := by kernel_rfl
  simp [V35, En.smallH, small_avL (ecs_av _), small_avL (pcs_av _), a]
  exact ⟨rfl, rfl⟩
theorem c1 (X : Cx) {i : Nat} (hi : i < X.hs.length) (t : Int) {p : Bool} (h : fullS X i = p) : Memo.Ok Try.prog ⟨89, 6, [pt 2, pt 3], V35 X i t, .bool p, [], 6⟩ := by
  have m := full_m X hi h 0 6
  exact memo_pure (hs := [(5, .call _)]) (ch := []) 6 (evk 50) special ⟨m, trivial⟩ trivial (by kernel_rfl) (V35_small X i t) (by kernel_rfl)
theorem c2 (X : Cx) {i : Nat} (t : Int) {p : Bool} (h : freeS X i = p) : Memo.Ok Try.prog ⟨90, 6, [pt 2, pt 3], V35 X i t, .bool p, [], 6⟩ := by
  have m := free_m X h 0 6
  exact memo_pure (hs := [(5, .call _)]) (ch := []) 6 (evk 50) special ⟨m, trivial⟩ trivial (by kernel_rfl) (V35_small X i t) (by kernel_rfl)
theorem c3 (X : Cx) (hk : chkG X.es X.cyc = true) {i : Nat} (hi : i < X.hs.length) (t : Int) {p : Bool} (h : fitsX X i t = p) : Memo.Ok Try.prog ⟨91, 6, [pt 2, pt 3, pt 4], V35 X i t, .bool p, [], 6⟩ := by
  have m := fits_m X hk hi h 0 6
  exact memo_pure (hs := [(7, .call _)]) (ch := []) 6 (evk 50) special ⟨m, trivial⟩ trivial (by kernel_rfl) (V35_small X i t) (by kernel_rfl)
def fs3 : Value := .agg #[.func (.func 89) #[] #[pt 2, pt 3], .func (.func 90) #[] #[pt 2, pt 3], .func (.func 91) #[] #[pt 2, pt 3, pt 4]]
def T35 (k : Int) : List Value := [J, J, J, J, J, J, .bool false] ++ List.replicate 7 J ++ [fs3, .int .i64 k] ++ List.replicate 6 J
def TJ35 : List Value := [J, J, J, J, J, J, .bool false] ++ List.replicate 15 J
theorem H35_below (X : Cx) (i : Nat) (t : Int) : hpBelow 6 (roHp (V35 X i t)) = true := roHp_below (by kernel_rfl) (V35_small X i t)
def O35 (X : Cx) (i : Nat) (t : Int) (k : Int) : Bool → Res
  | true => ⟨.normal, T35 k, [], roHp (V35 X i t), 6⟩
  | false => ⟨.ret, TJ35, [], roHp (V35 X i t), 6⟩
section
variable (X : Cx) (hk : chkG X.es X.cyc = true) {i : Nat} (hi : i < X.hs.length) (t : Int)
include hi in
theorem r35_0 {p : Bool} (h : fullS X i = p) : CodeOk Try.prog none (lp Try.prog 71 3) (T35 0) [] (roHp (V35 X i t)) 6 (O35 X i t 1 p) := by
  have m := c1 X hi t h
  cases p <;> exact code_at (hs := [(19, .call _)]) (ch := []) (evk 50) special ⟨m, trivial⟩ trivial (by kernel_rfl) (H35_below X i t) (H35_below X i t) (by kernel_rfl)
theorem r35_1 {p : Bool} (h : freeS X i = p) : CodeOk Try.prog none (lp Try.prog 71 3) (T35 1) [] (roHp (V35 X i t)) 6 (O35 X i t 2 p) := by
  have m := c2 X t h
  cases p <;> exact code_at (hs := [(19, .call _)]) (ch := []) (evk 50) special ⟨m, trivial⟩ trivial (by kernel_rfl) (H35_below X i t) (H35_below X i t) (by kernel_rfl)
include hk hi in
theorem r35_2 {p : Bool} (h : fitsX X i t = p) : CodeOk Try.prog none (lp Try.prog 71 3) (T35 2) [] (roHp (V35 X i t)) 6 (O35 X i t 3 p) := by
  have m := c3 X hk hi t h
  cases p <;> exact code_at (hs := [(19, .call _)]) (ch := []) (evk 50) special ⟨m, trivial⟩ trivial (by kernel_rfl) (H35_below X i t) (H35_below X i t) (by kernel_rfl)
theorem r35_3 : CodeOk Try.prog none (lp Try.prog 71 3) (T35 3) [] (roHp (V35 X i t)) 6 ⟨.exit 0, TJ35, [], roHp (V35 X i t), 6⟩ :=
  code_at (hs := []) (ch := []) (evk 50) special trivial trivial (by kernel_rfl) (H35_below X i t) (H35_below X i t) (by kernel_rfl)
def mayS (X : Cx) (i : Nat) (t : Int) : Bool := fullS X i && (freeS X i && fitsX X i t)
def F35 (X : Cx) (i : Nat) (t : Int) : Bool → Res
  | true => ⟨.exit 0, TJ35, [], roHp (V35 X i t), 6⟩
  | false => ⟨.ret, TJ35, [], roHp (V35 X i t), 6⟩
include hk hi in
theorem l35 : LoopOk Try.prog none (lp Try.prog 71 3) (T35 0) [] (roHp (V35 X i t)) 6 (F35 X i t (mayS X i t)) := by
  unfold mayS
  have ne : Exit.ret ≠ Exit.normal := by simp
  cases h1 : fullS X i with
  | false => exact loopOk_out (r35_0 X hi t h1) ne
  | true =>
    refine loop_step (r35_0 X hi t h1) ?_
    cases h2 : freeS X i with
    | false => exact loopOk_out (r35_1 X t h2) ne
    | true =>
      refine loop_step (r35_1 X t h2) ?_
      cases h3 : fitsX X i t with
      | false => exact loopOk_out (r35_2 X hk hi t h3) ne
      | true => exact loop_step (r35_2 X hk hi t h3) (loopOk_out (r35_3 X t) (by show Exit.exit 0 ≠ Exit.normal; simp))
include hk hi in
theorem may_0 : Memo.Ok Try.prog ⟨71, 2, [X.vv 1, .int .i64 i, .int .i64 t], X.V 1, .bool (mayS X i t), [], 2⟩ := by
  have hlo := l35 X hk hi t
  generalize mayS X i t = g at hlo ⊢
  cases g <;> exact memo_pure (hs := [(3, .frz), (4, .frz), (5, .frz)]) (ch := [⟨3, none, .loop (lp Try.prog 71 3), T35 0, [], roHp (V35 X i t), 6, _, false⟩]) 6 (evk 50) special ⟨trivial, trivial, trivial, trivial⟩ ⟨codeOk_loop hlo, trivial⟩ (by kernel_rfl) (X.smallH 2 1) (by kernel_rfl)
end
theorem may_m (X : Cx) (hk : chkG X.es X.cyc = true) {i : Nat} (hi : i < X.hs.length) {t : Int} {p : Bool} (h : mayS X i t = p) (b nx : Nat) : Memo.Ok Try.prog ⟨71, nx, [X.vv (b + 1), .int .i64 i, .int .i64 t], X.V (b + 1), .bool p, [], nx⟩ :=
  X.mv (h ▸ may_0 X hk hi t) b nx (by kernel_rfl) rfl rfl
/-! ### May -/
theorem lineX_chk {X : Cx} (h : lineX X = true) : chkG X.es X.cyc = true := by
  unfold lineX lineS at h
  simp only [Bool.and_eq_true] at h
  exact h.1
theorem headsS_len {hs : List Pt} (h : headsS hs = true) : hs.length = 8 := by
  unfold headsS at h
  simp only [Bool.and_eq_true, Bool.not_eq_true', bne_eq_false_iff_eq] at h
  omega
theorem errC_ok {X : Cx} {t : Int} (h : errC X t = 0) : chkG X.es X.cyc = true ∧ X.hs.length = 8 ∧ 0 ≤ t ∧ t ≤ 549755813888 := by
  unfold errC at h
  cases h1 : lineX X with
  | false => rw [h1] at h; cases h
  | true =>
    cases h2 : headsS X.hs with
    | false => rw [h1, h2] at h; cases h
    | true =>
      cases h3 : lateS t with
      | true => rw [h1, h2, h3] at h; cases h
      | false =>
        unfold lateS at h3
        simp only [Bool.or_eq_false_iff, decide_eq_false_iff_not] at h3
        exact ⟨lineX_chk h1, headsS_len h2, by omega, by omega⟩
end Go.Proofs.Ytfpbgiaiifcnlaa.choose
/- Contracts: choose (layer 37): classes, first, Start. -/
namespace Go.Proofs.Ytfpbgiaiifcnlaa.choose
open Go Go.En
set_option linter.unusedVariables false

theorem classes_8 (l : Int) : Memo.Ok Try.prog ⟨68, 8, [.int .i64 l], [], .func (.func 87) #[] #[pt 8], [(8, [.int .i64 l])], 9⟩ :=
  memo_new (hs := []) (ch := []) (evk 50) special trivial trivial (by kernel_rfl)
def f35v (X : Cx) : Value := .func (.func 71) #[X.vv 1] #[]
def f37v : Value := .func (.func 73) #[] #[pt 4, pt 3]
def V36 (X : Cx) (t : Int) : List (Nat × List Value) := [(4, [f35v X]), (3, [.int .i64 t]), (0, ecs X.es), (1, pcs X.hs)]
theorem V36_small (X : Cx) (t : Int) {n : Nat} (hn : 2 ≤ n) : En.smallH n (V36 X t) = true := by
  have a : En.small n 5 (f35v X) = true := by
    simp [f35v, Cx.vv, Cx.vc, Cx.lc, lc, esl, Cx.hv, hv, En.small, En.smallL]
    omega
  simp [V36, En.smallH, small_avL (ecs_av _), small_avL (pcs_av _), En.smallL, a]
  rfl
theorem s1_11 (X : Cx) (hk : chkG X.es X.cyc = true) (h8 : X.hs.length = 8) {i : Nat} (hi : i < 8) {t : Int} {p : Bool} (hp : mayS X i t = p) :
    Memo.Ok Try.prog ⟨73, 11, [.int .i64 i, pt 4, pt 3], V36 X t, .tuple #[.int .i64 (bif p then i else 0), .int .i64 (bif p then 0 else 4)], [], 11⟩ := by
  have m := may_m X hk (by omega) hp 0 11
  cases p <;> exact memo_pure (hs := [(9, .call _)]) (ch := []) 11 (evk 50) special ⟨m, trivial⟩ trivial (by kernel_rfl) (V36_small X t (by omega)) (by kernel_rfl)
def T36 : List Value := [.int .i64 0, f37v, undef, pt 5, .int .i64 0, .int .i64 0, pt 6, pt 7, undef, undef, undef, .int .i64 0, .func (.func 87) #[] #[pt 8]] ++ List.replicate 12 undef
def L36 (P : Program) (s : LoopState) (p : Option Code) : Loop := { newLoop T36 (rfP (rf P 72 5)) (rfA (rf P 72 5)) (rfB (rf P 72 5)) 9 with state := s, pending := p }
def optC (g : Option Nat) : Int := match g with | some i => i | none => 0
def H36 (X : Cx) (t : Int) (g : Option Nat) : Hp := [(8, .cells [.int .i64 0] false), (7, .cells [.int .i64 (bif g.isSome then 0 else 4)] false), (6, .cells [.int .i64 (optC g)] false), (5, .cells [f37v] true)] ++ roHp (V36 X t)
def G36 (P : Program) (X : Cx) (t : Int) (g : Option Nat) : Hp := (10, .loop (L36 P (bif g.isSome then .done else .ready) (bif g.isSome then some (.exit 0) else none))) :: (9, .defd) :: H36 X t g
theorem G36_below (X : Cx) (t : Int) (g : Option Nat) : hpBelow 11 (G36 Try.prog X t g) = true := by
  have a0 : hpBelow 11 (roHp (V36 X t)) = true := roHp_below (by kernel_rfl) (V36_small X t (by omega))
  have a4 : tidyB 11 (.loop (L36 Try.prog (bif g.isSome then .done else .ready) (bif g.isSome then some (.exit 0) else none))) = true := by
    show (En.smallL (En.small 11 5) T36.toArray.toList && decide (9 < 11)) = true
    kernel_rfl
  simp only [G36, H36, hpBelow, a4, List.cons_append, List.nil_append, a0]
  rfl
def Y10 : Value := .func (.yield 10) #[] #[]
section
variable (X : Cx) (hk : chkG X.es X.cyc = true) (h8 : X.hs.length = 8) {t : Int}
include hk h8 in
theorem y36 {i : Nat} (hi : i < 8) {q : Bool} (hq : mayS X i t = q) :
    Hint.Ok Try.prog (.any (opAt Try.prog 87 3 2) [Y10, .int .i64 i] (G36 Try.prog X t none) 11 (.bool !q) (G36 Try.prog X t (bif q then some i else none)) 11) := by
  have m := s1_11 X hk h8 hi hq
  cases q <;> exact yield_by (hs := [(17, .call _)]) (ch := []) (cf := .tmp 9) (args := #[.tmp 10]) (ats := #[3]) (l := 10) (evk 50) special ⟨m, trivial⟩ trivial (by kernel_rfl) (by kernel_rfl)
def T58 (c : Int) : List Value := [Y10, pt 8, J, .int .i64 c] ++ List.replicate 9 J
def TJ58 : List Value := [Y10, pt 8] ++ List.replicate 11 J
def Q58 (X : Cx) (t j : Int) (P : Program) : Option Nat → Res
  | none => ⟨.normal, T58 j, [], G36 P X t none, 11⟩
  | some i => ⟨.ret, TJ58, [], G36 P X t (some i), 11⟩
include hk h8 in
theorem e58 {i : Nat} (hi : i < 8) {q : Bool} (hq : mayS X i t = q) :
    CodeOk Try.prog none (lp Try.prog 87 1) (T58 i) [] (G36 Try.prog X t none) 11 (Q58 X t (W (i - 1)) Try.prog (bif q then some i else none)) := by
  have y := y36 X hk h8 (t := t) hi hq
  have hd : decide ((i : Int) ≥ 0) = true := decide_eq_true (by omega)
  cases q <;> exact code_at (hs := [(6, .val (.bool (decide ((i : Int) ≥ 0))) (.bool true)), (11, .any _ _ _ _ _ _ _)]) (ch := []) (evk 50) special ⟨congrArg Value.bool hd, y, trivial⟩ trivial (by kernel_rfl) (G36_below X t _) (G36_below X t _) (by kernel_rfl)
theorem e58_out : CodeOk Try.prog none (lp Try.prog 87 1) (T58 (-1)) [] (G36 Try.prog X t none) 11 ⟨.exit 0, TJ58, [], G36 Try.prog X t none, 11⟩ :=
  code_at (hs := []) (ch := []) (evk 50) special trivial trivial (by kernel_rfl) (G36_below X t _) (G36_below X t _) (by kernel_rfl)
def down (f : Nat → Bool) : Nat → Option Nat
  | 0 => none
  | n + 1 => bif f n then some n else down f n
def F58 (P : Program) (X : Cx) (t : Int) : Option Nat → Res
  | some i => ⟨.ret, TJ58, [], G36 P X t (some i), 11⟩
  | none => ⟨.exit 0, TJ58, [], G36 P X t none, 11⟩
include hk h8 in
theorem l58 : ∀ (n : Nat), n ≤ 8 → LoopOk Try.prog none (lp Try.prog 87 1) (T58 ((n : Int) - 1)) [] (G36 Try.prog X t none) 11 (F58 Try.prog X t (down (fun i => mayS X i t) n))
  | 0, _ => loopOk_out (e58_out X) (by show Exit.exit 0 ≠ Exit.normal; simp)
  | n + 1, hn => by
    have hw : W ((n : Int) - 1) = (n : Int) - 1 := W_id (by omega)
    have h1 := e58 X hk h8 (t := t) (i := n) (by omega) rfl
    rw [show ((n + 1 : Nat) : Int) - 1 = (n : Int) by push_cast; omega]
    simp only [down]
    cases hq : mayS X n t with
    | true => rw [hq] at h1; exact loopOk_out h1 (by show Exit.ret ≠ Exit.normal; simp)
    | false =>
      rw [hq] at h1
      simp only [cond_false, Q58, hw] at h1
      exact loop_step h1 (l58 n (by omega))
include hk h8 in
theorem call58 {g : Option Nat} (hg : down (fun i => mayS X i t) 8 = g) :
    (∃ fn, Try.prog.funcs[87]? = some fn ∧ fn.body.isSome = true) ∧ CallOk Try.prog 87 ([] ++ [Y10] ++ [pt 8]) (G36 Try.prog X t none) 11 (.tuple #[]) (G36 Try.prog X t g) 11 := by
  have hlo := l58 X hk h8 (t := t) 8 (by omega)
  rw [hg] at hlo
  cases g <;>
    exact call_by (hs := []) (ch := [⟨1, none, .loop (lp Try.prog 87 1), T58 7, [], G36 Try.prog X t none, 11, _, true⟩]) (evk 50) special trivial ⟨codeOk_loop hlo, trivial⟩ (by kernel_rfl)
def R36 (X : Cx) (t : Int) (g : Option Nat) : Res := ⟨bif g.isSome then .exit 0 else .normal, T36, [9], (9, .defd) :: H36 X t g, 11⟩
include hk h8 in
theorem range36 {g : Option Nat} (hg : down (fun i => mayS X i t) 8 = g) : CodeOk Try.prog none (rf Try.prog 72 5) T36 [] (H36 X t none) 9 (R36 X t g) := by
  have h := call58 X hk h8 hg
  have hL : (G36 Try.prog X t g).get 10 = some (.loop (L36 Try.prog (bif g.isSome then .done else .ready) (bif g.isSome then some (.exit 0) else none))) := rfl
  cases g <;> exact range_by special (by kernel_rfl) (by kernel_rfl) h hL (by kernel_rfl)
def startV (g : Option Nat) : Value := .tuple #[.int .i64 (optC g), .int .i64 (bif g.isSome then 0 else 4)]
include hk h8 in
theorem first_5 {g : Option Nat} (hg : down (fun i => mayS X i t) 8 = g) : Memo.Ok Try.prog ⟨72, 5, [.int .i64 0, f37v], V36 X t, startV g, [], 5⟩ := by
  have hr := range36 X hk h8 hg
  cases g <;> exact memo_pure (hs := [(3, .frz), (12, .call _)]) (ch := [⟨5, none, rf Try.prog 72 5, T36, [], H36 X t none, 9, _, true⟩]) 11 (evk 50) special ⟨trivial, classes_8 0, trivial⟩ ⟨hr, trivial⟩ (by kernel_rfl) (V36_small X t (by omega)) (by kernel_rfl)
end
/-! ### Start -/
def startS (X : Cx) (t : Int) : Option Nat := down (fun i => mayS X i t) 8
theorem StartE (X : Cx) (t : Int) {e : Int} (he : errC X t = e) (hne : (e != 0) = true) : Memo.Ok Try.prog ⟨58, 2, [X.lv, X.hv 1, .int .i64 t], X.V 1, .tuple #[.int .i64 0, .int .i64 e], [], 2⟩ := by
  have m1 := check_m X t he 0 4
  exact memo_pure (hs := [(3, .frz), (5, .frz), (13, .call _), (15, .val (.bool (e != 0)) (.bool true))]) (ch := []) 4 (evk 50) special ⟨trivial, trivial, m1, congrArg Value.bool hne, trivial⟩ trivial (by kernel_rfl) (X.smallH 2 1) (by kernel_rfl)
theorem StartY (X : Cx) {t : Int} (he : errC X t = 0) {g : Option Nat} (hg : startS X t = g) : Memo.Ok Try.prog ⟨58, 2, [X.lv, X.hv 1, .int .i64 t], X.V 1, startV g, [], 2⟩ := by
  obtain ⟨h1, h2, _, _⟩ := errC_ok he
  have m1 := check_m X t he 0 4
  have m2 := first_5 X h1 h2 hg
  cases g <;> exact memo_pure (hs := [(3, .frz), (5, .frz), (13, .call _), (22, .call _)]) (ch := []) 5 (evk 50) special ⟨trivial, trivial, m1, m2, trivial⟩ trivial (by kernel_rfl) (X.smallH 2 1) (by kernel_rfl)
end Go.Proofs.Ytfpbgiaiifcnlaa.choose
/- Contracts: few; a row's line and heads of any size. -/
namespace Go.Proofs.Ytfpbgiaiifcnlaa.choose
open Go Go.En
set_option linter.unusedVariables false

theorem b57 : ∃ inf z, Try.prog.info? 33 = some inf ∧ inf.size = 7 ∧ inf.bytes = 56 ∧ inf.zero = some z ∧ z.cells.size = 7 := by
  have hi : (Try.prog.info? 33).map (fun i => (i.size, i.bytes, i.zero.map (·.cells.size))) = some (7, 56, some 7) := by kernel_rfl
  cases he : Try.prog.info? 33 with
  | none => rw [he] at hi; cases hi
  | some inf =>
    rw [he] at hi
    simp only [Option.map_some, Option.some.injEq, Prod.mk.injEq] at hi
    obtain ⟨h1, h2, h3⟩ := hi
    cases hz : inf.zero with
    | none => rw [hz] at h3; cases h3
    | some z => rw [hz] at h3; exact ⟨inf, z, rfl, h1, h2, hz, by simpa using h3⟩
theorem pcs_len (l : List Pt) : (pcs l).length = l.length * 7 := cellsOfL_len (f := Pt.cells) (s := 7) (fun _ => rfl) l
theorem src_p {H : Hp} {b e : Nat} {l : List Pt} {ro : Bool} (hb : H.get b = some (.cells (pcs l) ro)) : srcCells H 7 (.slice (some ⟨b, 0, none⟩) l.length e) = some (l.length, pcs l) := by
  by_cases h0 : l.length = 0
  · have : l = [] := List.length_eq_zero_iff.1 h0
    subst this; rfl
  · have hl : 0 + l.length * 7 ≤ (pcs l).length := by rw [pcs_len]; omega
    simp only [srcCells, h0, if_false, hb, hl, if_true, List.drop_zero]
    rw [List.take_of_length_le (by rw [pcs_len]; omega)]
theorem bnd_nat {k : IntKind} {h n : Nat} (hh : h ≤ n) : bnd (.int k h) n = some h := by
  unfold bnd
  simp [hh]
/-- x[:m] -/
theorem slc_hi {t e : TypeId} {b n c m : Nat} {sa : Option Addr} (hu : Try.prog.underlying t = some (.slice e)) (hi : (Try.prog.info? e).isSome = true) (h : Sl b n sa) (hm : m ≤ c) (hc : c < openCap) : doSlice Try.prog t (.slice sa n c) none (some (.int .i64 m)) none = some (.slice sa m c) := by
  obtain ⟨inf, hi⟩ := Option.isSome_iff_exists.1 hi
  rcases h with ⟨rfl, _⟩ | rfl
  · simp [doSlice, hu, hi, bnds, highB, lowB, bnd_nat hm]
  · simp [doSlice, hu, hi, hc, bnds, highB, lowB, bnd_nat hm]
def oc7 : Nat := openCap + 7
theorem app_p {a b e : Nat} {l : List Pt} (h0 : 0 < l.length) (h1000 : l.length ≤ 1000) :
    Hint.Ok Try.prog (.app [41, 41] 41 [.slice (some ⟨a, 0, none⟩) 0 0, .slice (some ⟨b, 0, none⟩) l.length e] [(a, []), (b, pcs l)] none l.length oc7 (pcs l)) := by
  intro H nx hV _
  obtain ⟨inf, z, h1, h2, h3, h4, h5⟩ := b57
  obtain ⟨r2, g2⟩ := hV b (pcs l) (by simp)
  have e2 := src_p (e := e) g2
  have hne : ¬ (l.length = 0) := by omega
  have hnc : ¬ (openCap ≤ 0) := by simp [openCap]
  have hml : l.length ≤ maxLen := by unfold maxLen; omega
  have hby : l.length * 56 ≤ 140737488355328 := by omega
  have e1 : srcCells H 7 (.slice (some ⟨a, 0, none⟩) 0 0) = some (0, []) := rfl
  simp only [doBuiltin, if_true, doAppend, u27, h1, h2, h3, h4, e2, h5, e1, hne, h0, hml, hby, hnc, if_false, and_self, false_imp_iff, Nat.zero_lt_succ, delO, oc7, List.nil_append, Nat.zero_add]
def lvS (sa : Option Addr) (n c : Nat) (cyc per sh : Int) : Value := .agg #[.slice sa n c, .int .i64 cyc, .int .i64 per, .int .i64 sh]
section
variable {sa : Option Addr} {es : List Ent} {n c m k : Nat} {cyc per sh : Int} {hs : List Pt}
end
end Go.Proofs.Ytfpbgiaiifcnlaa.choose
/- A row's line and heads, opened. -/
namespace Go.Proofs.Ytfpbgiaiifcnlaa.choose
open Go Go.En Go.ChangeShapes Go.WideShapes Go.RowKit
set_option linter.unusedVariables false

/-- A line and heads as they are handed in: of the blocks, as much as few leaves. -/
structure Raw where
  sa : Option Addr
  n : Nat
  c : Nat
  cyc : Int
  per : Int
  sh : Int
  es : List Ent
  sb : Option Addr
  m : Nat
  k : Nat
  hs : List Pt
  ha : Sl 0 n sa
  hn : n ≤ c
  hc : c < openCap
  he : es.length = min n 129
  hb : Sl 1 m sb
  hm : m ≤ k
  hk : k < openCap
  hh : hs.length = min m 12
namespace Raw
variable (Y : Raw)
def lv : Value := lvS Y.sa Y.n Y.c Y.cyc Y.per Y.sh
def lw : Value := lvS Y.sa Y.es.length Y.c Y.cyc Y.per Y.sh
def hv : Value := .slice Y.sb Y.m Y.k
def V : List (Nat × List Value) := [(0, ecs Y.es), (1, pcs Y.hs)]
theorem smallH (k : Nat) : En.smallH k Y.V = true := by simp [En.smallH, V, small_avL (ecs_av _), small_avL (pcs_av _)]
theorem mv {f : FuncId} {args args' : List Value} {v v' : Value} {new new' : List (Nat × List Value)} {n' : Nat} (h : Memo.Ok Try.prog ⟨f, 2, args, Y.V, v, new, n'⟩) (nx : Nat)
    (hc : (En.smallL (En.small 2 5) args && En.small n' 5 v && inNew 2 n' new) = true) (hns : En.smallH n' new = true)
    (h1 : args.map (renV (shift (fun b => b) 2 nx) 5) = args') (h2 : renV (shift (fun b => b) 2 nx) 5 v = v') (h3 : renH (shift (fun b => b) 2 nx) new = new') : Memo.Ok Try.prog ⟨f, nx, args', Y.V, v', new', nx + (n' - 2)⟩ := by
  simp only [Bool.and_eq_true] at hc
  have hb : below 2 Y.V = true := by kernel_rfl
  have := memo_ren h (fun b => b) nx Y.V (by simp only [hc.1.1, hc.1.2, hc.2, hb, Bool.and_self]) (Y.smallH 2) hns (fun b cs hb => by
    by_cases h0 : 0 = b
    · subst h0
      simp [V, roHp, Hp.get] at hb ⊢
      subst hb
      exact (renV_avL (ecs_av _)).symm
    · by_cases h1 : 1 = b
      · subst h1
        simp [V, roHp, Hp.get] at hb ⊢
        subst hb
        exact (renV_avL (pcs_av _)).symm
      · simp [V, roHp, Hp.get, h0, h1] at hb)
  rwa [h1, h2, h3] at this
end Raw
theorem leaves7 {row : List Value} (h : LeafL [.i .i64, .i .i64, .i .i64, .i .i64, .i .i64, .i .i64, .b] row) : ∃ p : Pt, row = p.cells := by
  obtain ⟨a, r1, rfl, _, h1⟩ := h.int
  obtain ⟨b, r2, rfl, _, h2⟩ := h1.int
  obtain ⟨c, r3, rfl, _, h3⟩ := h2.int
  obtain ⟨d, r4, rfl, _, h4⟩ := h3.int
  obtain ⟨e, r5, rfl, _, h5⟩ := h4.int
  obtain ⟨f, r6, rfl, _, h6⟩ := h5.int
  obtain ⟨g, r7, rfl, h7⟩ := h6.bool
  have e0 := h7.done
  subst e0
  exact ⟨⟨⟨a, b, c, d, e⟩, f, g⟩, rfl⟩
theorem leaves2 {row : List Value} (h : LeafL [.i .i64, .i .i64] row) : ∃ p : Ent, row = p.cells := by
  obtain ⟨a, r1, rfl, _, h1⟩ := h.int
  obtain ⟨b, r2, rfl, _, h2⟩ := h1.int
  have e0 := h2.done
  subst e0
  exact ⟨⟨a, b⟩, rfl⟩
theorem take_cells {α : Type} {f : α → List Value} : ∀ {l : List α} {n j : Nat} {u : Value}, (cellsOfL f (l.take n))[j]? = some u → (cellsOfL f l)[j]? = some u
  | [], n, j, u, h => by simpa using h
  | a :: l, 0, j, u, h => by simp [cellsOfL] at h
  | a :: l, n + 1, j, u, h => by
    simp only [List.take_succ_cons, cellsOfL] at h ⊢
    by_cases hj : j < (f a).length
    · rw [List.getElem?_append_left hj] at h ⊢
      exact h
    · rw [List.getElem?_append_right (by omega)] at h ⊢
      exact take_cells h
section
variable {T : Type} {enc : TypeId × Value → T} {w : World} {base : Nat} {spare : Nat → Bool} {held : Bool} {r : Reach} {b0 : Nat}
theorem brel_take {α : Type} {f : α → List Value} {b n c : Nat} {sa : Option Addr} {l : List α} {v' : Value} {L : En.Loc} {φ : Ren} (h : SlAt w b n c sa (cellsOfL f l) v' L) (q : Nat) (ha : avL (cellsOfL f (l.take q)) = true) : BRel φ w L (.cells (cellsOfL f (l.take q)) true) := by
  obtain ⟨⟨arr, el, fr, e1, e2⟩, h2, h3, h4⟩ := h
  exact SlAt.brel (n := n) (sa := sa) (b := b) (v' := v') ⟨⟨arr, el, fr, e1, fun j u hu => e2 j u (take_cells hu)⟩, h2, h3, h4⟩ ha
set_option maxRecDepth 100000 in
theorem open_line {v : Value} {d : DataW T} {ps : List MemPlace} (hv : Value.okWide Try.prog w r b0 26 v) (hd : DataW.Trod enc Try.prog w base spare held 26 v d ps) (h0 : CellsAt w 0) (b : Nat) :
    ∃ (cyc per sh : Int) (es : List Ent) (sa : Option Addr) (c : Nat) (L1 : En.Loc) (v1 : Value), v = .agg #[v1, .int .i64 cyc, .int .i64 per, .int .i64 sh] ∧ SlAt w b es.length c sa (ecs es) v1 L1 := by
  have q1 : fieldsOf Try.prog 26 = some [(24, 0), (3, 2), (3, 3)] := by kernel_rfl
  have q2 : Try.prog.cellTypes Try.prog.depth 26 = some [22, 3, 3, 3] := by kernel_rfl
  have q4 := open_agg (P := Try.prog) (w := w) (r := r) (b0 := b0) (t := 26) (v := v) (enc := enc) (base := base) (spare := spare) (held := held) (d := d) (ps := ps) q1 q2 hv hd
  obtain ⟨cs, rfl, hlen, hfl, hcell⟩ := q4
  have c26 : Try.prog.cellsOf 26 = 4 := by kernel_rfl
  have c24 : Try.prog.cellsOf 24 = 2 := by kernel_rfl
  have c3 : Try.prog.cellsOf 3 = 1 := by kernel_rfl
  have c22 : Try.prog.cellsOf 22 = 1 := by kernel_rfl
  rw [c26] at hlen
  obtain ⟨x, y, z, u, rfl⟩ : ∃ x y z u, cs = [x, y, z, u] := by
    match cs, hlen with
    | [x, y, z, u], _ => exact ⟨x, y, z, u, rfl⟩
  obtain ⟨n0, y0, g0⟩ := hfl (24, 0) (by simp)
  obtain ⟨n1, y1, g1⟩ := hfl (3, 2) (by simp)
  obtain ⟨n2, y2, g2⟩ := hfl (3, 3) (by simp)
  simp only [c3, c24] at g0 g1 g2
  have g0 : DataW.trod enc Try.prog w base spare held n0 24 [x, y] = some y0 := by simpa using g0
  have hu24 : ∃ fs, Try.prog.underlying 24 = some (.struct fs) ∧ fs.toList.map (fun f => (f.type, f.offset)) = [(22, 0), (3, 1)] := by
    have hfs : fieldsOf Try.prog 24 = some [(22, 0), (3, 1)] := by kernel_rfl
    unfold fieldsOf at hfs
    split at hfs
    case h_2 => cases hfs
    rename_i fs hu
    exact ⟨fs, hu, by simpa using hfs⟩
  obtain ⟨fs, hu, hfs⟩ := hu24
  obtain ⟨_, hin⟩ := trod_flds hu g0
  have hin' : ∀ p ∈ [((22 : Nat), (0 : Nat)), (3, 1)], ∃ fuel' yy, DataW.trod enc Try.prog w base spare held fuel' p.1 (([x, y].drop p.2).take (Try.prog.cellsOf p.1)) = some yy := by
    intro p hp
    rw [← hfs] at hp
    obtain ⟨f, hf, rfl⟩ := List.mem_map.1 hp
    exact hin f hf
  obtain ⟨m0, w0, k0⟩ := hin' (22, 0) (by simp)
  obtain ⟨m1, w1, k1⟩ := hin' (3, 1) (by simp)
  simp only [c3, c22] at k0 k1
  have u3 : Try.prog.underlying 3 = some (.int .i64) := by kernel_rfl
  obtain ⟨cyc, hN, _, _⟩ := DataW.trod_int u3 k1
  have hN : y = .int .i64 cyc := by simpa using hN
  subst hN
  obtain ⟨per, hN, _, _⟩ := DataW.trod_int u3 g1
  have hN : z = .int .i64 per := by simpa using hN
  subst hN
  obtain ⟨sh, hN, _, _⟩ := DataW.trod_int u3 g2
  have hN : u = .int .i64 sh := by simpa using hN
  subst hN
  have k0 : DataW.trod enc Try.prog w base spare held m0 22 [x] = some w0 := by simpa using k0
  obtain ⟨t1, e1, kk⟩ := hcell 0 x rfl
  have e1 : t1 = 22 := by simpa using e1.symm
  subst e1
  obtain ⟨es, sa, c, L1, hS⟩ := open_at (P := Try.prog) (f := Ent.cells) (n := 5) u22 kk k0 (ls := [.i .i64, .i .i64]) (by kernel_rfl) (s := 2) (by kernel_rfl) (fun _ => rfl) (fun _ => leaves2) h0 b
  exact ⟨cyc, per, sh, es, sa, c, L1, x, rfl, hS⟩
set_option maxRecDepth 100000 in
theorem open_heads {u : Value} {d2 : DataW T} {ps2 : List MemPlace} (hv2 : Value.okWide Try.prog w r b0 41 u) (hd2 : DataW.Trod enc Try.prog w base spare held 41 u d2 ps2) (h0 : CellsAt w 0) (b : Nat) :
    ∃ (hs : List Pt) (sb : Option Addr) (k : Nat) (L : En.Loc), SlAt w b hs.length k sb (pcs hs) u L := by
  have hv3 : Cell.okWide Try.prog w r b0 41 u := by simpa only [Value.okWide, u27] using hv2
  obtain ⟨fuel, hf⟩ := hd2
  have hcell : u.cells.toList = [u] := by
    cases u <;> first | rfl | (simp only [Cell.okWide, u27, Cell.ok] at hv3)
  rw [hcell] at hf
  exact open_at (P := Try.prog) (f := Pt.cells) (n := 5) u27 hv3 hf (ls := [.i .i64, .i .i64, .i .i64, .i .i64, .i .i64, .i .i64, .b]) (by kernel_rfl) (s := 7) (by kernel_rfl) (fun _ => rfl) (fun _ => leaves7) h0 b
set_option maxRecDepth 100000 in
/-- The law's function is called with a line, heads and other arguments without blocks. -/
theorem calls_lh {f : FuncId} {v u : Value} {rest : List Value} {d d2 : DataW T} {ps ps2 : List MemPlace} (h0 : CellsAt w 0) (hv : Value.okWide Try.prog w r b0 26 v) (hd : DataW.Trod enc Try.prog w base spare held 26 v d ps)
    (hv2 : Value.okWide Try.prog w r b0 41 u) (hd2 : DataW.Trod enc Try.prog w base spare held 41 u d2 ps2) (hrest : ∀ φ : Ren, LRel φ rest rest)
    (h : ∀ Y : Raw, Memo.Ok Try.prog ⟨f, 2, Y.lv :: Y.hv :: rest, Y.V, .bool true, [], 2⟩) :
    Calls Try.prog f (v :: u :: rest).toArray w fun e w' => e = .returned (.bool true) ∧ Below w.heap.size w w' := by
  obtain ⟨cyc, per, sh, es, sa, c, L1, v1, rfl, hS⟩ := open_line (w := w) (r := r) (b0 := b0) (v := v) (enc := enc) (base := base) (spare := spare) (held := held) (d := d) (ps := ps) hv hd h0 0
  obtain ⟨hs, sb, k, L2, hL⟩ := open_heads (w := w) (r := r) (b0 := b0) (u := u) (enc := enc) (base := base) (spare := spare) (held := held) (d2 := d2) (ps2 := ps2) hv2 hd2 h0 1
  let Y : Raw := ⟨sa, es.length, c, cyc, per, sh, es.take 129, sb, hs.length, k, hs.take 12, hS.sl, hS.le, hS.lt, by simp; omega, hL.sl, hL.le, hL.lt, by simp; omega⟩
  refine calls_open (φ := renL [L1, L2]) (h Y) (good_V fun b cs hb => ?_) ⟨?_, hL.rel rfl, hrest _⟩
  · by_cases h0 : 0 = b
    · subst h0
      simp [Raw.V, roHp, Hp.get] at hb
      subst hb
      exact ⟨L1, rfl, brel_take hS 129 (ecs_av _)⟩
    · by_cases h1 : 1 = b
      · subst h1
        simp [Raw.V, roHp, Hp.get] at hb
        subst hb
        exact ⟨L2, rfl, brel_take hL 12 (pcs_av _)⟩
      · simp [Raw.V, roHp, Hp.get, h0, h1] at hb
  · exact .agg' ⟨hS.rel rfl, .int _ _, .int _ _, .int _ _, trivial⟩
end
theorem first_block {w : World} (hw : w.ShapedOpen Try.prog) : CellsAt w 0 := by
  have hg : Try.prog.globals.size = 0 := by kernel_rfl
  refine cells_0 hw hg ?_
  have h : (match (begin Try.prog (fun _ _ => 0) default).world.heap[0]? with | some (.cells _ _ _) => true | _ => false) = true := by kernel_rfl
  cases he : (begin Try.prog (fun _ _ => 0) default).world.heap[0]? with
  | none => rw [he] at h; cases h
  | some o =>
    rw [he] at h
    cases o with
    | cells a b c => exact ⟨a, b, c, rfl⟩
    | _ => cases h
end Go.Proofs.Ytfpbgiaiifcnlaa.choose
/- Contracts: a nil list of entries; what valid heads say; the greatest class. -/
namespace Go.Proofs.Ytfpbgiaiifcnlaa.choose
open Go Go.En
set_option linter.unusedVariables false

/-- Temporaries, by number. -/
def mkT : Nat → Nat → List (Nat × Value) → List Value
  | 0, _, _ => []
  | n + 1, i, [] => J :: mkT n (i + 1) []
  | n + 1, i, (j, v) :: r => match Nat.beq i j with
    | true => v :: mkT n (i + 1) r
    | false => J :: mkT n (i + 1) ((j, v) :: r)
def lvN (c : Nat) (cyc per sh : Int) : Value := lvS none 0 c cyc per sh
theorem gcheckN (c : Nat) (cyc : Int) : Memo.Ok Try.prog ⟨17, 0, [.agg #[.slice none 0 c, .int .i64 cyc]], [], .int .i64 370, [], 0⟩ :=
  memo_pure (hs := []) (ch := []) 2 (evk 50) special trivial trivial (by kernel_rfl) rfl (by kernel_rfl)
theorem lineN (c : Nat) (cyc per sh : Int) : Memo.Ok Try.prog ⟨25, 0, [lvN c cyc per sh], [], .int .i64 471, [], 0⟩ := by
  have mc := memo_any (gcheckN c cyc) 1 (by kernel_rfl) rfl rfl
  exact memo_pure (hs := [(5, .call _)]) (ch := []) 1 (evk 50) special ⟨mc, trivial⟩ trivial (by kernel_rfl) rfl (by kernel_rfl)
theorem lineN_m (c : Nat) (cyc per sh : Int) (nx : Nat) : Memo.Ok Try.prog ⟨25, nx, [lvN c cyc per sh], [], .int .i64 471, [], nx⟩ := memo_any (lineN c cyc per sh) nx (by kernel_rfl) rfl rfl
/-- A contract that looks at no block, at other names. -/
theorem memo_no {f : FuncId} {args args' : List Value} {v v' : Value} (h : Memo.Ok Try.prog ⟨f, 1, args, [], v, [], 1⟩) (b nx : Nat) (hc : (smallL (small 1 5) args && small 1 5 v) = true)
    (h1 : args.map (renV (shift (fun _ => b) 1 nx) 5) = args') (h2 : renV (shift (fun _ => b) 1 nx) 5 v = v') : Memo.Ok Try.prog ⟨f, nx, args', [], v', [], nx⟩ := by
  simp only [Bool.and_eq_true] at hc
  have := memo_ren h (fun _ => b) nx [] (by simp [hc.1, hc.2, below, inNew]) rfl rfl (fun c ds hb => by simp [roHp, Hp.get] at hb)
  simpa [h1, h2, renH] using this
theorem checkN (c n k : Nat) (cyc per sh t : Int) : Memo.Ok Try.prog ⟨66, 1, [lvN c cyc per sh, hv 0 n k, .int .i64 t], [], .int .i64 471, [], 1⟩ := by
  have m1 := lineN_m c cyc per sh 2
  exact memo_pure (hs := [(10, .call _)]) (ch := []) 2 (evk 50) special ⟨m1, trivial⟩ trivial (by kernel_rfl) rfl (by kernel_rfl)
theorem checkN_m (c n k : Nat) (cyc per sh t : Int) (b nx : Nat) : Memo.Ok Try.prog ⟨66, nx, [lvN c cyc per sh, hv b n k, .int .i64 t], [], .int .i64 471, [], nx⟩ := memo_no (checkN c n k cyc per sh t) b nx (by kernel_rfl) rfl rfl
theorem StartN (c n k : Nat) (cyc per sh t : Int) (b nx : Nat) : Memo.Ok Try.prog ⟨58, nx, [lvN c cyc per sh, hv b n k, .int .i64 t], [], .tuple #[.int .i64 0, .int .i64 471], [], nx⟩ := by
  have m1 := checkN_m c n k cyc per sh t 0 3
  have : Memo.Ok Try.prog ⟨58, 1, [lvN c cyc per sh, hv 0 n k, .int .i64 t], [], .tuple #[.int .i64 0, .int .i64 471], [], 1⟩ :=
    memo_pure (hs := [(13, .call _)]) (ch := []) 3 (evk 50) special ⟨m1, trivial⟩ trivial (by kernel_rfl) rfl (by kernel_rfl)
  exact memo_no this b nx (by kernel_rfl) rfl rfl
/-! ### At other names -/
theorem StartE_m (X : Cx) (t : Int) {e : Int} (he : errC X t = e) (hne : (e != 0) = true) (b nx : Nat) : Memo.Ok Try.prog ⟨58, nx, [X.lv, X.hv (b + 1), .int .i64 t], X.V (b + 1), .tuple #[.int .i64 0, .int .i64 e], [], nx⟩ :=
  X.mv (StartE X t he hne) b nx (by kernel_rfl) rfl rfl
theorem StartY_m (X : Cx) {t : Int} (he : errC X t = 0) {g : Option Nat} (hg : startS X t = g) (b nx : Nat) : Memo.Ok Try.prog ⟨58, nx, [X.lv, X.hv (b + 1), .int .i64 t], X.V (b + 1), startV g, [], nx⟩ :=
  X.mv (StartY X he hg) b nx (by kernel_rfl) rfl rfl
/-! ### Plain -/
theorem down_some {f : Nat → Bool} : ∀ {n i : Nat}, down f n = some i → i < n ∧ f i = true ∧ ∀ j, i < j → j < n → f j = false
  | 0, i, h => by cases h
  | n + 1, i, h => by
    simp only [down] at h
    cases hf : f n with
    | true =>
      rw [hf] at h
      simp only [cond_true, Option.some.injEq] at h
      subst h
      exact ⟨by omega, hf, fun j h1 h2 => by omega⟩
    | false =>
      rw [hf] at h
      simp only [cond_false] at h
      obtain ⟨h1, h2, h3⟩ := down_some h
      refine ⟨by omega, h2, fun j h4 h5 => ?_⟩
      by_cases hj : j = n
      · subst hj; exact hf
      · exact h3 j h4 (by omega)
theorem headsGo_at : ∀ {l : List Pt} {i : Nat} {r r' : Int}, headsGo l i r = some r' → ∀ (j : Nat) (p : Pt), l[j]? = some p → eqPt p zp = false → hbad p (i + j) = false
  | [], i, r, r', h, j, p, hp, _ => by simp at hp
  | q :: l, i, r, r', h, j, p, hp, he => by
    simp only [headsGo] at h
    split at h
    case h_1 => cases h
    rename_i r2 h2
    cases j with
    | zero =>
      simp only [List.getElem?_cons_zero, Option.some.injEq] at hp
      subst hp
      unfold hstep at h2
      rw [he] at h2
      simp only [cond_false] at h2
      cases hb : hbad q (i + 0) with
      | false => rfl
      | true => simp only [Nat.add_zero] at hb; rw [hb] at h2; cases h2
    | succ j =>
      have := headsGo_at h j p (by simpa using hp) he
      rw [show i + (j + 1) = i + 1 + j by omega]
      exact this
theorem heads_cls {X : Cx} (h : headsS X.hs = true) {k : Nat} (hk : k < 8) (hf : fullS X k = true) : (X.at_ k).it.cls = k ∧ partC (X.at_ k) = true := by
  have h8 := headsS_len h
  unfold headsS at h
  simp only [Bool.and_eq_true] at h
  cases hg : headsGo X.hs 0 0 with
  | none => rw [hg] at h; cases h.2
  | some r =>
    have := headsGo_at hg k (X.at_ k) (pt_at (by omega)) (by unfold fullS at hf; simpa using hf)
    unfold hbad at this
    simp only [Nat.zero_add, Bool.or_eq_false_iff, Bool.not_eq_false', bne_eq_false_iff_eq] at this
    exact ⟨this.2, this.1⟩
theorem heldGo_no {X : Cx} {i : Nat} : ∀ {n k : Nat}, heldGo X i n k = false → ∀ j, k ≤ j → j < k + n → heldP (X.at_ j) i j = false
  | 0, k, h, j, h1, h2 => by omega
  | n + 1, k, h, j, h1, h2 => by
    simp only [heldGo, Bool.or_eq_false_iff] at h
    by_cases hj : j = k
    · subst hj; exact h.1
    · exact heldGo_no h.2 j (by omega) (by omega)
theorem errC_heads {X : Cx} {t : Int} (h : errC X t = 0) : headsS X.hs = true ∧ lineX X = true := by
  unfold errC at h
  cases h1 : lineX X with
  | false => rw [h1] at h; cases h
  | true =>
    cases h2 : headsS X.hs with
    | false => rw [h1, h2] at h; cases h
    | true => exact ⟨rfl, rfl⟩
/-- The context that few makes. -/
def Raw.cx (Y : Raw) (k : Nat) : Cx := ⟨Y.es, Y.c, Y.cyc, Y.per, Y.sh, Y.hs, k, by have := Y.he; omega, by have := Y.hh; omega⟩
theorem Raw.hs_nil (Y : Raw) (h : Y.m = 0) : Y.hs = [] := by
  have := Y.hh
  exact List.length_eq_zero_iff.1 (by omega)
theorem Raw.pos_sb (Y : Raw) (h : 0 < Y.m) : Y.sb = some ⟨1, 0, none⟩ := by
  rcases Y.hb with ⟨_, h0⟩ | h1
  · omega
  · exact h1
theorem errC_none {X : Cx} (h : X.hs = []) (t : Int) : (errC X t != 0) = true := by
  unfold errC
  have : headsS X.hs = false := by rw [h]; rfl
  rw [this]
  cases lineX X <;> rfl
end Go.Proofs.Ytfpbgiaiifcnlaa.choose
/- Contracts: the references of layers 27 and 37: Right, Check, Line, None, Heads; want. -/
namespace Go.Proofs.Ytfpbgiaiifcnlaa.choose
open Go Go.En
set_option linter.unusedVariables false

/-! ### Right -/
def T47 (s i : Int) : List Value := mkT 58 0 [(1, pt 1), (3, .int .i64 s), (4, .int .i64 i)]
def TR47 (s : Int) : List Value := mkT 58 0 [(1, pt 1), (3, .int .i64 s)]
def TE47 : List Value := mkT 58 0 [(2, .bool false)]
section
variable {es : List Ent} {c : Nat} {cyc : Int}
theorem r_go {s : Int} {i : Nat} {x : Ent} (hi : es[i]? = some x) {q : Bool} (hq : entOk x = q) :
    CodeOk Try.prog none (lp Try.prog 45 5) (T47 s i) [] (H29 es c cyc) 4 (bif q then ⟨.normal, T47 (W (s + x.long)) (W (i + 1)), [], H29 es c cyc, 4⟩ else ⟨.ret, TE47, [], H29 es c cyc, 4⟩) := by
  have hlt := lt_of hi
  have hd : decide ((i : Int) < es.length) = true := decide_eq_true (by omega)
  have l1 := ld59 (ro := true) hi
  obtain ⟨m, g⟩ := x
  have key : ∀ p1 p2 p3 p4, decide (m < 0) = p1 → decide (m > 255) = p2 → decide (g < 1) = p3 → decide (g > 9600000) = p4 → (!(p1 || p2 || p3 || p4)) = q → CodeOk Try.prog none (lp Try.prog 45 5) (T47 s i) [] (H29 es c cyc) 4 (bif q then ⟨.normal, T47 (W (s + g)) (W (i + 1)), [], H29 es c cyc, 4⟩ else ⟨.ret, TE47, [], H29 es c cyc, 4⟩) := by
    intro p1 p2 p3 p4 h1 h2 h3 h4 h
    subst h
    cases p1 <;> cases p2 <;> cases p3 <;> cases p4 <;>
      exact code_at (hs := [(20, .val (.bool (decide ((i : Int) < es.length))) (.bool true)), (26, .ix 22 (esl es.length c) (.int .i64 i) _), (27, .ld 65 _ 0 (ecs es) true _), (30, .val (.bool (decide (m < 0))) (.bool _)), (34, .val (.bool (decide (m > 255))) (.bool _)), (39, .val (.bool (decide (g < 1))) (.bool _)), (44, .val (.bool (decide (g > 9600000))) (.bool _))]) (ch := []) (evk 50) special
        ⟨congrArg Value.bool hd, ix22 hlt, ⟨l1, _, rfl⟩, congrArg Value.bool h1, congrArg Value.bool h2, congrArg Value.bool h3, congrArg Value.bool h4, trivial⟩ trivial (by kernel_rfl) (H29_below es c cyc (by omega)) (H29_below es c cyc (by omega)) (by kernel_rfl)
  exact key _ _ _ _ rfl rfl rfl rfl hq
theorem r_out {s : Int} : CodeOk Try.prog none (lp Try.prog 45 5) (T47 s es.length) [] (H29 es c cyc) 4 ⟨.exit 0, TR47 s, [], H29 es c cyc, 4⟩ := by
  have hd : decide ((es.length : Int) < es.length) = false := decide_eq_false (by omega)
  exact code_at (hs := [(20, .val (.bool (decide ((es.length : Int) < es.length))) (.bool false))]) (ch := []) (evk 50) special ⟨congrArg Value.bool hd, trivial⟩ trivial (by kernel_rfl) (H29_below es c cyc (by omega)) (H29_below es c cyc (by omega)) (by kernel_rfl)
def F47 (es : List Ent) (c : Nat) (cyc : Int) : Option Int → Res
  | some s => ⟨.exit 0, TR47 s, [], H29 es c cyc, 4⟩
  | none => ⟨.ret, TE47, [], H29 es c cyc, 4⟩
theorem r_loop (hn : es.length ≤ 1000) : ∀ (k i : Nat) (s : Int), i + k = es.length → LoopOk Try.prog none (lp Try.prog 45 5) (T47 s i) [] (H29 es c cyc) 4 (F47 es c cyc (sumG (es.drop i) s))
  | 0, i, s, h => by
    have : i = es.length := by omega
    subst this
    rw [List.drop_length]
    exact loopOk_out r_out (by show Exit.exit 0 ≠ Exit.normal; simp)
  | k + 1, i, s, h => by
    have hlt : i < es.length := by omega
    have hi : es[i]? = some es[i] := List.getElem?_eq_getElem hlt
    rw [List.drop_eq_getElem_cons hlt]
    simp only [sumG]
    cases hq : entOk es[i] with
    | false =>
      have h1 := r_go (c := c) (cyc := cyc) (s := s) hi hq
      exact loopOk_out h1 (by show Exit.ret ≠ Exit.normal; simp)
    | true =>
      have h1 := r_go (c := c) (cyc := cyc) (s := s) hi hq
      simp only [cond_true] at h1
      rw [show (i : Int) + 1 = ((i + 1 : Nat) : Int) by push_cast; rfl, show W ((i + 1 : Nat) : Int) = ((i + 1 : Nat) : Int) from wrap_nat (by omega)] at h1
      exact loop_step h1 (r_loop hn k (i + 1) _ (by omega))
termination_by k => k
theorem right_0 (hn : es.length ≤ 1000) : Memo.Ok Try.prog ⟨45, 1, [gv es.length c cyc], [(0, ecs es)], .bool (chkG es cyc), [], 1⟩ := by
  have hS : En.smallH 1 [(0, ecs es)] = true := by simp [En.smallH, small_avL (ecs_av es)]
  have hlo := r_loop (c := c) (cyc := cyc) hn es.length 0 0 (by omega)
  rw [List.drop_zero] at hlo
  have key : ∀ p1 p2 g, decide ((es.length : Int) < 1) = p1 → decide ((es.length : Int) > 128) = p2 → sumG es 0 = g → Memo.Ok Try.prog ⟨45, 1, [gv es.length c cyc], [(0, ecs es)], .bool (!(p1 || p2) && fitG cyc g), [], 1⟩ := by
    intro p1 p2 g h1 h2 hg
    rw [hg] at hlo
    cases p1
    · cases p2
      · cases g with
        | none =>
          exact memo_pure (hs := [(1, .frz), (9, .val (.bool (decide ((es.length : Int) < 1))) (.bool false)), (14, .val (.bool (decide ((es.length : Int) > 128))) (.bool false))]) (ch := [⟨5, none, .loop (lp Try.prog 45 5), T47 0 0, [], H29 es c cyc, 4, _, true⟩]) 4 (evk 50) special
            ⟨trivial, congrArg Value.bool h1, congrArg Value.bool h2, trivial⟩ ⟨codeOk_loop hlo, trivial⟩ (by kernel_rfl) hS (by kernel_rfl)
        | some s =>
          have key2 : ∀ q1 q2, (s == cyc) = q1 → decide (s ≤ 9600000) = q2 → Memo.Ok Try.prog ⟨45, 1, [gv es.length c cyc], [(0, ecs es)], .bool (q1 && q2), [], 1⟩ := by
            intro q1 q2 e1 e2
            cases q1 <;> cases q2 <;>
              exact memo_pure (hs := [(1, .frz), (9, .val (.bool (decide ((es.length : Int) < 1))) (.bool false)), (14, .val (.bool (decide ((es.length : Int) > 128))) (.bool false)), (53, .val (.bool (s == cyc)) (.bool _)), (56, .val (.bool (decide (s ≤ 9600000))) (.bool _))]) (ch := [⟨5, none, .loop (lp Try.prog 45 5), T47 0 0, [], H29 es c cyc, 4, _, true⟩]) 4 (evk 50) special
                ⟨trivial, congrArg Value.bool h1, congrArg Value.bool h2, congrArg Value.bool e1, congrArg Value.bool e2, trivial⟩ ⟨codeOk_loop hlo, trivial⟩ (by kernel_rfl) hS (by kernel_rfl)
          have h3 := key2 _ _ rfl rfl
          have e : fitG cyc (some s) = ((s == cyc) && decide (s ≤ 9600000)) := by
            rw [Bool.eq_iff_iff]
            simp only [fitG, Bool.not_eq_true', Bool.or_eq_false_iff, bne_eq_false_iff_eq, decide_eq_false_iff_not, Bool.and_eq_true, beq_iff_eq, decide_eq_true_eq]
            omega
          rw [e]
          exact h3
      · exact memo_pure (hs := [(1, .frz), (9, .val (.bool (decide ((es.length : Int) < 1))) (.bool false)), (14, .val (.bool (decide ((es.length : Int) > 128))) (.bool true))]) (ch := []) 4 (evk 50) special
            ⟨trivial, congrArg Value.bool h1, congrArg Value.bool h2, trivial⟩ trivial (by kernel_rfl) hS (by kernel_rfl)
    · cases p2 <;> exact memo_pure (hs := [(1, .frz), (9, .val (.bool (decide ((es.length : Int) < 1))) (.bool true))]) (ch := []) 3 (evk 50) special
            ⟨trivial, congrArg Value.bool h1, trivial⟩ trivial (by kernel_rfl) hS (by kernel_rfl)
  exact key _ _ _ rfl rfl rfl
theorem right_m (hn : es.length ≤ 1000) {p : Bool} (h : chkG es cyc = p) (nx : Nat) : Memo.Ok Try.prog ⟨45, nx, [gv es.length c cyc], [(0, ecs es)], .bool p, [], nx⟩ :=
  memo_blk (h ▸ right_0 hn) (ecs_av es) 0 nx (by kernel_rfl) rfl rfl
theorem rcheck_0 (hn : es.length ≤ 1000) {p : Bool} (h : chkG es cyc = p) : Memo.Ok Try.prog ⟨27, 1, [gv es.length c cyc], [(0, ecs es)], .int .i64 (bif p then 0 else 370), [], 1⟩ := by
  have hS : En.smallH 1 [(0, ecs es)] = true := by simp [En.smallH, small_avL (ecs_av es)]
  have m := right_m (c := c) hn h 2
  cases p <;> exact memo_pure (hs := [(1, .frz), (4, .call _)]) (ch := []) 2 (evk 50) special ⟨trivial, m, trivial⟩ trivial (by kernel_rfl) hS (by kernel_rfl)
theorem rcheck_m (hn : es.length ≤ 1000) {p : Bool} (h : chkG es cyc = p) (nx : Nat) : Memo.Ok Try.prog ⟨27, nx, [gv es.length c cyc], [(0, ecs es)], .int .i64 (bif p then 0 else 370), [], nx⟩ :=
  memo_blk (rcheck_0 hn h) (ecs_av es) 0 nx (by kernel_rfl) rfl rfl
theorem rline_0 {per sh : Int} (hn : es.length ≤ 1000) : Memo.Ok Try.prog ⟨9, 1, [lv es.length c cyc per sh], [(0, ecs es)], .bool (lineS (chkG es cyc) per sh), [], 1⟩ := by
  have hS : En.smallH 1 [(0, ecs es)] = true := by simp [En.smallH, small_avL (ecs_av es)]
  have key : ∀ p p1 p2 p3 p4, chkG es cyc = p → decide (per ≥ 1) = p1 → decide (per ≤ 1000) = p2 → decide (sh ≥ -1000) = p3 → decide (sh ≤ 1000) = p4 →
      Memo.Ok Try.prog ⟨9, 1, [lv es.length c cyc per sh], [(0, ecs es)], .bool (p && (p1 && (p2 && (p3 && p4)))), [], 1⟩ := by
    intro p p1 p2 p3 p4 h h1 h2 h3 h4
    have mc := rcheck_m (c := c) hn h 2
    cases p
    · exact memo_pure (hs := [(1, .frz), (5, .call _)]) (ch := []) 2 (evk 50) special ⟨trivial, mc, trivial⟩ trivial (by kernel_rfl) hS (by kernel_rfl)
    · cases p1 <;> cases p2 <;> cases p3 <;> cases p4 <;>
        exact memo_pure (hs := [(1, .frz), (5, .call _), (10, .val (.bool (decide (per ≥ 1))) (.bool _)), (15, .val (.bool (decide (per ≤ 1000))) (.bool _)), (20, .val (.bool (decide (sh ≥ -1000))) (.bool _)), (25, .val (.bool (decide (sh ≤ 1000))) (.bool _))]) (ch := []) 2 (evk 50) special
          ⟨trivial, mc, congrArg Value.bool h1, congrArg Value.bool h2, congrArg Value.bool h3, congrArg Value.bool h4, trivial⟩ trivial (by kernel_rfl) hS (by kernel_rfl)
  have h := key _ _ _ _ _ rfl rfl rfl rfl rfl
  have e : lineS (chkG es cyc) per sh = (chkG es cyc && (decide (per ≥ 1) && (decide (per ≤ 1000) && (decide (sh ≥ -1000) && decide (sh ≤ 1000))))) := by
    unfold lineS
    congr 1
    rw [Bool.eq_iff_iff]
    simp only [Bool.not_eq_true', Bool.or_eq_false_iff, decide_eq_false_iff_not, Bool.and_eq_true, decide_eq_true_eq]
    omega
  rw [e]
  exact h
theorem rline_m {per sh : Int} (hn : es.length ≤ 1000) {p : Bool} (h : lineS (chkG es cyc) per sh = p) (nx : Nat) : Memo.Ok Try.prog ⟨9, nx, [lv es.length c cyc per sh], [(0, ecs es)], .bool p, [], nx⟩ :=
  memo_blk (h ▸ rline_0 hn) (ecs_av es) 0 nx (by kernel_rfl) rfl rfl
end
theorem rightN (c : Nat) (cyc : Int) : Memo.Ok Try.prog ⟨45, 0, [.agg #[.slice none 0 c, .int .i64 cyc]], [], .bool false, [], 0⟩ :=
  memo_pure (hs := []) (ch := []) 2 (evk 50) special trivial trivial (by kernel_rfl) rfl (by kernel_rfl)
theorem rcheckN (c : Nat) (cyc : Int) : Memo.Ok Try.prog ⟨27, 0, [.agg #[.slice none 0 c, .int .i64 cyc]], [], .int .i64 370, [], 0⟩ := by
  have m := memo_any (rightN c cyc) 1 (by kernel_rfl) rfl rfl
  exact memo_pure (hs := [(4, .call _)]) (ch := []) 1 (evk 50) special ⟨m, trivial⟩ trivial (by kernel_rfl) rfl (by kernel_rfl)
theorem rlineN (c : Nat) (cyc per sh : Int) (nx : Nat) : Memo.Ok Try.prog ⟨9, nx, [lvN c cyc per sh], [], .bool false, [], nx⟩ := by
  have mc := memo_any (rcheckN c cyc) 1 (by kernel_rfl) rfl rfl
  have : Memo.Ok Try.prog ⟨9, 0, [lvN c cyc per sh], [], .bool false, [], 0⟩ := memo_pure (hs := [(5, .call _)]) (ch := []) 1 (evk 50) special ⟨mc, trivial⟩ trivial (by kernel_rfl) rfl (by kernel_rfl)
  exact memo_any this nx (by kernel_rfl) rfl rfl
/-! ### None, Heads -/
theorem ldC2 {b i : Nat} {hs : List Pt} {x : Pt} {ro : Bool} (h : hs[i]? = some x) : doLoad Try.prog [(b, .cells (pcs hs) ro)] 3 (.pointer (some ⟨b, 0 + i * 7 + 0 + 2, none⟩)) = some (.int .i64 x.it.cls) := ld1 z3 (cellsOfL_get (f := Pt.cells) (s := 7) (fun _ => rfl) h 2 _ rfl)
theorem ldR {b i : Nat} {hs : List Pt} {x : Pt} {ro : Bool} (h : hs[i]? = some x) : doLoad Try.prog [(b, .cells (pcs hs) ro)] 4 (.pointer (some ⟨b, 0 + i * 7 + 6, none⟩)) = some (.bool x.rest) := ld1 z4 (cellsOfL_get (f := Pt.cells) (s := 7) (fun _ => rfl) h 6 _ rfl)
def T16 (n c : Nat) (r i : Int) : List Value := mkT 42 0 [(0, hv 0 n c), (3, .int .i64 r), (4, .int .i64 i)]
def TR16 (r : Int) : List Value := mkT 42 0 [(3, .int .i64 r)]
def TE16 : List Value := mkT 42 0 [(2, .bool false)]
def Q16 (hs : List Pt) (n c : Nat) (i : Int) : Option Int → Res
  | some r => ⟨.normal, T16 n c r (W (i + 1)), [], H1 (pcs hs), 2⟩
  | none => ⟨.ret, TE16, [], H1 (pcs hs), 2⟩
def F16 (hs : List Pt) : Option Int → Res
  | some r => ⟨.exit 0, TR16 r, [], H1 (pcs hs), 2⟩
  | none => ⟨.ret, TE16, [], H1 (pcs hs), 2⟩
/-! ### want -/
end Go.Proofs.Ytfpbgiaiifcnlaa.choose
/- The law's wakes() comes to true: a closed call, in pieces. -/
namespace Go.Proofs.Ytfpbgiaiifcnlaa.choose
open Go Go.En
set_option linter.unusedVariables false
def m11 : Memo := ⟨58, 2076, [.agg #[.slice (some ⟨1, 0, none⟩) 1 1, .int .i64 1, .int .i64 1, .int .i64 0], .slice (some ⟨1954, 0, none⟩) 8 8, .int .i64 0], [(1954, [.int .i64 0, .int .i64 0, .int .i64 0, .int .i64 0, .int .i64 0, .int .i64 0, .bool false, .int .i64 0, .int .i64 0, .int .i64 0, .int .i64 0, .int .i64 0, .int .i64 0, .bool false, .int .i64 0, .int .i64 0, .int .i64 2, .int .i64 200, .int .i64 0, .int .i64 200, .bool false, .int .i64 0, .int .i64 0, .int .i64 0, .int .i64 0, .int .i64 0, .int .i64 0, .bool false, .int .i64 0, .int .i64 0, .int .i64 0, .int .i64 0, .int .i64 0, .int .i64 0, .bool false, .int .i64 0, .int .i64 0, .int .i64 0, .int .i64 0, .int .i64 0, .int .i64 0, .bool false, .int .i64 0, .int .i64 0, .int .i64 0, .int .i64 0, .int .i64 0, .int .i64 0, .bool false, .int .i64 0, .int .i64 0, .int .i64 0, .int .i64 0, .int .i64 0, .int .i64 0, .bool false]), (1, [.int .i64 255, .int .i64 1])], .tuple #[.int .i64 2, .int .i64 0], [], 2161⟩
theorem says11 : memoSays (evM Try.prog [] 400) m11 = true := by kernel_rfl
theorem ok11 : m11.Ok Try.prog := memo_of (evM_ok special (ms := []) (fun _ h => by cases h) 400) says11
def m12 : Memo := ⟨21, 1838, [.agg #[.slice (some ⟨1, 0, none⟩) 1 1, .int .i64 1, .int .i64 1, .int .i64 0, .int .i64 0, .slice (some ⟨1810, 0, none⟩) 8 8, .bool false, .int .i64 0, .int .i64 0, .int .i64 0, .int .i64 0, .int .i64 0, .int .i64 0, .bool false, .int .i64 0, .int .i64 0, .int .i64 0], .int .i64 0], [(1835, [.int .i64 0, .int .i64 0, .int .i64 2, .int .i64 200, .int .i64 0, .int .i64 200, .bool false]), (1810, [.int .i64 1000, .slice none 0 0, .int .i64 1000, .slice none 0 0, .int .i64 1000, .slice (some ⟨1835, 0, none⟩) 1 18446744073709551623, .int .i64 1000, .slice none 0 0, .int .i64 1000, .slice none 0 0, .int .i64 1000, .slice none 0 0, .int .i64 1000, .slice none 0 0, .int .i64 1000, .slice none 0 0]), (1, [.int .i64 255, .int .i64 1])], .tuple #[.agg #[.slice (some ⟨1, 0, none⟩) 1 1, .int .i64 1, .int .i64 1, .int .i64 0, .int .i64 0, .slice (some ⟨2167, 0, none⟩) 8 8, .bool true, .int .i64 0, .int .i64 0, .int .i64 2, .int .i64 200, .int .i64 0, .int .i64 200, .bool false, .int .i64 0, .int .i64 200, .int .i64 0], .int .i64 0], [(2167, [.int .i64 1000, .slice none 0 0, .int .i64 1000, .slice none 0 0, .int .i64 1000, .slice (some ⟨1835, 7, none⟩) 0 18446744073709551623, .int .i64 1000, .slice none 0 0, .int .i64 1000, .slice none 0 0, .int .i64 1000, .slice none 0 0, .int .i64 1000, .slice none 0 0, .int .i64 1000, .slice none 0 0])], 2194⟩
theorem says12 : memoSays (evM Try.prog [m11] 400) m12 = true := by kernel_rfl
theorem ok12 : m12.Ok Try.prog := memo_of (evM_ok special (ms := [m11]) (by intro x hx; simp only [List.mem_cons, List.not_mem_nil, or_false] at hx; rcases hx with rfl <;> first | exact ok11) 400) says12
def m3 : Memo := ⟨41, 642, [.agg #[.slice (some ⟨1, 0, none⟩) 1 1, .int .i64 1, .int .i64 1, .int .i64 0, .int .i64 50, .slice (some ⟨614, 0, none⟩) 8 8, .bool true, .int .i64 0, .int .i64 0, .int .i64 2, .int .i64 200, .int .i64 0, .int .i64 200, .bool false, .int .i64 0, .int .i64 200, .int .i64 0], .int .i64 50], [(639, [.int .i64 0, .int .i64 0, .int .i64 6, .int .i64 100, .int .i64 0, .int .i64 100, .bool false]), (358, [.int .i64 0, .int .i64 0, .int .i64 2, .int .i64 200, .int .i64 0, .int .i64 200, .bool false]), (614, [.int .i64 1000, .slice none 0 0, .int .i64 1000, .slice none 0 0, .int .i64 1000, .slice (some ⟨358, 7, none⟩) 0 18446744073709551623, .int .i64 1000, .slice none 0 0, .int .i64 1000, .slice none 0 0, .int .i64 1000, .slice none 0 0, .int .i64 1000, .slice (some ⟨639, 0, none⟩) 1 18446744073709551623, .int .i64 1000, .slice none 0 0]), (1, [.int .i64 255, .int .i64 1])], .agg #[.slice (some ⟨1, 0, none⟩) 1 1, .int .i64 1, .int .i64 1, .int .i64 0, .int .i64 50, .slice (some ⟨614, 0, none⟩) 8 8, .bool true, .int .i64 0, .int .i64 0, .int .i64 2, .int .i64 200, .int .i64 0, .int .i64 200, .bool false, .int .i64 0, .int .i64 88, .int .i64 160], [], 824⟩
theorem says3 : memoSays (evM Try.prog [] 400) m3 = true := by kernel_rfl
theorem ok3 : m3.Ok Try.prog := memo_of (evM_ok special (ms := []) (fun _ h => by cases h) 400) says3
def m4 : Memo := ⟨41, 1354, [.agg #[.slice (some ⟨1, 0, none⟩) 1 1, .int .i64 1, .int .i64 1, .int .i64 0, .int .i64 348, .slice (some ⟨1315, 0, none⟩) 8 8, .bool false, .int .i64 0, .int .i64 0, .int .i64 0, .int .i64 0, .int .i64 0, .int .i64 0, .bool false, .int .i64 0, .int .i64 0, .int .i64 0], .int .i64 348], [(639, [.int .i64 0, .int .i64 0, .int .i64 6, .int .i64 100, .int .i64 0, .int .i64 100, .bool false]), (855, [.int .i64 0, .int .i64 0, .int .i64 2, .int .i64 200, .int .i64 0, .int .i64 160, .bool true]), (1315, [.int .i64 1000, .slice none 0 0, .int .i64 1000, .slice none 0 0, .int .i64 1000, .slice (some ⟨855, 0, none⟩) 0 0, .int .i64 1000, .slice none 0 0, .int .i64 1000, .slice none 0 0, .int .i64 1000, .slice none 0 0, .int .i64 1000, .slice (some ⟨639, 7, none⟩) 0 18446744073709551623, .int .i64 1000, .slice none 0 0]), (1, [.int .i64 255, .int .i64 1])], .agg #[.slice (some ⟨1, 0, none⟩) 1 1, .int .i64 1, .int .i64 1, .int .i64 0, .int .i64 348, .slice (some ⟨1315, 0, none⟩) 8 8, .bool false, .int .i64 0, .int .i64 0, .int .i64 0, .int .i64 0, .int .i64 0, .int .i64 0, .bool false, .int .i64 0, .int .i64 0, .int .i64 0], [], 1537⟩
theorem says4 : memoSays (evM Try.prog [] 400) m4 = true := by kernel_rfl
theorem ok4 : m4.Ok Try.prog := memo_of (evM_ok special (ms := []) (fun _ h => by cases h) 400) says4
def m2 : Memo := ⟨58, 1224, [.agg #[.slice (some ⟨1, 0, none⟩) 1 1, .int .i64 1, .int .i64 1, .int .i64 0], .slice (some ⟨1102, 0, none⟩) 8 8, .int .i64 188], [(1102, [.int .i64 0, .int .i64 0, .int .i64 0, .int .i64 0, .int .i64 0, .int .i64 0, .bool false, .int .i64 0, .int .i64 0, .int .i64 0, .int .i64 0, .int .i64 0, .int .i64 0, .bool false, .int .i64 0, .int .i64 0, .int .i64 2, .int .i64 200, .int .i64 0, .int .i64 160, .bool true, .int .i64 0, .int .i64 0, .int .i64 0, .int .i64 0, .int .i64 0, .int .i64 0, .bool false, .int .i64 0, .int .i64 0, .int .i64 0, .int .i64 0, .int .i64 0, .int .i64 0, .bool false, .int .i64 0, .int .i64 0, .int .i64 0, .int .i64 0, .int .i64 0, .int .i64 0, .bool false, .int .i64 0, .int .i64 0, .int .i64 0, .int .i64 0, .int .i64 0, .int .i64 0, .bool false, .int .i64 0, .int .i64 0, .int .i64 0, .int .i64 0, .int .i64 0, .int .i64 0, .bool false]), (1, [.int .i64 255, .int .i64 1])], .tuple #[.int .i64 2, .int .i64 0], [], 1309⟩
theorem says2 : memoSays (evM Try.prog [] 400) m2 = true := by kernel_rfl
theorem ok2 : m2.Ok Try.prog := memo_of (evM_ok special (ms := []) (fun _ h => by cases h) 400) says2
def m5 : Memo := ⟨41, 1099, [.agg #[.slice (some ⟨1, 0, none⟩) 1 1, .int .i64 1, .int .i64 1, .int .i64 0, .int .i64 188, .slice (some ⟨1060, 0, none⟩) 8 8, .bool false, .int .i64 0, .int .i64 0, .int .i64 0, .int .i64 0, .int .i64 0, .int .i64 0, .bool false, .int .i64 0, .int .i64 0, .int .i64 0], .int .i64 188], [(639, [.int .i64 0, .int .i64 0, .int .i64 6, .int .i64 100, .int .i64 0, .int .i64 100, .bool false]), (855, [.int .i64 0, .int .i64 0, .int .i64 2, .int .i64 200, .int .i64 0, .int .i64 160, .bool true]), (1060, [.int .i64 1000, .slice none 0 0, .int .i64 1000, .slice none 0 0, .int .i64 1000, .slice (some ⟨855, 0, none⟩) 1 1, .int .i64 1000, .slice none 0 0, .int .i64 1000, .slice none 0 0, .int .i64 1000, .slice none 0 0, .int .i64 1000, .slice (some ⟨639, 7, none⟩) 0 18446744073709551623, .int .i64 1000, .slice none 0 0]), (1, [.int .i64 255, .int .i64 1])], .agg #[.slice (some ⟨1, 0, none⟩) 1 1, .int .i64 1, .int .i64 1, .int .i64 0, .int .i64 188, .slice (some ⟨1315, 0, none⟩) 8 8, .bool true, .int .i64 0, .int .i64 0, .int .i64 2, .int .i64 200, .int .i64 0, .int .i64 160, .bool true, .int .i64 188, .int .i64 348, .int .i64 0], [(1315, [.int .i64 1000, .slice none 0 0, .int .i64 1000, .slice none 0 0, .int .i64 1000, .slice (some ⟨855, 0, none⟩) 0 0, .int .i64 1000, .slice none 0 0, .int .i64 1000, .slice none 0 0, .int .i64 1000, .slice none 0 0, .int .i64 1000, .slice (some ⟨639, 7, none⟩) 0 18446744073709551623, .int .i64 1000, .slice none 0 0])], 1342⟩
theorem says5 : memoSays (evM Try.prog [m2] 400) m5 = true := by kernel_rfl
theorem ok5 : m5.Ok Try.prog := memo_of (evM_ok special (ms := [m2]) (by intro x hx; simp only [List.mem_cons, List.not_mem_nil, or_false] at hx; rcases hx with rfl <;> first | exact ok2) 400) says5
def m1 : Memo := ⟨52, 863, [.agg #[.slice (some ⟨1, 0, none⟩) 1 1, .int .i64 1, .int .i64 1, .int .i64 0, .int .i64 88, .slice (some ⟨834, 0, none⟩) 8 8, .bool false, .int .i64 0, .int .i64 0, .int .i64 0, .int .i64 0, .int .i64 0, .int .i64 0, .bool false, .int .i64 0, .int .i64 0, .int .i64 0]], [(639, [.int .i64 0, .int .i64 0, .int .i64 6, .int .i64 100, .int .i64 0, .int .i64 100, .bool false]), (855, [.int .i64 0, .int .i64 0, .int .i64 2, .int .i64 200, .int .i64 0, .int .i64 160, .bool true]), (834, [.int .i64 1000, .slice none 0 0, .int .i64 1000, .slice none 0 0, .int .i64 1000, .slice (some ⟨855, 0, none⟩) 1 1, .int .i64 1000, .slice none 0 0, .int .i64 1000, .slice none 0 0, .int .i64 1000, .slice none 0 0, .int .i64 1000, .slice (some ⟨639, 0, none⟩) 1 18446744073709551623, .int .i64 1000, .slice none 0 0]), (1, [.int .i64 255, .int .i64 1])], .slice (some ⟨864, 0, none⟩) 8 8, [(864, [.int .i64 0, .int .i64 0, .int .i64 0, .int .i64 0, .int .i64 0, .int .i64 0, .bool false, .int .i64 0, .int .i64 0, .int .i64 0, .int .i64 0, .int .i64 0, .int .i64 0, .bool false, .int .i64 0, .int .i64 0, .int .i64 2, .int .i64 200, .int .i64 0, .int .i64 160, .bool true, .int .i64 0, .int .i64 0, .int .i64 0, .int .i64 0, .int .i64 0, .int .i64 0, .bool false, .int .i64 0, .int .i64 0, .int .i64 0, .int .i64 0, .int .i64 0, .int .i64 0, .bool false, .int .i64 0, .int .i64 0, .int .i64 0, .int .i64 0, .int .i64 0, .int .i64 0, .bool false, .int .i64 0, .int .i64 0, .int .i64 6, .int .i64 100, .int .i64 0, .int .i64 100, .bool false, .int .i64 0, .int .i64 0, .int .i64 0, .int .i64 0, .int .i64 0, .int .i64 0, .bool false])], 994⟩
theorem says1 : memoSays (evM Try.prog [] 400) m1 = true := by kernel_rfl
theorem ok1 : m1.Ok Try.prog := memo_of (evM_ok special (ms := []) (fun _ h => by cases h) 400) says1
def m6 : Memo := ⟨41, 861, [.agg #[.slice (some ⟨1, 0, none⟩) 1 1, .int .i64 1, .int .i64 1, .int .i64 0, .int .i64 88, .slice (some ⟨834, 0, none⟩) 8 8, .bool false, .int .i64 0, .int .i64 0, .int .i64 0, .int .i64 0, .int .i64 0, .int .i64 0, .bool false, .int .i64 0, .int .i64 0, .int .i64 0], .int .i64 88], [(639, [.int .i64 0, .int .i64 0, .int .i64 6, .int .i64 100, .int .i64 0, .int .i64 100, .bool false]), (855, [.int .i64 0, .int .i64 0, .int .i64 2, .int .i64 200, .int .i64 0, .int .i64 160, .bool true]), (834, [.int .i64 1000, .slice none 0 0, .int .i64 1000, .slice none 0 0, .int .i64 1000, .slice (some ⟨855, 0, none⟩) 1 1, .int .i64 1000, .slice none 0 0, .int .i64 1000, .slice none 0 0, .int .i64 1000, .slice none 0 0, .int .i64 1000, .slice (some ⟨639, 0, none⟩) 1 18446744073709551623, .int .i64 1000, .slice none 0 0]), (1, [.int .i64 255, .int .i64 1])], .agg #[.slice (some ⟨1, 0, none⟩) 1 1, .int .i64 1, .int .i64 1, .int .i64 0, .int .i64 88, .slice (some ⟨1060, 0, none⟩) 8 8, .bool true, .int .i64 0, .int .i64 0, .int .i64 6, .int .i64 100, .int .i64 0, .int .i64 100, .bool false, .int .i64 88, .int .i64 188, .int .i64 0], [(1060, [.int .i64 1000, .slice none 0 0, .int .i64 1000, .slice none 0 0, .int .i64 1000, .slice (some ⟨855, 0, none⟩) 1 1, .int .i64 1000, .slice none 0 0, .int .i64 1000, .slice none 0 0, .int .i64 1000, .slice none 0 0, .int .i64 1000, .slice (some ⟨639, 7, none⟩) 0 18446744073709551623, .int .i64 1000, .slice none 0 0])], 1087⟩
theorem says6 : memoSays (evM Try.prog [m1] 400) m6 = true := by kernel_rfl
theorem ok6 : m6.Ok Try.prog := memo_of (evM_ok special (ms := [m1]) (by intro x hx; simp only [List.mem_cons, List.not_mem_nil, or_false] at hx; rcases hx with rfl <;> first | exact ok1) 400) says6
def m7 : Memo := ⟨36, 1537, [.agg #[.slice (some ⟨1, 0, none⟩) 1 1, .int .i64 1, .int .i64 1, .int .i64 0, .int .i64 348, .slice (some ⟨1315, 0, none⟩) 8 8, .bool false, .int .i64 0, .int .i64 0, .int .i64 0, .int .i64 0, .int .i64 0, .int .i64 0, .bool false, .int .i64 0, .int .i64 0, .int .i64 0]], [(639, [.int .i64 0, .int .i64 0, .int .i64 6, .int .i64 100, .int .i64 0, .int .i64 100, .bool false]), (855, [.int .i64 0, .int .i64 0, .int .i64 2, .int .i64 200, .int .i64 0, .int .i64 160, .bool true]), (1315, [.int .i64 1000, .slice none 0 0, .int .i64 1000, .slice none 0 0, .int .i64 1000, .slice (some ⟨855, 0, none⟩) 0 0, .int .i64 1000, .slice none 0 0, .int .i64 1000, .slice none 0 0, .int .i64 1000, .slice none 0 0, .int .i64 1000, .slice (some ⟨639, 7, none⟩) 0 18446744073709551623, .int .i64 1000, .slice none 0 0]), (1, [.int .i64 255, .int .i64 1])], .tuple #[.int .i64 0, .int .i64 4], [], 1694⟩
theorem says7 : memoSays (evM Try.prog [] 400) m7 = true := by kernel_rfl
theorem ok7 : m7.Ok Try.prog := memo_of (evM_ok special (ms := []) (fun _ h => by cases h) 400) says7
def m0 : Memo := ⟨58, 486, [.agg #[.slice (some ⟨1, 0, none⟩) 1 1, .int .i64 1, .int .i64 1, .int .i64 0], .slice (some ⟨364, 0, none⟩) 8 8, .int .i64 0], [(364, [.int .i64 0, .int .i64 0, .int .i64 0, .int .i64 0, .int .i64 0, .int .i64 0, .bool false, .int .i64 0, .int .i64 0, .int .i64 0, .int .i64 0, .int .i64 0, .int .i64 0, .bool false, .int .i64 0, .int .i64 0, .int .i64 2, .int .i64 200, .int .i64 0, .int .i64 200, .bool false, .int .i64 0, .int .i64 0, .int .i64 0, .int .i64 0, .int .i64 0, .int .i64 0, .bool false, .int .i64 0, .int .i64 0, .int .i64 0, .int .i64 0, .int .i64 0, .int .i64 0, .bool false, .int .i64 0, .int .i64 0, .int .i64 0, .int .i64 0, .int .i64 0, .int .i64 0, .bool false, .int .i64 0, .int .i64 0, .int .i64 0, .int .i64 0, .int .i64 0, .int .i64 0, .bool false, .int .i64 0, .int .i64 0, .int .i64 0, .int .i64 0, .int .i64 0, .int .i64 0, .bool false]), (1, [.int .i64 255, .int .i64 1])], .tuple #[.int .i64 2, .int .i64 0], [], 571⟩
theorem says0 : memoSays (evM Try.prog [] 400) m0 = true := by kernel_rfl
theorem ok0 : m0.Ok Try.prog := memo_of (evM_ok special (ms := []) (fun _ h => by cases h) 400) says0
def m8 : Memo := ⟨41, 361, [.agg #[.slice (some ⟨1, 0, none⟩) 1 1, .int .i64 1, .int .i64 1, .int .i64 0, .int .i64 0, .slice (some ⟨333, 0, none⟩) 8 8, .bool false, .int .i64 0, .int .i64 0, .int .i64 0, .int .i64 0, .int .i64 0, .int .i64 0, .bool false, .int .i64 0, .int .i64 0, .int .i64 0], .int .i64 0], [(358, [.int .i64 0, .int .i64 0, .int .i64 2, .int .i64 200, .int .i64 0, .int .i64 200, .bool false]), (333, [.int .i64 1000, .slice none 0 0, .int .i64 1000, .slice none 0 0, .int .i64 1000, .slice (some ⟨358, 0, none⟩) 1 18446744073709551623, .int .i64 1000, .slice none 0 0, .int .i64 1000, .slice none 0 0, .int .i64 1000, .slice none 0 0, .int .i64 1000, .slice none 0 0, .int .i64 1000, .slice none 0 0]), (1, [.int .i64 255, .int .i64 1])], .agg #[.slice (some ⟨1, 0, none⟩) 1 1, .int .i64 1, .int .i64 1, .int .i64 0, .int .i64 0, .slice (some ⟨577, 0, none⟩) 8 8, .bool true, .int .i64 0, .int .i64 0, .int .i64 2, .int .i64 200, .int .i64 0, .int .i64 200, .bool false, .int .i64 0, .int .i64 200, .int .i64 0], [(577, [.int .i64 1000, .slice none 0 0, .int .i64 1000, .slice none 0 0, .int .i64 1000, .slice (some ⟨358, 7, none⟩) 0 18446744073709551623, .int .i64 1000, .slice none 0 0, .int .i64 1000, .slice none 0 0, .int .i64 1000, .slice none 0 0, .int .i64 1000, .slice none 0 0, .int .i64 1000, .slice none 0 0])], 604⟩
theorem says8 : memoSays (evM Try.prog [m0] 400) m8 = true := by kernel_rfl
theorem ok8 : m8.Ok Try.prog := memo_of (evM_ok special (ms := [m0]) (by intro x hx; simp only [List.mem_cons, List.not_mem_nil, or_false] at hx; rcases hx with rfl <;> first | exact ok0) 400) says8
def m9 : Memo := ⟨36, 167, [.agg #[.slice (some ⟨1, 0, none⟩) 1 1, .int .i64 1, .int .i64 1, .int .i64 0, .int .i64 0, .slice (some ⟨12, 0, none⟩) 8 8, .bool false, .int .i64 0, .int .i64 0, .int .i64 0, .int .i64 0, .int .i64 0, .int .i64 0, .bool false, .int .i64 0, .int .i64 0, .int .i64 0]], [(12, [.int .i64 1000, .slice none 0 0, .int .i64 1000, .slice none 0 0, .int .i64 1000, .slice none 0 0, .int .i64 1000, .slice none 0 0, .int .i64 1000, .slice none 0 0, .int .i64 1000, .slice none 0 0, .int .i64 1000, .slice none 0 0, .int .i64 1000, .slice none 0 0]), (1, [.int .i64 255, .int .i64 1])], .tuple #[.int .i64 0, .int .i64 4], [], 324⟩
theorem says9 : memoSays (evM Try.prog [] 400) m9 = true := by kernel_rfl
theorem ok9 : m9.Ok Try.prog := memo_of (evM_ok special (ms := []) (fun _ h => by cases h) 400) says9
def m10 : Memo := ⟨12, 53, [.agg #[.slice (some ⟨1, 0, none⟩) 1 1, .int .i64 1, .int .i64 1, .int .i64 0, .int .i64 0, .slice (some ⟨12, 0, none⟩) 8 8, .bool false, .int .i64 0, .int .i64 0, .int .i64 0, .int .i64 0, .int .i64 0, .int .i64 0, .bool false, .int .i64 0, .int .i64 0, .int .i64 0]], [(12, [.int .i64 1000, .slice none 0 0, .int .i64 1000, .slice none 0 0, .int .i64 1000, .slice none 0 0, .int .i64 1000, .slice none 0 0, .int .i64 1000, .slice none 0 0, .int .i64 1000, .slice none 0 0, .int .i64 1000, .slice none 0 0, .int .i64 1000, .slice none 0 0]), (1, [.int .i64 255, .int .i64 1])], .int .i64 0, [], 153⟩
theorem says10 : memoSays (evM Try.prog [] 400) m10 = true := by kernel_rfl
theorem ok10 : m10.Ok Try.prog := memo_of (evM_ok special (ms := []) (fun _ h => by cases h) 400) says10
def m13 : Memo := ⟨16, 50, [.agg #[.slice (some ⟨1, 0, none⟩) 1 1, .int .i64 1, .int .i64 1, .int .i64 0, .int .i64 0, .slice (some ⟨12, 0, none⟩) 8 8, .bool false, .int .i64 0, .int .i64 0, .int .i64 0, .int .i64 0, .int .i64 0, .int .i64 0, .bool false, .int .i64 0, .int .i64 0, .int .i64 0], .slice (some ⟨49, 0, none⟩) 2 2, .int .i64 1000], [(49, [.int .i64 0, .int .i64 0, .int .i64 0, .int .i64 2, .int .i64 200, .int .i64 0, .int .i64 50, .int .i64 0, .int .i64 0, .int .i64 6, .int .i64 100, .int .i64 0]), (12, [.int .i64 1000, .slice none 0 0, .int .i64 1000, .slice none 0 0, .int .i64 1000, .slice none 0 0, .int .i64 1000, .slice none 0 0, .int .i64 1000, .slice none 0 0, .int .i64 1000, .slice none 0 0, .int .i64 1000, .slice none 0 0, .int .i64 1000, .slice none 0 0]), (1, [.int .i64 255, .int .i64 1])], .tuple #[.agg #[.slice (some ⟨1, 0, none⟩) 1 1, .int .i64 1, .int .i64 1, .int .i64 0, .int .i64 1000, .slice (some ⟨1315, 0, none⟩) 8 8, .bool false, .int .i64 0, .int .i64 0, .int .i64 0, .int .i64 0, .int .i64 0, .int .i64 0, .bool false, .int .i64 0, .int .i64 0, .int .i64 0], .slice (some ⟨1352, 0, none⟩) 2 18446744073709551622, .int .i64 0], [(1352, [.int .i64 188, .int .i64 0, .int .i64 0, .int .i64 6, .int .i64 100, .int .i64 0, .int .i64 348, .int .i64 0, .int .i64 0, .int .i64 2, .int .i64 200, .int .i64 0]), (1315, [.int .i64 1000, .slice none 0 0, .int .i64 1000, .slice none 0 0, .int .i64 1000, .slice (some ⟨855, 0, none⟩) 0 0, .int .i64 1000, .slice none 0 0, .int .i64 1000, .slice none 0 0, .int .i64 1000, .slice none 0 0, .int .i64 1000, .slice (some ⟨639, 7, none⟩) 0 18446744073709551623, .int .i64 1000, .slice none 0 0]), (855, [.int .i64 0, .int .i64 0, .int .i64 2, .int .i64 200, .int .i64 0, .int .i64 160, .bool true]), (639, [.int .i64 0, .int .i64 0, .int .i64 6, .int .i64 100, .int .i64 0, .int .i64 100, .bool false])], 1695⟩
theorem says13 : memoSays (evM Try.prog [m3, m4, m5, m6, m7, m8, m9, m10] 400) m13 = true := by kernel_rfl
theorem ok13 : m13.Ok Try.prog := memo_of (evM_ok special (ms := [m3, m4, m5, m6, m7, m8, m9, m10]) (by intro x hx; simp only [List.mem_cons, List.not_mem_nil, or_false] at hx; rcases hx with rfl | rfl | rfl | rfl | rfl | rfl | rfl | rfl <;> first | exact ok3 | exact ok4 | exact ok5 | exact ok6 | exact ok7 | exact ok8 | exact ok9 | exact ok10) 400) says13
def m14 : Memo := ⟨20, 1697, [.agg #[.slice (some ⟨1, 0, none⟩) 1 1, .int .i64 1, .int .i64 1, .int .i64 0, .int .i64 0, .slice (some ⟨12, 0, none⟩) 8 8, .bool false, .int .i64 0, .int .i64 0, .int .i64 0, .int .i64 0, .int .i64 0, .int .i64 0, .bool false, .int .i64 0, .int .i64 0, .int .i64 0], .int .i64 0, .agg #[.int .i64 0, .int .i64 0, .int .i64 2, .int .i64 200, .int .i64 0]], [(12, [.int .i64 1000, .slice none 0 0, .int .i64 1000, .slice none 0 0, .int .i64 1000, .slice none 0 0, .int .i64 1000, .slice none 0 0, .int .i64 1000, .slice none 0 0, .int .i64 1000, .slice none 0 0, .int .i64 1000, .slice none 0 0, .int .i64 1000, .slice none 0 0]), (1, [.int .i64 255, .int .i64 1])], .tuple #[.agg #[.slice (some ⟨1, 0, none⟩) 1 1, .int .i64 1, .int .i64 1, .int .i64 0, .int .i64 0, .slice (some ⟨1810, 0, none⟩) 8 8, .bool false, .int .i64 0, .int .i64 0, .int .i64 0, .int .i64 0, .int .i64 0, .int .i64 0, .bool false, .int .i64 0, .int .i64 0, .int .i64 0], .bool true, .int .i64 0], [(1835, [.int .i64 0, .int .i64 0, .int .i64 2, .int .i64 200, .int .i64 0, .int .i64 200, .bool false]), (1810, [.int .i64 1000, .slice none 0 0, .int .i64 1000, .slice none 0 0, .int .i64 1000, .slice (some ⟨1835, 0, none⟩) 1 18446744073709551623, .int .i64 1000, .slice none 0 0, .int .i64 1000, .slice none 0 0, .int .i64 1000, .slice none 0 0, .int .i64 1000, .slice none 0 0, .int .i64 1000, .slice none 0 0])], 1837⟩
theorem says14 : memoSays (evM Try.prog [] 400) m14 = true := by kernel_rfl
theorem ok14 : m14.Ok Try.prog := memo_of (evM_ok special (ms := []) (fun _ h => by cases h) 400) says14
def m23 : Memo := ⟨7, 0, [], [], .bool true, [], 2417⟩
theorem says23 : memoSays (evM Try.prog [m12, m13, m14] 400) m23 = true := by kernel_rfl
theorem ok23 : m23.Ok Try.prog := memo_of (evM_ok special (ms := [m12, m13, m14]) (by intro x hx; simp only [List.mem_cons, List.not_mem_nil, or_false] at hx; rcases hx with rfl | rfl | rfl <;> first | exact ok12 | exact ok13 | exact ok14) 400) says23
theorem wakes_0 : Memo.Ok Try.prog ⟨7, 0, [], [], .bool true, [], 0⟩ :=
  ⟨ok23.1, call_tidy ok23.2 rfl rfl rfl rfl rfl rfl⟩
theorem wakes_m (nx : Nat) : Memo.Ok Try.prog ⟨7, nx, [], [], .bool true, [], nx⟩ := memo_any wakes_0 nx (by kernel_rfl) rfl rfl
end Go.Proofs.Ytfpbgiaiifcnlaa.choose
/- Contracts: queue.New, port.New. -/
namespace Go.Proofs.Ytfpbgiaiifcnlaa.choose
open Go Go.En
set_option linter.unusedVariables false

def ic (D : List Int) : List Value := D.map (Value.int .i64)
theorem ic_av : ∀ D : List Int, avL (ic D) = true
  | [] => rfl
  | _ :: r => ic_av r
def qc (c : Int) : List Value := [.int .i64 c, .slice none 0 0]
abbrev qcs (l : List Int) : List Value := cellsOfL qc l
def qv (c : Int) : Value := .agg ⟨qc c⟩
theorem qcs_small {k m : Nat} : ∀ l : List Int, En.smallL (En.small k (m + 1)) (qcs l) = true
  | [] => rfl
  | a :: r => by
    have := qcs_small (k := k) (m := m) r
    simp only [qcs, cellsOfL, qc, List.cons_append, List.nil_append, En.smallL, En.small] at this ⊢
    simpa using this
def capOk (n : Int) : Bool := within n 0 65536
theorem qnew_0 (n : Int) {p : Bool} (h : capOk n = p) : Memo.Ok Try.prog ⟨26, 0, [.int .i64 n], [], .tuple #[qv (bif p then n else 0), .int .i64 (bif p then 0 else 2)], [], 0⟩ := by
  have m := within_m _ _ _ h 1
  cases p <;> exact memo_pure (hs := [(5, .call _)]) (ch := []) 1 (evk 50) special ⟨m, trivial⟩ trivial (by kernel_rfl) rfl (by kernel_rfl)
theorem qnew_m (n : Int) {p : Bool} (h : capOk n = p) (nx : Nat) : Memo.Ok Try.prog ⟨26, nx, [.int .i64 n], [], .tuple #[qv (bif p then n else 0), .int .i64 (bif p then 0 else 2)], [], nx⟩ := by
  cases p <;> exact memo_any (qnew_0 n h) nx (by kernel_rfl) rfl rfl
/-! ### port.New -/
def zp7 : List Value := [.int .i64 0, .int .i64 0, .int .i64 0, .int .i64 0, .int .i64 0, .int .i64 0, .bool false]
/-- A port that does nothing: its line and its queues. -/
def pcells (es : Value) (cyc per sh : Int) (qs : Value) : List Value := [es, .int .i64 cyc, .int .i64 per, .int .i64 sh, .int .i64 0, qs, .bool false] ++ zp7 ++ [.int .i64 0, .int .i64 0, .int .i64 0]
def pzero : List Value := pcells (.slice none 0 0) 0 0 0 (.slice none 0 0)
def T8 (c : Nat) (i : Nat) : List Value := mkT 45 0 [(2, pt 2), (4, pt 3), (7, .slice (some ⟨5, 0, none⟩) i 8), (23, .slice (some ⟨1, 0, none⟩) 8 c), (24, .int .i64 8), (25, .int .i64 i)]
def TX8 : List Value := mkT 45 0 [(2, pt 2), (4, pt 3), (7, .slice (some ⟨5, 0, none⟩) 8 8)]
def TR8 : List Value := mkT 45 0 [(4, pt 3), (5, .int .i64 2)]
def stg (C : List Int) (k : Nat) : List Int := C.take k ++ List.replicate (8 - k) 0
def H8 (lc : List Value) (ev : List Value) (C : List Int) (k : Nat) : Hp := [(5, .cells (qcs (stg C k)) false), (3, .cells pzero false), (2, .cells lc true), (0, .cells ev true), (1, .cells (ic C) true)]
section
variable {n c d : Nat} {cyc per sh : Int} {es : List Ent}
theorem H8_below (C : List Int) (k : Nat) : hpBelow 7 (H8 (lc n c cyc per sh) (ecs es) C k) = true := by
  have a0 : tidyB 7 (.cells (ecs es) true) = true := small_avL (ecs_av es)
  have a1 : tidyB 7 (.cells (ic C) true) = true := small_avL (ic_av C)
  have a2 : tidyB 7 (.cells (lc n c cyc per sh) true) = true := by simp [tidyB, lc, esl, En.smallL, En.small]
  have a3 : tidyB 7 (.cells pzero false) = true := by kernel_rfl
  have a4 : tidyB 7 (.cells (qcs (stg C k)) false) = true := qcs_small _
  simp only [H8, hpBelow, a0, a1, a2, a3, a4]
  rfl
theorem nw_0 (c0 c1 c2 c3 c4 c5 c6 c7 : Int) (h : capOk c0 = true) : CodeOk Try.prog none (lp Try.prog 8 8) (T8 d 0) [] (H8 (lc n c cyc per sh) (ecs es) [c0, c1, c2, c3, c4, c5, c6, c7] 0) 7 ⟨.normal, T8 d 1, [], H8 (lc n c cyc per sh) (ecs es) [c0, c1, c2, c3, c4, c5, c6, c7] 1, 7⟩ := by
  have m := qnew_m c0 h 7
  exact code_at (hs := [(31, .call _)]) (ch := []) (evk 50) special ⟨m, trivial⟩ trivial (by kernel_rfl) (H8_below _ _) (H8_below _ _) (by kernel_rfl)
theorem nb_0 (c0 c1 c2 c3 c4 c5 c6 c7 : Int) (h : capOk c0 = false) : CodeOk Try.prog none (lp Try.prog 8 8) (T8 d 0) [] (H8 (lc n c cyc per sh) (ecs es) [c0, c1, c2, c3, c4, c5, c6, c7] 0) 7 ⟨.ret, TR8, [], H8 (lc n c cyc per sh) (ecs es) [c0, c1, c2, c3, c4, c5, c6, c7] 0, 7⟩ := by
  have m := qnew_m c0 h 7
  exact code_at (hs := [(31, .call _)]) (ch := []) (evk 50) special ⟨m, trivial⟩ trivial (by kernel_rfl) (H8_below _ _) (H8_below _ _) (by kernel_rfl)
theorem nw_1 (c0 c1 c2 c3 c4 c5 c6 c7 : Int) (h : capOk c1 = true) : CodeOk Try.prog none (lp Try.prog 8 8) (T8 d 1) [] (H8 (lc n c cyc per sh) (ecs es) [c0, c1, c2, c3, c4, c5, c6, c7] 1) 7 ⟨.normal, T8 d 2, [], H8 (lc n c cyc per sh) (ecs es) [c0, c1, c2, c3, c4, c5, c6, c7] 2, 7⟩ := by
  have m := qnew_m c1 h 7
  exact code_at (hs := [(31, .call _)]) (ch := []) (evk 50) special ⟨m, trivial⟩ trivial (by kernel_rfl) (H8_below _ _) (H8_below _ _) (by kernel_rfl)
theorem nb_1 (c0 c1 c2 c3 c4 c5 c6 c7 : Int) (h : capOk c1 = false) : CodeOk Try.prog none (lp Try.prog 8 8) (T8 d 1) [] (H8 (lc n c cyc per sh) (ecs es) [c0, c1, c2, c3, c4, c5, c6, c7] 1) 7 ⟨.ret, TR8, [], H8 (lc n c cyc per sh) (ecs es) [c0, c1, c2, c3, c4, c5, c6, c7] 1, 7⟩ := by
  have m := qnew_m c1 h 7
  exact code_at (hs := [(31, .call _)]) (ch := []) (evk 50) special ⟨m, trivial⟩ trivial (by kernel_rfl) (H8_below _ _) (H8_below _ _) (by kernel_rfl)
theorem nw_2 (c0 c1 c2 c3 c4 c5 c6 c7 : Int) (h : capOk c2 = true) : CodeOk Try.prog none (lp Try.prog 8 8) (T8 d 2) [] (H8 (lc n c cyc per sh) (ecs es) [c0, c1, c2, c3, c4, c5, c6, c7] 2) 7 ⟨.normal, T8 d 3, [], H8 (lc n c cyc per sh) (ecs es) [c0, c1, c2, c3, c4, c5, c6, c7] 3, 7⟩ := by
  have m := qnew_m c2 h 7
  exact code_at (hs := [(31, .call _)]) (ch := []) (evk 50) special ⟨m, trivial⟩ trivial (by kernel_rfl) (H8_below _ _) (H8_below _ _) (by kernel_rfl)
theorem nb_2 (c0 c1 c2 c3 c4 c5 c6 c7 : Int) (h : capOk c2 = false) : CodeOk Try.prog none (lp Try.prog 8 8) (T8 d 2) [] (H8 (lc n c cyc per sh) (ecs es) [c0, c1, c2, c3, c4, c5, c6, c7] 2) 7 ⟨.ret, TR8, [], H8 (lc n c cyc per sh) (ecs es) [c0, c1, c2, c3, c4, c5, c6, c7] 2, 7⟩ := by
  have m := qnew_m c2 h 7
  exact code_at (hs := [(31, .call _)]) (ch := []) (evk 50) special ⟨m, trivial⟩ trivial (by kernel_rfl) (H8_below _ _) (H8_below _ _) (by kernel_rfl)
theorem nw_3 (c0 c1 c2 c3 c4 c5 c6 c7 : Int) (h : capOk c3 = true) : CodeOk Try.prog none (lp Try.prog 8 8) (T8 d 3) [] (H8 (lc n c cyc per sh) (ecs es) [c0, c1, c2, c3, c4, c5, c6, c7] 3) 7 ⟨.normal, T8 d 4, [], H8 (lc n c cyc per sh) (ecs es) [c0, c1, c2, c3, c4, c5, c6, c7] 4, 7⟩ := by
  have m := qnew_m c3 h 7
  exact code_at (hs := [(31, .call _)]) (ch := []) (evk 50) special ⟨m, trivial⟩ trivial (by kernel_rfl) (H8_below _ _) (H8_below _ _) (by kernel_rfl)
theorem nb_3 (c0 c1 c2 c3 c4 c5 c6 c7 : Int) (h : capOk c3 = false) : CodeOk Try.prog none (lp Try.prog 8 8) (T8 d 3) [] (H8 (lc n c cyc per sh) (ecs es) [c0, c1, c2, c3, c4, c5, c6, c7] 3) 7 ⟨.ret, TR8, [], H8 (lc n c cyc per sh) (ecs es) [c0, c1, c2, c3, c4, c5, c6, c7] 3, 7⟩ := by
  have m := qnew_m c3 h 7
  exact code_at (hs := [(31, .call _)]) (ch := []) (evk 50) special ⟨m, trivial⟩ trivial (by kernel_rfl) (H8_below _ _) (H8_below _ _) (by kernel_rfl)
theorem nw_4 (c0 c1 c2 c3 c4 c5 c6 c7 : Int) (h : capOk c4 = true) : CodeOk Try.prog none (lp Try.prog 8 8) (T8 d 4) [] (H8 (lc n c cyc per sh) (ecs es) [c0, c1, c2, c3, c4, c5, c6, c7] 4) 7 ⟨.normal, T8 d 5, [], H8 (lc n c cyc per sh) (ecs es) [c0, c1, c2, c3, c4, c5, c6, c7] 5, 7⟩ := by
  have m := qnew_m c4 h 7
  exact code_at (hs := [(31, .call _)]) (ch := []) (evk 50) special ⟨m, trivial⟩ trivial (by kernel_rfl) (H8_below _ _) (H8_below _ _) (by kernel_rfl)
theorem nb_4 (c0 c1 c2 c3 c4 c5 c6 c7 : Int) (h : capOk c4 = false) : CodeOk Try.prog none (lp Try.prog 8 8) (T8 d 4) [] (H8 (lc n c cyc per sh) (ecs es) [c0, c1, c2, c3, c4, c5, c6, c7] 4) 7 ⟨.ret, TR8, [], H8 (lc n c cyc per sh) (ecs es) [c0, c1, c2, c3, c4, c5, c6, c7] 4, 7⟩ := by
  have m := qnew_m c4 h 7
  exact code_at (hs := [(31, .call _)]) (ch := []) (evk 50) special ⟨m, trivial⟩ trivial (by kernel_rfl) (H8_below _ _) (H8_below _ _) (by kernel_rfl)
theorem nw_5 (c0 c1 c2 c3 c4 c5 c6 c7 : Int) (h : capOk c5 = true) : CodeOk Try.prog none (lp Try.prog 8 8) (T8 d 5) [] (H8 (lc n c cyc per sh) (ecs es) [c0, c1, c2, c3, c4, c5, c6, c7] 5) 7 ⟨.normal, T8 d 6, [], H8 (lc n c cyc per sh) (ecs es) [c0, c1, c2, c3, c4, c5, c6, c7] 6, 7⟩ := by
  have m := qnew_m c5 h 7
  exact code_at (hs := [(31, .call _)]) (ch := []) (evk 50) special ⟨m, trivial⟩ trivial (by kernel_rfl) (H8_below _ _) (H8_below _ _) (by kernel_rfl)
theorem nb_5 (c0 c1 c2 c3 c4 c5 c6 c7 : Int) (h : capOk c5 = false) : CodeOk Try.prog none (lp Try.prog 8 8) (T8 d 5) [] (H8 (lc n c cyc per sh) (ecs es) [c0, c1, c2, c3, c4, c5, c6, c7] 5) 7 ⟨.ret, TR8, [], H8 (lc n c cyc per sh) (ecs es) [c0, c1, c2, c3, c4, c5, c6, c7] 5, 7⟩ := by
  have m := qnew_m c5 h 7
  exact code_at (hs := [(31, .call _)]) (ch := []) (evk 50) special ⟨m, trivial⟩ trivial (by kernel_rfl) (H8_below _ _) (H8_below _ _) (by kernel_rfl)
theorem nw_6 (c0 c1 c2 c3 c4 c5 c6 c7 : Int) (h : capOk c6 = true) : CodeOk Try.prog none (lp Try.prog 8 8) (T8 d 6) [] (H8 (lc n c cyc per sh) (ecs es) [c0, c1, c2, c3, c4, c5, c6, c7] 6) 7 ⟨.normal, T8 d 7, [], H8 (lc n c cyc per sh) (ecs es) [c0, c1, c2, c3, c4, c5, c6, c7] 7, 7⟩ := by
  have m := qnew_m c6 h 7
  exact code_at (hs := [(31, .call _)]) (ch := []) (evk 50) special ⟨m, trivial⟩ trivial (by kernel_rfl) (H8_below _ _) (H8_below _ _) (by kernel_rfl)
theorem nb_6 (c0 c1 c2 c3 c4 c5 c6 c7 : Int) (h : capOk c6 = false) : CodeOk Try.prog none (lp Try.prog 8 8) (T8 d 6) [] (H8 (lc n c cyc per sh) (ecs es) [c0, c1, c2, c3, c4, c5, c6, c7] 6) 7 ⟨.ret, TR8, [], H8 (lc n c cyc per sh) (ecs es) [c0, c1, c2, c3, c4, c5, c6, c7] 6, 7⟩ := by
  have m := qnew_m c6 h 7
  exact code_at (hs := [(31, .call _)]) (ch := []) (evk 50) special ⟨m, trivial⟩ trivial (by kernel_rfl) (H8_below _ _) (H8_below _ _) (by kernel_rfl)
theorem nw_7 (c0 c1 c2 c3 c4 c5 c6 c7 : Int) (h : capOk c7 = true) : CodeOk Try.prog none (lp Try.prog 8 8) (T8 d 7) [] (H8 (lc n c cyc per sh) (ecs es) [c0, c1, c2, c3, c4, c5, c6, c7] 7) 7 ⟨.normal, T8 d 8, [], H8 (lc n c cyc per sh) (ecs es) [c0, c1, c2, c3, c4, c5, c6, c7] 8, 7⟩ := by
  have m := qnew_m c7 h 7
  exact code_at (hs := [(31, .call _)]) (ch := []) (evk 50) special ⟨m, trivial⟩ trivial (by kernel_rfl) (H8_below _ _) (H8_below _ _) (by kernel_rfl)
theorem nb_7 (c0 c1 c2 c3 c4 c5 c6 c7 : Int) (h : capOk c7 = false) : CodeOk Try.prog none (lp Try.prog 8 8) (T8 d 7) [] (H8 (lc n c cyc per sh) (ecs es) [c0, c1, c2, c3, c4, c5, c6, c7] 7) 7 ⟨.ret, TR8, [], H8 (lc n c cyc per sh) (ecs es) [c0, c1, c2, c3, c4, c5, c6, c7] 7, 7⟩ := by
  have m := qnew_m c7 h 7
  exact code_at (hs := [(31, .call _)]) (ch := []) (evk 50) special ⟨m, trivial⟩ trivial (by kernel_rfl) (H8_below _ _) (H8_below _ _) (by kernel_rfl)
theorem nw_out (c0 c1 c2 c3 c4 c5 c6 c7 : Int) : CodeOk Try.prog none (lp Try.prog 8 8) (T8 d 8) [] (H8 (lc n c cyc per sh) (ecs es) [c0, c1, c2, c3, c4, c5, c6, c7] 8) 7 ⟨.exit 0, TX8, [], H8 (lc n c cyc per sh) (ecs es) [c0, c1, c2, c3, c4, c5, c6, c7] 8, 7⟩ :=
  code_at (hs := []) (ch := []) (evk 50) special trivial trivial (by kernel_rfl) (H8_below _ _) (H8_below _ _) (by kernel_rfl)
def fbad : List Int → Nat → Option Nat
  | [], _ => none
  | x :: r, i => bif capOk x then fbad r (i + 1) else some i
def F8 (lcv ev : List Value) (C : List Int) : Option Nat → Res
  | none => ⟨.exit 0, TX8, [], H8 lcv ev C 8, 7⟩
  | some i => ⟨.ret, TR8, [], H8 lcv ev C i, 7⟩
theorem nw_loop (c0 c1 c2 c3 c4 c5 c6 c7 : Int) : LoopOk Try.prog none (lp Try.prog 8 8) (T8 d 0) [] (H8 (lc n c cyc per sh) (ecs es) [c0, c1, c2, c3, c4, c5, c6, c7] 0) 7 (F8 (lc n c cyc per sh) (ecs es) [c0, c1, c2, c3, c4, c5, c6, c7] (fbad [c0, c1, c2, c3, c4, c5, c6, c7] 0)) := by
  simp only [fbad]
  cases h0 : capOk c0 with
  | false => exact loopOk_out (nb_0 c0 c1 c2 c3 c4 c5 c6 c7 h0) (by show Exit.ret ≠ Exit.normal; simp)
  | true =>
    refine loop_step (nw_0 c0 c1 c2 c3 c4 c5 c6 c7 h0) ?_
    cases h1 : capOk c1 with
    | false => exact loopOk_out (nb_1 c0 c1 c2 c3 c4 c5 c6 c7 h1) (by show Exit.ret ≠ Exit.normal; simp)
    | true =>
      refine loop_step (nw_1 c0 c1 c2 c3 c4 c5 c6 c7 h1) ?_
      cases h2 : capOk c2 with
      | false => exact loopOk_out (nb_2 c0 c1 c2 c3 c4 c5 c6 c7 h2) (by show Exit.ret ≠ Exit.normal; simp)
      | true =>
        refine loop_step (nw_2 c0 c1 c2 c3 c4 c5 c6 c7 h2) ?_
        cases h3 : capOk c3 with
        | false => exact loopOk_out (nb_3 c0 c1 c2 c3 c4 c5 c6 c7 h3) (by show Exit.ret ≠ Exit.normal; simp)
        | true =>
          refine loop_step (nw_3 c0 c1 c2 c3 c4 c5 c6 c7 h3) ?_
          cases h4 : capOk c4 with
          | false => exact loopOk_out (nb_4 c0 c1 c2 c3 c4 c5 c6 c7 h4) (by show Exit.ret ≠ Exit.normal; simp)
          | true =>
            refine loop_step (nw_4 c0 c1 c2 c3 c4 c5 c6 c7 h4) ?_
            cases h5 : capOk c5 with
            | false => exact loopOk_out (nb_5 c0 c1 c2 c3 c4 c5 c6 c7 h5) (by show Exit.ret ≠ Exit.normal; simp)
            | true =>
              refine loop_step (nw_5 c0 c1 c2 c3 c4 c5 c6 c7 h5) ?_
              cases h6 : capOk c6 with
              | false => exact loopOk_out (nb_6 c0 c1 c2 c3 c4 c5 c6 c7 h6) (by show Exit.ret ≠ Exit.normal; simp)
              | true =>
                refine loop_step (nw_6 c0 c1 c2 c3 c4 c5 c6 c7 h6) ?_
                cases h7 : capOk c7 with
                | false => exact loopOk_out (nb_7 c0 c1 c2 c3 c4 c5 c6 c7 h7) (by show Exit.ret ≠ Exit.normal; simp)
                | true =>
                  refine loop_step (nw_7 c0 c1 c2 c3 c4 c5 c6 c7 h7) ?_
                  exact loopOk_out (nw_out c0 c1 c2 c3 c4 c5 c6 c7) (by show Exit.exit 0 ≠ Exit.normal; simp)
end
section
variable {es : List Ent} {c d : Nat} {cyc per sh : Int}
theorem mk29 : Hint.Ok Try.prog (.frz) := trivial
def newV (b : Nat) (n c : Nat) (cyc per sh : Int) : Option Nat → Value
  | none => .tuple #[.agg ⟨pcells (esl n c) cyc per sh (.slice (some ⟨b, 0, none⟩) 8 8)⟩, .int .i64 0]
  | some _ => .tuple #[.agg ⟨pzero⟩, .int .i64 2]
def newB (b : Nat) (C : List Int) : Option Nat → List (Nat × List Value)
  | none => [(b, qcs C)]
  | some _ => []
theorem new_0 (hn : es.length ≤ 1000) (hl : lineS (chkG es cyc) per sh = true) (c0 c1 c2 c3 c4 c5 c6 c7 : Int) {g : Option Nat} (hg : fbad [c0, c1, c2, c3, c4, c5, c6, c7] 0 = g) :
    Memo.Ok Try.prog ⟨8, 2, [lv es.length c cyc per sh, .slice (some ⟨1, 0, none⟩) 8 d], [(0, ecs es), (1, ic [c0, c1, c2, c3, c4, c5, c6, c7])], newV 5 es.length c cyc per sh g, newB 5 [c0, c1, c2, c3, c4, c5, c6, c7] g, 7⟩ := by
  have ml := line_m (c := c) hn hl 4
  have hlo := nw_loop (n := es.length) (c := c) (d := d) (cyc := cyc) (per := per) (sh := sh) (es := es) c0 c1 c2 c3 c4 c5 c6 c7
  rw [hg] at hlo
  cases g <;> exact memo_new (hs := [(2, .frz), (13, .call _)]) (ch := [⟨8, none, .loop (lp Try.prog 8 8), T8 d 0, [], H8 (lc es.length c cyc per sh) (ecs es) [c0, c1, c2, c3, c4, c5, c6, c7] 0, 7, _, true⟩]) (evk 50) special ⟨trivial, ml, trivial⟩ ⟨codeOk_loop hlo, trivial⟩ (by kernel_rfl)
end
end Go.Proofs.Ytfpbgiaiifcnlaa.choose
/- Contracts: port.New where it fails; failed; Same, Check of a port that does nothing. -/
namespace Go.Proofs.Ytfpbgiaiifcnlaa.choose
open Go Go.En
set_option linter.unusedVariables false

theorem newE_0 {es : List Ent} {c m d : Nat} {cyc per sh : Int} (hn : es.length ≤ 1000) (hl : lineS (chkG es cyc) per sh = false) :
    Memo.Ok Try.prog ⟨8, 2, [lv es.length c cyc per sh, .slice (some ⟨1, 0, none⟩) m d], [(0, ecs es)], .tuple #[.agg ⟨pzero⟩, .int .i64 471], [], 2⟩ := by
  have ml := line_m (c := c) hn hl 4
  have hS : En.smallH 2 [(0, ecs es)] = true := by simp [En.smallH, small_avL (ecs_av es)]
  exact memo_pure (hs := [(2, .frz), (13, .call _)]) (ch := []) 4 (evk 50) special ⟨trivial, ml, trivial⟩ trivial (by kernel_rfl) hS (by kernel_rfl)
theorem newL_0 {es : List Ent} {c m d : Nat} {cyc per sh : Int} (hn : es.length ≤ 1000) (hl : lineS (chkG es cyc) per sh = true) (hm : ((m : Int) != 8) = true) :
    Memo.Ok Try.prog ⟨8, 2, [lv es.length c cyc per sh, .slice (some ⟨1, 0, none⟩) m d], [(0, ecs es)], .tuple #[.agg ⟨pzero⟩, .int .i64 2], [], 2⟩ := by
  have ml := line_m (c := c) hn hl 4
  have hS : En.smallH 2 [(0, ecs es)] = true := by simp [En.smallH, small_avL (ecs_av es)]
  exact memo_pure (hs := [(2, .frz), (13, .call _), (20, .val (.bool ((m : Int) != 8)) (.bool true))]) (ch := []) 5 (evk 50) special ⟨trivial, ml, congrArg Value.bool hm, trivial⟩ trivial (by kernel_rfl) hS (by kernel_rfl)
/-- The entries stay at block 0, what else is named moves to b. -/
theorem mvE {es : List Ent} {f : FuncId} {args args' : List Value} {v : Value} (h : Memo.Ok Try.prog ⟨f, 2, args, [(0, ecs es)], v, [], 2⟩) (b nx : Nat) (hc : (En.smallL (En.small 2 5) args && En.small 2 5 v) = true)
    (h1 : args.map (renV (shift (ρ1 b) 2 nx) 5) = args') (h2 : renV (shift (ρ1 b) 2 nx) 5 v = v) : Memo.Ok Try.prog ⟨f, nx, args', [(0, ecs es)], v, [], nx⟩ := by
  simp only [Bool.and_eq_true] at hc
  have hb : below 2 [(0, ecs es)] = true := by kernel_rfl
  have := memo_ren h (ρ1 b) nx [(0, ecs es)] (by simp only [hc.1, hc.2, hb, inNew, Bool.and_self]) (by simp [En.smallH, small_avL (ecs_av es)]) rfl (fun x cs hx => by
    by_cases h0 : 0 = x
    · subst h0
      simp [roHp, Hp.get, ρ1] at hx ⊢
      subst hx
      exact (renV_avL (ecs_av es)).symm
    · simp [roHp, Hp.get, h0] at hx)
  simpa [h1, h2, renH] using this
theorem newE_m {es : List Ent} {c : Nat} (m d : Nat) {cyc per sh : Int} (hn : es.length ≤ 1000) (hl : lineS (chkG es cyc) per sh = false) (b nx : Nat) :
    Memo.Ok Try.prog ⟨8, nx, [lv es.length c cyc per sh, .slice (some ⟨b, 0, none⟩) m d], [(0, ecs es)], .tuple #[.agg ⟨pzero⟩, .int .i64 471], [], nx⟩ :=
  mvE (newE_0 hn hl) b nx (by kernel_rfl) rfl rfl
theorem newL_m {es : List Ent} {c m d : Nat} {cyc per sh : Int} (hn : es.length ≤ 1000) (hl : lineS (chkG es cyc) per sh = true) (hm : ((m : Int) != 8) = true) (b nx : Nat) :
    Memo.Ok Try.prog ⟨8, nx, [lv es.length c cyc per sh, .slice (some ⟨b, 0, none⟩) m d], [(0, ecs es)], .tuple #[.agg ⟨pzero⟩, .int .i64 2], [], nx⟩ :=
  mvE (newL_0 hn hl hm) b nx (by kernel_rfl) rfl rfl
theorem newN (c m d : Nat) (cyc per sh : Int) (b nx : Nat) : Memo.Ok Try.prog ⟨8, nx, [lvN c cyc per sh, .slice (some ⟨b, 0, none⟩) m d], [], .tuple #[.agg ⟨pzero⟩, .int .i64 471], [], nx⟩ := by
  have ml := lineN_m c cyc per sh 3
  have : Memo.Ok Try.prog ⟨8, 1, [lvN c cyc per sh, .slice (some ⟨0, 0, none⟩) m d], [], .tuple #[.agg ⟨pzero⟩, .int .i64 471], [], 1⟩ :=
    memo_pure (hs := [(2, .frz), (13, .call _)]) (ch := []) 3 (evk 50) special ⟨trivial, ml, trivial⟩ trivial (by kernel_rfl) rfl (by kernel_rfl)
  exact memo_no this b nx (by kernel_rfl) rfl rfl
theorem failed_0 {e : Int} (he : e = 471 ∨ e = 2) : Memo.Ok Try.prog ⟨10, 0, [.agg ⟨pzero⟩, .int .i64 e, .int .i64 e], [], .bool true, [], 0⟩ := by
  rcases he with rfl | rfl <;> exact memo_pure (hs := []) (ch := []) 9 (evk 100) special trivial trivial (by kernel_rfl) rfl (by kernel_rfl)
theorem failed_m {e : Int} (he : e = 471 ∨ e = 2) (nx : Nat) : Memo.Ok Try.prog ⟨10, nx, [.agg ⟨pzero⟩, .int .i64 e, .int .i64 e], [], .bool true, [], nx⟩ :=
  memo_any (failed_0 he) nx (by kernel_rfl) rfl rfl
/-! ### Same -/
theorem sameq_0 (c : Int) : Memo.Ok Try.prog ⟨46, 0, [qv c, qv c], [], .bool true, [], 0⟩ := by
  have h : (c != c) = false := by simp
  exact memo_pure (hs := [(10, .val (.bool (c != c)) (.bool false))]) (ch := []) 5 (evk 50) special ⟨congrArg Value.bool h, trivial⟩ trivial (by kernel_rfl) rfl (by kernel_rfl)
theorem sameq_m (c : Int) (nx : Nat) : Memo.Ok Try.prog ⟨46, nx, [qv c, qv c], [], .bool true, [], nx⟩ := memo_any (sameq_0 c) nx (by kernel_rfl) rfl rfl
theorem eql_ent (p : Ent) (xo yo : Operand) : doBin Try.prog .neq 65 xo yo p.v p.v = some (.bool false) := by
  have h : doBin Try.prog .neq 65 xo yo p.v p.v = some (.bool (!((p.mask == p.mask) && ((p.long == p.long) && true)))) := (bin_eql (by kernel_rfl) (by kernel_rfl) (by kernel_rfl) (by kernel_rfl) xo yo).2
  rw [h]; simp
def pA (es : Value) (cyc per sh : Int) (b d : Nat) : List Value := pcells es cyc per sh (.slice (some ⟨b, 0, none⟩) 8 d)
def V28 (es : List Ent) (C : List Int) : List (Nat × List Value) := [(0, ecs es), (1, qcs C), (2, qcs C)]
def H28 (es : List Ent) (c : Nat) (cyc per sh : Int) (C : List Int) (d e : Nat) : Hp := [(4, .cells (pA (esl es.length c) cyc per sh 2 e) true), (3, .cells (pA (esl es.length c) cyc per sh 1 d) true)] ++ roHp (V28 es C)
theorem H28_below {es : List Ent} {c : Nat} {cyc per sh : Int} {C : List Int} {d e n : Nat} (hn : 5 ≤ n) : hpBelow n (H28 es c cyc per sh C d e) = true := by
  have a0 : tidyB n (.cells (ecs es) true) = true := small_avL (ecs_av es)
  have a1 : tidyB n (.cells (qcs C) true) = true := qcs_small C
  have a2 : tidyB n (.cells (pA (esl es.length c) cyc per sh 2 e) true) = true := by
    simp [tidyB, pA, pcells, zp7, esl, En.smallL, En.small]; omega
  have a3 : tidyB n (.cells (pA (esl es.length c) cyc per sh 1 d) true) = true := by
    simp [tidyB, pA, pcells, zp7, esl, En.smallL, En.small]; omega
  simp only [H28, V28, roHp, List.cons_append, List.nil_append, hpBelow, a0, a1, a2, a3]
  simp; omega
def T28 (i : Int) : List Value := mkT 139 0 [(2, pt 3), (3, pt 4), (5, .int .i64 i)]
def U28 (i : Int) : List Value := mkT 139 0 [(2, pt 3), (3, pt 4), (6, .int .i64 i)]
def TX28 : List Value := mkT 139 0 [(2, pt 3), (3, pt 4)]
theorem u29 : Try.prog.underlying 29 = some (.slice 43) := by kernel_rfl
theorem z43 : szIs Try.prog 43 2 true = true := by kernel_rfl
theorem ix29 {b n c i : Nat} (h : i < n) : doIndexAddr Try.prog 29 (.slice (some ⟨b, 0, none⟩) n c) (.int .i64 i) = some (.pointer (some ⟨b, 0 + i * 2, none⟩)) := Sl.ix' (.inr rfl) u29 z43 h
theorem ld43 {b i : Nat} {C : List Int} {x : Int} {ro : Bool} (h : C[i]? = some x) : doLoad Try.prog [(b, .cells (qcs C) ro)] 43 (.pointer (some ⟨b, 0 + i * 2, none⟩)) = some (qv x) := ldN z43 rfl (cellsOfL_get (f := qc) (s := 2) (fun _ => rfl) h)
section
variable {es : List Ent} {c d e : Nat} {cyc per sh : Int} {C : List Int}
theorem sa_go {i : Nat} (hi : i < es.length) : CodeOk Try.prog none (lp Try.prog 28 4) (T28 i) [] (H28 es c cyc per sh C d e) 9 ⟨.normal, T28 (W (i + 1)), [], H28 es c cyc per sh C d e, 9⟩ := by
  have hd : decide ((i : Int) < es.length) = true := decide_eq_true (by omega)
  have l1 := ld59 (ro := true) (at_some hi)
  have b1 := fun xo yo => eql_ent (es.getD i ⟨0, 0⟩) xo yo
  generalize es.getD i ⟨0, 0⟩ = x at l1 b1
  obtain ⟨m, g⟩ := x
  exact code_at (hs := [(62, .val (.bool (decide ((i : Int) < es.length))) (.bool true)), (70, .ix 22 (esl es.length c) (.int .i64 i) _), (71, .ld 65 _ 0 (ecs es) true _), (77, .ix 22 (esl es.length c) (.int .i64 i) _), (78, .ld 65 _ 0 (ecs es) true _), (79, .bin .neq 65 _ _ _)]) (ch := []) (evk 50) special
    ⟨congrArg Value.bool hd, ix22 hi, ⟨l1, _, rfl⟩, ix22 hi, ⟨l1, _, rfl⟩, b1, trivial⟩ trivial (by kernel_rfl) (H28_below (by omega)) (H28_below (by omega)) (by kernel_rfl)
theorem sa_out : CodeOk Try.prog none (lp Try.prog 28 4) (T28 es.length) [] (H28 es c cyc per sh C d e) 9 ⟨.exit 0, TX28, [], H28 es c cyc per sh C d e, 9⟩ := by
  have hd : decide ((es.length : Int) < es.length) = false := decide_eq_false (by omega)
  exact code_at (hs := [(62, .val (.bool (decide ((es.length : Int) < es.length))) (.bool false))]) (ch := []) (evk 50) special ⟨congrArg Value.bool hd, trivial⟩ trivial (by kernel_rfl) (H28_below (by omega)) (H28_below (by omega)) (by kernel_rfl)
theorem sa_loop (hn : es.length ≤ 1000) : ∀ (r i : Nat), i + r = es.length → LoopOk Try.prog none (lp Try.prog 28 4) (T28 i) [] (H28 es c cyc per sh C d e) 9 ⟨.exit 0, TX28, [], H28 es c cyc per sh C d e, 9⟩
  | 0, i, h => by
    have : i = es.length := by omega
    subst this
    exact loopOk_out sa_out (by show Exit.exit 0 ≠ Exit.normal; simp)
  | r + 1, i, h => by
    have h1 := sa_go (c := c) (d := d) (e := e) (cyc := cyc) (per := per) (sh := sh) (C := C) (es := es) (i := i) (by omega)
    rw [show (i : Int) + 1 = ((i + 1 : Nat) : Int) by push_cast; rfl, show W ((i + 1 : Nat) : Int) = ((i + 1 : Nat) : Int) from wrap_nat (by omega)] at h1
    exact loop_step h1 (sa_loop hn r (i + 1) (by omega))
termination_by r => r
theorem c_at {i : Nat} (h : i < C.length) : C[i]? = some (C.getD i 0) := by
  rw [List.getD_eq_getElem?_getD, List.getElem?_eq_getElem h]; rfl
theorem sb_go (h8 : C.length = 8) {i : Nat} (hi : i < 8) : CodeOk Try.prog none (lp Try.prog 28 9) (U28 i) [] (H28 es c cyc per sh C d e) 9 ⟨.normal, U28 (W (i + 1)), [], H28 es c cyc per sh C d e, 9⟩ := by
  have hd : decide ((i : Int) < 8) = true := decide_eq_true (by omega)
  have l1 := ld43 (b := 1) (ro := true) (c_at (C := C) (i := i) (by omega))
  have l2 := ld43 (b := 2) (ro := true) (c_at (C := C) (i := i) (by omega))
  have ms := sameq_m (C.getD i 0) 10
  generalize C.getD i 0 = x at l1 l2 ms
  exact code_at (hs := [(84, .val (.bool (decide ((i : Int) < 8))) (.bool true)), (90, .ix 29 (.slice (some ⟨1, 0, none⟩) 8 d) (.int .i64 i) _), (91, .ld 43 _ 1 (qcs C) true _), (95, .ix 29 (.slice (some ⟨2, 0, none⟩) 8 e) (.int .i64 i) _), (96, .ld 43 _ 2 (qcs C) true _), (97, .call _)]) (ch := []) (evk 50) special
    ⟨congrArg Value.bool hd, ix29 hi, ⟨l1, _, rfl⟩, ix29 hi, ⟨l2, _, rfl⟩, ms, trivial⟩ trivial (by kernel_rfl) (H28_below (by omega)) (H28_below (by omega)) (by kernel_rfl)
theorem sb_out : CodeOk Try.prog none (lp Try.prog 28 9) (U28 8) [] (H28 es c cyc per sh C d e) 9 ⟨.exit 2, TX28, [], H28 es c cyc per sh C d e, 9⟩ :=
  code_at (hs := []) (ch := []) (evk 50) special trivial trivial (by kernel_rfl) (H28_below (by omega)) (H28_below (by omega)) (by kernel_rfl)
theorem sb_loop (h8 : C.length = 8) : ∀ (r i : Nat), i + r = 8 → LoopOk Try.prog none (lp Try.prog 28 9) (U28 i) [] (H28 es c cyc per sh C d e) 9 ⟨.exit 2, TX28, [], H28 es c cyc per sh C d e, 9⟩
  | 0, i, h => by
    have : i = 8 := by omega
    subst this
    exact loopOk_out sb_out (by show Exit.exit 2 ≠ Exit.normal; simp)
  | r + 1, i, h => by
    have h1 := sb_go (c := c) (d := d) (e := e) (cyc := cyc) (per := per) (sh := sh) (C := C) (es := es) h8 (i := i) (by omega)
    rw [show (i : Int) + 1 = ((i + 1 : Nat) : Int) by push_cast; rfl, show W ((i + 1 : Nat) : Int) = ((i + 1 : Nat) : Int) from wrap_nat (by omega)] at h1
    exact loop_step h1 (sb_loop h8 r (i + 1) (by omega))
termination_by r => r
theorem same_0 (hn : es.length ≤ 1000) (h8 : C.length = 8) : Memo.Ok Try.prog ⟨28, 3, [.agg ⟨pA (esl es.length c) cyc per sh 1 d⟩, .agg ⟨pA (esl es.length c) cyc per sh 2 e⟩], V28 es C, .bool true, [], 3⟩ := by
  have hS : En.smallH 3 (V28 es C) = true := by simp [V28, En.smallH, small_avL (ecs_av es), qcs_small]
  have h1 : ((es.length : Int) != es.length) = false := by simp
  have h2 : (cyc != cyc) = false := by simp
  have h3 : (per != per) = false := by simp
  have h4 : (sh != sh) = false := by simp
  have la := sa_loop (c := c) (d := d) (e := e) (cyc := cyc) (per := per) (sh := sh) (C := C) hn es.length 0 (by omega)
  have lb := sb_loop (c := c) (d := d) (e := e) (cyc := cyc) (per := per) (sh := sh) (es := es) h8 8 0 (by omega)
  exact memo_pure (hs := [(2, .frz), (3, .frz), (17, .val (.bool ((es.length : Int) != es.length)) (.bool false)), (27, .val (.bool (cyc != cyc)) (.bool false)), (36, .val (.bool (per != per)) (.bool false)), (45, .val (.bool (sh != sh)) (.bool false))]) (ch := [⟨4, none, .loop (lp Try.prog 28 4), T28 0, [], H28 es c cyc per sh C d e, 9, _, true⟩, ⟨9, none, .loop (lp Try.prog 28 9), U28 0, [], H28 es c cyc per sh C d e, 9, _, true⟩]) 9 (evk 50) special
    ⟨trivial, trivial, congrArg Value.bool h1, congrArg Value.bool h2, congrArg Value.bool h3, congrArg Value.bool h4, trivial⟩ ⟨codeOk_loop la, codeOk_loop lb, trivial⟩ (by kernel_rfl) hS (by kernel_rfl)
/-! ### Check -/
theorem qcheck_0 {n : Int} (h : capOk n = true) : Memo.Ok Try.prog ⟨49, 0, [qv n], [], .int .i64 0, [], 0⟩ := by
  have m := within_m _ _ _ h 1
  have hd : decide (0 > n) = false := by
    unfold capOk within at h
    simp only [Bool.and_eq_true, decide_eq_true_eq] at h
    exact decide_eq_false (by omega)
  exact memo_pure (hs := [(9, .call _), (35, .val (.bool (decide (0 > n))) (.bool false))]) (ch := []) 9 (evk 100) special ⟨m, congrArg Value.bool hd, trivial⟩ trivial (by kernel_rfl) rfl (by kernel_rfl)
end
end Go.Proofs.Ytfpbgiaiifcnlaa.choose
/- Contracts: goodQueues, Check, like of a port that does nothing. -/
namespace Go.Proofs.Ytfpbgiaiifcnlaa.choose
open Go Go.En
set_option linter.unusedVariables false

theorem qcheck_m {n : Int} (h : capOk n = true) (nx : Nat) : Memo.Ok Try.prog ⟨49, nx, [qv n], [], .int .i64 0, [], nx⟩ := memo_any (qcheck_0 h) nx (by kernel_rfl) rfl rfl
theorem qcs_ren (ρ : Nat → Nat) : ∀ C : List Int, (qcs C).map (renV ρ 5) = qcs C
  | [] => rfl
  | a :: r => by
    have ih := qcs_ren ρ r
    simp only [qcs, cellsOfL, qc, List.map_append, List.map_cons, List.map_nil] at ih ⊢
    rw [ih]; rfl
def H30 (es : List Ent) (c : Nat) (cyc per sh : Int) (C : List Int) (d : Nat) : Hp := [(2, .cells (pA (esl es.length c) cyc per sh 1 d) true), (0, .cells (ecs es) true), (1, .cells (qcs C) true)]
theorem H30_below {es : List Ent} {c : Nat} {cyc per sh : Int} {C : List Int} {d n : Nat} (hn : 3 ≤ n) : hpBelow n (H30 es c cyc per sh C d) = true := by
  have a0 : tidyB n (.cells (ecs es) true) = true := small_avL (ecs_av es)
  have a1 : tidyB n (.cells (qcs C) true) = true := qcs_small C
  have a3 : tidyB n (.cells (pA (esl es.length c) cyc per sh 1 d) true) = true := by
    simp [tidyB, pA, pcells, zp7, esl, En.smallL, En.small]; omega
  simp only [H30, hpBelow, a0, a1, a3]
  simp; omega
def T30 (d : Nat) (i : Int) : List Value := mkT 54 0 [(1, pt 2), (3, .int .i64 0), (15, .slice (some ⟨1, 0, none⟩) 8 d), (16, .int .i64 8), (17, .int .i64 i)]
def TX30 : List Value := mkT 54 0 [(1, pt 2), (3, .int .i64 0)]
section
variable {es : List Ent} {c d e : Nat} {cyc per sh : Int} {C : List Int}
theorem gq_go (h8 : C.length = 8) (hok : ∀ x ∈ C, capOk x = true) {i : Nat} (hi : i < 8) : CodeOk Try.prog none (lp Try.prog 30 5) (T30 d i) [] (H30 es c cyc per sh C d) 5 ⟨.normal, T30 d (W (i + 1)), [], H30 es c cyc per sh C d, 5⟩ := by
  have hd : decide ((i : Int) < 8) = true := decide_eq_true (by omega)
  have hc := c_at (C := C) (i := i) (by omega)
  have l1 := ld43 (b := 1) (ro := true) hc
  have ms := qcheck_m (hok _ (List.mem_of_getElem? hc)) 6
  generalize C.getD i 0 = x at l1 ms
  exact code_at (hs := [(18, .val (.bool (decide ((i : Int) < 8))) (.bool true)), (20, .ix 29 (.slice (some ⟨1, 0, none⟩) 8 d) (.int .i64 i) _), (21, .ld 43 _ 1 (qcs C) true _), (23, .call _)]) (ch := []) (evk 50) special
    ⟨congrArg Value.bool hd, ix29 hi, ⟨l1, _, rfl⟩, ms, trivial⟩ trivial (by kernel_rfl) (H30_below (by omega)) (H30_below (by omega)) (by kernel_rfl)
theorem gq_out : CodeOk Try.prog none (lp Try.prog 30 5) (T30 d 8) [] (H30 es c cyc per sh C d) 5 ⟨.exit 0, TX30, [], H30 es c cyc per sh C d, 5⟩ :=
  code_at (hs := []) (ch := []) (evk 50) special trivial trivial (by kernel_rfl) (H30_below (by omega)) (H30_below (by omega)) (by kernel_rfl)
theorem gq_loop (h8 : C.length = 8) (hok : ∀ x ∈ C, capOk x = true) : ∀ (r i : Nat), i + r = 8 → LoopOk Try.prog none (lp Try.prog 30 5) (T30 d i) [] (H30 es c cyc per sh C d) 5 ⟨.exit 0, TX30, [], H30 es c cyc per sh C d, 5⟩
  | 0, i, h => by
    have : i = 8 := by omega
    subst this
    exact loopOk_out gq_out (by show Exit.exit 0 ≠ Exit.normal; simp)
  | r + 1, i, h => by
    have h1 := gq_go (c := c) (d := d) (cyc := cyc) (per := per) (sh := sh) (es := es) h8 hok (i := i) (by omega)
    rw [show (i : Int) + 1 = ((i + 1 : Nat) : Int) by push_cast; rfl, show W ((i + 1 : Nat) : Int) = ((i + 1 : Nat) : Int) from wrap_nat (by omega)] at h1
    exact loop_step h1 (gq_loop h8 hok r (i + 1) (by omega))
termination_by r => r
def V30 (es : List Ent) (C : List Int) : List (Nat × List Value) := [(0, ecs es), (1, qcs C)]
theorem V30_small (k : Nat) : En.smallH k (V30 es C) = true := by simp [V30, En.smallH, small_avL (ecs_av es), qcs_small]
theorem gq_0 (h8 : C.length = 8) (hok : ∀ x ∈ C, capOk x = true) : Memo.Ok Try.prog ⟨30, 2, [.agg ⟨pA (esl es.length c) cyc per sh 1 d⟩], V30 es C, .bool true, [], 2⟩ := by
  have hlo := gq_loop (es := es) (c := c) (d := d) (cyc := cyc) (per := per) (sh := sh) h8 hok 8 0 (by omega)
  exact memo_pure (hs := [(1, .frz)]) (ch := [⟨5, none, .loop (lp Try.prog 30 5), T30 d 0, [], H30 es c cyc per sh C d, 5, _, true⟩]) 5 (evk 50) special ⟨trivial, trivial⟩ ⟨codeOk_loop hlo, trivial⟩ (by kernel_rfl) (V30_small 2) (by kernel_rfl)
/-- At other names: the queues at b. -/
theorem mvQ {f : FuncId} {args args' : List Value} {v : Value} (h : Memo.Ok Try.prog ⟨f, 2, args, V30 es C, v, [], 2⟩) (b nx : Nat) (hc : (En.smallL (En.small 2 5) args && En.small 2 5 v) = true)
    (h1 : args.map (renV (shift (ρ1 (b + 1)) 2 nx) 5) = args') (h2 : renV (shift (ρ1 (b + 1)) 2 nx) 5 v = v) : Memo.Ok Try.prog ⟨f, nx, args', [(0, ecs es), (b + 1, qcs C)], v, [], nx⟩ := by
  simp only [Bool.and_eq_true] at hc
  have hb : below 2 (V30 es C) = true := by kernel_rfl
  have hq : ∀ ρ : Nat → Nat, (qcs C).map (renV ρ 5) = qcs C := fun ρ => qcs_ren ρ C
  have := memo_ren h (ρ1 (b + 1)) nx [(0, ecs es), (b + 1, qcs C)] (by simp only [hc.1, hc.2, hb, inNew, Bool.and_self]) (V30_small 2) rfl (fun x cs hx => by
    by_cases h0 : 0 = x
    · subst h0
      simp [V30, roHp, Hp.get, ρ1] at hx ⊢
      subst hx
      exact (renV_avL (ecs_av es)).symm
    · by_cases h1 : 1 = x
      · subst h1
        simp [V30, roHp, Hp.get, ρ1] at hx ⊢
        subst hx
        exact (hq _).symm
      · simp [V30, roHp, Hp.get, h0, h1] at hx)
  simpa [h1, h2, renH] using this
theorem gs_m (n c d : Nat) (cyc per sh : Int) (nx : Nat) : Memo.Ok Try.prog ⟨29, nx, [.agg ⟨pA (esl n c) cyc per sh 1 d⟩], [], .bool true, [], nx⟩ := by
  have h : Memo.Ok Try.prog ⟨29, 2, [.agg ⟨pA (esl n c) cyc per sh 1 d⟩], [], .bool true, [], 2⟩ := memo_pure (hs := []) (ch := []) 3 (evk 50) special trivial trivial (by kernel_rfl) rfl (by kernel_rfl)
  exact memo_ren h (fun b => b) nx [] (by kernel_rfl) rfl rfl (fun x cs hx => by simp [roHp, Hp.get] at hx)
theorem check_8 (hn : es.length ≤ 1000) (hl : lineS (chkG es cyc) per sh = true) (h8 : C.length = 8) (hok : ∀ x ∈ C, capOk x = true) : Memo.Ok Try.prog ⟨12, 2, [.agg ⟨pA (esl es.length c) cyc per sh 1 d⟩], V30 es C, .int .i64 0, [], 2⟩ := by
  have ml := line_m (c := c) hn hl 3
  have mq := mvQ (gq_0 (es := es) (c := c) (d := d) (cyc := cyc) (per := per) (sh := sh) h8 hok) 0 4 (by kernel_rfl) rfl rfl
  have mg := gs_m es.length c d cyc per sh 4
  exact memo_pure (hs := [(1, .frz), (6, .call _), (21, .call _), (25, .call _)]) (ch := []) 4 (evk 50) special ⟨trivial, ml, mg, mq, trivial⟩ trivial (by kernel_rfl) (V30_small 2) (by kernel_rfl)
def ρ3 (a b : Nat) : Nat → Nat
  | 0 => 0
  | 1 => a
  | _ => b
theorem like_0 (hn : es.length ≤ 1000) (h8 : C.length = 8) : Memo.Ok Try.prog ⟨11, 3, [.agg ⟨pA (esl es.length c) cyc per sh 1 d⟩, .int .i64 0, .agg ⟨pA (esl es.length c) cyc per sh 2 e⟩], V28 es C, .bool true, [], 3⟩ := by
  have hS : ∀ k, En.smallH k (V28 es C) = true := fun k => by simp [V28, En.smallH, small_avL (ecs_av es), qcs_small]
  have hq : ∀ ρ : Nat → Nat, (qcs C).map (renV ρ 5) = qcs C := fun ρ => qcs_ren ρ C
  have h0 := same_0 (c := c) (d := d) (e := e) (cyc := cyc) (per := per) (sh := sh) hn h8
  have ms := memo_ren h0 (fun b => b) 5 (V28 es C) (by kernel_rfl) (hS 3) rfl (fun x cs hx => by
    by_cases h0 : 0 = x
    · subst h0
      simp [V28, roHp, Hp.get] at hx ⊢
      subst hx
      exact (renV_avL (ecs_av es)).symm
    · by_cases h1 : 1 = x
      · subst h1
        simp [V28, roHp, Hp.get] at hx ⊢
        subst hx
        exact (hq _).symm
      · by_cases h2 : 2 = x
        · subst h2
          simp [V28, roHp, Hp.get] at hx ⊢
          subst hx
          exact (hq _).symm
        · simp [V28, roHp, Hp.get, h0, h1, h2] at hx)
  exact memo_pure (hs := [(3, .frz), (5, .frz), (12, .call _)]) (ch := []) 5 (evk 50) special ⟨trivial, trivial, ms, trivial⟩ trivial (by kernel_rfl) (hS 3) (by kernel_rfl)
theorem like_m (hn : es.length ≤ 1000) (h8 : C.length = 8) (a b nx : Nat) (ha : a ≠ 0) (hb : b ≠ 0) (hab : a ≠ b) : Memo.Ok Try.prog ⟨11, nx, [.agg ⟨pA (esl es.length c) cyc per sh a d⟩, .int .i64 0, .agg ⟨pA (esl es.length c) cyc per sh b e⟩], [(0, ecs es), (a, qcs C), (b, qcs C)], .bool true, [], nx⟩ := by
  have hS : ∀ k, En.smallH k (V28 es C) = true := fun k => by simp [V28, En.smallH, small_avL (ecs_av es), qcs_small]
  have hq : ∀ ρ : Nat → Nat, (qcs C).map (renV ρ 5) = qcs C := fun ρ => qcs_ren ρ C
  have h0 := like_0 (c := c) (d := d) (e := e) (cyc := cyc) (per := per) (sh := sh) hn h8
  have ms := memo_ren h0 (ρ3 a b) nx [(0, ecs es), (a, qcs C), (b, qcs C)] (by kernel_rfl) (hS 3) rfl (fun x cs hx => by
    by_cases h0 : 0 = x
    · subst h0
      simp [V28, roHp, Hp.get, ρ3] at hx ⊢
      subst hx
      exact (renV_avL (ecs_av es)).symm
    · by_cases h1 : 1 = x
      · subst h1
        simp [V28, roHp, Hp.get, ρ3, ha.symm] at hx ⊢
        subst hx
        exact (hq _).symm
      · by_cases h2 : 2 = x
        · subst h2
          simp [V28, roHp, Hp.get, ρ3, hb.symm, hab] at hx ⊢
          subst hx
          exact (hq _).symm
        · simp [V28, roHp, Hp.get, h0, h1, h2] at hx)
  exact ms
end
end Go.Proofs.Ytfpbgiaiifcnlaa.choose
