/- Contracts: gates (layer 27): Check, find. -/
import Derived.Test.YtjconcfkpgkbkaaChA
import Derived.Test.YtjconcfkpgkbkaaEnOO
namespace Go.Proofs.Ytjconcfkpgkbkaa.choose
open Go Go.En
set_option linter.unusedVariables false

theorem W_spec (a : Int) : -9223372036854775808 ≤ W a ∧ W a < 9223372036854775808 ∧ (W a - a) % 18446744073709551616 = 0 := by
  simp only [W, IntKind.wrap, IntKind.signed, IntKind.bits]
  simp
  split <;> omega
theorem W_id {a : Int} (h : -9223372036854775808 ≤ a ∧ a < 9223372036854775808) : W a = a := by
  have := W_spec a
  omega
theorem wrap_nat {n : Nat} (h : n < 9223372036854775808) : IntKind.i64.wrap (n : Int) = n := W_id (by omega)
theorem cellsOfL_len {α : Type} {f : α → List Value} {s : Nat} (hf : ∀ a, (f a).length = s) : ∀ l : List α, (cellsOfL f l).length = l.length * s
  | [] => by simp [cellsOfL]
  | a :: l => by simp [cellsOfL, hf a, cellsOfL_len hf l, Nat.add_mul, Nat.add_comm]
theorem cellsOfL_get {α : Type} {f : α → List Value} {s : Nat} (hf : ∀ a, (f a).length = s) : ∀ {l : List α} {i : Nat} {a : α}, l[i]? = some a → ∀ (j : Nat) v, (f a)[j]? = some v → (cellsOfL f l)[0 + i * s + j]? = some v
  | [], i, a, h, j, v, hv => by simp at h
  | b :: l, 0, a, h, j, v, hv => by
    simp only [List.getElem?_cons_zero, Option.some.injEq] at h
    subst h
    have := (List.getElem?_eq_some_iff.1 hv).1
    simp only [cellsOfL]
    rw [List.getElem?_append_left (by omega)]
    simpa using hv
  | b :: l, i + 1, a, h, j, v, hv => by
    simp only [List.getElem?_cons_succ] at h
    have := cellsOfL_get hf h j v hv
    simp only [cellsOfL]
    rw [List.getElem?_append_right (by rw [hf, Nat.add_mul]; omega), ← this]
    congr 1
    rw [hf, Nat.add_mul]; omega
theorem avL_app {a b : List Value} (ha : avL a = true) (hb : avL b = true) : avL (a ++ b) = true := by
  induction a with
  | nil => exact hb
  | cons x a ih =>
    simp only [List.cons_append, avL, Bool.and_eq_true] at ha ⊢
    exact ⟨ha.1, ih ha.2⟩
theorem avL_cellsOfL {α : Type} {f : α → List Value} (hf : ∀ a, avL (f a) = true) : ∀ l : List α, avL (cellsOfL f l) = true
  | [] => rfl
  | a :: l => avL_app (hf a) (avL_cellsOfL hf l)
theorem lt_of {α : Type} {l : List α} {i : Nat} {a : α} (h : l[i]? = some a) : i < l.length := (List.getElem?_eq_some_iff.1 h).1

structure Ent where
  mask : Int
  long : Int
def Ent.cells (x : Ent) : List Value := [.int .i64 x.mask, .int .i64 x.long]
def Ent.v (x : Ent) : Value := .agg ⟨x.cells⟩
abbrev ecs (es : List Ent) : List Value := cellsOfL Ent.cells es
theorem ecs_av (es : List Ent) : avL (ecs es) = true := avL_cellsOfL (fun _ => rfl) es
theorem u22 : Try.prog.underlying 22 = some (.slice 59) := by kernel_rfl
theorem z59 : szIs Try.prog 59 2 true = true := by kernel_rfl
theorem z3 : szIs Try.prog 3 1 false = true := by kernel_rfl
theorem ix22 {n c i : Nat} (h : i < n) : doIndexAddr Try.prog 22 (.slice (some ⟨0, 0, none⟩) n c) (.int .i64 i) = some (.pointer (some ⟨0, 0 + i * 2, none⟩)) := Sl.ix' (.inr rfl) u22 z59 h
theorem ld59 {i : Nat} {es : List Ent} {x : Ent} {ro : Bool} (h : es[i]? = some x) : doLoad Try.prog [(0, .cells (ecs es) ro)] 59 (.pointer (some ⟨0, 0 + i * 2, none⟩)) = some x.v := ldN z59 rfl (cellsOfL_get (f := Ent.cells) (s := 2) (fun _ => rfl) h)
theorem ldM {i : Nat} {es : List Ent} {x : Ent} {ro : Bool} (h : es[i]? = some x) : doLoad Try.prog [(0, .cells (ecs es) ro)] 3 (.pointer (some ⟨0, 0 + i * 2 + 0, none⟩)) = some (.int .i64 x.mask) := ld1 z3 (cellsOfL_get (f := Ent.cells) (s := 2) (fun _ => rfl) h 0 _ rfl)
theorem ldG {i : Nat} {es : List Ent} {x : Ent} {ro : Bool} (h : es[i]? = some x) : doLoad Try.prog [(0, .cells (ecs es) ro)] 3 (.pointer (some ⟨0, 0 + i * 2 + 1, none⟩)) = some (.int .i64 x.long) := ld1 z3 (cellsOfL_get (f := Ent.cells) (s := 2) (fun _ => rfl) h 1 _ rfl)
def esl (n c : Nat) : Value := .slice (some ⟨0, 0, none⟩) n c
def gc (n c : Nat) (cyc : Int) : List Value := [esl n c, .int .i64 cyc]
def gv (n c : Nat) (cyc : Int) : Value := .agg ⟨gc n c cyc⟩
def gv0 (cyc : Int) : Value := .agg #[.slice none 0 0, .int .i64 cyc]

/-! ### Check -/
def entOk (e : Ent) : Bool := !(decide (e.mask < 0) || decide (e.mask > 255) || decide (e.long < 1) || decide (e.long > 9600000))
def T29 (n c : Nat) (s i : Int) : List Value := [J, pt 1, J, .int .i64 s] ++ List.replicate 13 J ++ [esl n c, .int .i64 n, .int .i64 i] ++ List.replicate 34 J
def TR29 (s : Int) : List Value := [J, pt 1, J, .int .i64 s] ++ List.replicate 50 J
def TE29 : List Value := [J, J, .int .i64 370] ++ List.replicate 51 J
def H29 (es : List Ent) (c : Nat) (cyc : Int) : Hp := [(1, .cells (gc es.length c cyc) true), (0, .cells (ecs es) true)]
theorem H29_below (es : List Ent) (c : Nat) (cyc : Int) {n : Nat} (hn : 2 ≤ n) : hpBelow n (H29 es c cyc) = true := by
  have a0 : tidyB n (.cells (ecs es) true) = true := small_avL (ecs_av es)
  have a1 : tidyB n (.cells (gc es.length c cyc) true) = true := by simp [tidyB, gc, esl, En.smallL, En.small]; omega
  simp only [H29, hpBelow, a0, a1, Bool.and_true]
  simp; omega
section
variable {es : List Ent} {c : Nat} {cyc : Int}
theorem k_go {s : Int} {i : Nat} {x : Ent} (hi : es[i]? = some x) {q : Bool} (hq : entOk x = q) :
    CodeOk Try.prog none (lp Try.prog 29 5) (T29 es.length c s i) [] (H29 es c cyc) 5 (bif q then ⟨.normal, T29 es.length c (W (s + x.long)) (W (i + 1)), [], H29 es c cyc, 5⟩ else ⟨.ret, TE29, [], H29 es c cyc, 5⟩) := by
  have hlt := lt_of hi
  have hd : decide ((i : Int) < es.length) = true := decide_eq_true (by omega)
  have l1 := ld59 (ro := true) hi
  obtain ⟨m, g⟩ := x
  have key : ∀ p1 p2 p3 p4, decide (m < 0) = p1 → decide (m > 255) = p2 → decide (g < 1) = p3 → decide (g > 9600000) = p4 → (!(p1 || p2 || p3 || p4)) = q → CodeOk Try.prog none (lp Try.prog 29 5) (T29 es.length c s i) [] (H29 es c cyc) 5 (bif q then ⟨.normal, T29 es.length c (W (s + g)) (W (i + 1)), [], H29 es c cyc, 5⟩ else ⟨.ret, TE29, [], H29 es c cyc, 5⟩) := by
    intro p1 p2 p3 p4 h1 h2 h3 h4 h
    subst h
    cases p1 <;> cases p2 <;> cases p3 <;> cases p4 <;>
      exact code_at (hs := [(20, .val (.bool (decide ((i : Int) < es.length))) (.bool true)), (21, .ix 22 (esl es.length c) (.int .i64 i) _), (22, .ld 59 _ 0 (ecs es) true _), (25, .val (.bool (decide (m < 0))) (.bool _)), (29, .val (.bool (decide (m > 255))) (.bool _)), (34, .val (.bool (decide (g < 1))) (.bool _)), (39, .val (.bool (decide (g > 9600000))) (.bool _))]) (ch := []) (evk 50) special
        ⟨congrArg Value.bool hd, ix22 hlt, ⟨l1, _, rfl⟩, congrArg Value.bool h1, congrArg Value.bool h2, congrArg Value.bool h3, congrArg Value.bool h4, trivial⟩ trivial (by kernel_rfl) (H29_below es c cyc (by omega)) (H29_below es c cyc (by omega)) (by kernel_rfl)
  exact key _ _ _ _ rfl rfl rfl rfl hq
theorem k_out {s : Int} : CodeOk Try.prog none (lp Try.prog 29 5) (T29 es.length c s es.length) [] (H29 es c cyc) 5 ⟨.exit 0, TR29 s, [], H29 es c cyc, 5⟩ := by
  have hd : decide ((es.length : Int) < es.length) = false := decide_eq_false (by omega)
  exact code_at (hs := [(20, .val (.bool (decide ((es.length : Int) < es.length))) (.bool false))]) (ch := []) (evk 50) special ⟨congrArg Value.bool hd, trivial⟩ trivial (by kernel_rfl) (H29_below es c cyc (by omega)) (H29_below es c cyc (by omega)) (by kernel_rfl)
def sumG : List Ent → Int → Option Int
  | [], s => some s
  | e :: r, s => bif entOk e then sumG r (W (s + e.long)) else none
def F29 (es : List Ent) (c : Nat) (cyc : Int) : Option Int → Res
  | some s => ⟨.exit 0, TR29 s, [], H29 es c cyc, 5⟩
  | none => ⟨.ret, TE29, [], H29 es c cyc, 5⟩
theorem k_loop (hn : es.length ≤ 1000) : ∀ (k i : Nat) (s : Int), i + k = es.length → LoopOk Try.prog none (lp Try.prog 29 5) (T29 es.length c s i) [] (H29 es c cyc) 5 (F29 es c cyc (sumG (es.drop i) s))
  | 0, i, s, h => by
    have : i = es.length := by omega
    subst this
    rw [List.drop_length]
    exact loopOk_out k_out (by show Exit.exit 0 ≠ Exit.normal; simp)
  | k + 1, i, s, h => by
    have hlt : i < es.length := by omega
    have hi : es[i]? = some es[i] := List.getElem?_eq_getElem hlt
    rw [List.drop_eq_getElem_cons hlt]
    simp only [sumG]
    cases hq : entOk es[i] with
    | false =>
      have h1 := k_go (c := c) (cyc := cyc) (s := s) hi hq
      exact loopOk_out h1 (by show Exit.ret ≠ Exit.normal; simp)
    | true =>
      have h1 := k_go (c := c) (cyc := cyc) (s := s) hi hq
      simp only [cond_true] at h1
      rw [show (i : Int) + 1 = ((i + 1 : Nat) : Int) by push_cast; rfl, show W ((i + 1 : Nat) : Int) = ((i + 1 : Nat) : Int) from wrap_nat (by omega)] at h1
      exact loop_step h1 (k_loop hn k (i + 1) _ (by omega))
termination_by k => k
def fitG (cyc : Int) : Option Int → Bool
  | none => false
  | some s => !(s != cyc || decide (s > 9600000))
def chkG (es : List Ent) (cyc : Int) : Bool := !(decide ((es.length : Int) < 1) || decide ((es.length : Int) > 128)) && fitG cyc (sumG es 0)
theorem gcheck_0 (hn : es.length ≤ 1000) : Memo.Ok Try.prog ⟨29, 1, [gv es.length c cyc], [(0, ecs es)], .int .i64 (bif chkG es cyc then 0 else 370), [], 1⟩ := by
  have hS : En.smallH 1 [(0, ecs es)] = true := by simp [En.smallH, small_avL (ecs_av es)]
  have hlo := k_loop (c := c) (cyc := cyc) hn es.length 0 0 (by omega)
  rw [List.drop_zero] at hlo
  have key : ∀ p1 p2 g, decide ((es.length : Int) < 1) = p1 → decide ((es.length : Int) > 128) = p2 → sumG es 0 = g → Memo.Ok Try.prog ⟨29, 1, [gv es.length c cyc], [(0, ecs es)], .int .i64 (bif !(p1 || p2) && fitG cyc g then 0 else 370), [], 1⟩ := by
    intro p1 p2 g h1 h2 hg
    rw [hg] at hlo
    cases p1
    · cases p2
      · cases g with
        | none =>
          exact memo_pure (hs := [(1, .frz), (9, .val (.bool (decide ((es.length : Int) < 1))) (.bool false)), (14, .val (.bool (decide ((es.length : Int) > 128))) (.bool false))]) (ch := [⟨5, none, .loop (lp Try.prog 29 5), T29 es.length c 0 0, [], H29 es c cyc, 5, _, true⟩]) 5 (evk 50) special
            ⟨trivial, congrArg Value.bool h1, congrArg Value.bool h2, trivial⟩ ⟨codeOk_loop hlo, trivial⟩ (by kernel_rfl) hS (by kernel_rfl)
        | some s =>
          have key2 : ∀ q1 q2, (s != cyc) = q1 → decide (s > 9600000) = q2 → Memo.Ok Try.prog ⟨29, 1, [gv es.length c cyc], [(0, ecs es)], .int .i64 (bif !(false || false) && !(q1 || q2) then 0 else 370), [], 1⟩ := by
            intro q1 q2 e1 e2
            cases q1 <;> cases q2 <;>
              exact memo_pure (hs := [(1, .frz), (9, .val (.bool (decide ((es.length : Int) < 1))) (.bool false)), (14, .val (.bool (decide ((es.length : Int) > 128))) (.bool false)), (49, .val (.bool (s != cyc)) (.bool _)), (52, .val (.bool (decide (s > 9600000))) (.bool _))]) (ch := [⟨5, none, .loop (lp Try.prog 29 5), T29 es.length c 0 0, [], H29 es c cyc, 5, _, true⟩]) 5 (evk 50) special
                ⟨trivial, congrArg Value.bool h1, congrArg Value.bool h2, congrArg Value.bool e1, congrArg Value.bool e2, trivial⟩ ⟨codeOk_loop hlo, trivial⟩ (by kernel_rfl) hS (by kernel_rfl)
          exact key2 _ _ rfl rfl
      · exact memo_pure (hs := [(1, .frz), (9, .val (.bool (decide ((es.length : Int) < 1))) (.bool false)), (14, .val (.bool (decide ((es.length : Int) > 128))) (.bool true))]) (ch := []) 4 (evk 50) special
            ⟨trivial, congrArg Value.bool h1, congrArg Value.bool h2, trivial⟩ trivial (by kernel_rfl) hS (by kernel_rfl)
    · cases p2 <;> exact memo_pure (hs := [(1, .frz), (9, .val (.bool (decide ((es.length : Int) < 1))) (.bool true))]) (ch := []) 3 (evk 50) special
            ⟨trivial, congrArg Value.bool h1, trivial⟩ trivial (by kernel_rfl) hS (by kernel_rfl)
  exact key _ _ _ rfl rfl rfl
theorem gcheck_nil (cyc : Int) : Memo.Ok Try.prog ⟨29, 0, [gv0 cyc], [], .int .i64 370, [], 0⟩ :=
  memo_pure (hs := []) (ch := []) 2 (evk 50) special trivial trivial (by kernel_rfl) rfl (by kernel_rfl)
end
end Go.Proofs.Ytjconcfkpgkbkaa.choose
