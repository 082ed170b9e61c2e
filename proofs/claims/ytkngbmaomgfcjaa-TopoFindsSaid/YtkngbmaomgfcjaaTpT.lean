/- Contract: Find. -/
import Derived.Test.YtkngbmaomgfcjaaTpS
namespace Go.Proofs.Ytkngbmaomgfcjaa.topo
open Go Go.En
set_option linter.unusedVariables false

theorem ends_7 (X : Cx) : Memo.Ok Try.prog ⟨41, 7, [X.v], [], .func (.func 60) #[] #[pt 7], [(7, X.cells)], 8⟩ :=
  memo_new (hs := []) (ch := []) (evk 50) special trivial trivial (by kernel_rfl)
def T13 (X : Cx) (a b : Int) : List Value := [X.v, .int .i64 a, .int .i64 b, pt 2, pt 3, pt 4, .int .i64 0, .int .i64 0, .int .i64 0, pt 5, pt 6, undef, X.v, .int .i64 0, .int .i64 0, .bool false, undef, X.v, .int .i64 a, .bool true, .bool false, .bool false, X.v, .int .i64 b, .bool true, .bool false, .bool false, X.v, .func (.func 60) #[] #[pt 7]] ++ List.replicate 15 undef
theorem T13_small (X : Cx) (a b : Int) {n : Nat} (hn : 8 ≤ n) : En.smallL (En.small n 5) (T13 X a b) = true := by
  have h : ∀ k, k ≤ 7 → En.small n 5 (pt k) = true := fun k hk => by simp [pt, En.small]; omega
  have h7 : En.small n 5 (.func (.func 60) #[] #[pt 7]) = true := by simp [En.small, En.smallL, pt]; omega
  simp only [T13, List.cons_append, List.nil_append, En.smallL, X.small (by omega : 2 ≤ n), h 2 (by omega), h 3 (by omega), h 4 (by omega), h 5 (by omega), h 6 (by omega), h7, Bool.true_and]
  rfl
def L13 (P : Program) (X : Cx) (a b : Int) (s : LoopState) (p : Option Code) : Loop := { newLoop (T13 X a b) (rfP (rf P 13 9)) (rfA (rf P 13 9)) (rfB (rf P 13 9)) 8 with state := s, pending := p }
def H13 (X : Cx) (a b : Int) (g : Option Nat) : Hp := [(7, .cells X.cells false), (6, .cells [.int .i64 (bif g.isSome then 0 else 4)] false), (5, .cells [.int .i64 (bif g.isSome then optI g else 0)] false), (4, .cells [.int .i64 b] true), (3, .cells [.int .i64 a] true), (2, .cells X.cells true), (0, .cells X.st true), (1, .cells X.lk true)]
def G13 (P : Program) (X : Cx) (a b : Int) (g : Option Nat) : Hp := (9, .loop (L13 P X a b (bif g.isSome then .done else .ready) (bif g.isSome then some (.exit 0) else none))) :: (8, .defd) :: H13 X a b g
theorem G13_below (X : Cx) (a b : Int) (g : Option Nat) : hpBelow 11 (G13 Try.prog X a b g) = true := by
  have a0 : tidyB 11 (.cells X.cells false) = true := X.smallL (by omega) 5
  have a1 : tidyB 11 (.cells X.cells true) = true := X.smallL (by omega) 5
  have a2 : tidyB 11 (.cells X.st true) = true := small_avL X.avs
  have a3 : tidyB 11 (.cells X.lk true) = true := small_avL X.avk
  have a4 : tidyB 11 (.loop (L13 Try.prog X a b (bif g.isSome then .done else .ready) (bif g.isSome then some (.exit 0) else none))) = true := by
    show (En.smallL (En.small 11 5) (T13 X a b).toArray.toList && decide (8 < 11)) = true
    have := T13_small X a b (n := 11) (by omega)
    simpa using this
  simp only [G13, H13, hpBelow, a0, a1, a2, a3, a4, Bool.and_true]
  rfl
def Y9 : Value := .func (.yield 9) #[] #[]
def evc (l : Lk) (p : Int) : List Value := l.cells ++ [.int .i64 p]
def pmL (a b : Int) (l : Lk) (p : Int) : Bool := (fromS l p == a) && (toS l p == b)
theorem y1_13 (X : Cx) {a b : Int} {l : Lk} {p : Nat} {q : Bool} (hq : pmL a b l p = q) :
    Hint.Ok Try.prog (.any (opAt Try.prog 60 3 5) [Y9, ev5 l p] ((11, .cells l.cells false) :: G13 Try.prog X a b none) 12 (.bool !q) ((12, .cells (evc l p) false) :: (11, .cells l.cells false) :: G13 Try.prog X a b (bif q then some p else none)) 13) := by
  have m1 := memo_any (ans_0 (g := 42) (by omega) l p) 13 (by kernel_rfl) rfl rfl
  have m2 := memo_any (ans_0 (g := 44) (by omega) l p) 13 (by kernel_rfl) rfl rfl
  have key : ∀ p1 p2, (fromS l p == a) = p1 → (toS l p == b) = p2 → (p1 && p2) = q → Hint.Ok Try.prog (.any (opAt Try.prog 60 3 5) [Y9, ev5 l p] ((11, .cells l.cells false) :: G13 Try.prog X a b none) 12 (.bool !q) ((12, .cells (evc l p) false) :: (11, .cells l.cells false) :: G13 Try.prog X a b (bif q then some p else none)) 13) := by
    intro p1 p2 h1 h2 h3
    subst h3
    obtain ⟨x, y, u, v⟩ := l
    cases p1 <;> cases p2 <;>
      exact yield_by (hs := [(31, .call _), (33, .val (.bool (fromS ⟨x, y, u, v⟩ p == a)) (.bool _)), (36, .call _), (38, .val (.bool (toS ⟨x, y, u, v⟩ p == b)) (.bool _))]) (ch := []) (cf := .tmp 13) (args := #[.tmp 17]) (ats := #[67]) (l := 9) (evk 50) special ⟨m1, congrArg Value.bool h1, m2, congrArg Value.bool h2, trivial⟩ trivial (by kernel_rfl) (by kernel_rfl)
  exact key _ _ rfl rfl hq
theorem y2_13 (X : Cx) {a b : Int} {l : Lk} {p p0 : Nat} {q : Bool} (hq : pmL a b l p = q) :
    Hint.Ok Try.prog (.any (opAt Try.prog 60 3 14) [Y9, ev5 l p] ((12, .cells (evc l p0) false) :: (11, .cells l.cells false) :: G13 Try.prog X a b none) 13 (.bool !q) ((13, .cells (evc l p) false) :: (12, .cells (evc l p0) false) :: (11, .cells l.cells false) :: G13 Try.prog X a b (bif q then some p else none)) 14) := by
  have m1 := memo_any (ans_0 (g := 42) (by omega) l p) 14 (by kernel_rfl) rfl rfl
  have m2 := memo_any (ans_0 (g := 44) (by omega) l p) 14 (by kernel_rfl) rfl rfl
  have key : ∀ p1 p2, (fromS l p == a) = p1 → (toS l p == b) = p2 → (p1 && p2) = q → Hint.Ok Try.prog (.any (opAt Try.prog 60 3 14) [Y9, ev5 l p] ((12, .cells (evc l p0) false) :: (11, .cells l.cells false) :: G13 Try.prog X a b none) 13 (.bool !q) ((13, .cells (evc l p) false) :: (12, .cells (evc l p0) false) :: (11, .cells l.cells false) :: G13 Try.prog X a b (bif q then some p else none)) 14) := by
    intro p1 p2 h1 h2 h3
    subst h3
    obtain ⟨x, y, u, v⟩ := l
    cases p1 <;> cases p2 <;>
      exact yield_by (hs := [(31, .call _), (33, .val (.bool (fromS ⟨x, y, u, v⟩ p == a)) (.bool _)), (36, .call _), (38, .val (.bool (toS ⟨x, y, u, v⟩ p == b)) (.bool _))]) (ch := []) (cf := .tmp 21) (args := #[.tmp 26]) (ats := #[67]) (l := 9) (evk 50) special ⟨m1, congrArg Value.bool h1, m2, congrArg Value.bool h2, trivial⟩ trivial (by kernel_rfl) (by kernel_rfl)
  exact key _ _ rfl rfl hq
def T60 (X : Cx) (i : Int) : List Value := [Y9, pt 7, J, J, J, J, .slice X.sb X.ls.length X.d, .int .i64 X.ls.length, .int .i64 i] ++ List.replicate 22 J
def TJ60 : List Value := [Y9, pt 7] ++ List.replicate 29 J
theorem pre60 (X : Cx) (a b : Int) (g : Option Nat) (i : Int) : (nodupN (G13 Try.prog X a b g) && tmBelow 11 (T60 X i) && dsBelow 11 [] && rBelow 11 none) = true := by
  rcases X.hsb with ⟨h, _⟩ | h
  · simp only [T60, h]
    show _ = true
    kernel_rfl
  · simp only [T60, h]
    show _ = true
    kernel_rfl
def Q60 (X : Cx) (a b : Int) (j : Int) (P : Program) : Option Nat → Res
  | none => ⟨.normal, T60 X j, [], G13 P X a b none, 11⟩
  | some p => ⟨.ret, TJ60, [], G13 P X a b (some p), 11⟩
def two (a b : Int) (l : Lk) (i : Nat) : Option Nat := bif pmL a b l (2 * i : Nat) then some (2 * i) else bif pmL a b l (2 * i + 1 : Nat) then some (2 * i + 1) else none
theorem e_go60 (X : Cx) {a b : Int} {i : Nat} {l : Lk} (hi : X.ls[i]? = some l) :
    CodeOk Try.prog none (lp Try.prog 60 1) (T60 X i) [] (G13 Try.prog X a b none) 11 (Q60 X a b (IntKind.i64.wrap (i + 1)) Try.prog (two a b l i)) := by
  have l0 := X.ldL hi
  have hlt := lt_of hi
  have hL := X.hL
  have w1 : IntKind.i64.wrap (2 * (i : Int)) = ((2 * i : Nat) : Int) := by
    have := wrap_nat (n := 2 * i) (by omega)
    push_cast at this ⊢
    exact this
  have w2 : IntKind.i64.wrap (((2 * i : Nat) : Int) + 1) = ((2 * i + 1 : Nat) : Int) := by
    have := wrap_nat (n := 2 * i + 1) (by omega)
    push_cast at this ⊢
    exact this
  unfold two
  have key : ∀ q1 q2, pmL a b l (2 * i : Nat) = q1 → pmL a b l (2 * i + 1 : Nat) = q2 → CodeOk Try.prog none (lp Try.prog 60 1) (T60 X i) [] (G13 Try.prog X a b none) 11 (Q60 X a b (IntKind.i64.wrap (i + 1)) Try.prog (bif q1 then some (2 * i) else bif q2 then some (2 * i + 1) else none)) := by
    intro q1 q2 h1 h2
    have y1 := y1_13 X (a := a) (b := b) (l := l) (p := 2 * i) h1
    have y2 := y2_13 X (a := a) (b := b) (l := l) (p := 2 * i + 1) (p0 := 2 * i) h2
    have pre := pre60 X a b none i
    have hsb := X.hsb
    rcases hsb with ⟨hsb, h0⟩ | hsb
    · omega
    cases q1
    · cases q2 <;>
        (refine code_at (hs := [(9, .val (.bool (decide ((i : Int) < X.ls.length))) (.bool true)), (11, .ix 23 (.slice X.sb X.ls.length X.d) (.int .i64 i) _), (12, .ld 50 _ 1 X.lk true _), (16, .val (.int .i64 (IntKind.i64.wrap (2 * i))) (.int .i64 (2 * i : Nat))), (18, .any _ _ _ _ _ _ _), (24, .val (.int .i64 (IntKind.i64.wrap (2 * i))) (.int .i64 (2 * i : Nat))), (25, .val (.int .i64 (IntKind.i64.wrap ((2 * i : Nat) + 1))) (.int .i64 (2 * i + 1 : Nat))), (27, .any _ _ _ _ _ _ _)]) (ch := []) (evk 50) special
          ⟨congrArg Value.bool (decide_eq_true (by omega)), X.ixL hlt, ⟨l0, _, rfl⟩, congrArg (Value.int .i64) w1, y1, congrArg (Value.int .i64) w1, congrArg (Value.int .i64) w2, y2, trivial⟩ trivial pre (G13_below X a b _) (G13_below X a b _) ?_
         simp only [Q60, T60, hsb, cond_true, cond_false]; kernel_rfl)
    · refine code_at (hs := [(9, .val (.bool (decide ((i : Int) < X.ls.length))) (.bool true)), (11, .ix 23 (.slice X.sb X.ls.length X.d) (.int .i64 i) _), (12, .ld 50 _ 1 X.lk true _), (16, .val (.int .i64 (IntKind.i64.wrap (2 * i))) (.int .i64 (2 * i : Nat))), (18, .any _ _ _ _ _ _ _)]) (ch := []) (evk 50) special
          ⟨congrArg Value.bool (decide_eq_true (by omega)), X.ixL hlt, ⟨l0, _, rfl⟩, congrArg (Value.int .i64) w1, y1, trivial⟩ trivial pre (G13_below X a b _) (G13_below X a b _) ?_
      simp only [Q60, T60, hsb, cond_true]; kernel_rfl
  exact key _ _ rfl rfl
theorem e_out60 (X : Cx) (a b : Int) : CodeOk Try.prog none (lp Try.prog 60 1) (T60 X X.ls.length) [] (G13 Try.prog X a b none) 11 ⟨.exit 0, TJ60, [], G13 Try.prog X a b none, 11⟩ := by
  have pre := pre60 X a b none X.ls.length
  have hsb := X.hsb
  rcases hsb with ⟨hsb, _⟩ | hsb <;>
    (refine code_at (hs := [(9, .val (.bool (decide ((X.ls.length : Int) < X.ls.length))) (.bool false))]) (ch := []) (evk 50) special ⟨congrArg Value.bool (decide_eq_false (by omega)), trivial⟩ trivial pre (G13_below X a b _) (G13_below X a b _) ?_
     simp only [T60, hsb]; kernel_rfl)
def goT (a b : Int) : List Lk → Nat → Option Nat
  | [], _ => none
  | l :: r, i => match two a b l i with
    | some p => some p
    | none => goT a b r (i + 1)
def F60 (P : Program) (X : Cx) (a b : Int) : Option Nat → Res
  | some p => ⟨.ret, TJ60, [], G13 P X a b (some p), 11⟩
  | none => ⟨.exit 0, TJ60, [], G13 P X a b none, 11⟩
theorem e_loop60 (X : Cx) {a b : Int} : ∀ (k i : Nat), i + k = X.ls.length → LoopOk Try.prog none (lp Try.prog 60 1) (T60 X i) [] (G13 Try.prog X a b none) 11 (F60 Try.prog X a b (goT a b (X.ls.drop i) i))
  | 0, i, h => by
    have : i = X.ls.length := by omega
    subst this
    rw [List.drop_length]
    exact loopOk_out (e_out60 X a b) (by show Exit.exit 0 ≠ Exit.normal; simp)
  | k + 1, i, h => by
    have hlt : i < X.ls.length := by omega
    have hi : X.ls[i]? = some X.ls[i] := List.getElem?_eq_getElem hlt
    have h1 := e_go60 X (a := a) (b := b) hi
    rw [List.drop_eq_getElem_cons hlt]
    simp only [goT]
    cases ht : two a b X.ls[i] i with
    | some p => rw [ht] at h1; exact loopOk_out h1 (by show Exit.ret ≠ Exit.normal; simp)
    | none =>
      rw [ht] at h1
      rw [show (i : Int) + 1 = ((i + 1 : Nat) : Int) by push_cast; rfl, wrap_nat (by have := X.hL; omega)] at h1
      exact loop_step h1 (e_loop60 X k (i + 1) (by omega))
termination_by k => k
theorem call_60 (X : Cx) {a b : Int} {g : Option Nat} (hg : goT a b X.ls 0 = g) :
    (∃ fn, Try.prog.funcs[60]? = some fn ∧ fn.body.isSome = true) ∧ CallOk Try.prog 60 ([] ++ [Y9] ++ [pt 7]) (G13 Try.prog X a b none) 10 (.tuple #[]) (G13 Try.prog X a b g) 11 := by
  have hlo := e_loop60 X (a := a) (b := b) X.ls.length 0 (by omega)
  rw [List.drop_zero, hg] at hlo
  cases g <;>
    exact call_by (hs := []) (ch := [⟨1, none, .loop (lp Try.prog 60 1), T60 X 0, [], G13 Try.prog X a b none, 11, _, true⟩]) (evk 50) special trivial ⟨codeOk_loop hlo, trivial⟩ (by kernel_rfl)
def R13 (X : Cx) (a b : Int) (g : Option Nat) : Res := ⟨bif g.isSome then .exit 0 else .normal, T13 X a b, [8], (8, .defd) :: H13 X a b g, 11⟩
theorem range_13 (X : Cx) {a b : Int} {g : Option Nat} (hg : goT a b X.ls 0 = g) : CodeOk Try.prog none (rf Try.prog 13 9) (T13 X a b) [] (H13 X a b none) 8 (R13 X a b g) := by
  have h := call_60 X hg
  have hL : (G13 Try.prog X a b g).get 9 = some (.loop (L13 Try.prog X a b (bif g.isSome then .done else .ready) (bif g.isSome then some (.exit 0) else none))) := rfl
  cases g <;> exact range_by special (by kernel_rfl) (by kernel_rfl) h hL (by kernel_rfl)
/-- The search of the program is the reference's. -/
theorem ls_getD {X : Cx} {i : Nat} (h : i < X.ls.length) : X.ls.getD i ⟨0, 0, 0, 0⟩ = X.ls[i] := by
  simp [List.getD_eq_getElem?_getD, h]
theorem pm_eq (X : Cx) {a b : Int} {i p : Nat} (hp : p / 2 = i) (hi : i < X.ls.length) : pmS X a b p = pmL a b X.ls[i] p := by
  unfold pmS pmL ansAt
  have : ((p : Int)).toNat / 2 = i := by simpa using hp
  rw [this, ls_getD hi]
  rfl
theorem go_srch (X : Cx) (a b : Int) : ∀ (k i : Nat), i + k = X.ls.length → goT a b (X.ls.drop i) i = srch (pmS X a b) (2 * k) (2 * i)
  | 0, i, h => by
    rw [List.drop_eq_nil_of_le (by omega)]
    rfl
  | k + 1, i, h => by
    have hlt : i < X.ls.length := by omega
    have ih := go_srch X a b k (i + 1) (by omega)
    rw [List.drop_eq_getElem_cons hlt]
    simp only [goT, two]
    rw [show 2 * (k + 1) = 2 * k + 1 + 1 by omega]
    simp only [srch]
    rw [pm_eq X (p := 2 * i) (by omega) hlt, pm_eq X (p := 2 * i + 1) (by omega) hlt, ih]
    cases pmL a b X.ls[i] ((2 * i : Nat) : Int) with
    | true => rfl
    | false =>
      cases pmL a b X.ls[i] ((2 * i + 1 : Nat) : Int) with
      | true => rfl
      | false => rfl
theorem goT_eq (X : Cx) (a b : Int) : goT a b X.ls 0 = findS X a b := by
  have := go_srch X a b X.ls.length 0 (by omega)
  rwa [List.drop_zero] at this
def findV (c n1 n2 : Bool) (g : Option Nat) : Value := bif c then (bif n1 && n2 then .tuple #[.int .i64 (bif g.isSome then optI g else 0), .int .i64 (bif g.isSome then 0 else 4)] else .tuple #[.int .i64 0, .int .i64 2]) else .tuple #[.int .i64 0, .int .i64 260]
theorem find_0 (X : Cx) (hd : X.ls.length ≤ X.d) (hd2 : X.d < openCap) (a b : Int) {c n1 n2 : Bool} {g : Option Nat} (hc : checkS X = c) (h1 : nodeS X.N a = n1) (h2 : nodeS X.N b = n2) (hg : findS X a b = g) :
    Memo.Ok Try.prog ⟨13, 2, [X.v, .int .i64 a, .int .i64 b], X.V, findV c n1 n2 g, [], 2⟩ := by
  have mc := check_m X hd hd2 hc 5
  have m1 := node_m X a h1 5
  have m2 := node_m X b h2 5
  have hr := range_13 X ((goT_eq X a b).trans hg)
  cases c
  · cases n1 <;> cases n2 <;> cases g <;> exact memo_pure (hs := [(3, .frz), (4, .frz), (5, .frz), (13, .call _)]) (ch := []) 5 (evk 50) special ⟨trivial, trivial, trivial, mc, trivial⟩ trivial (X.hV (by kernel_rfl)) (X.smallH 2) (by kernel_rfl)
  · cases n1
    · cases n2 <;> cases g <;> exact memo_pure (hs := [(3, .frz), (4, .frz), (5, .frz), (13, .call _), (19, .call _)]) (ch := []) 5 (evk 50) special ⟨trivial, trivial, trivial, mc, m1, trivial⟩ trivial (X.hV (by kernel_rfl)) (X.smallH 2) (by kernel_rfl)
    · cases n2
      · cases g <;> exact memo_pure (hs := [(3, .frz), (4, .frz), (5, .frz), (13, .call _), (19, .call _), (24, .call _)]) (ch := []) 5 (evk 50) special ⟨trivial, trivial, trivial, mc, m1, m2, trivial⟩ trivial (X.hV (by kernel_rfl)) (X.smallH 2) (by kernel_rfl)
      · cases g <;> exact memo_pure (hs := [(3, .frz), (4, .frz), (5, .frz), (13, .call _), (19, .call _), (24, .call _), (28, .call _)]) (ch := [⟨9, none, rf Try.prog 13 9, T13 X a b, [], H13 X a b none, 8, _, true⟩]) 11 (evk 50) special ⟨trivial, trivial, trivial, mc, m1, m2, ends_7 X, trivial⟩ ⟨hr, trivial⟩ (X.hV (by kernel_rfl)) (X.smallH 2) (by kernel_rfl)
end Go.Proofs.Ytkngbmaomgfcjaa.topo
