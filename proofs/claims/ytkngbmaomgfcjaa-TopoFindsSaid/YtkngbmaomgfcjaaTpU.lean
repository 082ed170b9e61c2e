/- Contract: Ports. -/
import Derived.Test.YtkngbmaomgfcjaaTpT
namespace Go.Proofs.Ytkngbmaomgfcjaa.topo
open Go Go.En
set_option linter.unusedVariables false

theorem ends_5 (X : Cx) : Memo.Ok Try.prog ⟨41, 5, [X.v], [], .func (.func 60) #[] #[pt 5], [(5, X.cells)], 6⟩ :=
  memo_new (hs := []) (ch := []) (evk 50) special trivial trivial (by kernel_rfl)
def T12 (X : Cx) (a : Int) : List Value := [X.v, .int .i64 a, pt 2, pt 3, .slice none 0 0, .int .i64 0, .int .i64 0, pt 4, undef, X.v, .int .i64 0, .int .i64 0, .bool false, undef, .int .i64 a, .bool false, .bool false, .int .i64 a, pt 2, .int .i64 X.N, .bool false, .bool false, X.v, .func (.func 60) #[] #[pt 5]] ++ List.replicate 11 undef
theorem T12_small (X : Cx) (a : Int) {n : Nat} (hn : 6 ≤ n) : En.smallL (En.small n 5) (T12 X a) = true := by
  have h : ∀ k, k ≤ 5 → En.small n 5 (pt k) = true := fun k hk => by simp [pt, En.small]; omega
  have h7 : En.small n 5 (.func (.func 60) #[] #[pt 5]) = true := by simp [En.small, En.smallL, pt]; omega
  simp only [T12, List.cons_append, List.nil_append, En.smallL, X.small (by omega : 2 ≤ n), h 2 (by omega), h 3 (by omega), h 4 (by omega), h7, Bool.true_and]
  rfl
def L12 (P : Program) (X : Cx) (a : Int) : Loop := newLoop (T12 X a) (rfP (rf P 12 9)) (rfA (rf P 12 9)) (rfB (rf P 12 9)) 6
def H12 (X : Cx) (a : Int) (sv : Value) : Hp := [(5, .cells X.cells false), (4, .cells [sv] false), (3, .cells [.int .i64 a] true), (2, .cells X.cells true), (0, .cells X.st true), (1, .cells X.lk true)]
def K12 (P : Program) (X : Cx) (a : Int) (sv : Value) : Hp := (7, .loop (L12 P X a)) :: (6, .defd) :: H12 X a sv
def G12 (P : Program) (X : Cx) (a : Int) (c : Nat) (L : List Int) : Hp := hpL c L (K12 P X a (slL c L))
def Y7 : Value := .func (.yield 7) #[] #[]
theorem K12_below (X : Cx) (a : Int) (L : List Int) : hpBelow 10 (K12 Try.prog X a (slL 9 L)) = true := by
  have a0 : tidyB 10 (.cells X.cells false) = true := X.smallL (by omega) 5
  have a1 : tidyB 10 (.cells X.cells true) = true := X.smallL (by omega) 5
  have a2 : tidyB 10 (.cells X.st true) = true := small_avL X.avs
  have a3 : tidyB 10 (.cells X.lk true) = true := small_avL X.avk
  have a4 : tidyB 10 (.loop (L12 Try.prog X a)) = true := by
    show (En.smallL (En.small 10 5) (T12 X a).toArray.toList && decide (6 < 10)) = true
    have := T12_small X a (n := 10) (by omega)
    simpa using this
  cases L <;> (simp only [K12, H12, hpBelow, a0, a1, a2, a3, a4, Bool.and_true]; rfl)
theorem G12_below (X : Cx) (a : Int) (L : List Int) : hpBelow 10 (G12 Try.prog X a 9 L) = true := by
  cases L with
  | nil => exact K12_below X a []
  | cons x r =>
    have a1 : tidyB 10 (.cells (ic (x :: r)) false) = true := small_avL (ic_av _)
    show ((decide (9 < 10) && tidyB 10 (.cells (ic (x :: r)) false)) && hpBelow 10 (K12 Try.prog X a (slL 9 (x :: r)))) = true
    rw [a1, K12_below]; rfl
theorem G12_ren (X : Cx) (a : Int) {σ : Nat → Nat} (hσ : ∀ b, b < 9 → σ b = b) {c : Nat} (hc : σ 9 = c) (L : List Int) : renHp σ (G12 Try.prog X a 9 L) = G12 Try.prog X a c L := by
  have h0 := hσ 0 (by omega)
  have h1 := hσ 1 (by omega)
  have hk : ∀ sv sv', renV σ 5 sv = sv' → renHp σ (K12 Try.prog X a sv) = K12 Try.prog X a sv' := by
    intro sv sv' hs
    simp only [K12, H12, renHp, renBlk, h0, h1, hσ 2 (by omega), hσ 3 (by omega), hσ 4 (by omega), hσ 5 (by omega), hσ 6 (by omega), hσ 7 (by omega), X.renC σ h0 h1 5, renV_avL X.avs, renV_avL X.avk, List.map_cons, List.map_nil, hs]
    rfl
  cases L with
  | nil => exact hk _ _ rfl
  | cons x r =>
    have := hk (slL 9 (x :: r)) (slL c (x :: r)) (by simp only [slL, renV, hc])
    simp only [G12, hpL, renHp, renBlk, hc, ic_ren, this]

theorem z1_nil_false (X : Cx) {a : Int} {l : Lk} {p : Nat} (hq : (fromS l p == a) = false) :
    Hint.Ok Try.prog (.any (opAt Try.prog 60 3 5) [Y7, ev5 l p] ((10, .cells l.cells false) :: G12 Try.prog X a 9 []) 11 (.bool true) ((11, .cells (evc l p) false) :: (10, .cells l.cells false) :: G12 Try.prog X a 9 []) 12) := by
  have m1 := memo_any (ans_0 (g := 42) (by omega) l p) 12 (by kernel_rfl) rfl rfl
  obtain ⟨x, y, u, v⟩ := l
  exact yield_by (hs := [(26, .call _), (28, .val (.bool (fromS ⟨x, y, u, v⟩ p == a)) (.bool _))]) (ch := []) (cf := .tmp 13) (args := #[.tmp 17]) (ats := #[67]) (l := 7) (evk 50) special ⟨m1, congrArg Value.bool hq, trivial⟩ trivial (by kernel_rfl) (by kernel_rfl)
theorem z1_nil_true (X : Cx) {a : Int} {l : Lk} {p : Nat} (hq : (fromS l p == a) = true) :
    Hint.Ok Try.prog (.any (opAt Try.prog 60 3 5) [Y7, ev5 l p] ((10, .cells l.cells false) :: G12 Try.prog X a 9 []) 11 (.bool true) ((13, .cells (ic ([] ++ [(p : Int)])) false) :: (12, .cells (ic [(p : Int)]) false) :: (11, .cells (evc l p) false) :: (10, .cells l.cells false) :: K12 Try.prog X a (slL 13 ([] ++ [(p : Int)]))) 14) := by
  have m1 := memo_any (ans_0 (g := 42) (by omega) l p) 12 (by kernel_rfl) rfl rfl
  obtain ⟨x, y, u, v⟩ := l
  exact yield_by (hs := [(26, .call _), (28, .val (.bool (fromS ⟨x, y, u, v⟩ p == a)) (.bool _))]) (ch := []) (cf := .tmp 13) (args := #[.tmp 17]) (ats := #[67]) (l := 7) (evk 50) special ⟨m1, congrArg Value.bool hq, trivial⟩ trivial (by kernel_rfl) (by kernel_rfl)
theorem z1_cons_false (X : Cx) {a : Int} {l : Lk} {p : Nat} {x0 : Int} {r0 : List Int} (hlen : (x0 :: r0).length ≤ 900) (hq : (fromS l p == a) = false) :
    Hint.Ok Try.prog (.any (opAt Try.prog 60 3 5) [Y7, ev5 l p] ((10, .cells l.cells false) :: G12 Try.prog X a 9 (x0 :: r0)) 11 (.bool true) ((11, .cells (evc l p) false) :: (10, .cells l.cells false) :: G12 Try.prog X a 9 (x0 :: r0)) 12) := by
  have m1 := memo_any (ans_0 (g := 42) (by omega) l p) 12 (by kernel_rfl) rfl rfl
  obtain ⟨x, y, u, v⟩ := l
  exact yield_by (hs := [(26, .call _), (28, .val (.bool (fromS ⟨x, y, u, v⟩ p == a)) (.bool _))]) (ch := []) (cf := .tmp 13) (args := #[.tmp 17]) (ats := #[67]) (l := 7) (evk 50) special ⟨m1, congrArg Value.bool hq, trivial⟩ trivial (by kernel_rfl) (by kernel_rfl)
theorem z1_cons_true (X : Cx) {a : Int} {l : Lk} {p : Nat} {x0 : Int} {r0 : List Int} (hlen : (x0 :: r0).length ≤ 900) (hq : (fromS l p == a) = true) :
    Hint.Ok Try.prog (.any (opAt Try.prog 60 3 5) [Y7, ev5 l p] ((10, .cells l.cells false) :: G12 Try.prog X a 9 (x0 :: r0)) 11 (.bool true) ((13, .cells (ic ((x0 :: r0) ++ [(p : Int)])) false) :: (12, .cells (ic [(p : Int)]) false) :: (11, .cells (evc l p) false) :: (10, .cells l.cells false) :: K12 Try.prog X a (slL 13 ((x0 :: r0) ++ [(p : Int)]))) 14) := by
  have m1 := memo_any (ans_0 (g := 42) (by omega) l p) 12 (by kernel_rfl) rfl rfl
  have ap := app_io (a := 9) (b := 12) (L := x0 :: r0) (x := p) hlen
  obtain ⟨x, y, u, v⟩ := l
  exact yield_by (hs := [(26, .call _), (28, .val (.bool (fromS ⟨x, y, u, v⟩ p == a)) (.bool _)), (33, .app _ _ _ _ _ _ _ _)]) (ch := []) (cf := .tmp 13) (args := #[.tmp 17]) (ats := #[67]) (l := 7) (evk 50) special ⟨m1, congrArg Value.bool hq, ap, trivial⟩ trivial (by kernel_rfl) (by kernel_rfl)
theorem z2a_nil_false (X : Cx) {a : Int} {l : Lk} {p : Nat} {p0 : Nat} (hq : (fromS l p == a) = false) :
    Hint.Ok Try.prog (.any (opAt Try.prog 60 3 14) [Y7, ev5 l p] ((11, .cells (evc l p0) false) :: (10, .cells l.cells false) :: G12 Try.prog X a 9 []) 12 (.bool true) ((12, .cells (evc l p) false) :: (11, .cells (evc l p0) false) :: (10, .cells l.cells false) :: G12 Try.prog X a 9 []) 13) := by
  have m1 := memo_any (ans_0 (g := 42) (by omega) l p) 13 (by kernel_rfl) rfl rfl
  obtain ⟨x, y, u, v⟩ := l
  exact yield_by (hs := [(26, .call _), (28, .val (.bool (fromS ⟨x, y, u, v⟩ p == a)) (.bool _))]) (ch := []) (cf := .tmp 21) (args := #[.tmp 26]) (ats := #[67]) (l := 7) (evk 50) special ⟨m1, congrArg Value.bool hq, trivial⟩ trivial (by kernel_rfl) (by kernel_rfl)
theorem z2a_nil_true (X : Cx) {a : Int} {l : Lk} {p : Nat} {p0 : Nat} (hq : (fromS l p == a) = true) :
    Hint.Ok Try.prog (.any (opAt Try.prog 60 3 14) [Y7, ev5 l p] ((11, .cells (evc l p0) false) :: (10, .cells l.cells false) :: G12 Try.prog X a 9 []) 12 (.bool true) ((14, .cells (ic ([] ++ [(p : Int)])) false) :: (13, .cells (ic [(p : Int)]) false) :: (12, .cells (evc l p) false) :: (11, .cells (evc l p0) false) :: (10, .cells l.cells false) :: K12 Try.prog X a (slL 14 ([] ++ [(p : Int)]))) 15) := by
  have m1 := memo_any (ans_0 (g := 42) (by omega) l p) 13 (by kernel_rfl) rfl rfl
  obtain ⟨x, y, u, v⟩ := l
  exact yield_by (hs := [(26, .call _), (28, .val (.bool (fromS ⟨x, y, u, v⟩ p == a)) (.bool _))]) (ch := []) (cf := .tmp 21) (args := #[.tmp 26]) (ats := #[67]) (l := 7) (evk 50) special ⟨m1, congrArg Value.bool hq, trivial⟩ trivial (by kernel_rfl) (by kernel_rfl)
theorem z2a_cons_false (X : Cx) {a : Int} {l : Lk} {p : Nat} {p0 : Nat} {x0 : Int} {r0 : List Int} (hlen : (x0 :: r0).length ≤ 900) (hq : (fromS l p == a) = false) :
    Hint.Ok Try.prog (.any (opAt Try.prog 60 3 14) [Y7, ev5 l p] ((11, .cells (evc l p0) false) :: (10, .cells l.cells false) :: G12 Try.prog X a 9 (x0 :: r0)) 12 (.bool true) ((12, .cells (evc l p) false) :: (11, .cells (evc l p0) false) :: (10, .cells l.cells false) :: G12 Try.prog X a 9 (x0 :: r0)) 13) := by
  have m1 := memo_any (ans_0 (g := 42) (by omega) l p) 13 (by kernel_rfl) rfl rfl
  obtain ⟨x, y, u, v⟩ := l
  exact yield_by (hs := [(26, .call _), (28, .val (.bool (fromS ⟨x, y, u, v⟩ p == a)) (.bool _))]) (ch := []) (cf := .tmp 21) (args := #[.tmp 26]) (ats := #[67]) (l := 7) (evk 50) special ⟨m1, congrArg Value.bool hq, trivial⟩ trivial (by kernel_rfl) (by kernel_rfl)
theorem z2a_cons_true (X : Cx) {a : Int} {l : Lk} {p : Nat} {p0 : Nat} {x0 : Int} {r0 : List Int} (hlen : (x0 :: r0).length ≤ 900) (hq : (fromS l p == a) = true) :
    Hint.Ok Try.prog (.any (opAt Try.prog 60 3 14) [Y7, ev5 l p] ((11, .cells (evc l p0) false) :: (10, .cells l.cells false) :: G12 Try.prog X a 9 (x0 :: r0)) 12 (.bool true) ((14, .cells (ic ((x0 :: r0) ++ [(p : Int)])) false) :: (13, .cells (ic [(p : Int)]) false) :: (12, .cells (evc l p) false) :: (11, .cells (evc l p0) false) :: (10, .cells l.cells false) :: K12 Try.prog X a (slL 14 ((x0 :: r0) ++ [(p : Int)]))) 15) := by
  have m1 := memo_any (ans_0 (g := 42) (by omega) l p) 13 (by kernel_rfl) rfl rfl
  have ap := app_io (a := 9) (b := 13) (L := x0 :: r0) (x := p) hlen
  obtain ⟨x, y, u, v⟩ := l
  exact yield_by (hs := [(26, .call _), (28, .val (.bool (fromS ⟨x, y, u, v⟩ p == a)) (.bool _)), (33, .app _ _ _ _ _ _ _ _)]) (ch := []) (cf := .tmp 21) (args := #[.tmp 26]) (ats := #[67]) (l := 7) (evk 50) special ⟨m1, congrArg Value.bool hq, ap, trivial⟩ trivial (by kernel_rfl) (by kernel_rfl)
theorem z2b_cons_false (X : Cx) {a : Int} {l : Lk} {p : Nat} {z0 : Int} {p0 : Nat} {x0 : Int} {r0 : List Int} (hlen : (x0 :: r0).length ≤ 900) (hq : (fromS l p == a) = false) :
    Hint.Ok Try.prog (.any (opAt Try.prog 60 3 14) [Y7, ev5 l p] ((13, .cells (ic (x0 :: r0)) false) :: (12, .cells (ic [z0]) false) :: (11, .cells (evc l p0) false) :: (10, .cells l.cells false) :: K12 Try.prog X a (slL 13 (x0 :: r0))) 14 (.bool true) ((14, .cells (evc l p) false) :: (13, .cells (ic (x0 :: r0)) false) :: (12, .cells (ic [z0]) false) :: (11, .cells (evc l p0) false) :: (10, .cells l.cells false) :: K12 Try.prog X a (slL 13 (x0 :: r0))) 15) := by
  have m1 := memo_any (ans_0 (g := 42) (by omega) l p) 15 (by kernel_rfl) rfl rfl
  obtain ⟨x, y, u, v⟩ := l
  exact yield_by (hs := [(26, .call _), (28, .val (.bool (fromS ⟨x, y, u, v⟩ p == a)) (.bool _))]) (ch := []) (cf := .tmp 21) (args := #[.tmp 26]) (ats := #[67]) (l := 7) (evk 50) special ⟨m1, congrArg Value.bool hq, trivial⟩ trivial (by kernel_rfl) (by kernel_rfl)
theorem z2b_cons_true (X : Cx) {a : Int} {l : Lk} {p : Nat} {z0 : Int} {p0 : Nat} {x0 : Int} {r0 : List Int} (hlen : (x0 :: r0).length ≤ 900) (hq : (fromS l p == a) = true) :
    Hint.Ok Try.prog (.any (opAt Try.prog 60 3 14) [Y7, ev5 l p] ((13, .cells (ic (x0 :: r0)) false) :: (12, .cells (ic [z0]) false) :: (11, .cells (evc l p0) false) :: (10, .cells l.cells false) :: K12 Try.prog X a (slL 13 (x0 :: r0))) 14 (.bool true) ((16, .cells (ic ((x0 :: r0) ++ [(p : Int)])) false) :: (15, .cells (ic [(p : Int)]) false) :: (14, .cells (evc l p) false) :: (12, .cells (ic [z0]) false) :: (11, .cells (evc l p0) false) :: (10, .cells l.cells false) :: K12 Try.prog X a (slL 16 ((x0 :: r0) ++ [(p : Int)]))) 17) := by
  have m1 := memo_any (ans_0 (g := 42) (by omega) l p) 15 (by kernel_rfl) rfl rfl
  have ap := app_io (a := 13) (b := 15) (L := x0 :: r0) (x := p) hlen
  obtain ⟨x, y, u, v⟩ := l
  exact yield_by (hs := [(26, .call _), (28, .val (.bool (fromS ⟨x, y, u, v⟩ p == a)) (.bool _)), (33, .app _ _ _ _ _ _ _ _)]) (ch := []) (cf := .tmp 21) (args := #[.tmp 26]) (ats := #[67]) (l := 7) (evk 50) special ⟨m1, congrArg Value.bool hq, ap, trivial⟩ trivial (by kernel_rfl) (by kernel_rfl)
def T61 (X : Cx) (i : Int) : List Value := [Y7, pt 5, J, J, J, J, .slice X.sb X.ls.length X.d, .int .i64 X.ls.length, .int .i64 i] ++ List.replicate 22 J
def two1 (a : Int) (l : Lk) (i : Nat) (L : List Int) : List Int := bif fromS l (2 * i : Nat) == a then L ++ [((2 * i : Nat) : Int)] else L
def two2 (a : Int) (l : Lk) (i : Nat) (L : List Int) : List Int := bif fromS l (2 * i + 1 : Nat) == a then L ++ [((2 * i + 1 : Nat) : Int)] else L

theorem pg_nil_false_false (X : Cx) {a : Int} {i : Nat} {l : Lk} (hi : X.ls[i]? = some l) (h1 : (fromS l (2 * i : Nat) == a) = false) (h2 : (fromS l (2 * i + 1 : Nat) == a) = false) :
    CodeOk Try.prog none (lp Try.prog 60 1) (T61 X i) [] (G12 Try.prog X a 9 []) 10 ⟨.normal, T61 X (IntKind.i64.wrap (i + 1)), [], G12 Try.prog X a 9 [], 13⟩ := by
  have l0 := X.ldL hi
  have hlt := lt_of hi
  have hL := X.hL
  have w1 : IntKind.i64.wrap (2 * (i : Int)) = ((2 * i : Nat) : Int) := by
    have := wrap_nat (n := 2 * i) (by omega)
    push_cast at this ⊢
    exact this
  have w2 : IntKind.i64.wrap (((2 * i : Nat) : Int) + 1) = ((2 * i + 1 : Nat) : Int) := by
    have := wrap_nat (n := 2 * i + 1) (by omega)
    push_cast at this ⊢
    exact this
  have y1 := z1_nil_false X (p := 2 * i) h1
  have y2 := z2a_nil_false X (p := 2 * i + 1) (p0 := 2 * i) h2
  exact code_k [7, 6, 5, 4, 3, 2, 0, 1] (hs := [(9, .val (.bool (decide ((i : Int) < X.ls.length))) (.bool true)), (11, .ix 23 (.slice X.sb X.ls.length X.d) (.int .i64 i) _), (12, .ld 50 _ 1 X.lk true _), (16, .val (.int .i64 (IntKind.i64.wrap (2 * i))) (.int .i64 (2 * i : Nat))), (18, .any _ _ _ _ _ _ _), (24, .val (.int .i64 (IntKind.i64.wrap (2 * i))) (.int .i64 (2 * i : Nat))), (25, .val (.int .i64 (IntKind.i64.wrap ((2 * i : Nat) + 1))) (.int .i64 (2 * i + 1 : Nat))), (27, .any _ _ _ _ _ _ _)]) (ch := []) (evk 50) special
    ⟨congrArg Value.bool (decide_eq_true (by omega)), X.ixL hlt, ⟨l0, _, rfl⟩, congrArg (Value.int .i64) w1, y1, congrArg (Value.int .i64) w1, congrArg (Value.int .i64) w2, y2, trivial⟩ trivial (by kernel_rfl)
theorem pg_cons_false_false (X : Cx) {a : Int} {i : Nat} {l : Lk} {x0 : Int} {r0 : List Int} (hlen : (x0 :: r0).length ≤ 800) (hi : X.ls[i]? = some l) (h1 : (fromS l (2 * i : Nat) == a) = false) (h2 : (fromS l (2 * i + 1 : Nat) == a) = false) :
    CodeOk Try.prog none (lp Try.prog 60 1) (T61 X i) [] (G12 Try.prog X a 9 (x0 :: r0)) 10 ⟨.normal, T61 X (IntKind.i64.wrap (i + 1)), [], G12 Try.prog X a 9 (x0 :: r0), 13⟩ := by
  have l0 := X.ldL hi
  have hlt := lt_of hi
  have hL := X.hL
  have w1 : IntKind.i64.wrap (2 * (i : Int)) = ((2 * i : Nat) : Int) := by
    have := wrap_nat (n := 2 * i) (by omega)
    push_cast at this ⊢
    exact this
  have w2 : IntKind.i64.wrap (((2 * i : Nat) : Int) + 1) = ((2 * i + 1 : Nat) : Int) := by
    have := wrap_nat (n := 2 * i + 1) (by omega)
    push_cast at this ⊢
    exact this
  have y1 := z1_cons_false X (x0 := x0) (r0 := r0) (by simp at hlen ⊢; omega) (p := 2 * i) h1
  have y2 := z2a_cons_false X (x0 := x0) (r0 := r0) (by simp at hlen ⊢; omega) (p := 2 * i + 1) (p0 := 2 * i) h2
  exact code_k [9, 7, 6, 5, 4, 3, 2, 0, 1] (hs := [(9, .val (.bool (decide ((i : Int) < X.ls.length))) (.bool true)), (11, .ix 23 (.slice X.sb X.ls.length X.d) (.int .i64 i) _), (12, .ld 50 _ 1 X.lk true _), (16, .val (.int .i64 (IntKind.i64.wrap (2 * i))) (.int .i64 (2 * i : Nat))), (18, .any _ _ _ _ _ _ _), (24, .val (.int .i64 (IntKind.i64.wrap (2 * i))) (.int .i64 (2 * i : Nat))), (25, .val (.int .i64 (IntKind.i64.wrap ((2 * i : Nat) + 1))) (.int .i64 (2 * i + 1 : Nat))), (27, .any _ _ _ _ _ _ _)]) (ch := []) (evk 50) special
    ⟨congrArg Value.bool (decide_eq_true (by omega)), X.ixL hlt, ⟨l0, _, rfl⟩, congrArg (Value.int .i64) w1, y1, congrArg (Value.int .i64) w1, congrArg (Value.int .i64) w2, y2, trivial⟩ trivial (by kernel_rfl)
theorem pg_nil_false_true (X : Cx) {a : Int} {i : Nat} {l : Lk} (hi : X.ls[i]? = some l) (h1 : (fromS l (2 * i : Nat) == a) = false) (h2 : (fromS l (2 * i + 1 : Nat) == a) = true) :
    CodeOk Try.prog none (lp Try.prog 60 1) (T61 X i) [] (G12 Try.prog X a 9 []) 10 ⟨.normal, T61 X (IntKind.i64.wrap (i + 1)), [], G12 Try.prog X a 14 ([] ++ [((2 * i + 1 : Nat) : Int)]), 15⟩ := by
  have l0 := X.ldL hi
  have hlt := lt_of hi
  have hL := X.hL
  have w1 : IntKind.i64.wrap (2 * (i : Int)) = ((2 * i : Nat) : Int) := by
    have := wrap_nat (n := 2 * i) (by omega)
    push_cast at this ⊢
    exact this
  have w2 : IntKind.i64.wrap (((2 * i : Nat) : Int) + 1) = ((2 * i + 1 : Nat) : Int) := by
    have := wrap_nat (n := 2 * i + 1) (by omega)
    push_cast at this ⊢
    exact this
  have y1 := z1_nil_false X (p := 2 * i) h1
  have y2 := z2a_nil_true X (p := 2 * i + 1) (p0 := 2 * i) h2
  exact code_k [14, 7, 6, 5, 4, 3, 2, 0, 1] (hs := [(9, .val (.bool (decide ((i : Int) < X.ls.length))) (.bool true)), (11, .ix 23 (.slice X.sb X.ls.length X.d) (.int .i64 i) _), (12, .ld 50 _ 1 X.lk true _), (16, .val (.int .i64 (IntKind.i64.wrap (2 * i))) (.int .i64 (2 * i : Nat))), (18, .any _ _ _ _ _ _ _), (24, .val (.int .i64 (IntKind.i64.wrap (2 * i))) (.int .i64 (2 * i : Nat))), (25, .val (.int .i64 (IntKind.i64.wrap ((2 * i : Nat) + 1))) (.int .i64 (2 * i + 1 : Nat))), (27, .any _ _ _ _ _ _ _)]) (ch := []) (evk 50) special
    ⟨congrArg Value.bool (decide_eq_true (by omega)), X.ixL hlt, ⟨l0, _, rfl⟩, congrArg (Value.int .i64) w1, y1, congrArg (Value.int .i64) w1, congrArg (Value.int .i64) w2, y2, trivial⟩ trivial (by kernel_rfl)
theorem pg_cons_false_true (X : Cx) {a : Int} {i : Nat} {l : Lk} {x0 : Int} {r0 : List Int} (hlen : (x0 :: r0).length ≤ 800) (hi : X.ls[i]? = some l) (h1 : (fromS l (2 * i : Nat) == a) = false) (h2 : (fromS l (2 * i + 1 : Nat) == a) = true) :
    CodeOk Try.prog none (lp Try.prog 60 1) (T61 X i) [] (G12 Try.prog X a 9 (x0 :: r0)) 10 ⟨.normal, T61 X (IntKind.i64.wrap (i + 1)), [], G12 Try.prog X a 14 ((x0 :: r0) ++ [((2 * i + 1 : Nat) : Int)]), 15⟩ := by
  have l0 := X.ldL hi
  have hlt := lt_of hi
  have hL := X.hL
  have w1 : IntKind.i64.wrap (2 * (i : Int)) = ((2 * i : Nat) : Int) := by
    have := wrap_nat (n := 2 * i) (by omega)
    push_cast at this ⊢
    exact this
  have w2 : IntKind.i64.wrap (((2 * i : Nat) : Int) + 1) = ((2 * i + 1 : Nat) : Int) := by
    have := wrap_nat (n := 2 * i + 1) (by omega)
    push_cast at this ⊢
    exact this
  have y1 := z1_cons_false X (x0 := x0) (r0 := r0) (by simp at hlen ⊢; omega) (p := 2 * i) h1
  have y2 := z2a_cons_true X (x0 := x0) (r0 := r0) (by simp at hlen ⊢; omega) (p := 2 * i + 1) (p0 := 2 * i) h2
  exact code_k [14, 7, 6, 5, 4, 3, 2, 0, 1] (hs := [(9, .val (.bool (decide ((i : Int) < X.ls.length))) (.bool true)), (11, .ix 23 (.slice X.sb X.ls.length X.d) (.int .i64 i) _), (12, .ld 50 _ 1 X.lk true _), (16, .val (.int .i64 (IntKind.i64.wrap (2 * i))) (.int .i64 (2 * i : Nat))), (18, .any _ _ _ _ _ _ _), (24, .val (.int .i64 (IntKind.i64.wrap (2 * i))) (.int .i64 (2 * i : Nat))), (25, .val (.int .i64 (IntKind.i64.wrap ((2 * i : Nat) + 1))) (.int .i64 (2 * i + 1 : Nat))), (27, .any _ _ _ _ _ _ _)]) (ch := []) (evk 50) special
    ⟨congrArg Value.bool (decide_eq_true (by omega)), X.ixL hlt, ⟨l0, _, rfl⟩, congrArg (Value.int .i64) w1, y1, congrArg (Value.int .i64) w1, congrArg (Value.int .i64) w2, y2, trivial⟩ trivial (by kernel_rfl)
theorem pg_nil_true_false (X : Cx) {a : Int} {i : Nat} {l : Lk} (hi : X.ls[i]? = some l) (h1 : (fromS l (2 * i : Nat) == a) = true) (h2 : (fromS l (2 * i + 1 : Nat) == a) = false) :
    CodeOk Try.prog none (lp Try.prog 60 1) (T61 X i) [] (G12 Try.prog X a 9 []) 10 ⟨.normal, T61 X (IntKind.i64.wrap (i + 1)), [], G12 Try.prog X a 13 ([] ++ [((2 * i : Nat) : Int)]), 15⟩ := by
  have l0 := X.ldL hi
  have hlt := lt_of hi
  have hL := X.hL
  have w1 : IntKind.i64.wrap (2 * (i : Int)) = ((2 * i : Nat) : Int) := by
    have := wrap_nat (n := 2 * i) (by omega)
    push_cast at this ⊢
    exact this
  have w2 : IntKind.i64.wrap (((2 * i : Nat) : Int) + 1) = ((2 * i + 1 : Nat) : Int) := by
    have := wrap_nat (n := 2 * i + 1) (by omega)
    push_cast at this ⊢
    exact this
  have y1 := z1_nil_true X (p := 2 * i) h1
  have y2 := z2b_cons_false X (x0 := ((2 * i : Nat) : Int)) (r0 := []) (by simp) (p := 2 * i + 1) (p0 := 2 * i) (z0 := ((2 * i : Nat) : Int)) h2
  exact code_k [13, 7, 6, 5, 4, 3, 2, 0, 1] (hs := [(9, .val (.bool (decide ((i : Int) < X.ls.length))) (.bool true)), (11, .ix 23 (.slice X.sb X.ls.length X.d) (.int .i64 i) _), (12, .ld 50 _ 1 X.lk true _), (16, .val (.int .i64 (IntKind.i64.wrap (2 * i))) (.int .i64 (2 * i : Nat))), (18, .any _ _ _ _ _ _ _), (24, .val (.int .i64 (IntKind.i64.wrap (2 * i))) (.int .i64 (2 * i : Nat))), (25, .val (.int .i64 (IntKind.i64.wrap ((2 * i : Nat) + 1))) (.int .i64 (2 * i + 1 : Nat))), (27, .any _ _ _ _ _ _ _)]) (ch := []) (evk 50) special
    ⟨congrArg Value.bool (decide_eq_true (by omega)), X.ixL hlt, ⟨l0, _, rfl⟩, congrArg (Value.int .i64) w1, y1, congrArg (Value.int .i64) w1, congrArg (Value.int .i64) w2, y2, trivial⟩ trivial (by kernel_rfl)
theorem pg_cons_true_false (X : Cx) {a : Int} {i : Nat} {l : Lk} {x0 : Int} {r0 : List Int} (hlen : (x0 :: r0).length ≤ 800) (hi : X.ls[i]? = some l) (h1 : (fromS l (2 * i : Nat) == a) = true) (h2 : (fromS l (2 * i + 1 : Nat) == a) = false) :
    CodeOk Try.prog none (lp Try.prog 60 1) (T61 X i) [] (G12 Try.prog X a 9 (x0 :: r0)) 10 ⟨.normal, T61 X (IntKind.i64.wrap (i + 1)), [], G12 Try.prog X a 13 ((x0 :: r0) ++ [((2 * i : Nat) : Int)]), 15⟩ := by
  have l0 := X.ldL hi
  have hlt := lt_of hi
  have hL := X.hL
  have w1 : IntKind.i64.wrap (2 * (i : Int)) = ((2 * i : Nat) : Int) := by
    have := wrap_nat (n := 2 * i) (by omega)
    push_cast at this ⊢
    exact this
  have w2 : IntKind.i64.wrap (((2 * i : Nat) : Int) + 1) = ((2 * i + 1 : Nat) : Int) := by
    have := wrap_nat (n := 2 * i + 1) (by omega)
    push_cast at this ⊢
    exact this
  have y1 := z1_cons_true X (x0 := x0) (r0 := r0) (by simp at hlen ⊢; omega) (p := 2 * i) h1
  have y2 := z2b_cons_false X (x0 := x0) (r0 := r0 ++ [((2 * i : Nat) : Int)]) (by simp at hlen ⊢; omega) (p := 2 * i + 1) (p0 := 2 * i) (z0 := ((2 * i : Nat) : Int)) h2
  exact code_k [13, 7, 6, 5, 4, 3, 2, 0, 1] (hs := [(9, .val (.bool (decide ((i : Int) < X.ls.length))) (.bool true)), (11, .ix 23 (.slice X.sb X.ls.length X.d) (.int .i64 i) _), (12, .ld 50 _ 1 X.lk true _), (16, .val (.int .i64 (IntKind.i64.wrap (2 * i))) (.int .i64 (2 * i : Nat))), (18, .any _ _ _ _ _ _ _), (24, .val (.int .i64 (IntKind.i64.wrap (2 * i))) (.int .i64 (2 * i : Nat))), (25, .val (.int .i64 (IntKind.i64.wrap ((2 * i : Nat) + 1))) (.int .i64 (2 * i + 1 : Nat))), (27, .any _ _ _ _ _ _ _)]) (ch := []) (evk 50) special
    ⟨congrArg Value.bool (decide_eq_true (by omega)), X.ixL hlt, ⟨l0, _, rfl⟩, congrArg (Value.int .i64) w1, y1, congrArg (Value.int .i64) w1, congrArg (Value.int .i64) w2, y2, trivial⟩ trivial (by kernel_rfl)
theorem pg_nil_true_true (X : Cx) {a : Int} {i : Nat} {l : Lk} (hi : X.ls[i]? = some l) (h1 : (fromS l (2 * i : Nat) == a) = true) (h2 : (fromS l (2 * i + 1 : Nat) == a) = true) :
    CodeOk Try.prog none (lp Try.prog 60 1) (T61 X i) [] (G12 Try.prog X a 9 []) 10 ⟨.normal, T61 X (IntKind.i64.wrap (i + 1)), [], G12 Try.prog X a 16 (([] ++ [((2 * i : Nat) : Int)]) ++ [((2 * i + 1 : Nat) : Int)]), 17⟩ := by
  have l0 := X.ldL hi
  have hlt := lt_of hi
  have hL := X.hL
  have w1 : IntKind.i64.wrap (2 * (i : Int)) = ((2 * i : Nat) : Int) := by
    have := wrap_nat (n := 2 * i) (by omega)
    push_cast at this ⊢
    exact this
  have w2 : IntKind.i64.wrap (((2 * i : Nat) : Int) + 1) = ((2 * i + 1 : Nat) : Int) := by
    have := wrap_nat (n := 2 * i + 1) (by omega)
    push_cast at this ⊢
    exact this
  have y1 := z1_nil_true X (p := 2 * i) h1
  have y2 := z2b_cons_true X (x0 := ((2 * i : Nat) : Int)) (r0 := []) (by simp) (p := 2 * i + 1) (p0 := 2 * i) (z0 := ((2 * i : Nat) : Int)) h2
  exact code_k [16, 7, 6, 5, 4, 3, 2, 0, 1] (hs := [(9, .val (.bool (decide ((i : Int) < X.ls.length))) (.bool true)), (11, .ix 23 (.slice X.sb X.ls.length X.d) (.int .i64 i) _), (12, .ld 50 _ 1 X.lk true _), (16, .val (.int .i64 (IntKind.i64.wrap (2 * i))) (.int .i64 (2 * i : Nat))), (18, .any _ _ _ _ _ _ _), (24, .val (.int .i64 (IntKind.i64.wrap (2 * i))) (.int .i64 (2 * i : Nat))), (25, .val (.int .i64 (IntKind.i64.wrap ((2 * i : Nat) + 1))) (.int .i64 (2 * i + 1 : Nat))), (27, .any _ _ _ _ _ _ _)]) (ch := []) (evk 50) special
    ⟨congrArg Value.bool (decide_eq_true (by omega)), X.ixL hlt, ⟨l0, _, rfl⟩, congrArg (Value.int .i64) w1, y1, congrArg (Value.int .i64) w1, congrArg (Value.int .i64) w2, y2, trivial⟩ trivial (by kernel_rfl)
theorem pg_cons_true_true (X : Cx) {a : Int} {i : Nat} {l : Lk} {x0 : Int} {r0 : List Int} (hlen : (x0 :: r0).length ≤ 800) (hi : X.ls[i]? = some l) (h1 : (fromS l (2 * i : Nat) == a) = true) (h2 : (fromS l (2 * i + 1 : Nat) == a) = true) :
    CodeOk Try.prog none (lp Try.prog 60 1) (T61 X i) [] (G12 Try.prog X a 9 (x0 :: r0)) 10 ⟨.normal, T61 X (IntKind.i64.wrap (i + 1)), [], G12 Try.prog X a 16 (((x0 :: r0) ++ [((2 * i : Nat) : Int)]) ++ [((2 * i + 1 : Nat) : Int)]), 17⟩ := by
  have l0 := X.ldL hi
  have hlt := lt_of hi
  have hL := X.hL
  have w1 : IntKind.i64.wrap (2 * (i : Int)) = ((2 * i : Nat) : Int) := by
    have := wrap_nat (n := 2 * i) (by omega)
    push_cast at this ⊢
    exact this
  have w2 : IntKind.i64.wrap (((2 * i : Nat) : Int) + 1) = ((2 * i + 1 : Nat) : Int) := by
    have := wrap_nat (n := 2 * i + 1) (by omega)
    push_cast at this ⊢
    exact this
  have y1 := z1_cons_true X (x0 := x0) (r0 := r0) (by simp at hlen ⊢; omega) (p := 2 * i) h1
  have y2 := z2b_cons_true X (x0 := x0) (r0 := r0 ++ [((2 * i : Nat) : Int)]) (by simp at hlen ⊢; omega) (p := 2 * i + 1) (p0 := 2 * i) (z0 := ((2 * i : Nat) : Int)) h2
  exact code_k [16, 7, 6, 5, 4, 3, 2, 0, 1] (hs := [(9, .val (.bool (decide ((i : Int) < X.ls.length))) (.bool true)), (11, .ix 23 (.slice X.sb X.ls.length X.d) (.int .i64 i) _), (12, .ld 50 _ 1 X.lk true _), (16, .val (.int .i64 (IntKind.i64.wrap (2 * i))) (.int .i64 (2 * i : Nat))), (18, .any _ _ _ _ _ _ _), (24, .val (.int .i64 (IntKind.i64.wrap (2 * i))) (.int .i64 (2 * i : Nat))), (25, .val (.int .i64 (IntKind.i64.wrap ((2 * i : Nat) + 1))) (.int .i64 (2 * i + 1 : Nat))), (27, .any _ _ _ _ _ _ _)]) (ch := []) (evk 50) special
    ⟨congrArg Value.bool (decide_eq_true (by omega)), X.ixL hlt, ⟨l0, _, rfl⟩, congrArg (Value.int .i64) w1, y1, congrArg (Value.int .i64) w1, congrArg (Value.int .i64) w2, y2, trivial⟩ trivial (by kernel_rfl)
end Go.Proofs.Ytkngbmaomgfcjaa.topo
