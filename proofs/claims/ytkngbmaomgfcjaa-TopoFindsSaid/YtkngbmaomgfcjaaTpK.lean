/- Contracts: few, the answers of ports. -/
import Derived.Test.YtkngbmaomgfcjaaTpJ
namespace Go.Proofs.Ytkngbmaomgfcjaa.topo
open Go Go.En
set_option linter.unusedVariables false

def tv (N : Int) (sa : Option Addr) (n c : Nat) (sb : Option Addr) (m d : Nat) : Value := .agg ⟨tc N sa n c sb m d⟩
theorem few_0 {N : Int} {sa sb : Option Addr} {n c m d : Nat} {st lk : List Value} (ha : Sl 0 n sa) (hb : Sl 1 m sb) (hn : n ≤ c) (hc : c < openCap) (hm : m ≤ d) (hd : d < openCap) (hs1 : avL st = true) (hl1 : avL lk = true) :
    Memo.Ok Try.prog ⟨11, 2, [tv N sa n c sb m d], [(0, st), (1, lk)], tv N sa (min n 20) c sb (min m 30) d, [], 2⟩ := by
  have h1 := slc_hi (t := 22) (m := min n 20) u22 (by kernel_rfl) ha (by omega) hc
  have h2 := slc_hi (t := 23) (m := min m 30) u23 (by kernel_rfl) hb (by omega) hd
  have hsm : ∀ x y, Sl 0 x sa → Sl 1 y sb → small 2 5 (tv N sa x c sb y d) = true := by
    intro x y hx hy
    show smallL (small 2 4) [_, _, _] = true
    simp only [smallL, sl_small hx (by omega : 0 < 2), sl_small hy (by omega : 1 < 2)]
    rfl
  have hpre : (nodupN (roHp [(0, st), (1, lk)]) && below 2 [(0, st), (1, lk)] && smallL (small 2 5) [tv N sa n c sb m d] && small 2 5 (tv N sa (min n 20) c sb (min m 30) d)) = true := by
    have e1 := hsm n m ha hb
    have e2 := hsm (min n 20) (min m 30) (by rcases ha with ⟨h, h0⟩ | h; exact .inl ⟨h, by omega⟩; exact .inr h) (by rcases hb with ⟨h, h0⟩ | h; exact .inl ⟨h, by omega⟩; exact .inr h)
    simp only [smallL, e1, e2, Bool.and_true]
    rfl
  have e1 : (if (20 : Int) < n then 20 else (n : Int)) = (min n 20 : Nat) := by split <;> omega
  have e2 : (if (30 : Int) < m then 30 else (m : Int)) = (min m 30 : Nat) := by split <;> omega
  rcases ha with ⟨rfl, rfl⟩ | rfl <;> rcases hb with ⟨rfl, rfl⟩ | rfl <;>
    exact memo_pure (hs := [(8, .val _ _), (9, .slc 22 _ none _ none _), (15, .val _ _), (16, .slc 23 _ none _ none _)]) (ch := []) 8 (evk 50) special
    ⟨congrArg (Value.int .i64) e1, h1, congrArg (Value.int .i64) e2, h2, trivial⟩ trivial hpre (by simp [En.smallH, small_avL hs1, small_avL hl1]) (by kernel_rfl)
/-! ### Ports -/
def ev5 (l : Lk) (p : Int) : Value := .agg ⟨l.cells ++ [.int .i64 p]⟩
def fromS (l : Lk) (p : Int) : Int := bif p.tmod 2 == 0 then l.a else l.b
def toS (l : Lk) (p : Int) : Int := bif p.tmod 2 == 0 then l.b else l.a
def backX (p : Int) : Int := IntKind.i64.wrap ((BitVec.ofInt IntKind.i64.bits p ^^^ BitVec.ofInt IntKind.i64.bits 1).toNat : Nat)
def ansS (g : Nat) (l : Lk) (p : Int) : Int := match g with
  | 42 => fromS l p
  | 44 => toS l p
  | 54 => l.per
  | 55 => l.dl
  | _ => backX p
theorem ans_0 {g : Nat} (hg : g = 42 ∨ g = 44 ∨ g = 54 ∨ g = 55 ∨ g = 56) (l : Lk) (p : Int) : Memo.Ok Try.prog ⟨g, 0, [ev5 l p], [], .int .i64 (ansS g l p), [], 0⟩ := by
  obtain ⟨a, b, x, y⟩ := l
  have key : ∀ q, (p.tmod 2 == 0) = q → Memo.Ok Try.prog ⟨42, 0, [ev5 ⟨a, b, x, y⟩ p], [], .int .i64 (bif q then a else b), [], 0⟩ ∧ Memo.Ok Try.prog ⟨44, 0, [ev5 ⟨a, b, x, y⟩ p], [], .int .i64 (bif q then b else a), [], 0⟩ := by
    intro q hq
    constructor
    · cases q <;> exact memo_pure (hs := [(6, .val (.bool (p.tmod 2 == 0)) (.bool _))]) (ch := []) 1 (evk 50) special ⟨congrArg Value.bool hq, trivial⟩ trivial (by kernel_rfl) rfl (by kernel_rfl)
    · cases q <;> exact memo_pure (hs := [(6, .val (.bool (p.tmod 2 == 0)) (.bool _))]) (ch := []) 1 (evk 50) special ⟨congrArg Value.bool hq, trivial⟩ trivial (by kernel_rfl) rfl (by kernel_rfl)
  rcases hg with rfl | rfl | rfl | rfl | rfl
  · exact (key _ rfl).1
  · exact (key _ rfl).2
  · exact memo_pure (hs := []) (ch := []) 1 (evk 50) special trivial trivial (by kernel_rfl) rfl (by kernel_rfl)
  · exact memo_pure (hs := []) (ch := []) 1 (evk 50) special trivial trivial (by kernel_rfl) rfl (by kernel_rfl)
  · exact memo_pure (hs := []) (ch := []) 1 (evk 50) special trivial trivial (by kernel_rfl) rfl (by kernel_rfl)
def portOk (m : Nat) (p : Int) : Bool := !(decide (p < 0) || decide (p ≥ IntKind.i64.wrap (2 * m)))
theorem port_lt {m : Nat} (hm : m ≤ 1000) {p : Int} (h : portOk m p = true) : 0 ≤ p ∧ p < 2 * m ∧ IntKind.i64.wrap (p.tdiv 2) = (p.toNat / 2 : Nat) ∧ p.toNat / 2 < m := by
  have hw : IntKind.i64.wrap (2 * (m : Int)) = 2 * m := by
    have := wrap_nat (n := 2 * m) (by omega)
    push_cast at this
    exact this
  simp only [portOk, Bool.not_eq_true', Bool.or_eq_false_iff, decide_eq_false_iff_not, hw] at h
  have h0 : 0 ≤ p := by omega
  have h1 : p < 2 * m := by omega
  refine ⟨h0, h1, ?_, by omega⟩
  obtain ⟨n, rfl⟩ : ∃ n : Nat, p = n := ⟨p.toNat, by omega⟩
  have : (n : Int).tdiv 2 = ((n / 2 : Nat) : Int) := by
    rw [Int.tdiv_eq_ediv_of_nonneg (by omega)]; omega
  rw [this, wrap_nat (by omega)]
  simp
def fvv (g : Nat) : Value := .func (.func g) #[] #[]
def askV (b q : Bool) (r : Int) : Value := bif b then (bif q then .tuple #[.int .i64 r, .int .i64 0] else .tuple #[.int .i64 0, .int .i64 2]) else .tuple #[.int .i64 0, .int .i64 260]
def ansAt (X : Cx) (g : Nat) (p : Int) : Int := ansS g (X.ls.getD (p.toNat / 2) ⟨0, 0, 0, 0⟩) p
theorem ls_at {X : Cx} {i : Nat} (h : i < X.ls.length) : X.ls[i]? = some (X.ls.getD i ⟨0, 0, 0, 0⟩) := by
  rw [List.getD_eq_getElem?_getD, List.getElem?_eq_getElem h]; rfl
theorem ask_0 (X : Cx) (hd : X.ls.length ≤ X.d) (hd2 : X.d < openCap) {g : Nat} (hg : g = 42 ∨ g = 44 ∨ g = 54 ∨ g = 55 ∨ g = 56) (p : Int) :
    Memo.Ok Try.prog ⟨53, 2, [X.v, .int .i64 p, fvv g], X.V, askV (checkS X) (portOk X.ls.length p) (ansAt X g p), [], 2⟩ := by
  have key : ∀ b q, checkS X = b → portOk X.ls.length p = q → Memo.Ok Try.prog ⟨53, 2, [X.v, .int .i64 p, fvv g], X.V, askV b q (ansAt X g p), [], 2⟩ := by
    intro b q hb hq
    have mc := check_m X hd hd2 hb 3
    cases b with
    | false => cases q <;> exact memo_pure (hs := [(11, .call _)]) (ch := []) 3 (evk 50) special ⟨mc, trivial⟩ trivial (X.hV rfl) (X.smallH 2) (by kernel_rfl)
    | true =>
      cases q with
      | false =>
        have h2 : (decide (p < 0) || decide (p ≥ IntKind.i64.wrap (2 * X.ls.length))) = true := by
          unfold portOk at hq
          simpa only [Bool.not_eq_false'] using hq
        have key2 : ∀ p1 p2, decide (p < 0) = p1 → decide (p ≥ IntKind.i64.wrap (2 * X.ls.length)) = p2 → (p1 || p2) = true → Memo.Ok Try.prog ⟨53, 2, [X.v, .int .i64 p, fvv g], X.V, askV true false (ansAt X g p), [], 2⟩ := by
          intro p1 p2 e1 e2 e3
          cases p1
          · cases p2
            · cases e3
            · exact memo_pure (hs := [(11, .call _), (17, .val (.bool (decide (p < 0))) (.bool _)), (24, .val (.bool (decide (p ≥ IntKind.i64.wrap (2 * X.ls.length)))) (.bool _))]) (ch := []) 4 (evk 50) special ⟨mc, congrArg Value.bool e1, congrArg Value.bool e2, trivial⟩ trivial (X.hV rfl) (X.smallH 2) (by kernel_rfl)
          · exact memo_pure (hs := [(11, .call _), (17, .val (.bool (decide (p < 0))) (.bool _))]) (ch := []) 3 (evk 50) special ⟨mc, congrArg Value.bool e1, trivial⟩ trivial (X.hV rfl) (X.smallH 2) (by kernel_rfl)
        exact key2 _ _ rfl rfl h2
      | true =>
        have h2 := hq
        simp only [portOk, Bool.not_eq_true', Bool.or_eq_false_iff] at h2
        obtain ⟨e1, e2⟩ := h2
        obtain ⟨b0, b1, b2, b3⟩ := port_lt X.hL hq
        have hl := ls_at b3
        have l0 := X.ldL hl
        have mg := memo_any (ans_0 hg (X.ls.getD (p.toNat / 2) ⟨0, 0, 0, 0⟩) p) 4 (by kernel_rfl) rfl rfl
        rcases hg with rfl | rfl | rfl | rfl | rfl <;>
          exact memo_pure (hs := [(11, .call _), (17, .val (.bool (decide (p < 0))) (.bool _)), (24, .val (.bool (decide (p ≥ IntKind.i64.wrap (2 * X.ls.length)))) (.bool _)), (31, .val (.int .i64 (IntKind.i64.wrap (p.tdiv 2))) (.int .i64 (p.toNat / 2 : Nat))), (32, .ix 23 (.slice X.sb X.ls.length X.d) (.int .i64 (p.toNat / 2 : Nat)) _), (33, .ld 50 _ 1 X.lk true _), (36, .call _)]) (ch := []) 4 (evk 50) special
          ⟨mc, congrArg Value.bool e1, congrArg Value.bool e2, congrArg (Value.int .i64) b2, X.ixL b3, ⟨l0, _, rfl⟩, mg, trivial⟩ trivial (X.hV rfl) (X.smallH 2) (by kernel_rfl)
  exact key _ _ rfl rfl
theorem port_0 (X : Cx) (hd : X.ls.length ≤ X.d) (hd2 : X.d < openCap) {f g : Nat} (hg : (f = 24 ∧ g = 42) ∨ (f = 25 ∧ g = 44) ∨ (f = 26 ∧ g = 54) ∨ (f = 27 ∧ g = 55) ∨ (f = 28 ∧ g = 56)) (p : Int) {b q : Bool} (hb : checkS X = b) (hq : portOk X.ls.length p = q) (nx : Nat) :
    Memo.Ok Try.prog ⟨f, nx, [X.v, .int .i64 p], X.V, askV b q (ansAt X g p), [], nx⟩ := by
  have ma := ask_0 X hd hd2 (g := g) (by omega) p
  rw [hb, hq] at ma
  have m1 := Cx.at ma 3 (by cases b <;> cases q <;> kernel_rfl) rfl (by cases b <;> cases q <;> rfl)
  refine Cx.at (rest := [.int .i64 p]) ?_ nx (by cases b <;> cases q <;> kernel_rfl) rfl (by cases b <;> cases q <;> rfl)
  generalize ansAt X g p = r at m1 ⊢
  rcases hg with ⟨rfl, rfl⟩ | ⟨rfl, rfl⟩ | ⟨rfl, rfl⟩ | ⟨rfl, rfl⟩ | ⟨rfl, rfl⟩ <;> cases b <;> cases q <;>
    exact memo_pure (hs := [(8, .call _)]) (ch := []) 3 (evk 50) special ⟨m1, trivial⟩ trivial (X.hV (by kernel_rfl)) (X.smallH 2) (by kernel_rfl)
/-! ### The reference's -/
theorem portR_0 (X : Cx) (p : Int) {q : Bool} (hq : portOk X.ls.length p = q) (nx : Nat) : Memo.Ok Try.prog ⟨29, nx, [X.v, .int .i64 p], X.V, .bool q, [], nx⟩ := by
  refine Cx.at (rest := [.int .i64 p]) ?_ nx rfl rfl rfl
  have key : ∀ p1 p2, decide (p ≥ 0) = p1 → decide (p < IntKind.i64.wrap (2 * X.ls.length)) = p2 → (p1 && p2) = q → Memo.Ok Try.prog ⟨29, 2, [X.v, .int .i64 p], X.V, .bool q, [], 2⟩ := by
    intro p1 p2 h1 h2 h3
    subst h3
    cases p1
    · cases p2 <;> exact memo_pure (hs := [(6, .val (.bool (decide (p ≥ 0))) (.bool _))]) (ch := []) 3 (evk 50) special ⟨congrArg Value.bool h1, trivial⟩ trivial (X.hV rfl) (X.smallH 2) (by kernel_rfl)
    · cases p2 <;> exact memo_pure (hs := [(6, .val (.bool (decide (p ≥ 0))) (.bool _)), (13, .val (.bool (decide (p < IntKind.i64.wrap (2 * X.ls.length)))) (.bool _))]) (ch := []) 4 (evk 50) special ⟨congrArg Value.bool h1, congrArg Value.bool h2, trivial⟩ trivial (X.hV rfl) (X.smallH 2) (by kernel_rfl)
  refine key _ _ rfl rfl ?_
  rw [← hq, Bool.eq_iff_iff]
  simp only [portOk, Bool.and_eq_true, Bool.not_eq_true', Bool.or_eq_false_iff, decide_eq_true_eq, decide_eq_false_iff_not]
  omega
theorem tmod2 {p : Int} (h : 0 ≤ p) : (p.tmod 2 == 1) = !(p.tmod 2 == 0) := by
  have : p.tmod 2 = p % 2 := Int.tmod_eq_emod_of_nonneg h
  rw [this]
  rcases Int.emod_two_eq p with h | h <;> rw [h] <;> rfl
theorem ansR_0 (X : Cx) {f g : Nat} (hg : (f = 30 ∧ g = 42) ∨ (f = 31 ∧ g = 44)) {p : Int} (hq : portOk X.ls.length p = true) (nx : Nat) : Memo.Ok Try.prog ⟨f, nx, [X.v, .int .i64 p], X.V, .int .i64 (ansAt X g p), [], nx⟩ := by
  refine Cx.at (rest := [.int .i64 p]) ?_ nx rfl rfl rfl
  obtain ⟨b0, b1, b2, b3⟩ := port_lt X.hL hq
  have hl := ls_at b3
  have l0 := X.ldL hl
  have h1 := tmod2 b0
  unfold ansAt
  generalize X.ls.getD (p.toNat / 2) ⟨0, 0, 0, 0⟩ = l at l0
  obtain ⟨a, b, x, y⟩ := l
  rcases hg with ⟨rfl, rfl⟩ | ⟨rfl, rfl⟩ <;> simp only [ansS, fromS, toS] <;> generalize (p.tmod 2 == 0) = q at h1 ⊢ <;> cases q <;>
    exact memo_pure (hs := [(9, .val (.int .i64 (IntKind.i64.wrap (p.tdiv 2))) (.int .i64 (p.toNat / 2 : Nat))), (10, .ix 23 (.slice X.sb X.ls.length X.d) (.int .i64 (p.toNat / 2 : Nat)) _), (11, .ld 50 _ 1 X.lk true _), (14, .val (.bool (p.tmod 2 == 1)) (.bool _))]) (ch := []) 4 (evk 50) special
      ⟨congrArg (Value.int .i64) b2, X.ixL b3, ⟨l0, _, rfl⟩, congrArg Value.bool h1, trivial⟩ trivial (X.hV rfl) (X.smallH 2) (by kernel_rfl)
theorem perR_0 (X : Cx) {f g : Nat} (hg : (f = 32 ∧ g = 54) ∨ (f = 33 ∧ g = 55)) {p : Int} (hq : portOk X.ls.length p = true) (nx : Nat) : Memo.Ok Try.prog ⟨f, nx, [X.v, .int .i64 p], X.V, .int .i64 (ansAt X g p), [], nx⟩ := by
  refine Cx.at (rest := [.int .i64 p]) ?_ nx rfl rfl rfl
  obtain ⟨b0, b1, b2, b3⟩ := port_lt X.hL hq
  have hl := ls_at b3
  have hlk := X.hlk _ _ hl
  unfold ansAt
  generalize X.ls.getD (p.toNat / 2) ⟨0, 0, 0, 0⟩ = l at hlk
  obtain ⟨a, b, x, y⟩ := l
  rcases hg with ⟨rfl, rfl⟩ | ⟨rfl, rfl⟩ <;>
    exact memo_pure (hs := [(8, .val (.int .i64 (IntKind.i64.wrap (p.tdiv 2))) (.int .i64 (p.toNat / 2 : Nat))), (9, .win 23 (.slice X.sb X.ls.length X.d) (.int .i64 (p.toNat / 2 : Nat)) 1 _ X.lk (Lk.cells ⟨a, b, x, y⟩))]) (ch := []) 4 (evk 50) special
      ⟨congrArg (Value.int .i64) b2, ⟨X.ixL b3, hlk⟩, trivial⟩ trivial (X.hV rfl) (X.smallH 2) (by kernel_rfl)
theorem back_dec : ∀ n : Fin 2000, backX (n.val : Int) = bif (n.val : Int).tmod 2 == 1 then IntKind.i64.wrap ((n.val : Int) - 1) else IntKind.i64.wrap ((n.val : Int) + 1) := by decide +kernel
theorem backR_0 {m : Nat} (hm : m ≤ 1000) {p : Int} (hq : portOk m p = true) (nx : Nat) : Memo.Ok Try.prog ⟨34, nx, [.int .i64 p], [], .int .i64 (backX p), [], nx⟩ := by
  obtain ⟨b0, b1, b2, b3⟩ := port_lt hm hq
  suffices h0 : Memo.Ok Try.prog ⟨34, 0, [.int .i64 p], [], .int .i64 (backX p), [], 0⟩ from memo_any h0 nx (by kernel_rfl) rfl rfl
  have hb : backX p = bif p.tmod 2 == 1 then IntKind.i64.wrap (p - 1) else IntKind.i64.wrap (p + 1) := by
    obtain ⟨n, rfl⟩ : ∃ n : Nat, p = n := ⟨p.toNat, by omega⟩
    exact back_dec ⟨n, by omega⟩
  rw [hb]
  have key : ∀ q, (p.tmod 2 == 1) = q → Memo.Ok Try.prog ⟨34, 0, [.int .i64 p], [], .int .i64 (bif q then IntKind.i64.wrap (p - 1) else IntKind.i64.wrap (p + 1)), [], 0⟩ := by
    intro q hq
    cases q <;> exact memo_pure (hs := [(5, .val (.bool (p.tmod 2 == 1)) (.bool _))]) (ch := []) 0 (evk 50) special ⟨congrArg Value.bool hq, trivial⟩ trivial (by kernel_rfl) rfl (by kernel_rfl)
  exact key _ rfl
end Go.Proofs.Ytkngbmaomgfcjaa.topo
