/- Parts of a proof, joined: TpA, TpB, TpC, TpD, TpE, TpF, TpG, TpH, TpI, TpJ, TpK, TpW, TpR, TpO, TpL, TpM, TpN. -/
import Derived.HandedShaped
import Derived.ProofKit
import Derived.Test.YtkngbmaomgfcjaaRows
import Derived.WalkKit
import Derived.Test.YtkngbmaomgfcjaaEg3
/- Contracts of the topology's small functions. -/
namespace Go.Proofs.Ytkngbmaomgfcjaa.topo
open Go Go.En
set_option linter.unusedVariables false

theorem special : NoSpecial Try.prog := noSpecial_of (by kernel_rfl)
theorem evk (n : Nat) : (ev Try.prog n).Ok Try.prog := ev_ok special n

def capD (d : Nat) : Prop := d < openCap ∨ d = openCap + 4
structure Lk where
  a : Int
  b : Int
  per : Int
  dl : Int
def Lk.cells (x : Lk) : List Value := [.int .i64 x.a, .int .i64 x.b, .int .i64 x.per, .int .i64 x.dl]
def Lk.v (x : Lk) : Value := .agg ⟨x.cells⟩
/-- A topology: its value, and the blocks of its lists. -/
structure Cx where
  N : Int
  sa : Option Addr
  c : Nat
  sb : Option Addr
  d : Nat
  st : List Value
  lk : List Value
  S : List Bool
  ls : List Lk
  hst : ∀ (i : Nat) b, S[i]? = some b → st[0 + i * 1]? = some (.bool b)
  hlk : ∀ (i : Nat) l, ls[i]? = some l → ∀ (j : Nat) v, l.cells[j]? = some v → lk[0 + i * 4 + j]? = some v
  hsa : Sl 0 S.length sa
  hsb : Sl 1 ls.length sb
  avs : avL st = true
  avk : avL lk = true
  hS : S.length ≤ 1000
  hL : ls.length ≤ 1000
def tc (N : Int) (sa : Option Addr) (n c : Nat) (sb : Option Addr) (m d : Nat) : List Value := [.int .i64 N, .slice sa n c, .slice sb m d]
def Cx.cells (X : Cx) : List Value := tc X.N X.sa X.S.length X.c X.sb X.ls.length X.d
def Cx.v (X : Cx) : Value := .agg ⟨X.cells⟩
def Cx.V (X : Cx) : List (Nat × List Value) := [(0, X.st), (1, X.lk)]
theorem sl_small {b n c k : Nat} {sa : Option Addr} (h : Sl b n sa) (hb : b < k) (m : Nat) : small k m (.slice sa n c) = true := by
  rcases h with ⟨rfl, _⟩ | rfl <;> cases m <;> simp [small, hb]
theorem Cx.smallL (X : Cx) {k : Nat} (hk : 2 ≤ k) (m : Nat) : smallL (small k m) X.cells = true := by
  simp only [Cx.cells, tc, En.smallL, sl_small X.hsa (by omega : 0 < k), sl_small X.hsb (by omega : 1 < k), Bool.and_true]
  cases m <;> rfl
theorem Cx.small (X : Cx) {k : Nat} (hk : 2 ≤ k) : small k 5 X.v = true := X.smallL hk 4
theorem Cx.smallH (X : Cx) (k : Nat) : smallH k X.V = true := by simp [En.smallH, Cx.V, small_avL X.avs, small_avL X.avk]
theorem Cx.hV (X : Cx) {rest : List Value} {v : Value} (h : (En.smallL (En.small 2 5) rest && En.small 2 5 v) = true) : (nodupN (roHp X.V) && below 2 X.V && En.smallL (En.small 2 5) (X.v :: rest) && En.small 2 5 v) = true := by
  simp only [Bool.and_eq_true] at h
  have h1 : (nodupN (roHp X.V) && below 2 X.V) = true := by kernel_rfl
  simp only [h1, En.smallL, X.small (Nat.le_refl 2), h.1, h.2, Bool.and_self]
theorem sl_ren {b n c : Nat} {sa : Option Addr} (h : Sl b n sa) {ρ : Nat → Nat} (hb : ρ b = b) (m : Nat) : renV ρ m (.slice sa n c) = .slice sa n c := by
  rcases h with ⟨rfl, _⟩ | rfl <;> cases m <;> simp [renV, hb]
theorem Cx.ren (X : Cx) (nx : Nat) : renV (shift (fun b => b) 2 nx) 5 X.v = X.v := by
  show Value.agg ([_, _, _] : List Value).toArray = _
  have h0 : shift (fun b => b) 2 nx 0 = 0 := rfl
  have h1 : shift (fun b => b) 2 nx 1 = 1 := rfl
  rw [sl_ren X.hsa h0, sl_ren X.hsb h1]
  rfl
/-- A contract about a topology, at other new names. -/
theorem Cx.at {X : Cx} {f : FuncId} {rest : List Value} {v : Value} (h : Memo.Ok Try.prog ⟨f, 2, X.v :: rest, X.V, v, [], 2⟩) (nx : Nat) (hc : (En.smallL (En.small 2 5) rest && En.small 2 5 v) = true)
    (h1 : rest.map (renV (shift (fun b => b) 2 nx) 5) = rest) (h2 : renV (shift (fun b => b) 2 nx) 5 v = v) : Memo.Ok Try.prog ⟨f, nx, X.v :: rest, X.V, v, [], nx⟩ := by
  simp only [Bool.and_eq_true] at hc
  have hb : below 2 X.V = true := by kernel_rfl
  have := memo_ren h (fun b => b) nx X.V (by simp only [En.smallL, X.small (Nat.le_refl 2), hc.1, hc.2, hb, inNew, Bool.and_self]) (X.smallH 2) rfl (fun b cs hb => by
    by_cases h0 : 0 = b
    · subst h0
      simp [Cx.V, roHp, Hp.get] at hb ⊢
      subst hb
      exact (renV_avL X.avs).symm
    · by_cases h1 : 1 = b
      · subst h1
        simp [Cx.V, roHp, Hp.get] at hb ⊢
        subst hb
        exact (renV_avL X.avk).symm
      · simp [Cx.V, roHp, Hp.get, h0, h1] at hb)
  simpa [X.ren, h1, h2, renH] using this

def nodeS (N n : Int) : Bool := decide (n ≥ 0) && decide (n < N)
theorem node_0 (X : Cx) (n : Int) {f : FuncId} (hf : f = 43 ∨ f = 61) : Memo.Ok Try.prog ⟨f, 2, [X.v, .int .i64 n], X.V, .bool (nodeS X.N n), [], 2⟩ := by
  have key : ∀ p, decide (n ≥ 0) = p → Memo.Ok Try.prog ⟨f, 2, [X.v, .int .i64 n], X.V, .bool (p && decide (n < X.N)), [], 2⟩ := by
    intro p hp
    rcases hf with rfl | rfl <;> cases p <;>
      exact memo_pure (hs := [(6, .val (.bool (decide (n ≥ 0))) (.bool _))]) (ch := []) 3 (evk 50) special ⟨congrArg Value.bool hp, trivial⟩ trivial (X.hV rfl) (X.smallH 2) (by kernel_rfl)
  exact key _ rfl
theorem node_m (X : Cx) (n : Int) {p : Bool} (h : nodeS X.N n = p) (nx : Nat) : Memo.Ok Try.prog ⟨43, nx, [X.v, .int .i64 n], X.V, .bool p, [], nx⟩ :=
  Cx.at (h ▸ node_0 X n (.inl rfl)) nx rfl rfl rfl
theorem nodeR_m (X : Cx) (n : Int) {p : Bool} (h : nodeS X.N n = p) (nx : Nat) : Memo.Ok Try.prog ⟨61, nx, [X.v, .int .i64 n], X.V, .bool p, [], nx⟩ :=
  Cx.at (h ▸ node_0 X n (.inr rfl)) nx rfl rfl rfl
def joinsS (l : Lk) (a b : Int) : Bool := (l.a == a && l.b == b) || (l.a == b && l.b == a)
theorem joins_0 (l : Lk) (a b : Int) : Memo.Ok Try.prog ⟨46, 0, [l.v, .int .i64 a, .int .i64 b], [], .bool (joinsS l a b), [], 0⟩ := by
  obtain ⟨x, y, p, q⟩ := l
  have key : ∀ p1 p2 p3 p4, (x == a) = p1 → (y == b) = p2 → (x == b) = p3 → (y == a) = p4 → Memo.Ok Try.prog ⟨46, 0, [Lk.v ⟨x, y, p, q⟩, .int .i64 a, .int .i64 b], [], .bool ((p1 && p2) || (p3 && p4)), [], 0⟩ := by
    intro p1 p2 p3 p4 h1 h2 h3 h4
    cases p1 <;> cases p2 <;> cases p3 <;> cases p4 <;>
      exact memo_pure (hs := [(10, .val (.bool (x == a)) (.bool _)), (15, .val (.bool (y == b)) (.bool _)), (21, .val (.bool (x == b)) (.bool _)), (26, .val (.bool (y == a)) (.bool _))]) (ch := []) 1 (evk 50) special
        ⟨congrArg Value.bool h1, congrArg Value.bool h2, congrArg Value.bool h3, congrArg Value.bool h4, trivial⟩ trivial (by kernel_rfl) rfl (by kernel_rfl)
  exact key _ _ _ _ rfl rfl rfl rfl
theorem joins_m (l : Lk) (a b : Int) {p : Bool} (h : joinsS l a b = p) (nx : Nat) : Memo.Ok Try.prog ⟨46, nx, [l.v, .int .i64 a, .int .i64 b], [], .bool p, [], nx⟩ :=
  memo_any (h ▸ joins_0 l a b) nx (by kernel_rfl) rfl rfl
end Go.Proofs.Ytkngbmaomgfcjaa.topo
/- Contracts: the reference's link, few, the four checks of a link. -/
namespace Go.Proofs.Ytkngbmaomgfcjaa.topo
open Go Go.En
set_option linter.unusedVariables false

def J : Value := junk
def pt (b : Nat) : Value := .pointer (some ⟨b, 0, none⟩)
theorem u22 : Try.prog.underlying 22 = some (.slice 4) := by kernel_rfl
theorem u23 : Try.prog.underlying 23 = some (.slice 50) := by kernel_rfl
theorem u28 : Try.prog.underlying 28 = some (.slice 3) := by kernel_rfl
theorem z4 : szIs Try.prog 4 1 false = true := by kernel_rfl
theorem z3 : szIs Try.prog 3 1 false = true := by kernel_rfl
theorem z50 : szIs Try.prog 50 (3 + 1) true = true := by kernel_rfl
theorem Cx.ixS (X : Cx) {i : Nat} (h : i < X.S.length) : doIndexAddr Try.prog 22 (.slice X.sa X.S.length X.c) (.int .i64 i) = some (.pointer (some ⟨0, 0 + i * 1, none⟩)) := X.hsa.ix' u22 z4 h
theorem Cx.ixL (X : Cx) {i : Nat} (h : i < X.ls.length) : doIndexAddr Try.prog 23 (.slice X.sb X.ls.length X.d) (.int .i64 i) = some (.pointer (some ⟨1, 0 + i * 4, none⟩)) := X.hsb.ix' u23 z50 h
theorem Cx.ldS (X : Cx) {i : Nat} {b : Bool} (h : X.S[i]? = some b) : doLoad Try.prog [(0, .cells X.st true)] 4 (.pointer (some ⟨0, 0 + i * 1, none⟩)) = some (.bool b) := ld1 z4 (X.hst i b h)
theorem Cx.ldL (X : Cx) {i : Nat} {l : Lk} (h : X.ls[i]? = some l) : doLoad Try.prog [(1, .cells X.lk true)] 50 (.pointer (some ⟨1, 0 + i * 4, none⟩)) = some l.v := ldN z50 rfl (X.hlk i l h)
theorem lt_of {α : Type} {l : List α} {i : Nat} {a : α} (h : l[i]? = some a) : i < l.length := (List.getElem?_eq_some_iff.1 h).1

/-- A topology in a box. -/
def Cx.V3 (X : Cx) : List (Nat × List Value) := [(0, X.st), (1, X.lk), (2, X.cells)]
theorem Cx.smallH3 (X : Cx) {k : Nat} (hk : 2 ≤ k) : En.smallH k X.V3 = true := by
  simp only [En.smallH, Cx.V3, small_avL X.avs, small_avL X.avk, X.smallL hk 5, Bool.and_self]
theorem Cx.renC (X : Cx) (ρ : Nat → Nat) (h0 : ρ 0 = 0) (h1 : ρ 1 = 1) (m : Nat) : X.cells.map (renV ρ m) = X.cells := by
  show [_, _, _] = _
  rw [sl_ren X.hsa h0, sl_ren X.hsb h1]
  cases m <;> rfl
theorem Cx.at3 {X : Cx} {f : FuncId} {args : List Value} {v : Value} (h : Memo.Ok Try.prog ⟨f, 3, args, X.V3, v, [], 3⟩) (nx : Nat) (hc : (En.smallL (En.small 3 5) args && En.small 3 5 v) = true)
    (h1 : args.map (renV (shift (fun b => b) 3 nx) 5) = args) (h2 : renV (shift (fun b => b) 3 nx) 5 v = v) : Memo.Ok Try.prog ⟨f, nx, args, X.V3, v, [], nx⟩ := by
  simp only [Bool.and_eq_true] at hc
  have hb : below 3 X.V3 = true := by kernel_rfl
  have := memo_ren h (fun b => b) nx X.V3 (by simp only [hc.1, hc.2, hb, inNew, Bool.and_self]) (X.smallH3 (by omega)) rfl (fun b cs hb => by
    by_cases h0 : 0 = b
    · subst h0
      simp [Cx.V3, roHp, Hp.get] at hb ⊢
      subst hb
      exact (renV_avL X.avs).symm
    · by_cases h1 : 1 = b
      · subst h1
        simp [Cx.V3, roHp, Hp.get] at hb ⊢
        subst hb
        exact (renV_avL X.avk).symm
      · by_cases h2 : 2 = b
        · subst h2
          simp [Cx.V3, roHp, Hp.get] at hb ⊢
          subst hb
          exact (X.renC _ rfl rfl 5).symm
        · simp [Cx.V3, roHp, Hp.get, h0, h1, h2] at hb)
  simpa [h1, h2, renH] using this

def k1 (N : Int) (l : Lk) : Bool := (nodeS N l.a && nodeS N l.b) && (l.a != l.b)
theorem k1_0 (X : Cx) {i : Nat} {l : Lk} (h : X.ls[i]? = some l) : Memo.Ok Try.prog ⟨62, 3, [.int .i64 i, pt 2], X.V3, .bool (k1 X.N l), [], 3⟩ := by
  have key : ∀ p1 p2, nodeS X.N l.a = p1 → nodeS X.N l.b = p2 → Memo.Ok Try.prog ⟨62, 3, [.int .i64 i, pt 2], X.V3, .bool ((p1 && p2) && (l.a != l.b)), [], 3⟩ := by
    intro p1 p2 h1 h2
    have m1 := node_m X l.a h1 4
    have m2 := node_m X l.b h2 4
    have l0 := X.ldL h
    obtain ⟨a, b, p, q⟩ := l
    cases p1 <;> cases p2 <;>
      exact memo_pure (hs := [(8, .ix 23 (.slice X.sb X.ls.length X.d) (.int .i64 i) _), (9, .ld 50 _ 1 X.lk true _), (13, .call _), (18, .call _)]) (ch := []) 4 (evk 50) special
        ⟨X.ixL (lt_of h), ⟨l0, _, rfl⟩, m1, m2, trivial⟩ trivial (by kernel_rfl) (X.smallH3 (by omega)) (by kernel_rfl)
  exact key _ _ rfl rfl
def k2 (x y : Bool) : Bool := !x || !y
theorem k2_0 (X : Cx) {i a b : Nat} {l : Lk} {x y : Bool} (h : X.ls[i]? = some l) (ha : l.a = a) (hb : l.b = b) (hx : X.S[a]? = some x) (hy : X.S[b]? = some y) : Memo.Ok Try.prog ⟨63, 3, [.int .i64 i, pt 2], X.V3, .bool (k2 x y), [], 3⟩ := by
  have l0 := X.ldL h
  obtain ⟨a', b', p, q⟩ := l
  dsimp only at ha hb
  subst ha
  subst hb
  cases x <;>
    exact memo_pure (hs := [(8, .ix 23 (.slice X.sb X.ls.length X.d) (.int .i64 i) _), (9, .ld 50 _ 1 X.lk true _), (14, .ix 22 (.slice X.sa X.S.length X.c) (.int .i64 a) _), (15, .ld 4 _ 0 X.st true _), (22, .ix 22 (.slice X.sa X.S.length X.c) (.int .i64 b) _), (23, .ld 4 _ 0 X.st true _)]) (ch := []) 4 (evk 50) special
      ⟨X.ixL (lt_of h), ⟨l0, _, rfl⟩, X.ixS (lt_of hx), ⟨X.ldS hx, _, rfl⟩, X.ixS (lt_of hy), ⟨X.ldS hy, _, rfl⟩, trivial⟩ trivial (by kernel_rfl) (X.smallH3 (by omega)) (by kernel_rfl)
def k4 (l : Lk) : Bool := ((decide (l.per ≥ 1) && decide (l.per ≤ 1000)) && decide (l.dl ≥ 0)) && decide (l.dl ≤ 10000)
theorem k4_0 (X : Cx) {i : Nat} {l : Lk} (h : X.ls[i]? = some l) : Memo.Ok Try.prog ⟨65, 3, [.int .i64 i, pt 2], X.V3, .bool (k4 l), [], 3⟩ := by
  have key : ∀ p1 p2 p3, decide (l.per ≥ 1) = p1 → decide (l.per ≤ 1000) = p2 → decide (l.dl ≥ 0) = p3 → Memo.Ok Try.prog ⟨65, 3, [.int .i64 i, pt 2], X.V3, .bool (((p1 && p2) && p3) && decide (l.dl ≤ 10000)), [], 3⟩ := by
    intro p1 p2 p3 h1 h2 h3
    have l0 := X.ldL h
    obtain ⟨a, b, p, q⟩ := l
    cases p1 <;> cases p2 <;> cases p3 <;>
      exact memo_pure (hs := [(8, .ix 23 (.slice X.sb X.ls.length X.d) (.int .i64 i) _), (9, .ld 50 _ 1 X.lk true _), (12, .val (.bool (decide (p ≥ 1))) (.bool _)), (16, .val (.bool (decide (p ≤ 1000))) (.bool _)), (21, .val (.bool (decide (q ≥ 0))) (.bool _))]) (ch := []) 4 (evk 50) special
        ⟨X.ixL (lt_of h), ⟨l0, _, rfl⟩, congrArg Value.bool h1, congrArg Value.bool h2, congrArg Value.bool h3, trivial⟩ trivial (by kernel_rfl) (X.smallH3 (by omega)) (by kernel_rfl)
  exact key _ _ _ rfl rfl rfl
/-- The reference's link. -/
theorem link_bad (X : Cx) {l : Lk} (h : k1 X.N l = false) : Memo.Ok Try.prog ⟨45, 2, [X.v, l.v], X.V, .bool false, [], 2⟩ := by
  have key : ∀ p1 p2 p3, nodeS X.N l.a = p1 → nodeS X.N l.b = p2 → (l.a == l.b) = p3 → (p1 && p2 && !p3) = false → Memo.Ok Try.prog ⟨45, 2, [X.v, l.v], X.V, .bool false, [], 2⟩ := by
    intro p1 p2 p3 h1 h2 h3 h4
    have m1 := nodeR_m X l.a h1 4
    have m2 := nodeR_m X l.b h2 4
    obtain ⟨a, b, p, q⟩ := l
    cases p1 <;> cases p2 <;> cases p3 <;> first
      | (exfalso; revert h4; decide)
      | exact memo_pure (hs := [(8, .call _), (14, .call _), (22, .val (.bool (a == b)) (.bool _))]) (ch := []) 4 (evk 50) special ⟨m1, m2, congrArg Value.bool h3, trivial⟩ trivial (X.hV rfl) (X.smallH 2) (by kernel_rfl)
  exact key _ _ _ rfl rfl rfl h
theorem link_0 (X : Cx) {a b : Nat} {l : Lk} {x y : Bool} (h : k1 X.N l = true) (ha : l.a = a) (hb : l.b = b) (hx : X.S[a]? = some x) (hy : X.S[b]? = some y) : Memo.Ok Try.prog ⟨45, 2, [X.v, l.v], X.V, .bool (k2 x y && k4 l), [], 2⟩ := by
  have key : ∀ p1 p2 p3, decide (l.per ≥ 1) = p1 → decide (l.per ≤ 1000) = p2 → decide (l.dl ≥ 0) = p3 → Memo.Ok Try.prog ⟨45, 2, [X.v, l.v], X.V, .bool (k2 x y && (((p1 && p2) && p3) && decide (l.dl ≤ 10000))), [], 2⟩ := by
    intro p1 p2 p3 h1 h2 h3
    simp only [k1, Bool.and_eq_true] at h
    have m1 := nodeR_m X l.a h.1.1 4
    have m2 := nodeR_m X l.b h.1.2 4
    have h0 : (l.a == l.b) = false := by simpa using h.2
    obtain ⟨a', b', p, q⟩ := l
    dsimp only at ha hb
    subst ha
    subst hb
    cases x <;> cases y <;> cases p1 <;> cases p2 <;> cases p3 <;>
      exact memo_pure (hs := [(8, .call _), (14, .call _), (22, .val (.bool ((a : Int) == (b : Int))) (.bool false)), (29, .ix 22 (.slice X.sa X.S.length X.c) (.int .i64 a) _), (30, .ld 4 _ 0 X.st true _), (36, .ix 22 (.slice X.sa X.S.length X.c) (.int .i64 b) _), (37, .ld 4 _ 0 X.st true _), (42, .val (.bool (decide (p ≥ 1))) (.bool _)), (46, .val (.bool (decide (p ≤ 1000))) (.bool _)), (51, .val (.bool (decide (q ≥ 0))) (.bool _))]) (ch := []) 4 (evk 50) special
        ⟨m1, m2, congrArg Value.bool h0, X.ixS (lt_of hx), ⟨X.ldS hx, _, rfl⟩, X.ixS (lt_of hy), ⟨X.ldS hy, _, rfl⟩, congrArg Value.bool h1, congrArg Value.bool h2, congrArg Value.bool h3, trivial⟩ trivial (X.hV (by kernel_rfl)) (X.smallH 2) (by kernel_rfl)
  exact key _ _ _ rfl rfl rfl
end Go.Proofs.Ytkngbmaomgfcjaa.topo
/- Contracts: the check of a link against those before it, sound. -/
namespace Go.Proofs.Ytkngbmaomgfcjaa.topo
open Go Go.En
set_option linter.unusedVariables false

theorem wrap_nat {n : Nat} (h : n < 9223372036854775808) : IntKind.i64.wrap (n : Int) = n := by
  simp only [IntKind.wrap, IntKind.signed, IntKind.bits]
  simp
  omega
theorem bnd_nat {k : IntKind} {h n : Nat} (hh : h ≤ n) : bnd (.int k h) n = some h := by
  unfold bnd
  simp [hh]
/-- x[:m] -/
theorem slc_hi {t e : TypeId} {b n c m : Nat} {sa : Option Addr} (hu : Try.prog.underlying t = some (.slice e)) (hi : (Try.prog.info? e).isSome = true) (h : Sl b n sa) (hm : m ≤ c) (hc : c < openCap) : doSlice Try.prog t (.slice sa n c) none (some (.int .i64 m)) none = some (.slice sa m c) := by
  obtain ⟨inf, hi⟩ := Option.isSome_iff_exists.1 hi
  rcases h with ⟨rfl, _⟩ | rfl
  · simp [doSlice, hu, hi, bnds, highB, lowB, bnd_nat hm]
  · simp [doSlice, hu, hi, hc, bnds, highB, lowB, bnd_nat hm]
def dup (l o : Lk) : Bool := ((l.a == o.a) && (l.b == o.b)) || ((l.a == o.b) && (l.b == o.a))
def T64 (X : Cx) (i : Nat) (k : Int) : List Value := [.int .i64 i, pt 2, J, .bool false, pt 3, J, J, J, J, J, J, J, J, J, J, .slice X.sb i X.d, .int .i64 i, .int .i64 k] ++ List.replicate 30 J
def TJ64 (X : Cx) (i : Nat) : List Value := [.int .i64 i, pt 2, J, .bool false, pt 3, J, J, J, J, J, J, J, J, J, J, .slice X.sb i X.d, .int .i64 i, J] ++ List.replicate 30 J
def H64 (X : Cx) (l : Lk) : Hp := [(3, .cells l.cells false), (0, .cells X.st true), (1, .cells X.lk true), (2, .cells X.cells true)]
theorem H64_below (X : Cx) (l : Lk) {n : Nat} (hn : 4 ≤ n) : hpBelow n (H64 X l) = true := by
  have h1 : hpBelow n [(3, .cells l.cells false)] = true := by
    simp [hpBelow, tidyB, Lk.cells, En.smallL, En.small]; omega
  have h2 : hpBelow n (roHp X.V3) = true := roHp_below (by simp [below, Cx.V3]; omega) (X.smallH3 (by omega))
  simp only [hpBelow, Bool.and_true] at h1
  show ((decide (3 < n) && tidyB n (.cells l.cells false)) && hpBelow n (roHp X.V3)) = true
  rw [h1, h2]; rfl
theorem slX {X : Cx} {i k : Nat} (hi : i < X.ls.length) : Sl 1 k X.sb := by
  rcases X.hsb with ⟨_, h⟩ | h
  · omega
  · exact .inr h
theorem k3_pre (X : Cx) {i : Nat} (hi : i < X.ls.length) (k : Int) (l : Lk) : (nodupN (H64 X l) && tmBelow 5 (T64 X i k) && dsBelow 5 [] && rBelow 5 none) = true := by
  have h : Sl 1 i X.sb := slX hi
  rcases h with ⟨h, _⟩ | h
  · simp only [T64, h]
    show _ = true
    kernel_rfl
  · simp only [T64, h]
    show _ = true
    kernel_rfl
theorem k3_go (X : Cx) {i k : Nat} {l o : Lk} (hi : X.ls[i]? = some l) (hk : k < i) (ho : X.ls[k]? = some o) {b : Bool} (hb : dup l o = b) :
    CodeOk Try.prog none (lp Try.prog 64 3) (T64 X i k) [] (H64 X l) 5 (bif b then ⟨.ret, TJ64 X i, [], H64 X l, 5⟩ else ⟨.normal, T64 X i (IntKind.i64.wrap (k + 1)), [], H64 X l, 5⟩) := by
  have l0 := X.ldL ho
  have hix : doIndexAddr Try.prog 23 (.slice X.sb i X.d) (.int .i64 k) = some (.pointer (some ⟨1, 0 + k * 4, none⟩)) := (slX (k := i) (lt_of hi)).ix' u23 z50 hk
  have key : ∀ p1 p2 p3 p4, (l.a == o.a) = p1 → (l.b == o.b) = p2 → (l.a == o.b) = p3 → (l.b == o.a) = p4 → ((p1 && p2) || (p3 && p4)) = b →
      CodeOk Try.prog none (lp Try.prog 64 3) (T64 X i k) [] (H64 X l) 5 (bif b then ⟨.ret, TJ64 X i, [], H64 X l, 5⟩ else ⟨.normal, T64 X i (IntKind.i64.wrap (k + 1)), [], H64 X l, 5⟩) := by
    intro p1 p2 p3 p4 h1 h2 h3 h4 h5
    subst h5
    have pre := k3_pre X (lt_of hi) k l
    have bl := H64_below X l (n := 5) (by omega)
    have hsb : Sl 1 i X.sb := slX (lt_of hi)
    obtain ⟨a, b, p, q⟩ := l
    obtain ⟨a', b', p', q'⟩ := o
    rcases hsb with ⟨_, h0⟩ | hsb
    · omega
    · cases p1 <;> cases p2 <;> cases p3 <;> cases p4 <;>
        refine code_at (hs := [(18, .val (.bool (decide ((k : Int) < i))) (.bool true)), (19, .ix 23 (.slice X.sb i X.d) (.int .i64 k) _), (20, .ld 50 _ 1 X.lk true _), (25, .val (.bool (a == a')) (.bool _)), (31, .val (.bool (b == b')) (.bool _)), (38, .val (.bool (a == b')) (.bool _)), (44, .val (.bool (b == a')) (.bool _))]) (ch := []) (evk 50) special
          ⟨congrArg Value.bool (decide_eq_true (by omega)), hix, ⟨l0, _, rfl⟩, congrArg Value.bool h1, congrArg Value.bool h2, congrArg Value.bool h3, congrArg Value.bool h4, trivial⟩ trivial pre bl bl ?_ <;>
        (simp only [T64, TJ64, hsb]; kernel_rfl)
  exact key _ _ _ _ rfl rfl rfl rfl hb
theorem k3_out (X : Cx) {i : Nat} {l : Lk} (hi : X.ls[i]? = some l) :
    CodeOk Try.prog none (lp Try.prog 64 3) (T64 X i i) [] (H64 X l) 5 ⟨.exit 0, TJ64 X i, [], H64 X l, 5⟩ := by
  have pre := k3_pre X (lt_of hi) i l
  have bl := H64_below X l (n := 5) (by omega)
  have hsb : Sl 1 i X.sb := slX (lt_of hi)
  rcases hsb with ⟨hsb, _⟩ | hsb <;>
    (refine code_at (hs := [(18, .val (.bool (decide ((i : Int) < i))) (.bool false))]) (ch := []) (evk 50) special ⟨congrArg Value.bool (decide_eq_false (by omega)), trivial⟩ trivial pre bl bl ?_
     simp only [T64, TJ64, hsb]; kernel_rfl)
def R64 (X : Cx) (i : Nat) (l : Lk) (b : Bool) : Res := ⟨bif b then .ret else .exit 0, TJ64 X i, [], H64 X l, 5⟩
theorem k3_loop (X : Cx) {i : Nat} {l : Lk} (hi : X.ls[i]? = some l) : ∀ (r k : Nat), k + r = i → LoopOk Try.prog none (lp Try.prog 64 3) (T64 X i k) [] (H64 X l) 5 (R64 X i l (((X.ls.take i).drop k).any (dup l)))
  | 0, k, h => by
    have : k = i := by omega
    subst this
    rw [List.drop_eq_nil_of_le (by simp; omega)]
    exact loopOk_out (k3_out X hi) (by show Exit.exit 0 ≠ Exit.normal; simp)
  | r + 1, k, h => by
    have hlt := lt_of hi
    have hk : k < (X.ls.take i).length := by simp; omega
    have ho : X.ls[k]? = some X.ls[k] := List.getElem?_eq_getElem (by omega)
    have hget : (X.ls.take i)[k] = X.ls[k] := by simp
    rw [List.drop_eq_getElem_cons hk, List.any_cons, hget]
    cases hb : dup l X.ls[k] with
    | true => exact loopOk_out (k3_go X hi (by omega) ho hb) (by show Exit.ret ≠ Exit.normal; simp)
    | false =>
      have h1 := k3_go X hi (by omega) ho hb
      simp only [cond_false] at h1
      rw [show (k : Int) + 1 = ((k + 1 : Nat) : Int) by push_cast; rfl, wrap_nat (by have := X.hL; omega)] at h1
      exact loop_step h1 (k3_loop X hi r (k + 1) (by omega))
termination_by r => r
def k3 (ls : List Lk) (i : Nat) (l : Lk) : Bool := !((ls.take i).any (dup l))
theorem slc_cap (X : Cx) {i : Nat} (hi : i < X.ls.length) (hd : X.ls.length ≤ X.d) (hd2 : capD X.d) : doSlice Try.prog 23 (.slice X.sb X.ls.length X.d) none (some (.int .i64 i)) none = some (.slice X.sb i X.d) := by
  rcases hd2 with h | h
  · exact slc_hi (t := 23) (m := i) u23 (by kernel_rfl) X.hsb (by omega) h
  · have hL := X.hL
    have hs : X.sb = some ⟨1, 0, none⟩ := by
      rcases X.hsb with ⟨_, h0⟩ | h0
      · omega
      · exact h0
    have hinf : (Try.prog.info? 50).map (fun i => i.size) = some 4 := by kernel_rfl
    cases he : Try.prog.info? 50 with
    | none => rw [he] at hinf; cases hinf
    | some inf =>
      rw [he] at hinf
      simp only [Option.map_some, Option.some.injEq] at hinf
      have h1 : ¬ (openCap + 4 < openCap) := by omega
      have h2 : X.ls.length < openCap := by unfold openCap; omega
      rw [hs, h]
      simp only [doSlice, u23, he, h1, if_false, hinf, Nat.add_sub_cancel_left, h2, and_self, if_true, bnds, highB, lowB, bnd_nat (show i ≤ X.ls.length by omega)]
      simp
theorem k3_0 (X : Cx) {i : Nat} {l : Lk} (hd : X.ls.length ≤ X.d) (hd2 : capD X.d) (hi : X.ls[i]? = some l) : Memo.Ok Try.prog ⟨64, 3, [.int .i64 i, pt 2], X.V3, .bool (k3 X.ls i l), [], 3⟩ := by
  have hlo := k3_loop X hi i 0 (by omega)
  rw [List.drop_zero] at hlo
  unfold k3
  have l0 := X.ldL hi
  have hlt := lt_of hi
  have hsl := slc_cap X hlt hd hd2
  generalize (X.ls.take i).any (dup l) = b at hlo ⊢
  obtain ⟨x, y, p, q⟩ := l
  cases b <;>
    exact memo_pure (hs := [(10, .ix 23 (.slice X.sb X.ls.length X.d) (.int .i64 i) _), (11, .ld 50 _ 1 X.lk true _), (15, .slc 23 (.slice X.sb X.ls.length X.d) none (some (.int .i64 i)) none _)]) (ch := [⟨3, none, .loop (lp Try.prog 64 3), T64 X i 0, [], H64 X ⟨x, y, p, q⟩, 5, _, false⟩]) 5 (evk 50) special
      ⟨X.ixL hlt, ⟨l0, _, rfl⟩, hsl, trivial⟩ ⟨codeOk_loop hlo, trivial⟩ (by kernel_rfl) (X.smallH3 (by omega)) (by kernel_rfl)
end Go.Proofs.Ytkngbmaomgfcjaa.topo
/- Contract: sound. -/
namespace Go.Proofs.Ytkngbmaomgfcjaa.topo
open Go Go.En
set_option linter.unusedVariables false

def fv (f : Nat) : Value := .func (.func f) #[] #[pt 2]
def fs4 : List Value := [fv 62, fv 63, fv 64, fv 65]
def H57 (X : Cx) : Hp := [(3, .cells fs4 false), (2, .cells X.cells true), (0, .cells X.st true), (1, .cells X.lk true)]
theorem H57_below (X : Cx) {n : Nat} (hn : 4 ≤ n) : hpBelow n (H57 X) = true := by
  have h1 : hpBelow n [(3, .cells fs4 false)] = true := by
    have : (2 : Nat) < n := by omega
    simp [hpBelow, tidyB, fs4, fv, pt, En.smallL, En.small, this]; omega
  simp only [hpBelow, Bool.and_true] at h1
  have a1 : tidyB n (.cells X.cells true) = true := X.smallL (by omega) 5
  have a2 : tidyB n (.cells X.st true) = true := small_avL X.avs
  have a3 : tidyB n (.cells X.lk true) = true := small_avL X.avk
  simp only [H57, hpBelow, h1, a1, a2, a3, Bool.and_true]
  simp; omega
/-- The temporaries in the inner loop, and in the outer one. -/
def T57 (X : Cx) (i k : Int) : List Value := [J, pt 2, .bool false, pt 3, .int .i64 i, J, J, J, J, J, J, J, J, J, .int .i64 X.ls.length, .int .i64 i, J, J, .agg ⟨fs4⟩, .int .i64 k] ++ List.replicate 8 J
def U57 (X : Cx) (i : Int) : List Value := [J, pt 2, .bool false, pt 3, J, J, J, J, J, J, J, J, J, J, .int .i64 X.ls.length, .int .i64 i, J, J, J, J] ++ List.replicate 8 J
def UJ57 (X : Cx) : List Value := [J, pt 2, .bool false, pt 3, J, J, J, J, J, J, J, J, J, J, .int .i64 X.ls.length, J, J, J, J, J] ++ List.replicate 8 J
def S57 (X : Cx) (i : Int) (k : Int) : Bool → Res
  | true => ⟨.normal, T57 X i (IntKind.i64.wrap (k + 1)), [], H57 X, 5⟩
  | false => ⟨.ret, UJ57 X, [], H57 X, 5⟩
theorem in_go (X : Cx) {i : Nat} {k f : Nat} {b : Bool} (hf : (k = 0 ∧ f = 62) ∨ (k = 1 ∧ f = 63) ∨ (k = 2 ∧ f = 64) ∨ (k = 3 ∧ f = 65)) (m : Memo.Ok Try.prog ⟨f, 3, [.int .i64 i, pt 2], X.V3, .bool b, [], 3⟩) :
    CodeOk Try.prog none (lp Try.prog 57 6) (T57 X i k) [] (H57 X) 5 (S57 X i k b) := by
  have m1 := Cx.at3 m 5 (by kernel_rfl) rfl rfl
  rcases hf with ⟨rfl, rfl⟩ | ⟨rfl, rfl⟩ | ⟨rfl, rfl⟩ | ⟨rfl, rfl⟩ <;> cases b <;>
    exact code_at (hs := [(24, .call _)]) (ch := []) (evk 50) special ⟨m1, trivial⟩ trivial (by kernel_rfl) (H57_below X (by omega)) (H57_below X (by omega)) (by kernel_rfl)
theorem in_out (X : Cx) (i : Nat) : CodeOk Try.prog none (lp Try.prog 57 6) (T57 X i 4) [] (H57 X) 5 ⟨.exit 2, U57 X i, [], H57 X, 5⟩ :=
  code_at (hs := []) (ch := []) (evk 50) special trivial trivial (by kernel_rfl) (H57_below X (by omega)) (H57_below X (by omega)) (by kernel_rfl)
def linkOk (X : Cx) (i : Nat) (l : Lk) : Bool := k1 X.N l && (k2 (X.S.getD l.a.toNat false) (X.S.getD l.b.toNat false) && (k3 X.ls i l && k4 l))
def I57 (X : Cx) (i : Nat) : Bool → Res
  | true => ⟨.exit 2, U57 X i, [], H57 X, 5⟩
  | false => ⟨.ret, UJ57 X, [], H57 X, 5⟩
theorem node_at {X : Cx} (hN : X.N = X.S.length) {n : Int} (h : nodeS X.N n = true) : ∃ a : Nat, n = a ∧ X.S[a]? = some (X.S.getD n.toNat false) := by
  simp only [nodeS, Bool.and_eq_true, decide_eq_true_eq] at h
  refine ⟨n.toNat, by omega, ?_⟩
  have hlt : n.toNat < X.S.length := by omega
  rw [List.getD_eq_getElem?_getD, List.getElem?_eq_getElem hlt]
  rfl
theorem in_all (X : Cx) (hN : X.N = X.S.length) (hd : X.ls.length ≤ X.d) (hd2 : capD X.d) {i : Nat} {l : Lk} (hi : X.ls[i]? = some l) : LoopOk Try.prog none (lp Try.prog 57 6) (T57 X i 0) [] (H57 X) 5 (I57 X i (linkOk X i l)) := by
  unfold linkOk
  have s1 := in_go X (k := 0) (.inl ⟨rfl, rfl⟩) (k1_0 X hi)
  cases b1 : k1 X.N l with
  | false => rw [b1] at s1; exact loopOk_out s1 (by show Exit.ret ≠ Exit.normal; simp)
  | true =>
    rw [b1] at s1
    refine loop_step s1 ?_
    have hk := b1
    simp only [k1, Bool.and_eq_true] at hk
    obtain ⟨a, ha, hx⟩ := node_at hN hk.1.1
    obtain ⟨b, hb, hy⟩ := node_at hN hk.1.2
    have s2 := in_go X (k := 1) (.inr (.inl ⟨rfl, rfl⟩)) (k2_0 X hi ha hb hx hy)
    cases b2 : k2 (X.S.getD l.a.toNat false) (X.S.getD l.b.toNat false) with
    | false => rw [b2] at s2; exact loopOk_out s2 (by show Exit.ret ≠ Exit.normal; simp)
    | true =>
      rw [b2] at s2
      refine loop_step s2 ?_
      have s3 := in_go X (k := 2) (.inr (.inr (.inl ⟨rfl, rfl⟩))) (k3_0 X hd hd2 hi)
      cases b3 : k3 X.ls i l with
      | false => rw [b3] at s3; exact loopOk_out s3 (by show Exit.ret ≠ Exit.normal; simp)
      | true =>
        rw [b3] at s3
        refine loop_step s3 ?_
        have s4 := in_go X (k := 3) (.inr (.inr (.inr ⟨rfl, rfl⟩))) (k4_0 X hi)
        cases b4 : k4 l with
        | false => rw [b4] at s4; exact loopOk_out s4 (by show Exit.ret ≠ Exit.normal; simp)
        | true =>
          rw [b4] at s4
          exact loop_step s4 (loopOk_out (in_out X i) (by show Exit.exit 2 ≠ Exit.normal; simp))
def O57 (X : Cx) (i : Int) : Bool → Res
  | true => ⟨.normal, U57 X i, [], H57 X, 5⟩
  | false => ⟨.ret, UJ57 X, [], H57 X, 5⟩
theorem snd_go (X : Cx) (hN : X.N = X.S.length) (hd : X.ls.length ≤ X.d) (hd2 : capD X.d) {i : Nat} {l : Lk} (hi : X.ls[i]? = some l) :
    CodeOk Try.prog none (lp Try.prog 57 3) (U57 X i) [] (H57 X) 5 (O57 X (IntKind.i64.wrap (i + 1)) (linkOk X i l)) := by
  have hin := in_all X hN hd hd2 hi
  have hlt := lt_of hi
  generalize linkOk X i l = b at hin ⊢
  cases b <;>
    exact code_at (hs := [(16, .val (.bool (decide ((i : Int) < X.ls.length))) (.bool true))]) (ch := [⟨6, none, .loop (lp Try.prog 57 6), T57 X i 0, [], H57 X, 5, _, true⟩]) (evk 50) special
      ⟨congrArg Value.bool (decide_eq_true (by omega)), trivial⟩ ⟨codeOk_loop hin, trivial⟩ (by kernel_rfl) (H57_below X (by omega)) (H57_below X (by omega)) (by kernel_rfl)
theorem snd_out (X : Cx) : CodeOk Try.prog none (lp Try.prog 57 3) (U57 X X.ls.length) [] (H57 X) 5 ⟨.exit 0, UJ57 X, [], H57 X, 5⟩ :=
  code_at (hs := [(16, .val (.bool (decide ((X.ls.length : Int) < X.ls.length))) (.bool false))]) (ch := []) (evk 50) special
      ⟨congrArg Value.bool (decide_eq_false (by omega)), trivial⟩ trivial (by kernel_rfl) (H57_below X (by omega)) (H57_below X (by omega)) (by kernel_rfl)
def sndGo (X : Cx) : List Lk → Nat → Bool
  | [], _ => true
  | l :: r, i => linkOk X i l && sndGo X r (i + 1)
def F57 (X : Cx) : Bool → Res
  | true => ⟨.exit 0, UJ57 X, [], H57 X, 5⟩
  | false => ⟨.ret, UJ57 X, [], H57 X, 5⟩
theorem snd_loop (X : Cx) (hN : X.N = X.S.length) (hd : X.ls.length ≤ X.d) (hd2 : capD X.d) : ∀ (r i : Nat), i + r = X.ls.length → LoopOk Try.prog none (lp Try.prog 57 3) (U57 X i) [] (H57 X) 5 (F57 X (sndGo X (X.ls.drop i) i))
  | 0, i, h => by
    have : i = X.ls.length := by omega
    subst this
    rw [List.drop_length]
    exact loopOk_out (snd_out X) (by show Exit.exit 0 ≠ Exit.normal; simp)
  | r + 1, i, h => by
    have hlt : i < X.ls.length := by omega
    have hi : X.ls[i]? = some X.ls[i] := List.getElem?_eq_getElem hlt
    have h1 := snd_go X hN hd hd2 hi
    rw [List.drop_eq_getElem_cons hlt]
    simp only [sndGo]
    cases hb : linkOk X i X.ls[i] with
    | false => rw [hb] at h1; exact loopOk_out h1 (by show Exit.ret ≠ Exit.normal; simp)
    | true =>
      rw [hb] at h1
      rw [show (i : Int) + 1 = ((i + 1 : Nat) : Int) by push_cast; rfl, wrap_nat (by have := X.hL; omega)] at h1
      exact loop_step h1 (snd_loop X hN hd hd2 r (i + 1) (by omega))
termination_by r => r
def soundS (X : Cx) : Bool := sndGo X X.ls 0
theorem sound_0 (X : Cx) (hN : X.N = X.S.length) (hd : X.ls.length ≤ X.d) (hd2 : capD X.d) : Memo.Ok Try.prog ⟨57, 2, [X.v], X.V, .bool (soundS X), [], 2⟩ := by
  have hlo := snd_loop X hN hd hd2 X.ls.length 0 (by omega)
  rw [List.drop_zero] at hlo
  unfold soundS
  generalize sndGo X X.ls 0 = b at hlo ⊢
  cases b <;>
    exact memo_pure (hs := [(1, .frz)]) (ch := [⟨3, none, .loop (lp Try.prog 57 3), U57 X 0, [], H57 X, 5, _, true⟩]) 5 (evk 50) special ⟨trivial, trivial⟩ ⟨codeOk_loop hlo, trivial⟩ (X.hV rfl) (X.smallH 2) (by kernel_rfl)
end Go.Proofs.Ytkngbmaomgfcjaa.topo
/- Contract: reach. -/
namespace Go.Proofs.Ytkngbmaomgfcjaa.topo
open Go Go.En
set_option linter.unusedVariables false

def bc (R : List Bool) : List Value := R.map Value.bool
theorem bc_len (R : List Bool) : (bc R).length = R.length := by simp [bc]
theorem bc_get {R : List Bool} {i : Nat} {b : Bool} (h : R[i]? = some b) : (bc R)[0 + i * 1]? = some (.bool b) := by simp [bc, h]
theorem bc_set (R : List Bool) (i : Nat) (b : Bool) : (bc R).set (0 + i * 1) (.bool b) = bc (R.set i b) := by simp [bc]
theorem bc_av : ∀ R : List Bool, avL (bc R) = true
  | [] => rfl
  | _ :: R => bc_av R
theorem getD_some {R : List Bool} {i : Nat} (h : i < R.length) : R[i]? = some (R.getD i false) := by
  rw [List.getD_eq_getElem?_getD, List.getElem?_eq_getElem h]; rfl
/-- The elements of a slice over a block of truth values. -/
theorem ix_b {b n c i : Nat} (h : i < n) : doIndexAddr Try.prog 22 (.slice (some ⟨b, 0, none⟩) n c) (.int .i64 i) = some (.pointer (some ⟨b, 0 + i * 1, none⟩)) :=
  Sl.ix' (.inr rfl) u22 z4 h
theorem ld_b {b i : Nat} {R : List Bool} {ro : Bool} (h : i < R.length) : doLoad Try.prog [(b, .cells (bc R) ro)] 4 (.pointer (some ⟨b, 0 + i * 1, none⟩)) = some (.bool (R.getD i false)) := ld1 z4 (bc_get (getD_some h))
theorem st_b {b i : Nat} {R : List Bool} {x : Bool} (h : i < R.length) : doStore Try.prog [(b, .cells (bc R) false)] 4 (.pointer (some ⟨b, 0 + i * 1, none⟩)) (.bool x) = some [(b, .cells (bc (R.set i x)) false)] := by
  rw [← bc_set]
  exact st1 z4 (by simp [bc]; omega) (by cases x <;> rfl) rfl
theorem ix_71 {b i : Nat} (h : i < 24) : doIndexAddr Try.prog 71 (.pointer (some ⟨b, 0, none⟩)) (.int .i64 i) = some (.pointer (some ⟨b, 0 + i * 1, none⟩)) := by
  have hu : Try.prog.underlying 71 = some (.array 24 4) := by kernel_rfl
  obtain ⟨d, inf, h1, h2, h3, h4⟩ := szIs_some z4
  simp only [doIndexAddr, hu, idx_nat h, h2, h3]

def T47 (X : Cx) (r : Int) : List Value := [J, J, J, pt 2, J, pt 3, J, .slice (some ⟨4, 0, none⟩) X.S.length X.S.length, J, J, J, J, J, J, J, J, J, .int .i64 X.N, .int .i64 r] ++ List.replicate 37 J
def U47 (X : Cx) (r i : Int) : List Value := [J, J, J, pt 2, J, pt 3, J, .slice (some ⟨4, 0, none⟩) X.S.length X.S.length, J, J, J, J, J, J, J, J, J, .int .i64 X.N, .int .i64 r, J, J, .slice X.sb X.ls.length X.d, .int .i64 X.ls.length, .int .i64 i] ++ List.replicate 32 J
def H47 (X : Cx) (C R : List Bool) : Hp := [(4, .cells (bc R) false), (3, .cells (bc C) true), (2, .cells X.cells true), (0, .cells X.st true), (1, .cells X.lk true)]
theorem H47_below (X : Cx) (C R : List Bool) {n : Nat} (hn : 5 ≤ n) : hpBelow n (H47 X C R) = true := by
  have a1 : tidyB n (.cells X.cells true) = true := X.smallL (by omega) 5
  have a2 : tidyB n (.cells X.st true) = true := small_avL X.avs
  have a3 : tidyB n (.cells X.lk true) = true := small_avL X.avk
  have a4 : tidyB n (.cells (bc R) false) = true := small_avL (bc_av R)
  have a5 : tidyB n (.cells (bc C) true) = true := small_avL (bc_av C)
  simp only [H47, hpBelow, a1, a2, a3, a4, a5, Bool.and_true]
  simp; omega
theorem pre47 (X : Cx) (C R : List Bool) (r i : Int) : (nodupN (H47 X C R) && tmBelow 6 (U47 X r i) && dsBelow 6 [] && rBelow 6 none) = true := by
  rcases X.hsb with ⟨h, _⟩ | h
  · simp only [U47, h]
    show _ = true
    kernel_rfl
  · simp only [U47, h]
    show _ = true
    kernel_rfl
def rstep (C : List Bool) (i : Nat) (l : Lk) (R : List Bool) : List Bool := bif !C.getD i false && (R.getD l.a.toNat false != R.getD l.b.toNat false) then (R.set l.a.toNat true).set l.b.toNat true else R
theorem rstep_len (C : List Bool) (i : Nat) (l : Lk) (R : List Bool) : (rstep C i l R).length = R.length := by
  unfold rstep; cases (!C.getD i false && (R.getD l.a.toNat false != R.getD l.b.toNat false)) <;> simp
def Ends (N : Int) (l : Lk) : Prop := 0 ≤ l.a ∧ l.a < N ∧ 0 ≤ l.b ∧ l.b < N
theorem r_go (X : Cx) {C R : List Bool} {r : Int} {i : Nat} {l : Lk} (hC : C.length = 24) (hR : R.length = X.S.length) (hi : X.ls[i]? = some l) (h24 : i < 24) (he : Ends X.S.length l) :
    CodeOk Try.prog none (lp Try.prog 47 6) (U47 X r i) [] (H47 X C R) 6 ⟨.normal, U47 X r (IntKind.i64.wrap (i + 1)), [], H47 X C (rstep C i l R), 6⟩ := by
  obtain ⟨a, b, p, q⟩ := l
  obtain ⟨a1, a2, b1, b2⟩ := he
  obtain ⟨a, rfl⟩ : ∃ n : Nat, a = n := ⟨a.toNat, by dsimp only at a1; omega⟩
  obtain ⟨b, rfl⟩ : ∃ n : Nat, b = n := ⟨b.toNat, by dsimp only at b1; omega⟩
  dsimp only at a2 b2
  have ha : a < R.length := by omega
  have hb : b < R.length := by omega
  have l0 := X.ldL hi
  have hlt := lt_of hi
  have key : ∀ p1 p2, C.getD i false = p1 → (R.getD a false != R.getD b false) = p2 →
      CodeOk Try.prog none (lp Try.prog 47 6) (U47 X r i) [] (H47 X C R) 6 ⟨.normal, U47 X r (IntKind.i64.wrap (i + 1)), [], H47 X C (bif !p1 && p2 then (R.set a true).set b true else R), 6⟩ := by
    intro p1 p2 h1 h2
    have c1 := ld_b (b := 3) (ro := true) (R := C) (i := i) (by omega)
    rw [h1] at c1
    have hix1 : doIndexAddr Try.prog 22 (.slice (some ⟨4, 0, none⟩) X.S.length X.S.length) (.int .i64 a) = _ := ix_b (by omega)
    have hix2 : doIndexAddr Try.prog 22 (.slice (some ⟨4, 0, none⟩) X.S.length X.S.length) (.int .i64 b) = _ := ix_b (by omega)
    have la := ld_b (b := 4) (ro := true) ha
    have lb := ld_b (b := 4) (ro := true) hb
    have sa := st_b (b := 4) (x := true) ha
    have sb := st_b (b := 4) (x := true) (R := R.set a true) (i := b) (by simp; omega)
    have hsb := X.hsb
    rcases hsb with ⟨hsb, _⟩ | hsb <;> cases p1 <;> cases p2 <;>
      (refine code_at (hs := [(24, .val (.bool (decide ((i : Int) < X.ls.length))) (.bool true)), (26, .ix 23 (.slice X.sb X.ls.length X.d) (.int .i64 i) _), (27, .ld 50 _ 1 X.lk true _), (29, .ix 71 (pt 3) (.int .i64 i) _), (30, .ld 4 _ 3 (bc C) true _), (36, .ix 22 (.slice (some ⟨4, 0, none⟩) X.S.length X.S.length) (.int .i64 a) _), (37, .ld 4 _ 4 (bc R) true _), (41, .ix 22 (.slice (some ⟨4, 0, none⟩) X.S.length X.S.length) (.int .i64 b) _), (42, .ld 4 _ 4 (bc R) true _), (43, .val (.bool (R.getD a false != R.getD b false)) (.bool _)),
            (51, .ix 22 (.slice (some ⟨4, 0, none⟩) X.S.length X.S.length) (.int .i64 a) _), (100051, .st 4 _ (.bool true) 4 (bc R) _), (52, .ix 22 (.slice (some ⟨4, 0, none⟩) X.S.length X.S.length) (.int .i64 b) _), (100052, .st 4 _ (.bool true) 4 (bc (R.set a true)) _)]) (ch := []) (evk 50) special
          ⟨congrArg Value.bool (decide_eq_true (by omega)), X.ixL hlt, ⟨l0, _, rfl⟩, ix_71 h24, ⟨c1, _, rfl⟩, hix1, ⟨la, _, rfl⟩, hix2, ⟨lb, _, rfl⟩, congrArg Value.bool h2, hix1, ⟨sa, _, rfl⟩, hix2, ⟨sb, _, rfl⟩, trivial⟩ trivial (pre47 X C R r i) (H47_below X C R (by omega)) (H47_below X C _ (by omega)) ?_
       simp only [U47, hsb]; kernel_rfl)
  exact key _ _ rfl rfl
theorem r_out (X : Cx) (C R : List Bool) (r : Int) : CodeOk Try.prog none (lp Try.prog 47 6) (U47 X r X.ls.length) [] (H47 X C R) 6 ⟨.exit 2, T47 X r, [], H47 X C R, 6⟩ := by
  have hsb := X.hsb
  rcases hsb with ⟨hsb, _⟩ | hsb <;>
    (refine code_at (hs := [(24, .val (.bool (decide ((X.ls.length : Int) < X.ls.length))) (.bool false))]) (ch := []) (evk 50) special ⟨congrArg Value.bool (decide_eq_false (by omega)), trivial⟩ trivial (pre47 X C R r _) (H47_below X C R (by omega)) (H47_below X C R (by omega)) ?_
     simp only [U47, T47, hsb]; kernel_rfl)
def rgo (C : List Bool) : List Lk → Nat → List Bool → List Bool
  | [], _, R => R
  | l :: r, i, R => rgo C r (i + 1) (rstep C i l R)
theorem rgo_len (C : List Bool) : ∀ (l : List Lk) (i : Nat) (R : List Bool), (rgo C l i R).length = R.length
  | [], _, _ => rfl
  | l :: r, i, R => by rw [rgo, rgo_len C r, rstep_len]
theorem r_loop (X : Cx) {C : List Bool} {r : Int} (hC : C.length = 24) (h24 : X.ls.length ≤ 24) (he : ∀ l ∈ X.ls, Ends X.S.length l) : ∀ (k i : Nat) (R : List Bool), R.length = X.S.length → i + k = X.ls.length →
    LoopOk Try.prog none (lp Try.prog 47 6) (U47 X r i) [] (H47 X C R) 6 ⟨.exit 2, T47 X r, [], H47 X C (rgo C (X.ls.drop i) i R), 6⟩
  | 0, i, R, hR, h => by
    have : i = X.ls.length := by omega
    subst this
    rw [List.drop_length]
    exact loopOk_out (r_out X C R r) (by show Exit.exit 2 ≠ Exit.normal; simp)
  | k + 1, i, R, hR, h => by
    have hlt : i < X.ls.length := by omega
    have hi : X.ls[i]? = some X.ls[i] := List.getElem?_eq_getElem hlt
    have h1 := r_go X (r := r) hC hR hi (by omega) (he _ (List.getElem_mem hlt))
    rw [show (i : Int) + 1 = ((i + 1 : Nat) : Int) by push_cast; rfl, wrap_nat (by omega)] at h1
    rw [List.drop_eq_getElem_cons hlt]
    exact loop_step h1 (r_loop X hC h24 he k (i + 1) _ (by rw [rstep_len]; exact hR) (by omega))
termination_by k => k
theorem pre47o (X : Cx) (C R : List Bool) (r : Int) : (nodupN (H47 X C R) && tmBelow 5 (T47 X r) && dsBelow 5 [] && rBelow 5 none) = true := by kernel_rfl
theorem o_go (X : Cx) {C R : List Bool} (hN : X.N = X.S.length) (hC : C.length = 24) (hR : R.length = X.S.length) (h24 : X.ls.length ≤ 24) (he : ∀ l ∈ X.ls, Ends X.S.length l) {r : Nat} (hr : r < X.S.length) :
    CodeOk Try.prog none (lp Try.prog 47 4) (T47 X r) [] (H47 X C R) 5 ⟨.normal, T47 X (IntKind.i64.wrap (r + 1)), [], H47 X C (rgo C X.ls 0 R), 5⟩ := by
  have hin := r_loop X (r := r) hC h24 he X.ls.length 0 R hR (by omega)
  rw [List.drop_zero] at hin
  exact code_at (hs := [(19, .val (.bool (decide ((r : Int) < X.N))) (.bool true))]) (ch := [⟨6, none, .loop (lp Try.prog 47 6), U47 X r 0, [], H47 X C R, 6, _, true⟩]) (evk 50) special ⟨congrArg Value.bool (decide_eq_true (by omega)), trivial⟩ ⟨codeOk_loop hin, trivial⟩ (pre47o X C R r) (H47_below X C R (by omega)) (H47_below X C _ (by omega)) (by kernel_rfl)
theorem o_out (X : Cx) (C R : List Bool) (hN : X.N = X.S.length) : CodeOk Try.prog none (lp Try.prog 47 4) (T47 X X.S.length) [] (H47 X C R) 5 ⟨.exit 0, T47 X X.S.length, [], H47 X C R, 5⟩ :=
  code_at (hs := [(19, .val (.bool (decide ((X.S.length : Int) < X.N))) (.bool false))]) (ch := []) (evk 50) special ⟨congrArg Value.bool (decide_eq_false (by omega)), trivial⟩ trivial (pre47o X C R _) (H47_below X C R (by omega)) (H47_below X C R (by omega)) (by kernel_rfl)
def rIter (C : List Bool) (ls : List Lk) : Nat → List Bool → List Bool
  | 0, R => R
  | n + 1, R => rIter C ls n (rgo C ls 0 R)
theorem rIter_len (C : List Bool) (ls : List Lk) : ∀ (n : Nat) (R : List Bool), (rIter C ls n R).length = R.length
  | 0, _ => rfl
  | n + 1, R => by rw [rIter, rIter_len C ls n, rgo_len]
theorem o_loop (X : Cx) {C : List Bool} (hN : X.N = X.S.length) (hC : C.length = 24) (h24 : X.ls.length ≤ 24) (he : ∀ l ∈ X.ls, Ends X.S.length l) : ∀ (k r : Nat) (R : List Bool), R.length = X.S.length → r + k = X.S.length →
    LoopOk Try.prog none (lp Try.prog 47 4) (T47 X r) [] (H47 X C R) 5 ⟨.exit 0, T47 X X.S.length, [], H47 X C (rIter C X.ls k R), 5⟩
  | 0, r, R, hR, h => by
    have : r = X.S.length := by omega
    subst this
    exact loopOk_out (o_out X C R hN) (by show Exit.exit 0 ≠ Exit.normal; simp)
  | k + 1, r, R, hR, h => by
    have h1 := o_go X hN hC hR h24 he (r := r) (by omega)
    rw [show (r : Int) + 1 = ((r + 1 : Nat) : Int) by push_cast; rfl, wrap_nat (by have := X.hS; omega)] at h1
    exact loop_step h1 (o_loop X hN hC h24 he k (r + 1) _ (by rw [rgo_len]; exact hR) (by omega))
termination_by k => k
def reachS (C : List Bool) (ls : List Lk) (n : Nat) (a : Nat) : List Bool := rIter C ls n ((List.replicate n false).set a true)
theorem mk22 {n : Nat} (hn : n ≤ 1000) : Hint.Ok Try.prog (.mk 22 (.int .i64 n) (.int .i64 n) n (List.replicate n (.bool false))) :=
  mk_n (z := .bool false) (by_ := 1) u22 (by kernel_rfl) (by kernel_rfl) rfl (by omega) hn
theorem rep_bc (n : Nat) : List.replicate n (Value.bool false) = bc (List.replicate n false) := by simp [bc]
theorem reach_0 (X : Cx) {C : List Bool} {a : Nat} (hN : X.N = X.S.length) (hC : C.length = 24) (h24 : X.ls.length ≤ 24) (he : ∀ l ∈ X.ls, Ends X.S.length l) (ha : a < X.S.length) :
    Memo.Ok Try.prog ⟨47, 2, [X.v, .int .i64 a, .agg ⟨bc C⟩], X.V, .slice (some ⟨4, 0, none⟩) X.S.length X.S.length, [(4, bc (reachS C X.ls X.S.length a))], 5⟩ := by
  have hlo := o_loop X hN hC h24 he X.S.length 0 ((List.replicate X.S.length false).set a true) (by simp) (by omega)
  have mk := mk22 X.hS
  rw [rep_bc] at mk
  have hix : doIndexAddr Try.prog 22 (.slice (some ⟨4, 0, none⟩) X.S.length X.S.length) (.int .i64 a) = _ := ix_b ha
  have sa := st_b (b := 4) (x := true) (R := List.replicate X.S.length false) (i := a) (by simp; omega)
  obtain ⟨N, sa', c, sb', d, st, lk, S, ls, a1, a2, a3, a4, a5, a6, a7, a8⟩ := X
  dsimp only at hN
  subst hN
  exact memo_new (hs := [(3, .frz), (5, .frz), (12, .mk 22 _ _ _ _), (15, .ix 22 (.slice (some ⟨4, 0, none⟩) S.length S.length) (.int .i64 a) _), (100015, .st 4 _ (.bool true) 4 _ _)]) (ch := [⟨4, none, .loop (lp Try.prog 47 4), T47 _ 0, [], H47 _ C _, 5, _, true⟩]) (evk 50) special ⟨trivial, trivial, mk, hix, ⟨sa, _, rfl⟩, trivial⟩ ⟨codeOk_loop hlo, trivial⟩ (by kernel_rfl)
end Go.Proofs.Ytkngbmaomgfcjaa.topo
/- Contracts: slices.Contains, the counts of Check. -/
namespace Go.Proofs.Ytkngbmaomgfcjaa.topo
open Go Go.En
set_option linter.unusedVariables false

def T51 (n c : Nat) (i : Int) : List Value := [.slice (some ⟨0, 0, none⟩) n c, .bool false, J, J, J, J, J, .int .i64 n, .int .i64 i] ++ List.replicate 10 J
def TR51 (n c : Nat) (v : Int) : List Value := [.slice (some ⟨0, 0, none⟩) n c, .bool false, J, J, .int .i64 v, J, J, .int .i64 n, J] ++ List.replicate 10 J
def H51 (R : List Bool) : Hp := [(0, .cells (bc R) true)]
theorem H51_below (R : List Bool) : hpBelow 2 (H51 R) = true := by
  have a4 : tidyB 2 (.cells (bc R) true) = true := small_avL (bc_av R)
  simp [H51, hpBelow, a4]
def Q51 (R : List Bool) (c : Nat) (i j : Int) : Bool → Res
  | true => ⟨.normal, T51 R.length c j, [], H51 R, 2⟩
  | false => ⟨.ret, TR51 R.length c i, [], H51 R, 2⟩
theorem ix_go {R : List Bool} {c i : Nat} {b : Bool} (hi : R[i]? = some b) : CodeOk Try.prog none (lp Try.prog 51 2) (T51 R.length c i) [] (H51 R) 2 (Q51 R c i (IntKind.i64.wrap (i + 1)) b) := by
  have hlt := lt_of hi
  have l0 : doLoad Try.prog [(0, .cells (bc R) true)] 4 (.pointer (some ⟨0, 0 + i * 1, none⟩)) = some (.bool b) := ld1 z4 (bc_get hi)
  have hx : doIndexAddr Try.prog 22 (.slice (some ⟨0, 0, none⟩) R.length c) (.int .i64 i) = _ := ix_b hlt
  cases b <;>
    exact code_at (hs := [(9, .val (.bool (decide ((i : Int) < R.length))) (.bool true)), (14, .ix 22 (.slice (some ⟨0, 0, none⟩) R.length c) (.int .i64 i) _), (15, .ld 4 _ 0 (bc R) true _)]) (ch := []) (evk 50) special ⟨congrArg Value.bool (decide_eq_true (by omega)), hx, ⟨l0, _, rfl⟩, trivial⟩ trivial (by kernel_rfl) (H51_below R) (H51_below R) (by kernel_rfl)
theorem ix_out (R : List Bool) (c : Nat) : CodeOk Try.prog none (lp Try.prog 51 2) (T51 R.length c R.length) [] (H51 R) 2 ⟨.exit 0, T51 R.length c R.length, [], H51 R, 2⟩ :=
  code_at (hs := [(9, .val (.bool (decide ((R.length : Int) < R.length))) (.bool false))]) (ch := []) (evk 50) special ⟨congrArg Value.bool (decide_eq_false (by omega)), trivial⟩ trivial (by kernel_rfl) (H51_below R) (H51_below R) (by kernel_rfl)
def findF : List Bool → Nat → Option Nat
  | [], _ => none
  | b :: r, i => bif b then findF r (i + 1) else some i
def E51 (R : List Bool) (c : Nat) : Option Nat → Res
  | some i => ⟨.ret, TR51 R.length c i, [], H51 R, 2⟩
  | none => ⟨.exit 0, T51 R.length c R.length, [], H51 R, 2⟩
theorem ix_loop {R : List Bool} {c : Nat} (hR : R.length ≤ 1000) : ∀ (k i : Nat), i + k = R.length → LoopOk Try.prog none (lp Try.prog 51 2) (T51 R.length c i) [] (H51 R) 2 (E51 R c (findF (R.drop i) i))
  | 0, i, h => by
    have : i = R.length := by omega
    subst this
    rw [List.drop_length]
    exact loopOk_out (ix_out R c) (by show Exit.exit 0 ≠ Exit.normal; simp)
  | k + 1, i, h => by
    have hlt : i < R.length := by omega
    have hi : R[i]? = some R[i] := List.getElem?_eq_getElem hlt
    have h1 := ix_go (c := c) hi
    rw [List.drop_eq_getElem_cons hlt]
    simp only [findF]
    cases hb : R[i] with
    | false => rw [hb] at h1; exact loopOk_out h1 (by show Exit.ret ≠ Exit.normal; simp)
    | true =>
      rw [hb] at h1
      rw [show (i : Int) + 1 = ((i + 1 : Nat) : Int) by push_cast; rfl, wrap_nat (by omega)] at h1
      exact loop_step h1 (ix_loop hR k (i + 1) (by omega))
termination_by k => k
def optI : Option Nat → Int
  | some i => i
  | none => -1
theorem index_0 {R : List Bool} {c : Nat} (hR : R.length ≤ 1000) : Memo.Ok Try.prog ⟨51, 1, [.slice (some ⟨0, 0, none⟩) R.length c, .bool false], [(0, bc R)], .int .i64 (optI (findF R 0)), [], 1⟩ := by
  have hlo := ix_loop (c := c) hR R.length 0 (by omega)
  rw [List.drop_zero] at hlo
  generalize findF R 0 = g at hlo ⊢
  cases g <;>
    exact memo_pure (hs := []) (ch := [⟨2, none, .loop (lp Try.prog 51 2), T51 R.length c 0, [], H51 R, 2, _, true⟩]) 2 (evk 50) special trivial ⟨codeOk_loop hlo, trivial⟩ (by kernel_rfl) (by simp [En.smallH, small_avL (bc_av R)]) (by kernel_rfl)
theorem contains_0 {R : List Bool} {c : Nat} (hR : R.length ≤ 1000) {p : Bool} (hp : (findF R 0).isSome = p) : Memo.Ok Try.prog ⟨22, 1, [.slice (some ⟨0, 0, none⟩) R.length c, .bool false], [(0, bc R)], .bool p, [], 1⟩ := by
  have m := index_0 (c := c) hR
  generalize findF R 0 = g at m hp
  cases g with
  | none =>
    simp at hp
    subst hp
    exact memo_pure (hs := [(7, .call _)]) (ch := []) 1 (evk 50) special ⟨m, trivial⟩ trivial (by kernel_rfl) (by simp [En.smallH, small_avL (bc_av R)]) (by kernel_rfl)
  | some i =>
    simp at hp
    subst hp
    exact memo_pure (hs := [(7, .call _), (8, .val (.bool (decide ((i : Int) ≥ 0))) (.bool true))]) (ch := []) 1 (evk 50) special ⟨m, congrArg Value.bool (decide_eq_true (by omega)), trivial⟩ trivial (by kernel_rfl) (by simp [En.smallH, small_avL (bc_av R)]) (by kernel_rfl)
theorem contains_m {R : List Bool} {c : Nat} (hR : R.length ≤ 1000) {p : Bool} (hp : (findF R 0).isSome = p) (b nx : Nat) : Memo.Ok Try.prog ⟨22, nx, [.slice (some ⟨b, 0, none⟩) R.length c, .bool false], [(b, bc R)], .bool p, [], nx⟩ :=
  memo_blk (contains_0 hR hp) (bc_av R) b nx (by kernel_rfl) rfl rfl

/-! ### The counts -/
def ic (D : List Int) : List Value := D.map (Value.int .i64)
theorem ic_av : ∀ D : List Int, avL (ic D) = true
  | [] => rfl
  | _ :: D => ic_av D
theorem ic_get {D : List Int} {i : Nat} (h : i < D.length) : (ic D)[0 + i * 1]? = some (.int .i64 (D.getD i 0)) := by
  simp [ic, List.getD_eq_getElem?_getD, h]
theorem ic_set (D : List Int) (i : Nat) (x : Int) : (ic D).set (0 + i * 1) (.int .i64 x) = ic (D.set i x) := by simp [ic]
theorem ix_i {b n c i : Nat} (h : i < n) : doIndexAddr Try.prog 28 (.slice (some ⟨b, 0, none⟩) n c) (.int .i64 i) = some (.pointer (some ⟨b, 0 + i * 1, none⟩)) :=
  Sl.ix' (.inr rfl) u28 z3 h
theorem ld_i {b i : Nat} {D : List Int} {ro : Bool} (h : i < D.length) : doLoad Try.prog [(b, .cells (ic D) ro)] 3 (.pointer (some ⟨b, 0 + i * 1, none⟩)) = some (.int .i64 (D.getD i 0)) := ld1 z3 (ic_get h)
theorem st_i {b i : Nat} {D : List Int} {x : Int} (h : i < D.length) : doStore Try.prog [(b, .cells (ic D) false)] 3 (.pointer (some ⟨b, 0 + i * 1, none⟩)) (.int .i64 x) = some [(b, .cells (ic (D.set i x)) false)] := by
  rw [← ic_set]
  exact st1 z3 (by simp [ic]; omega) rfl rfl
def inc (D : List Int) (a : Nat) : List Int := D.set a (IntKind.i64.wrap (D.getD a 0 + 1))
theorem inc_len (D : List Int) (a : Nat) : (inc D a).length = D.length := by simp [inc]
/-- The temporaries and the heap in Check's first loop. -/
def T37 (X : Cx) (i : Int) : List Value := [J, pt 2, .int .i64 0, .slice (some ⟨5, 0, none⟩) X.S.length X.S.length] ++ List.replicate 33 J ++ [.slice X.sb X.ls.length X.d, .int .i64 X.ls.length, .int .i64 i] ++ List.replicate 46 J
def TJ37 (X : Cx) : List Value := [J, pt 2, .int .i64 0, .slice (some ⟨5, 0, none⟩) X.S.length X.S.length] ++ List.replicate 82 J
def H37 (X : Cx) (D : List Int) : Hp := [(5, .cells (ic D) false), (2, .cells X.cells true), (0, .cells X.st true), (1, .cells X.lk true)]
theorem H37_below (X : Cx) (D : List Int) {n : Nat} (hn : 6 ≤ n) : hpBelow n (H37 X D) = true := by
  have a1 : tidyB n (.cells X.cells true) = true := X.smallL (by omega) 5
  have a2 : tidyB n (.cells X.st true) = true := small_avL X.avs
  have a3 : tidyB n (.cells X.lk true) = true := small_avL X.avk
  have a4 : tidyB n (.cells (ic D) false) = true := small_avL (ic_av D)
  simp only [H37, hpBelow, a1, a2, a3, a4, Bool.and_true]
  simp; omega
theorem pre37 (X : Cx) (D : List Int) (i : Int) : (nodupN (H37 X D) && tmBelow 7 (T37 X i) && dsBelow 7 [] && rBelow 7 none) = true := by
  rcases X.hsb with ⟨h, _⟩ | h
  · simp only [T37, h]
    show _ = true
    kernel_rfl
  · simp only [T37, h]
    show _ = true
    kernel_rfl
theorem c_go (X : Cx) {D : List Int} {i : Nat} {l : Lk} (hD : D.length = X.S.length) (hi : X.ls[i]? = some l) (he : Ends X.S.length l) :
    CodeOk Try.prog none (lp Try.prog 37 7) (T37 X i) [] (H37 X D) 7 ⟨.normal, T37 X (IntKind.i64.wrap (i + 1)), [], H37 X (inc (inc D l.a.toNat) l.b.toNat), 7⟩ := by
  obtain ⟨a, b, p, q⟩ := l
  obtain ⟨a1, a2, b1, b2⟩ := he
  obtain ⟨a, rfl⟩ : ∃ n : Nat, a = n := ⟨a.toNat, by dsimp only at a1; omega⟩
  obtain ⟨b, rfl⟩ : ∃ n : Nat, b = n := ⟨b.toNat, by dsimp only at b1; omega⟩
  dsimp only at a2 b2
  have l0 := X.ldL hi
  have hlt := lt_of hi
  have hix1 : doIndexAddr Try.prog 28 (.slice (some ⟨5, 0, none⟩) X.S.length X.S.length) (.int .i64 a) = _ := ix_i (by omega)
  have hix2 : doIndexAddr Try.prog 28 (.slice (some ⟨5, 0, none⟩) X.S.length X.S.length) (.int .i64 b) = _ := ix_i (by omega)
  have la := ld_i (b := 5) (ro := false) (D := D) (i := a) (by omega)
  have sa := st_i (b := 5) (D := D) (i := a) (x := IntKind.i64.wrap (D.getD a 0 + 1)) (by omega)
  have lb := ld_i (b := 5) (ro := false) (D := inc D a) (i := b) (by rw [inc_len]; omega)
  have sb := st_i (b := 5) (D := inc D a) (i := b) (x := IntKind.i64.wrap ((inc D a).getD b 0 + 1)) (by rw [inc_len]; omega)
  have hsb := X.hsb
  rcases hsb with ⟨hsb, _⟩ | hsb <;>
    (refine code_at (hs := [(40, .val (.bool (decide ((i : Int) < X.ls.length))) (.bool true)), (41, .ix 23 (.slice X.sb X.ls.length X.d) (.int .i64 i) _), (42, .ld 50 _ 1 X.lk true _), (46, .ix 28 (.slice (some ⟨5, 0, none⟩) X.S.length X.S.length) (.int .i64 a) _), (47, .ld 3 _ 5 (ic D) false _), (49, .ix 28 (.slice (some ⟨5, 0, none⟩) X.S.length X.S.length) (.int .i64 a) _), (100049, .st 3 _ (.int .i64 (IntKind.i64.wrap (D.getD a 0 + 1))) 5 (ic D) _),
          (53, .ix 28 (.slice (some ⟨5, 0, none⟩) X.S.length X.S.length) (.int .i64 b) _), (54, .ld 3 _ 5 (ic (inc D a)) false _), (56, .ix 28 (.slice (some ⟨5, 0, none⟩) X.S.length X.S.length) (.int .i64 b) _), (100056, .st 3 _ (.int .i64 (IntKind.i64.wrap ((inc D a).getD b 0 + 1))) 5 (ic (inc D a)) _)]) (ch := []) (evk 50) special
        ⟨congrArg Value.bool (decide_eq_true (by omega)), X.ixL hlt, ⟨l0, _, rfl⟩, hix1, ⟨la, _, rfl⟩, hix1, ⟨sa, _, rfl⟩, hix2, ⟨lb, _, rfl⟩, hix2, ⟨sb, _, rfl⟩, trivial⟩ trivial (pre37 X D i) (H37_below X D (by omega)) (H37_below X _ (by omega)) ?_
     simp only [T37, hsb]; kernel_rfl)
theorem c_out (X : Cx) (D : List Int) : CodeOk Try.prog none (lp Try.prog 37 7) (T37 X X.ls.length) [] (H37 X D) 7 ⟨.exit 0, TJ37 X, [], H37 X D, 7⟩ := by
  have hsb := X.hsb
  rcases hsb with ⟨hsb, _⟩ | hsb <;>
    (refine code_at (hs := [(40, .val (.bool (decide ((X.ls.length : Int) < X.ls.length))) (.bool false))]) (ch := []) (evk 50) special ⟨congrArg Value.bool (decide_eq_false (by omega)), trivial⟩ trivial (pre37 X D _) (H37_below X D (by omega)) (H37_below X D (by omega)) ?_
     simp only [T37, TJ37, hsb]; kernel_rfl)
def cnt : List Lk → List Int → List Int
  | [], D => D
  | l :: r, D => cnt r (inc (inc D l.a.toNat) l.b.toNat)
theorem cnt_len : ∀ (l : List Lk) (D : List Int), (cnt l D).length = D.length
  | [], _ => rfl
  | l :: r, D => by rw [cnt, cnt_len r, inc_len, inc_len]
theorem c_loop (X : Cx) (he : ∀ l ∈ X.ls, Ends X.S.length l) : ∀ (k i : Nat) (D : List Int), D.length = X.S.length → i + k = X.ls.length →
    LoopOk Try.prog none (lp Try.prog 37 7) (T37 X i) [] (H37 X D) 7 ⟨.exit 0, TJ37 X, [], H37 X (cnt (X.ls.drop i) D), 7⟩
  | 0, i, D, hD, h => by
    have : i = X.ls.length := by omega
    subst this
    rw [List.drop_length]
    exact loopOk_out (c_out X D) (by show Exit.exit 0 ≠ Exit.normal; simp)
  | k + 1, i, D, hD, h => by
    have hlt : i < X.ls.length := by omega
    have hi : X.ls[i]? = some X.ls[i] := List.getElem?_eq_getElem hlt
    have h1 := c_go X hD hi (he _ (List.getElem_mem hlt))
    rw [show (i : Int) + 1 = ((i + 1 : Nat) : Int) by push_cast; rfl, wrap_nat (by have := X.hL; omega)] at h1
    rw [List.drop_eq_getElem_cons hlt]
    exact loop_step h1 (c_loop X he k (i + 1) _ (by rw [inc_len, inc_len]; exact hD) (by omega))
termination_by k => k
end Go.Proofs.Ytkngbmaomgfcjaa.topo
/- Contract: Check. -/
namespace Go.Proofs.Ytkngbmaomgfcjaa.topo
open Go Go.En
set_option linter.unusedVariables false

def T38 (X : Cx) (i : Int) : List Value := [J, pt 2, .int .i64 0, .slice (some ⟨5, 0, none⟩) X.S.length X.S.length] ++ List.replicate 55 J ++ [.slice X.sa X.S.length X.c, .int .i64 X.S.length, .int .i64 i] ++ List.replicate 24 J
def TR38 (X : Cx) (e : Int) : List Value := [J, pt 2, .int .i64 e, J] ++ List.replicate 82 J
theorem pre38 (X : Cx) (D : List Int) (i : Int) : (nodupN (H37 X D) && tmBelow 8 (T38 X i) && dsBelow 8 [] && rBelow 8 none) = true := by
  rcases X.hsa with ⟨h, _⟩ | h
  · simp only [T38, h]
    show _ = true
    kernel_rfl
  · simp only [T38, h]
    show _ = true
    kernel_rfl
def badSt (s : Bool) (d : Int) : Bool := s && (decide (d < 1) || decide (d > 2))
def Q38 (X : Cx) (D : List Int) (j : Int) : Bool → Res
  | true => ⟨.ret, TR38 X 260, [], H37 X D, 8⟩
  | false => ⟨.normal, T38 X j, [], H37 X D, 8⟩
theorem s_go (X : Cx) {D : List Int} {i : Nat} {s : Bool} (hD : D.length = X.S.length) (hi : X.S[i]? = some s) :
    CodeOk Try.prog none (lp Try.prog 37 13) (T38 X i) [] (H37 X D) 8 (Q38 X D (IntKind.i64.wrap (i + 1)) (badSt s (D.getD i 0))) := by
  have hlt := lt_of hi
  have hix : doIndexAddr Try.prog 28 (.slice (some ⟨5, 0, none⟩) X.S.length X.S.length) (.int .i64 i) = _ := ix_i hlt
  have ld := ld_i (b := 5) (ro := false) (D := D) (i := i) (by omega)
  have l0 := X.ldS hi
  unfold badSt
  have key : ∀ p1 p2, decide (D.getD i 0 < 1) = p1 → decide (D.getD i 0 > 2) = p2 → CodeOk Try.prog none (lp Try.prog 37 13) (T38 X i) [] (H37 X D) 8 (Q38 X D (IntKind.i64.wrap (i + 1)) (s && (p1 || p2))) := by
    intro p1 p2 h1 h2
    have hsa := X.hsa
    rcases hsa with ⟨hsa, _⟩ | hsa <;> cases s <;> cases p1 <;> cases p2 <;>
      (refine code_at (hs := [(62, .val (.bool (decide ((i : Int) < X.S.length))) (.bool true)), (64, .ix 22 (.slice X.sa X.S.length X.c) (.int .i64 i) _), (65, .ld 4 _ 0 X.st true _), (70, .ix 28 (.slice (some ⟨5, 0, none⟩) X.S.length X.S.length) (.int .i64 i) _), (71, .ld 3 _ 5 (ic D) false _), (72, .val (.bool (decide (D.getD i 0 < 1))) (.bool _)), (76, .ix 28 (.slice (some ⟨5, 0, none⟩) X.S.length X.S.length) (.int .i64 i) _), (77, .ld 3 _ 5 (ic D) false _), (78, .val (.bool (decide (D.getD i 0 > 2))) (.bool _))]) (ch := []) (evk 50) special
          ⟨congrArg Value.bool (decide_eq_true (by omega)), X.ixS hlt, ⟨l0, _, rfl⟩, hix, ⟨ld, _, rfl⟩, congrArg Value.bool h1, hix, ⟨ld, _, rfl⟩, congrArg Value.bool h2, trivial⟩ trivial (pre38 X D i) (H37_below X D (by omega)) (H37_below X D (by omega)) ?_
       simp only [Q38, T38, hsa, Bool.true_and, Bool.false_and, Bool.or_true, Bool.or_false]; kernel_rfl)
  exact key _ _ rfl rfl
theorem s_out (X : Cx) (D : List Int) : CodeOk Try.prog none (lp Try.prog 37 13) (T38 X X.S.length) [] (H37 X D) 8 ⟨.exit 2, TR38 X 0, [], H37 X D, 8⟩ := by
  have hsa := X.hsa
  rcases hsa with ⟨hsa, _⟩ | hsa <;>
    (refine code_at (hs := [(62, .val (.bool (decide ((X.S.length : Int) < X.S.length))) (.bool false))]) (ch := []) (evk 50) special ⟨congrArg Value.bool (decide_eq_false (by omega)), trivial⟩ trivial (pre38 X D _) (H37_below X D (by omega)) (H37_below X D (by omega)) ?_
     simp only [T38, hsa]; kernel_rfl)
def stBad (D : List Int) : List Bool → Nat → Bool
  | [], _ => false
  | s :: r, i => badSt s (D.getD i 0) || stBad D r (i + 1)
def F38 (X : Cx) (D : List Int) : Bool → Res
  | true => ⟨.ret, TR38 X 260, [], H37 X D, 8⟩
  | false => ⟨.exit 2, TR38 X 0, [], H37 X D, 8⟩
theorem s_loop (X : Cx) {D : List Int} (hD : D.length = X.S.length) : ∀ (k i : Nat), i + k = X.S.length → LoopOk Try.prog none (lp Try.prog 37 13) (T38 X i) [] (H37 X D) 8 (F38 X D (stBad D (X.S.drop i) i))
  | 0, i, h => by
    have : i = X.S.length := by omega
    subst this
    rw [List.drop_length]
    exact loopOk_out (s_out X D) (by show Exit.exit 2 ≠ Exit.normal; simp)
  | k + 1, i, h => by
    have hlt : i < X.S.length := by omega
    have hi : X.S[i]? = some X.S[i] := List.getElem?_eq_getElem hlt
    have h1 := s_go X hD hi
    rw [List.drop_eq_getElem_cons hlt]
    simp only [stBad]
    cases hb : badSt X.S[i] (D.getD i 0) with
    | true => rw [hb] at h1; exact loopOk_out h1 (by show Exit.ret ≠ Exit.normal; simp)
    | false =>
      rw [hb] at h1
      rw [show (i : Int) + 1 = ((i + 1 : Nat) : Int) by push_cast; rfl, wrap_nat (by have := X.hS; omega)] at h1
      exact loop_step h1 (s_loop X hD k (i + 1) (by omega))
termination_by k => k
theorem mk28 {n : Nat} (hn : n ≤ 1000) : Hint.Ok Try.prog (.mk 28 (.int .i64 n) (.int .i64 n) n (List.replicate n (.int .i64 0))) :=
  mk_n (z := .int .i64 0) (by_ := 8) u28 (by kernel_rfl) (by kernel_rfl) rfl (by omega) hn
theorem rep_ic (n : Nat) : List.replicate n (Value.int .i64 0) = ic (List.replicate n 0) := by simp [ic]
def cut0 : List Bool := List.replicate 24 false
/-- A contract about a topology with a new block, at other new names. -/
theorem Cx.atN {X : Cx} {f : FuncId} {rest : List Value} {v v' : Value} {k k' n' nx' : Nat} {ds : List Value} (h : Memo.Ok Try.prog ⟨f, 2, X.v :: rest, X.V, v, [(k, ds)], n'⟩) (hd : avL ds = true) (nx : Nat) (hc : (En.smallL (En.small 2 5) rest && En.small n' 5 v && inNew 2 n' [(k, ds)]) = true)
    (h1 : rest.map (renV (shift (fun b => b) 2 nx) 5) = rest) (h2 : renV (shift (fun b => b) 2 nx) 5 v = v') (h3 : shift (fun b => b) 2 nx k = k') (h4 : nx + (n' - 2) = nx') : Memo.Ok Try.prog ⟨f, nx, X.v :: rest, X.V, v', [(k', ds)], nx'⟩ := by
  simp only [Bool.and_eq_true] at hc
  have hb : below 2 X.V = true := by kernel_rfl
  have := memo_ren h (fun b => b) nx X.V (by simp only [En.smallL, X.small (Nat.le_refl 2), hc.1.1, hc.1.2, hc.2, hb, Bool.and_self]) (X.smallH 2) (by simp [En.smallH, small_avL hd]) (fun b cs hb => by
    by_cases h0 : 0 = b
    · subst h0
      simp [Cx.V, roHp, Hp.get] at hb ⊢
      subst hb
      exact (renV_avL X.avs).symm
    · by_cases h1 : 1 = b
      · subst h1
        simp [Cx.V, roHp, Hp.get] at hb ⊢
        subst hb
        exact (renV_avL X.avk).symm
      · simp [Cx.V, roHp, Hp.get, h0, h1] at hb)
  simp only [List.map_cons, X.ren, h1, h2, renH, h3, h4, renV_avL hd] at this
  exact this
theorem bc_small (C : List Bool) {k m : Nat} : En.smallL (En.small k m) (bc C) = true := by
  induction C with
  | nil => rfl
  | cons b C ih => simp only [bc, List.map_cons, En.smallL] at ih ⊢; rw [ih]; cases m <;> rfl
theorem reach_m (X : Cx) {C : List Bool} {a : Nat} (hN : X.N = X.S.length) (hC : C.length = 24) (h24 : X.ls.length ≤ 24) (he : ∀ l ∈ X.ls, Ends X.S.length l) (ha : a < X.S.length) (nx : Nat) :
    Memo.Ok Try.prog ⟨47, nx, [X.v, .int .i64 a, .agg ⟨bc C⟩], X.V, .slice (some ⟨nx + 2, 0, none⟩) X.S.length X.S.length, [(nx + 2, bc (reachS C X.ls X.S.length a))], nx + 3⟩ :=
  Cx.atN (reach_0 X hN hC h24 he ha) (bc_av _) nx (by simp [En.smallL, En.small, bc_small, inNew]) (by
    have : renV (shift (fun b => b) 2 nx) 5 (.agg ⟨bc C⟩) = .agg ⟨bc C⟩ := by
      show Value.agg ((bc C).map _).toArray = _
      rw [show (bc C).map (renV (shift (fun b => b) 2 nx) 4) = bc C by simp [bc, renV]]
    simp only [List.map_cons, List.map_nil, this]
    rfl) rfl rfl rfl
theorem sound_m (X : Cx) (hN : X.N = X.S.length) (hd : X.ls.length ≤ X.d) (hd2 : capD X.d) {p : Bool} (h : soundS X = p) (nx : Nat) : Memo.Ok Try.prog ⟨57, nx, [X.v], X.V, .bool p, [], nx⟩ :=
  Cx.at (rest := []) (h ▸ sound_0 X hN hd hd2) nx rfl rfl rfl
theorem sndGo_mem {X : Cx} : ∀ {l : List Lk} {i : Nat}, sndGo X l i = true → ∀ x ∈ l, k1 X.N x = true
  | [], _, _, x, h => by cases h
  | y :: l, i, h, x, hx => by
    simp only [sndGo, linkOk, Bool.and_eq_true] at h
    rcases List.mem_cons.1 hx with rfl | hx
    · exact h.1.1
    · exact sndGo_mem h.2 x hx
theorem ends_of {N : Int} {l : Lk} (h : k1 N l = true) : Ends N l := by
  simp only [k1, nodeS, Bool.and_eq_true, decide_eq_true_eq] at h
  exact ⟨h.1.1.1, h.1.1.2, h.1.2.1, h.1.2.2⟩
/-- The counts of a topology's links, node by node. -/
def cntS (X : Cx) : List Int := cnt X.ls (List.replicate X.S.length 0)
def allS (X : Cx) : Option Nat := findF (reachS cut0 X.ls X.S.length 0) 0
def firstS (X : Cx) : Bool := !(decide (X.N < 2) || decide (X.N > 12)) && !((X.S.length : Int) != X.N) && !decide ((X.ls.length : Int) > 24)
def lateS (X : Cx) : Bool := soundS X && !stBad (cntS X) X.S 0 && !(allS X).isSome
def checkS (X : Cx) : Bool := firstS X && lateS X
theorem check_no (X : Cx) (h : firstS X = false) : Memo.Ok Try.prog ⟨37, 2, [X.v], X.V, .int .i64 260, [], 2⟩ := by
  unfold firstS at h
  have key : ∀ p1 p2 p3 p4, decide (X.N < 2) = p1 → decide (X.N > 12) = p2 → ((X.S.length : Int) != X.N) = p3 → decide ((X.ls.length : Int) > 24) = p4 → (!(p1 || p2) && !p3 && !p4) = false → Memo.Ok Try.prog ⟨37, 2, [X.v], X.V, .int .i64 260, [], 2⟩ := by
    intro p1 p2 p3 p4 h1 h2 h3 h4 h5
    cases p1
    · cases p2
      · cases p3
        · cases p4
          · cases h5
          · exact memo_pure (hs := [(1, .frz), (10, .val (.bool (decide (X.N < 2))) (.bool _)), (14, .val (.bool (decide (X.N > 12))) (.bool _)), (22, .val (.bool ((X.S.length : Int) != X.N)) (.bool _)), (27, .val (.bool (decide ((X.ls.length : Int) > 24))) (.bool _))]) (ch := []) 5 (evk 50) special ⟨trivial, congrArg Value.bool h1, congrArg Value.bool h2, congrArg Value.bool h3, congrArg Value.bool h4, trivial⟩ trivial (X.hV rfl) (X.smallH 2) (by kernel_rfl)
        · exact memo_pure (hs := [(1, .frz), (10, .val (.bool (decide (X.N < 2))) (.bool _)), (14, .val (.bool (decide (X.N > 12))) (.bool _)), (22, .val (.bool ((X.S.length : Int) != X.N)) (.bool _))]) (ch := []) 4 (evk 50) special ⟨trivial, congrArg Value.bool h1, congrArg Value.bool h2, congrArg Value.bool h3, trivial⟩ trivial (X.hV rfl) (X.smallH 2) (by kernel_rfl)
      · exact memo_pure (hs := [(1, .frz), (10, .val (.bool (decide (X.N < 2))) (.bool _)), (14, .val (.bool (decide (X.N > 12))) (.bool _))]) (ch := []) 3 (evk 50) special ⟨trivial, congrArg Value.bool h1, congrArg Value.bool h2, trivial⟩ trivial (X.hV rfl) (X.smallH 2) (by kernel_rfl)
    · exact memo_pure (hs := [(1, .frz), (10, .val (.bool (decide (X.N < 2))) (.bool _))]) (ch := []) 3 (evk 50) special ⟨trivial, congrArg Value.bool h1, trivial⟩ trivial (X.hV rfl) (X.smallH 2) (by kernel_rfl)
  exact key _ _ _ _ rfl rfl rfl rfl h
theorem first_true {X : Cx} (h : firstS X = true) : X.N = X.S.length ∧ 2 ≤ X.S.length ∧ X.S.length ≤ 12 ∧ X.ls.length ≤ 24 := by
  simp only [firstS, Bool.and_eq_true, Bool.not_eq_true', Bool.or_eq_false_iff, decide_eq_false_iff_not, bne_eq_false_iff_eq] at h
  omega
theorem check_yes (X : Cx) (h : firstS X = true) (hd : X.ls.length ≤ X.d) (hd2 : capD X.d) : Memo.Ok Try.prog ⟨37, 2, [X.v], X.V, .int .i64 (bif lateS X then 0 else 260), [], 2⟩ := by
  obtain ⟨hN, hn2, hn12, h24⟩ := first_true h
  have q1 : decide (X.N < 2) = false := decide_eq_false (by omega)
  have q2 : decide (X.N > 12) = false := decide_eq_false (by omega)
  have q3 : ((X.S.length : Int) != X.N) = false := by rw [hN]; simp
  have q4 : decide ((X.ls.length : Int) > 24) = false := decide_eq_false (by omega)
  unfold lateS
  cases hp : soundS X with
  | false =>
    have ms := sound_m X hN hd hd2 hp 5
    exact memo_pure (hs := [(1, .frz), (10, .val (.bool (decide (X.N < 2))) (.bool _)), (14, .val (.bool (decide (X.N > 12))) (.bool _)), (22, .val (.bool ((X.S.length : Int) != X.N)) (.bool _)), (27, .val (.bool (decide ((X.ls.length : Int) > 24))) (.bool _)), (30, .call _)]) (ch := []) 5 (evk 50) special ⟨trivial, congrArg Value.bool q1, congrArg Value.bool q2, congrArg Value.bool q3, congrArg Value.bool q4, ms, trivial⟩ trivial (X.hV rfl) (X.smallH 2) (by kernel_rfl)
  | true =>
    have ms := sound_m X hN hd hd2 hp 5
    have he : ∀ l ∈ X.ls, Ends X.S.length l := fun l hl => hN ▸ ends_of (sndGo_mem hp l hl)
    have c1 := c_loop X he X.ls.length 0 (List.replicate X.S.length 0) (by simp) (by omega)
    rw [List.drop_zero] at c1
    have hcl : (cntS X).length = X.S.length := by unfold cntS; rw [cnt_len]; simp
    have c2 := s_loop X hcl X.S.length 0 (by omega)
    rw [List.drop_zero] at c2
    have mr := reach_m X (C := cut0) (a := 0) hN (by simp [cut0]) h24 he (by omega) 8
    have hrl : (reachS cut0 X.ls X.S.length 0).length = X.S.length := by unfold reachS; rw [rIter_len]; simp
    have mk := mk28 X.hS
    rw [rep_ic] at mk
    have key : ∀ p1 p2, stBad (cntS X) X.S 0 = p1 → (allS X).isSome = p2 → Memo.Ok Try.prog ⟨37, 2, [X.v], X.V, .int .i64 (bif true && !p1 && !p2 then 0 else 260), [], 2⟩ := by
      intro p1 p2 h1 h2
      rw [h1] at c2
      have mc := contains_m (c := X.S.length) (R := reachS cut0 X.ls X.S.length 0) (by rw [hrl]; exact X.hS) h2 10 11
      rw [hrl] at mc
      have hV := X.hV (rest := []) (v := .int .i64 (bif true && !p1 && !p2 then 0 else 260)) rfl
      have hSm := X.smallH 2
      clear he hcl hrl h1 h2 hp
      obtain ⟨N, sa', c, sb', d, st, lk, S, ls, a1, a2, a3, a4, a5, a6, a7, a8⟩ := X
      dsimp only at hN
      subst hN
      cases p1
      · cases p2 <;>
          exact memo_pure (hs := [(1, .frz), (10, .val (.bool (decide ((S.length : Int) < 2))) (.bool _)), (14, .val (.bool (decide ((S.length : Int) > 12))) (.bool _)), (22, .val (.bool ((S.length : Int) != S.length)) (.bool _)), (27, .val (.bool (decide ((ls.length : Int) > 24))) (.bool _)), (30, .call _), (35, .mk _ _ _ _ _), (84, .call _), (85, .call _)]) (ch := [⟨7, none, .loop (lp Try.prog 37 7), T37 _ 0, [], H37 _ _, 7, _, true⟩, ⟨13, none, .loop (lp Try.prog 37 13), T38 _ 0, [], H37 _ _, 8, _, true⟩]) 11 (evk 50) special
            ⟨trivial, congrArg Value.bool q1, congrArg Value.bool q2, congrArg Value.bool q3, congrArg Value.bool q4, ms, mk, mr, mc, trivial⟩ ⟨codeOk_loop c1, codeOk_loop c2, trivial⟩ hV hSm (by kernel_rfl)
      · exact memo_pure (hs := [(1, .frz), (10, .val (.bool (decide ((S.length : Int) < 2))) (.bool _)), (14, .val (.bool (decide ((S.length : Int) > 12))) (.bool _)), (22, .val (.bool ((S.length : Int) != S.length)) (.bool _)), (27, .val (.bool (decide ((ls.length : Int) > 24))) (.bool _)), (30, .call _), (35, .mk _ _ _ _ _)]) (ch := [⟨7, none, .loop (lp Try.prog 37 7), T37 _ 0, [], H37 _ _, 7, _, true⟩, ⟨13, none, .loop (lp Try.prog 37 13), T38 _ 0, [], H37 _ _, 8, _, true⟩]) 8 (evk 50) special
            ⟨trivial, congrArg Value.bool q1, congrArg Value.bool q2, congrArg Value.bool q3, congrArg Value.bool q4, ms, mk, trivial⟩ ⟨codeOk_loop c1, codeOk_loop c2, trivial⟩ hV hSm (by kernel_rfl)
    exact key _ _ rfl rfl
theorem check_0 (X : Cx) (hd : X.ls.length ≤ X.d) (hd2 : capD X.d) : Memo.Ok Try.prog ⟨37, 2, [X.v], X.V, .int .i64 (bif checkS X then 0 else 260), [], 2⟩ := by
  unfold checkS
  cases h : firstS X with
  | false => exact check_no X h
  | true => exact check_yes X h hd hd2
theorem check_m (X : Cx) (hd : X.ls.length ≤ X.d) (hd2 : capD X.d) {p : Bool} (h : checkS X = p) (nx : Nat) : Memo.Ok Try.prog ⟨37, nx, [X.v], X.V, .int .i64 (bif p then 0 else 260), [], nx⟩ :=
  Cx.at (rest := []) (h ▸ check_0 X hd hd2) nx rfl rfl rfl
end Go.Proofs.Ytkngbmaomgfcjaa.topo
/- Contracts: the reference's In and Reach. -/
namespace Go.Proofs.Ytkngbmaomgfcjaa.topo
open Go Go.En
set_option linter.unusedVariables false

def T48 (sc : Option Addr) (n e : Nat) (x k : Int) : List Value := [.slice sc n e, .int .i64 x, J, J, .bool false, .int .i64 k] ++ List.replicate 12 J
def TR48 (b : Bool) : List Value := [J, J, J, J, .bool b, J] ++ List.replicate 12 J
def H48 (K : List Int) : Hp := [(0, .cells (ic K) true)]
theorem H48_below (K : List Int) : hpBelow 1 (H48 K) = true := by
  have a4 : tidyB 1 (.cells (ic K) true) = true := small_avL (ic_av K)
  simp [H48, hpBelow, a4]
theorem pre48 {sc : Option Addr} {n : Nat} (h : Sl 0 n sc) (K : List Int) (e : Nat) (x k : Int) : (nodupN (H48 K) && tmBelow 1 (T48 sc n e x k) && dsBelow 1 [] && rBelow 1 none) = true := by
  rcases h with ⟨h, _⟩ | h
  · simp only [T48, h]
    show _ = true
    kernel_rfl
  · simp only [T48, h]
    show _ = true
    kernel_rfl
theorem in_go48 {K : List Int} {sc : Option Addr} {e k : Nat} {x : Int} (h : Sl 0 K.length sc) (hk : k < K.length) {b : Bool} (hb : (K.getD k 0 == x) = b) :
    CodeOk Try.prog none (lp Try.prog 48 2) (T48 sc K.length e x k) [] (H48 K) 1 (bif b then ⟨.ret, TR48 true, [], H48 K, 1⟩ else ⟨.normal, T48 sc K.length e x (IntKind.i64.wrap (k + 1)), [], H48 K, 1⟩) := by
  have l0 : doLoad Try.prog [(0, .cells (ic K) true)] 3 (.pointer (some ⟨0, 0 + k * 1, none⟩)) = some (.int .i64 (K.getD k 0)) := ld_i hk
  have hx : doIndexAddr Try.prog 28 (.slice sc K.length e) (.int .i64 k) = some (.pointer (some ⟨0, 0 + k * 1, none⟩)) := h.ix' u28 z3 hk
  have pre := pre48 h K e x k
  rcases h with ⟨h, _⟩ | h <;> cases b <;>
    (refine code_at (hs := [(9, .val (.bool (decide ((k : Int) < K.length))) (.bool true)), (14, .ix 28 (.slice sc K.length e) (.int .i64 k) _), (15, .ld 3 _ 0 (ic K) true _), (17, .val (.bool (K.getD k 0 == x)) (.bool _))]) (ch := []) (evk 50) special ⟨congrArg Value.bool (decide_eq_true (by omega)), hx, ⟨l0, _, rfl⟩, congrArg Value.bool hb, trivial⟩ trivial pre (H48_below K) (H48_below K) ?_
     simp only [T48, h, cond_true, cond_false]; kernel_rfl)
theorem in_out48 {K : List Int} {sc : Option Addr} {e : Nat} {x : Int} (h : Sl 0 K.length sc) : CodeOk Try.prog none (lp Try.prog 48 2) (T48 sc K.length e x K.length) [] (H48 K) 1 ⟨.exit 0, TR48 false, [], H48 K, 1⟩ := by
  have pre := pre48 h K e x K.length
  rcases h with ⟨h, _⟩ | h <;>
    (refine code_at (hs := [(9, .val (.bool (decide ((K.length : Int) < K.length))) (.bool false))]) (ch := []) (evk 50) special ⟨congrArg Value.bool (decide_eq_false (by omega)), trivial⟩ trivial pre (H48_below K) (H48_below K) ?_
     simp only [T48, h]; kernel_rfl)
def inS (K : List Int) (x : Int) : Bool := K.any (· == x)
def F48 (K : List Int) : Bool → Res
  | true => ⟨.ret, TR48 true, [], H48 K, 1⟩
  | false => ⟨.exit 0, TR48 false, [], H48 K, 1⟩
theorem in_loop48 {K : List Int} {sc : Option Addr} {e : Nat} {x : Int} (hK : K.length ≤ 1000) (h : Sl 0 K.length sc) : ∀ (r k : Nat), k + r = K.length → LoopOk Try.prog none (lp Try.prog 48 2) (T48 sc K.length e x k) [] (H48 K) 1 (F48 K (inS (K.drop k) x))
  | 0, k, hk => by
    have : k = K.length := by omega
    subst this
    rw [List.drop_length]
    exact loopOk_out (in_out48 h) (by show Exit.exit 0 ≠ Exit.normal; simp)
  | r + 1, k, hk => by
    have hlt : k < K.length := by omega
    have hg : K.getD k 0 = K[k] := by simp [List.getD_eq_getElem?_getD, hlt]
    rw [List.drop_eq_getElem_cons hlt]
    simp only [inS, List.any_cons]
    cases hb : (K[k] == x) with
    | true => exact loopOk_out (in_go48 (e := e) h hlt (hg ▸ hb)) (by show Exit.ret ≠ Exit.normal; simp)
    | false =>
      have h1 := in_go48 (e := e) h hlt (hg ▸ hb)
      simp only [cond_false] at h1
      rw [show (k : Int) + 1 = ((k + 1 : Nat) : Int) by push_cast; rfl, wrap_nat (by omega)] at h1
      exact loop_step h1 (in_loop48 hK h r (k + 1) (by omega))
termination_by r => r
theorem in_0 {K : List Int} {sc : Option Addr} {e : Nat} {x : Int} (hK : K.length ≤ 1000) (h : Sl 0 K.length sc) : Memo.Ok Try.prog ⟨48, 1, [.slice sc K.length e, .int .i64 x], [(0, ic K)], .bool (inS K x), [], 1⟩ := by
  have hlo := in_loop48 (e := e) (x := x) hK h K.length 0 (by omega)
  rw [List.drop_zero] at hlo
  generalize inS K x = g at hlo ⊢
  have hpre : (nodupN (roHp [(0, ic K)]) && below 1 [(0, ic K)] && smallL (small 1 5) [.slice sc K.length e, .int .i64 x] && small 1 5 (.bool g)) = true := by
    simp only [smallL, sl_small h (by omega : 0 < 1), Bool.true_and]
    rfl
  cases g <;>
    exact memo_pure (hs := []) (ch := [⟨2, none, .loop (lp Try.prog 48 2), T48 sc K.length e x 0, [], H48 K, 1, _, true⟩]) 1 (evk 50) special trivial ⟨codeOk_loop hlo, trivial⟩ hpre (by simp [En.smallH, small_avL (ic_av K)]) (by kernel_rfl)
theorem in_m {K : List Int} {sc : Option Addr} {b e : Nat} {x : Int} (hK : K.length ≤ 1000) (h : Sl b K.length sc) {p : Bool} (hp : inS K x = p) (nx : Nat) : Memo.Ok Try.prog ⟨48, nx, [.slice sc K.length e, .int .i64 x], [(b, ic K)], .bool p, [], nx⟩ := by
  subst hp
  rcases h with ⟨rfl, h⟩ | rfl
  · exact memo_blk (in_0 hK (.inl ⟨rfl, h⟩)) (ic_av K) b nx (by kernel_rfl) rfl rfl
  · exact memo_blk (in_0 hK (.inr rfl)) (ic_av K) b nx (by kernel_rfl) rfl rfl

/-! ### Reach -/
def T20 (X : Cx) (cv : Value) (r : Int) : List Value := [J, J, cv, pt 3, J, J, J, .slice (some ⟨4, 0, none⟩) X.S.length X.S.length, .int .i64 r] ++ List.replicate 53 J
def U20 (X : Cx) (cv : Value) (r i : Int) : List Value := [J, J, cv, pt 3, J, J, J, .slice (some ⟨4, 0, none⟩) X.S.length X.S.length, .int .i64 r, .int .i64 i] ++ List.replicate 52 J
def H20 (X : Cx) (K : List Int) (R : List Bool) : Hp := [(4, .cells (bc R) false), (3, .cells X.cells true), (0, .cells X.st true), (1, .cells X.lk true), (2, .cells (ic K) true)]
theorem H20_below (X : Cx) (K : List Int) (R : List Bool) : hpBelow 5 (H20 X K R) = true := by
  have a1 : tidyB 5 (.cells X.cells true) = true := X.smallL (by omega) 5
  have a2 : tidyB 5 (.cells X.st true) = true := small_avL X.avs
  have a3 : tidyB 5 (.cells X.lk true) = true := small_avL X.avk
  have a4 : tidyB 5 (.cells (bc R) false) = true := small_avL (bc_av R)
  have a5 : tidyB 5 (.cells (ic K) true) = true := small_avL (ic_av K)
  simp [H20, hpBelow, a1, a2, a3, a4, a5]
def rstepR (K : List Int) (i : Nat) (l : Lk) (R : List Bool) : List Bool := bif !inS K i && (R.getD l.a.toNat false || R.getD l.b.toNat false) then (R.set l.a.toNat true).set l.b.toNat true else R
theorem rstepR_len (K : List Int) (i : Nat) (l : Lk) (R : List Bool) : (rstepR K i l R).length = R.length := by
  unfold rstepR; cases (!inS K i && (R.getD l.a.toNat false || R.getD l.b.toNat false)) <;> simp
section
variable (X : Cx) {K : List Int} {sc : Option Addr} {e : Nat} (hK : K.length ≤ 1000) (hsc : Sl 2 K.length sc)
theorem pre20 (hsc : Sl 2 K.length sc) (R : List Bool) (r i : Int) : (nodupN (H20 X K R) && tmBelow 5 (U20 X (.slice sc K.length e) r i) && dsBelow 5 [] && rBelow 5 none) = true := by
  rcases hsc with ⟨h, _⟩ | h
  · simp only [U20, h]
    show _ = true
    kernel_rfl
  · simp only [U20, h]
    show _ = true
    kernel_rfl
theorem q_go (hK : K.length ≤ 1000) (hsc : Sl 2 K.length sc) {R : List Bool} {r : Int} {i : Nat} {l : Lk} (hR : R.length = X.S.length) (hi : X.ls[i]? = some l) (he : Ends X.S.length l) :
    CodeOk Try.prog none (lp Try.prog 20 7) (U20 X (.slice sc K.length e) r i) [] (H20 X K R) 5 ⟨.normal, U20 X (.slice sc K.length e) r (IntKind.i64.wrap (i + 1)), [], H20 X K (rstepR K i l R), 5⟩ := by
  obtain ⟨a, b, p, q⟩ := l
  obtain ⟨a1, a2, b1, b2⟩ := he
  obtain ⟨a, rfl⟩ : ∃ n : Nat, a = n := ⟨a.toNat, by dsimp only at a1; omega⟩
  obtain ⟨b, rfl⟩ : ∃ n : Nat, b = n := ⟨b.toNat, by dsimp only at b1; omega⟩
  dsimp only at a2 b2
  have ha : a < R.length := by omega
  have hb : b < R.length := by omega
  have l0 := X.ldL hi
  have hlt := lt_of hi
  have key : ∀ p1 p2 p3, inS K i = p1 → R.getD a false = p2 → R.getD b false = p3 →
      CodeOk Try.prog none (lp Try.prog 20 7) (U20 X (.slice sc K.length e) r i) [] (H20 X K R) 5 ⟨.normal, U20 X (.slice sc K.length e) r (IntKind.i64.wrap (i + 1)), [], H20 X K (bif !p1 && (p2 || p3) then (R.set a true).set b true else R), 5⟩ := by
    intro p1 p2 p3 h1 h2 h3
    have mi := in_m (e := e) hK hsc h1 7
    have hix1 : doIndexAddr Try.prog 22 (.slice (some ⟨4, 0, none⟩) X.S.length X.S.length) (.int .i64 a) = _ := ix_b (by omega)
    have hix2 : doIndexAddr Try.prog 22 (.slice (some ⟨4, 0, none⟩) X.S.length X.S.length) (.int .i64 b) = _ := ix_b (by omega)
    have la := ld_b (b := 4) (ro := false) ha
    have lb := ld_b (b := 4) (ro := false) hb
    rw [h2] at la
    rw [h3] at lb
    have sa := st_b (b := 4) (x := true) ha
    have sb := st_b (b := 4) (x := true) (R := R.set a true) (i := b) (by simp; omega)
    have pre := pre20 (e := e) X hsc R r i
    rcases hsc with ⟨hsc, _⟩ | hsc <;> cases p1 <;> cases p2 <;> cases p3 <;>
      (refine code_at (hs := [(27, .val (.bool (decide ((i : Int) < X.ls.length))) (.bool true)), (33, .ix 23 (.slice X.sb X.ls.length X.d) (.int .i64 i) _), (34, .ld 50 _ 1 X.lk true _), (37, .call _), (43, .ix 22 (.slice (some ⟨4, 0, none⟩) X.S.length X.S.length) (.int .i64 a) _), (44, .ld 4 _ 4 (bc R) false _), (49, .ix 22 (.slice (some ⟨4, 0, none⟩) X.S.length X.S.length) (.int .i64 b) _), (50, .ld 4 _ 4 (bc R) false _),
            (56, .ix 22 (.slice (some ⟨4, 0, none⟩) X.S.length X.S.length) (.int .i64 a) _), (100056, .st 4 _ (.bool true) 4 (bc R) _), (60, .ix 22 (.slice (some ⟨4, 0, none⟩) X.S.length X.S.length) (.int .i64 b) _), (100060, .st 4 _ (.bool true) 4 (bc (R.set a true)) _)]) (ch := []) (evk 50) special
          ⟨congrArg Value.bool (decide_eq_true (by omega)), X.ixL hlt, ⟨l0, _, rfl⟩, mi, hix1, ⟨la, _, rfl⟩, hix2, ⟨lb, _, rfl⟩, hix1, ⟨sa, _, rfl⟩, hix2, ⟨sb, _, rfl⟩, trivial⟩ trivial pre (H20_below X K R) (H20_below X K _) ?_
       simp only [U20, hsc]; kernel_rfl)
  exact key _ _ _ rfl rfl rfl
theorem q_out (hsc : Sl 2 K.length sc) (R : List Bool) (r : Int) : CodeOk Try.prog none (lp Try.prog 20 7) (U20 X (.slice sc K.length e) r X.ls.length) [] (H20 X K R) 5 ⟨.exit 2, T20 X (.slice sc K.length e) r, [], H20 X K R, 5⟩ := by
  have pre := pre20 (e := e) X hsc R r X.ls.length
  rcases hsc with ⟨hsc, _⟩ | hsc <;>
    (refine code_at (hs := [(27, .val (.bool (decide ((X.ls.length : Int) < X.ls.length))) (.bool false))]) (ch := []) (evk 50) special ⟨congrArg Value.bool (decide_eq_false (by omega)), trivial⟩ trivial pre (H20_below X K R) (H20_below X K R) ?_
     simp only [U20, T20, hsc]; kernel_rfl)
def rgoR (K : List Int) : List Lk → Nat → List Bool → List Bool
  | [], _, R => R
  | l :: r, i, R => rgoR K r (i + 1) (rstepR K i l R)
theorem rgoR_len (K : List Int) : ∀ (l : List Lk) (i : Nat) (R : List Bool), (rgoR K l i R).length = R.length
  | [], _, _ => rfl
  | l :: r, i, R => by rw [rgoR, rgoR_len K r, rstepR_len]
theorem q_loop (hK : K.length ≤ 1000) (hsc : Sl 2 K.length sc) {r : Int} (he : ∀ l ∈ X.ls, Ends X.S.length l) : ∀ (k i : Nat) (R : List Bool), R.length = X.S.length → i + k = X.ls.length →
    LoopOk Try.prog none (lp Try.prog 20 7) (U20 X (.slice sc K.length e) r i) [] (H20 X K R) 5 ⟨.exit 2, T20 X (.slice sc K.length e) r, [], H20 X K (rgoR K (X.ls.drop i) i R), 5⟩
  | 0, i, R, hR, h => by
    have : i = X.ls.length := by omega
    subst this
    rw [List.drop_length]
    exact loopOk_out (q_out X hsc R r) (by show Exit.exit 2 ≠ Exit.normal; simp)
  | k + 1, i, R, hR, h => by
    have hlt : i < X.ls.length := by omega
    have hi : X.ls[i]? = some X.ls[i] := List.getElem?_eq_getElem hlt
    have h1 := q_go (e := e) X hK hsc (r := r) hR hi (he _ (List.getElem_mem hlt))
    rw [show (i : Int) + 1 = ((i + 1 : Nat) : Int) by push_cast; rfl, wrap_nat (by have := X.hL; omega)] at h1
    rw [List.drop_eq_getElem_cons hlt]
    exact loop_step h1 (q_loop hK hsc he k (i + 1) _ (by rw [rstepR_len]; exact hR) (by omega))
termination_by k => k
theorem pre20o (hsc : Sl 2 K.length sc) (R : List Bool) (r : Int) : (nodupN (H20 X K R) && tmBelow 5 (T20 X (.slice sc K.length e) r) && dsBelow 5 [] && rBelow 5 none) = true := by
  rcases hsc with ⟨h, _⟩ | h
  · simp only [T20, h]
    show _ = true
    kernel_rfl
  · simp only [T20, h]
    show _ = true
    kernel_rfl
theorem w_go (hK : K.length ≤ 1000) (hsc : Sl 2 K.length sc) {R : List Bool} (hN : X.N = X.S.length) (hR : R.length = X.S.length) (he : ∀ l ∈ X.ls, Ends X.S.length l) {r : Nat} (hr : r < X.S.length) :
    CodeOk Try.prog none (lp Try.prog 20 4) (T20 X (.slice sc K.length e) r) [] (H20 X K R) 5 ⟨.normal, T20 X (.slice sc K.length e) (IntKind.i64.wrap (r + 1)), [], H20 X K (rgoR K X.ls 0 R), 5⟩ := by
  have hin := q_loop (e := e) X hK hsc (r := r) he X.ls.length 0 R hR (by omega)
  rw [List.drop_zero] at hin
  have pre := pre20o (e := e) X hsc R r
  rcases hsc with ⟨hsc, _⟩ | hsc <;>
    (refine code_at (hs := [(20, .val (.bool (decide ((r : Int) < X.N))) (.bool true))]) (ch := [⟨7, none, .loop (lp Try.prog 20 7), U20 X (.slice sc K.length e) r 0, [], H20 X K R, 5, _, true⟩]) (evk 50) special ⟨congrArg Value.bool (decide_eq_true (by omega)), trivial⟩ ⟨codeOk_loop hin, trivial⟩ pre (H20_below X K R) (H20_below X K _) ?_
     simp only [U20, T20, hsc]; kernel_rfl)
theorem w_out (hsc : Sl 2 K.length sc) (R : List Bool) (hN : X.N = X.S.length) : CodeOk Try.prog none (lp Try.prog 20 4) (T20 X (.slice sc K.length e) X.S.length) [] (H20 X K R) 5 ⟨.exit 0, T20 X (.slice sc K.length e) X.S.length, [], H20 X K R, 5⟩ := by
  have pre := pre20o (e := e) X hsc R X.S.length
  rcases hsc with ⟨hsc, _⟩ | hsc <;>
    (refine code_at (hs := [(20, .val (.bool (decide ((X.S.length : Int) < X.N))) (.bool false))]) (ch := []) (evk 50) special ⟨congrArg Value.bool (decide_eq_false (by omega)), trivial⟩ trivial pre (H20_below X K R) (H20_below X K R) ?_
     simp only [T20, hsc]; kernel_rfl)
def rIterR (K : List Int) (ls : List Lk) : Nat → List Bool → List Bool
  | 0, R => R
  | n + 1, R => rIterR K ls n (rgoR K ls 0 R)
theorem rIterR_len (K : List Int) (ls : List Lk) : ∀ (n : Nat) (R : List Bool), (rIterR K ls n R).length = R.length
  | 0, _ => rfl
  | n + 1, R => by rw [rIterR, rIterR_len K ls n, rgoR_len]
theorem w_loop (hK : K.length ≤ 1000) (hsc : Sl 2 K.length sc) (hN : X.N = X.S.length) (he : ∀ l ∈ X.ls, Ends X.S.length l) : ∀ (k r : Nat) (R : List Bool), R.length = X.S.length → r + k = X.S.length →
    LoopOk Try.prog none (lp Try.prog 20 4) (T20 X (.slice sc K.length e) r) [] (H20 X K R) 5 ⟨.exit 0, T20 X (.slice sc K.length e) X.S.length, [], H20 X K (rIterR K X.ls k R), 5⟩
  | 0, r, R, hR, h => by
    have : r = X.S.length := by omega
    subst this
    exact loopOk_out (w_out X hsc R hN) (by show Exit.exit 0 ≠ Exit.normal; simp)
  | k + 1, r, R, hR, h => by
    have h1 := w_go (e := e) X hK hsc hN hR he (r := r) (by omega)
    rw [show (r : Int) + 1 = ((r + 1 : Nat) : Int) by push_cast; rfl, wrap_nat (by have := X.hS; omega)] at h1
    exact loop_step h1 (w_loop hK hsc hN he k (r + 1) _ (by rw [rgoR_len]; exact hR) (by omega))
termination_by k => k
def reachR (K : List Int) (ls : List Lk) (n : Nat) (a : Nat) : List Bool := rIterR K ls n ((List.replicate n false).set a true)
def V20 (K : List Int) : List (Nat × List Value) := [(0, X.st), (1, X.lk), (2, ic K)]
theorem reachR_0 (hK : K.length ≤ 1000) (hsc : Sl 2 K.length sc) {a : Nat} (hN : X.N = X.S.length) (he : ∀ l ∈ X.ls, Ends X.S.length l) (ha : a < X.S.length) :
    Memo.Ok Try.prog ⟨20, 3, [X.v, .int .i64 a, .slice sc K.length e], V20 X K, .slice (some ⟨4, 0, none⟩) X.S.length X.S.length, [(4, bc (reachR K X.ls X.S.length a))], 5⟩ := by
  have hlo := w_loop (e := e) X hK hsc hN he X.S.length 0 ((List.replicate X.S.length false).set a true) (by simp) (by omega)
  have mk := mk22 X.hS
  rw [rep_bc] at mk
  have hix : doIndexAddr Try.prog 22 (.slice (some ⟨4, 0, none⟩) X.S.length X.S.length) (.int .i64 a) = _ := ix_b ha
  have sa := st_b (b := 4) (x := true) (R := List.replicate X.S.length false) (i := a) (by simp; omega)
  obtain ⟨N, sa', c, sb', d, st, lk, S, ls, a1, a2, a3, a4, a5, a6, a7, a8⟩ := X
  dsimp only at hN
  subst hN
  exact memo_new (hs := [(3, .frz), (13, .mk 22 _ _ _ _), (16, .ix 22 (.slice (some ⟨4, 0, none⟩) S.length S.length) (.int .i64 a) _), (100016, .st 4 _ (.bool true) 4 _ _)]) (ch := [⟨4, none, .loop (lp Try.prog 20 4), T20 _ (.slice sc K.length e) 0, [], H20 _ K _, 5, _, true⟩]) (evk 50) special ⟨trivial, mk, hix, ⟨sa, _, rfl⟩, trivial⟩ ⟨codeOk_loop hlo, trivial⟩ (by kernel_rfl)
end
end Go.Proofs.Ytkngbmaomgfcjaa.topo
/- Contract: the reference's Right. -/
namespace Go.Proofs.Ytkngbmaomgfcjaa.topo
open Go Go.En
set_option linter.unusedVariables false

def ρ0 : Nat → Nat
  | 2 => 0
  | b => b
/-- The reference's Reach without a cut. -/
theorem reachRn (X : Cx) {a : Nat} (hN : X.N = X.S.length) (he : ∀ l ∈ X.ls, Ends X.S.length l) (ha : a < X.S.length) (nx : Nat) :
    Memo.Ok Try.prog ⟨20, nx, [X.v, .int .i64 a, .slice none 0 0], X.V, .slice (some ⟨nx + 1, 0, none⟩) X.S.length X.S.length, [(nx + 1, bc (reachR [] X.ls X.S.length a))], nx + 2⟩ := by
  have h := reachR_0 (K := []) (e := 0) X (by simp) (.inl ⟨rfl, rfl⟩) hN he ha
  have hv : renV (shift ρ0 3 nx) 5 X.v = X.v := by
    show Value.agg ([_, _, _] : List Value).toArray = _
    have h0 : shift ρ0 3 nx 0 = 0 := rfl
    have h1 : shift ρ0 3 nx 1 = 1 := rfl
    rw [sl_ren X.hsa h0, sl_ren X.hsb h1]
    rfl
  have hb : below 3 (V20 X []) = true := by kernel_rfl
  have := memo_renW h ρ0 nx X.V (by simp only [En.smallL, X.small (by omega : 2 ≤ 3), hb, inNew, Bool.true_and]; rfl) (by simp [En.smallH, V20, small_avL X.avs, small_avL X.avk, ic, En.smallL]) (by simp [En.smallH, small_avL (bc_av _)]) (fun b cs hb => by
    by_cases h0 : 0 = b
    · subst h0
      simp [V20, roHp, Hp.get] at hb
      subst hb
      exact ⟨X.st, by simp [Cx.V, roHp, Hp.get, ρ0], fun j u hu => by
        have := renV_avL (ρ := shift ρ0 3 nx) (n := 5) X.avs
        have h2 : (X.st.map (renV (shift ρ0 3 nx) 5))[j]? = some (renV (shift ρ0 3 nx) 5 u) := by simp [hu]
        rwa [this] at h2⟩
    · by_cases h1 : 1 = b
      · subst h1
        simp [V20, roHp, Hp.get] at hb
        subst hb
        exact ⟨X.lk, by simp [Cx.V, roHp, Hp.get, ρ0], fun j u hu => by
          have := renV_avL (ρ := shift ρ0 3 nx) (n := 5) X.avk
          have h2 : (X.lk.map (renV (shift ρ0 3 nx) 5))[j]? = some (renV (shift ρ0 3 nx) 5 u) := by simp [hu]
          rwa [this] at h2⟩
      · by_cases h2 : 2 = b
        · subst h2
          simp [V20, roHp, Hp.get, ic] at hb
          subst hb
          exact ⟨X.st, by simp [Cx.V, roHp, Hp.get, ρ0], fun j u hu => by simp at hu⟩
        · simp [V20, roHp, Hp.get, h0, h1, h2] at hb)
  simp only [List.map_cons, List.map_nil, hv, renH, renV_avL (bc_av _)] at this
  exact this

theorem joins_dup (l o : Lk) : joinsS o l.a l.b = dup l o := by
  unfold joinsS dup
  rw [Bool.eq_iff_iff]
  simp only [Bool.or_eq_true, Bool.and_eq_true, beq_iff_eq]
  omega
def T14 (X : Cx) (i : Int) : List Value := [J, pt 2, .bool false, .slice (some ⟨5, 0, none⟩) X.S.length X.S.length, .int .i64 i] ++ List.replicate 114 J
def U14 (X : Cx) (i k : Int) : List Value := [J, pt 2, .bool false, .slice (some ⟨5, 0, none⟩) X.S.length X.S.length, .int .i64 i, pt 7, .int .i64 k] ++ List.replicate 112 J
def UO14 (X : Cx) (i : Int) : List Value := [J, pt 2, .bool false, .slice (some ⟨5, 0, none⟩) X.S.length X.S.length, .int .i64 i, pt 7, J] ++ List.replicate 112 J
def TR14 : List Value := [J, J, .bool false, J, J, J, J] ++ List.replicate 112 J
def H14 (X : Cx) (D : List Int) : Hp := [(5, .cells (ic D) false), (2, .cells X.cells true), (0, .cells X.st true), (1, .cells X.lk true)]
def G14 (X : Cx) (D : List Int) (l : Lk) : Hp := (7, .cells l.cells false) :: H14 X D
theorem G14_below (X : Cx) (D : List Int) (l : Lk) : hpBelow 8 (G14 X D l) = true := by
  have h2 : hpBelow 8 (H14 X D) = true := H37_below X D (by omega)
  show ((decide (7 < 8) && tidyB 8 (.cells l.cells false)) && hpBelow 8 (H14 X D)) = true
  rw [h2]; rfl
theorem j_go (X : Cx) {D : List Int} {i k : Nat} {l o : Lk} (hk : k < i) (ho : X.ls[k]? = some o) {b : Bool} (hb : dup l o = b) :
    CodeOk Try.prog none (lp Try.prog 14 11) (U14 X i k) [] (G14 X D l) 8 (bif b then ⟨.ret, TR14, [], G14 X D l, 8⟩ else ⟨.normal, U14 X i (IntKind.i64.wrap (k + 1)), [], G14 X D l, 8⟩) := by
  have mj := joins_m o l.a l.b ((joins_dup l o).trans hb) 8
  have l0 := X.ldL ho
  have hlt := lt_of ho
  obtain ⟨a, b', p, q⟩ := l
  obtain ⟨x, y, p', q'⟩ := o
  cases b <;>
    exact code_at (hs := [(52, .val (.bool (decide ((k : Int) < i))) (.bool true)), (58, .ix 23 (.slice X.sb X.ls.length X.d) (.int .i64 k) _), (59, .ld 50 _ 1 X.lk true _), (64, .call _)]) (ch := []) (evk 50) special
      ⟨congrArg Value.bool (decide_eq_true (by omega)), X.ixL hlt, ⟨l0, _, rfl⟩, mj, trivial⟩ trivial (by kernel_rfl) (G14_below X D _) (G14_below X D _) (by kernel_rfl)
theorem j_out (X : Cx) (D : List Int) (i : Nat) (l : Lk) : CodeOk Try.prog none (lp Try.prog 14 11) (U14 X i i) [] (G14 X D l) 8 ⟨.exit 2, UO14 X i, [], G14 X D l, 8⟩ := by
  obtain ⟨a, b', p, q⟩ := l
  exact code_at (hs := [(52, .val (.bool (decide ((i : Int) < i))) (.bool false))]) (ch := []) (evk 50) special ⟨congrArg Value.bool (decide_eq_false (by omega)), trivial⟩ trivial (by kernel_rfl) (G14_below X D _) (G14_below X D _) (by kernel_rfl)
def J14 (X : Cx) (D : List Int) (i : Nat) (l : Lk) : Bool → Res
  | true => ⟨.ret, TR14, [], G14 X D l, 8⟩
  | false => ⟨.exit 2, UO14 X i, [], G14 X D l, 8⟩
theorem j_loop (X : Cx) {D : List Int} {i : Nat} {l : Lk} (hi : i ≤ X.ls.length) : ∀ (r k : Nat), k + r = i → LoopOk Try.prog none (lp Try.prog 14 11) (U14 X i k) [] (G14 X D l) 8 (J14 X D i l (((X.ls.take i).drop k).any (dup l)))
  | 0, k, h => by
    have : k = i := by omega
    subst this
    rw [List.drop_eq_nil_of_le (by simp; omega)]
    exact loopOk_out (j_out X D k l) (by show Exit.exit 2 ≠ Exit.normal; simp)
  | r + 1, k, h => by
    have hk : k < (X.ls.take i).length := by simp; omega
    have ho : X.ls[k]? = some X.ls[k] := List.getElem?_eq_getElem (by omega)
    have hget : (X.ls.take i)[k] = X.ls[k] := by simp
    rw [List.drop_eq_getElem_cons hk, List.any_cons, hget]
    cases hb : dup l X.ls[k] with
    | true => exact loopOk_out (j_go X (by omega) ho hb) (by show Exit.ret ≠ Exit.normal; simp)
    | false =>
      have h1 := j_go X (D := D) (i := i) (by omega) ho hb
      simp only [cond_false] at h1
      rw [show (k : Int) + 1 = ((k + 1 : Nat) : Int) by push_cast; rfl, wrap_nat (by have := X.hL; omega)] at h1
      exact loop_step h1 (j_loop X hi r (k + 1) (by omega))
termination_by r => r
theorem linkR_bad (X : Cx) {l : Lk} (h : k1 X.N l = false) (nx : Nat) : Memo.Ok Try.prog ⟨45, nx, [X.v, l.v], X.V, .bool false, [], nx⟩ := Cx.at (link_bad X h) nx rfl rfl rfl
theorem linkR_m (X : Cx) {a b : Nat} {l : Lk} {x y : Bool} (h : k1 X.N l = true) (ha : l.a = a) (hb : l.b = b) (hx : X.S[a]? = some x) (hy : X.S[b]? = some y) {p : Bool} (hp : (k2 x y && k4 l) = p) (nx : Nat) : Memo.Ok Try.prog ⟨45, nx, [X.v, l.v], X.V, .bool p, [], nx⟩ := by
  subst hp
  exact Cx.at (link_0 X h ha hb hx hy) nx (by kernel_rfl) rfl rfl
def Q14 (X : Cx) (D D' : List Int) (j : Int) : Bool → Res
  | true => ⟨.normal, T14 X j, [], H14 X D', 6⟩
  | false => ⟨.ret, TR14, [], H14 X D, 6⟩
theorem H14_below (X : Cx) (D : List Int) : hpBelow 6 (H14 X D) = true := H37_below X D (by omega)
/-- One link, in the reference's loop. -/
theorem g_go (X : Cx) (hN : X.N = X.S.length) {D : List Int} {i : Nat} {l : Lk} (hD : D.length = X.S.length) (hi : X.ls[i]? = some l) :
    CodeOk Try.prog none (lp Try.prog 14 5) (T14 X i) [] (H14 X D) 6 (Q14 X D (inc (inc D l.a.toNat) l.b.toNat) (IntKind.i64.wrap (i + 1)) (linkOk X i l)) := by
  have l0 := X.ldL hi
  have hlt := lt_of hi
  unfold linkOk
  cases hk : k1 X.N l with
  | false =>
    have ml := linkR_bad X hk 8
    obtain ⟨a, b, p, q⟩ := l
    exact code_at (hs := [(38, .val (.bool (decide ((i : Int) < X.ls.length))) (.bool true)), (44, .ix 23 (.slice X.sb X.ls.length X.d) (.int .i64 i) _), (45, .ld 50 _ 1 X.lk true _), (48, .call _)]) (ch := []) (evk 50) special
      ⟨congrArg Value.bool (decide_eq_true (by omega)), X.ixL hlt, ⟨l0, _, rfl⟩, ml, trivial⟩ trivial (by kernel_rfl) (H14_below X D) (H14_below X D) (by kernel_rfl)
  | true =>
    have hk2 := hk
    simp only [k1, Bool.and_eq_true] at hk2
    obtain ⟨a, ha, hx⟩ := node_at hN hk2.1.1
    obtain ⟨b, hb, hy⟩ := node_at hN hk2.1.2
    have key : ∀ p1 p2, (k2 (X.S.getD l.a.toNat false) (X.S.getD l.b.toNat false) && k4 l) = p1 → (X.ls.take i).any (dup l) = p2 →
        CodeOk Try.prog none (lp Try.prog 14 5) (T14 X i) [] (H14 X D) 6 (Q14 X D (inc (inc D l.a.toNat) l.b.toNat) (IntKind.i64.wrap (i + 1)) (p1 && !p2)) := by
      intro p1 p2 h1 h2
      have ml := linkR_m X hk ha hb hx hy h1 8
      have hj := j_loop X (D := D) (l := l) (Nat.le_of_lt hlt) i 0 (by omega)
      rw [List.drop_zero, h2] at hj
      have hax : a < X.S.length := lt_of hx
      have hbx : b < X.S.length := lt_of hy
      obtain ⟨a', b', p, q⟩ := l
      dsimp only at ha hb
      subst ha
      subst hb
      have hix1 : doIndexAddr Try.prog 28 (.slice (some ⟨5, 0, none⟩) X.S.length X.S.length) (.int .i64 a) = _ := ix_i hax
      have hix2 : doIndexAddr Try.prog 28 (.slice (some ⟨5, 0, none⟩) X.S.length X.S.length) (.int .i64 b) = _ := ix_i hbx
      have la := ld_i (b := 5) (ro := true) (D := D) (i := a) (by omega)
      have sa := st_i (b := 5) (D := D) (i := a) (x := IntKind.i64.wrap (D.getD a 0 + 1)) (by omega)
      have lb := ld_i (b := 5) (ro := true) (D := inc D a) (i := b) (by rw [inc_len]; omega)
      have sb := st_i (b := 5) (D := inc D a) (i := b) (x := IntKind.i64.wrap ((inc D a).getD b 0 + 1)) (by rw [inc_len]; omega)
      cases p1
      · cases p2 <;> exact code_at (hs := [(38, .val (.bool (decide ((i : Int) < X.ls.length))) (.bool true)), (44, .ix 23 (.slice X.sb X.ls.length X.d) (.int .i64 i) _), (45, .ld 50 _ 1 X.lk true _), (48, .call _)]) (ch := []) (evk 50) special
          ⟨congrArg Value.bool (decide_eq_true (by omega)), X.ixL hlt, ⟨l0, _, rfl⟩, ml, trivial⟩ trivial (by kernel_rfl) (H14_below X D) (H14_below X D) (by kernel_rfl)
      · cases p2 <;> exact code_at (hs := [(38, .val (.bool (decide ((i : Int) < X.ls.length))) (.bool true)), (44, .ix 23 (.slice X.sb X.ls.length X.d) (.int .i64 i) _), (45, .ld 50 _ 1 X.lk true _), (48, .call _),
            (71, .ix 28 (.slice (some ⟨5, 0, none⟩) X.S.length X.S.length) (.int .i64 a) _), (72, .ld 3 _ 5 (ic D) true _), (74, .ix 28 (.slice (some ⟨5, 0, none⟩) X.S.length X.S.length) (.int .i64 a) _), (100074, .st 3 _ (.int .i64 (IntKind.i64.wrap (D.getD a 0 + 1))) 5 (ic D) _),
            (81, .ix 28 (.slice (some ⟨5, 0, none⟩) X.S.length X.S.length) (.int .i64 b) _), (82, .ld 3 _ 5 (ic (inc D a)) true _), (84, .ix 28 (.slice (some ⟨5, 0, none⟩) X.S.length X.S.length) (.int .i64 b) _), (100084, .st 3 _ (.int .i64 (IntKind.i64.wrap ((inc D a).getD b 0 + 1))) 5 (ic (inc D a)) _)]) (ch := [⟨11, none, .loop (lp Try.prog 14 11), U14 X i 0, [], G14 X D ⟨a, b, p, q⟩, 8, _, true⟩]) (evk 50) special
          ⟨congrArg Value.bool (decide_eq_true (by omega)), X.ixL hlt, ⟨l0, _, rfl⟩, ml, hix1, ⟨la, _, rfl⟩, hix1, ⟨sa, _, rfl⟩, hix2, ⟨lb, _, rfl⟩, hix2, ⟨sb, _, rfl⟩, trivial⟩ ⟨codeOk_loop hj, trivial⟩ (by kernel_rfl) (H14_below X D) (H14_below X _) (by kernel_rfl)
    have e : (true && (k2 (X.S.getD l.a.toNat false) (X.S.getD l.b.toNat false) && (k3 X.ls i l && k4 l))) = ((k2 (X.S.getD l.a.toNat false) (X.S.getD l.b.toNat false) && k4 l) && !((X.ls.take i).any (dup l))) := by
      unfold k3
      cases k2 (X.S.getD l.a.toNat false) (X.S.getD l.b.toNat false) <;> cases k4 l <;> cases (X.ls.take i).any (dup l) <;> rfl
    rw [e]
    exact key _ _ rfl rfl
end Go.Proofs.Ytkngbmaomgfcjaa.topo
/- Contract: the reference's Right; it is Check. -/
namespace Go.Proofs.Ytkngbmaomgfcjaa.topo
open Go Go.En
set_option linter.unusedVariables false

theorem g_out (X : Cx) (D : List Int) : CodeOk Try.prog none (lp Try.prog 14 5) (T14 X X.ls.length) [] (H14 X D) 6 ⟨.exit 0, T14 X X.ls.length, [], H14 X D, 6⟩ :=
  code_at (hs := [(38, .val (.bool (decide ((X.ls.length : Int) < X.ls.length))) (.bool false))]) (ch := []) (evk 50) special ⟨congrArg Value.bool (decide_eq_false (by omega)), trivial⟩ trivial (by kernel_rfl) (H14_below X D) (H14_below X D) (by kernel_rfl)
def gR (X : Cx) : List Lk → Nat → List Int → Bool × List Int
  | [], _, D => (true, D)
  | l :: r, i, D => bif linkOk X i l then gR X r (i + 1) (inc (inc D l.a.toNat) l.b.toNat) else (false, D)
def F14 (X : Cx) : Bool × List Int → Res
  | (true, D) => ⟨.exit 0, T14 X X.ls.length, [], H14 X D, 6⟩
  | (false, D) => ⟨.ret, TR14, [], H14 X D, 6⟩
theorem g_loop (X : Cx) (hN : X.N = X.S.length) : ∀ (k i : Nat) (D : List Int), D.length = X.S.length → i + k = X.ls.length → LoopOk Try.prog none (lp Try.prog 14 5) (T14 X i) [] (H14 X D) 6 (F14 X (gR X (X.ls.drop i) i D))
  | 0, i, D, hD, h => by
    have : i = X.ls.length := by omega
    subst this
    rw [List.drop_length]
    exact loopOk_out (g_out X D) (by show Exit.exit 0 ≠ Exit.normal; simp)
  | k + 1, i, D, hD, h => by
    have hlt : i < X.ls.length := by omega
    have hi : X.ls[i]? = some X.ls[i] := List.getElem?_eq_getElem hlt
    have h1 := g_go X hN hD hi
    rw [List.drop_eq_getElem_cons hlt]
    simp only [gR]
    cases hb : linkOk X i X.ls[i] with
    | false => rw [hb] at h1; exact loopOk_out h1 (by show Exit.ret ≠ Exit.normal; simp)
    | true =>
      rw [hb] at h1
      rw [show (i : Int) + 1 = ((i + 1 : Nat) : Int) by push_cast; rfl, wrap_nat (by have := X.hL; omega)] at h1
      exact loop_step h1 (g_loop X hN k (i + 1) _ (by rw [inc_len, inc_len]; exact hD) (by omega))
termination_by k => k
theorem gR_eq (X : Cx) : ∀ (l : List Lk) (i : Nat) (D : List Int), (gR X l i D).1 = sndGo X l i ∧ ((gR X l i D).1 = true → (gR X l i D).2 = cnt l D)
  | [], _, _ => ⟨rfl, fun _ => rfl⟩
  | l :: r, i, D => by
    have ih := gR_eq X r (i + 1) (inc (inc D l.a.toNat) l.b.toNat)
    simp only [gR, sndGo, cnt]
    cases linkOk X i l with
    | false => exact ⟨rfl, fun h => by cases h⟩
    | true => simpa using ih

def T15 (X : Cx) (i : Int) : List Value := [J, pt 2, .bool false, .slice (some ⟨5, 0, none⟩) X.S.length X.S.length, J, J, J, .slice (some ⟨7, 0, none⟩) X.S.length X.S.length, .int .i64 i] ++ List.replicate 110 J
def TR15 : List Value := [J, J, .bool false, J, J, J, J, J, J] ++ List.replicate 110 J
def H15 (X : Cx) (A : List Bool) (D : List Int) : Hp := (7, .cells (bc A) false) :: H14 X D
theorem H15_below (X : Cx) (A : List Bool) (D : List Int) : hpBelow 8 (H15 X A D) = true := by
  have h2 : hpBelow 8 (H14 X D) = true := H37_below X D (by omega)
  have a4 : tidyB 8 (.cells (bc A) false) = true := small_avL (bc_av A)
  show ((decide (7 < 8) && tidyB 8 (.cells (bc A) false)) && hpBelow 8 (H14 X D)) = true
  rw [h2, a4]; rfl
def badF (r s : Bool) (d : Int) : Bool := !r || badSt s d
def Q15 (X : Cx) (A : List Bool) (D : List Int) (j : Int) : Bool → Res
  | true => ⟨.ret, TR15, [], H15 X A D, 8⟩
  | false => ⟨.normal, T15 X j, [], H15 X A D, 8⟩
theorem f_go (X : Cx) {A : List Bool} {D : List Int} {i : Nat} {s : Bool} (hN : X.N = X.S.length) (hA : A.length = X.S.length) (hD : D.length = X.S.length) (hi : X.S[i]? = some s) :
    CodeOk Try.prog none (lp Try.prog 14 19) (T15 X i) [] (H15 X A D) 8 (Q15 X A D (IntKind.i64.wrap (i + 1)) (badF (A.getD i false) s (D.getD i 0))) := by
  have hlt := lt_of hi
  have hix : doIndexAddr Try.prog 28 (.slice (some ⟨5, 0, none⟩) X.S.length X.S.length) (.int .i64 i) = _ := ix_i hlt
  have hix7 : doIndexAddr Try.prog 22 (.slice (some ⟨7, 0, none⟩) X.S.length X.S.length) (.int .i64 i) = _ := ix_b hlt
  have ld := ld_i (b := 5) (ro := false) (D := D) (i := i) (by omega)
  have la := ld_b (b := 7) (ro := false) (R := A) (i := i) (by omega)
  have l0 := X.ldS hi
  unfold badF badSt
  have key : ∀ p0 p1 p2, A.getD i false = p0 → decide (D.getD i 0 < 1) = p1 → decide (D.getD i 0 > 2) = p2 → CodeOk Try.prog none (lp Try.prog 14 19) (T15 X i) [] (H15 X A D) 8 (Q15 X A D (IntKind.i64.wrap (i + 1)) (!p0 || (s && (p1 || p2)))) := by
    intro p0 p1 p2 h0 h1 h2
    rw [h0] at la
    cases p0 <;> cases s <;> cases p1 <;> cases p2 <;>
      exact code_at (hs := [(90, .val (.bool (decide ((i : Int) < X.N))) (.bool true)), (95, .ix 22 (.slice (some ⟨7, 0, none⟩) X.S.length X.S.length) (.int .i64 i) _), (96, .ld 4 _ 7 (bc A) false _), (102, .ix 22 (.slice X.sa X.S.length X.c) (.int .i64 i) _), (103, .ld 4 _ 0 X.st true _), (107, .ix 28 (.slice (some ⟨5, 0, none⟩) X.S.length X.S.length) (.int .i64 i) _), (108, .ld 3 _ 5 (ic D) false _), (109, .val (.bool (decide (D.getD i 0 < 1))) (.bool _)), (113, .ix 28 (.slice (some ⟨5, 0, none⟩) X.S.length X.S.length) (.int .i64 i) _), (114, .ld 3 _ 5 (ic D) false _), (115, .val (.bool (decide (D.getD i 0 > 2))) (.bool _))]) (ch := []) (evk 50) special
          ⟨congrArg Value.bool (decide_eq_true (by omega)), hix7, ⟨la, _, rfl⟩, X.ixS hlt, ⟨l0, _, rfl⟩, hix, ⟨ld, _, rfl⟩, congrArg Value.bool h1, hix, ⟨ld, _, rfl⟩, congrArg Value.bool h2, trivial⟩ trivial (by kernel_rfl) (H15_below X A D) (H15_below X A D) (by kernel_rfl)
  exact key _ _ _ rfl rfl rfl
theorem f_out (X : Cx) (A : List Bool) (D : List Int) (hN : X.N = X.S.length) : CodeOk Try.prog none (lp Try.prog 14 19) (T15 X X.S.length) [] (H15 X A D) 8 ⟨.exit 4, TR15, [], H15 X A D, 8⟩ :=
  code_at (hs := [(90, .val (.bool (decide ((X.S.length : Int) < X.N))) (.bool false))]) (ch := []) (evk 50) special ⟨congrArg Value.bool (decide_eq_false (by omega)), trivial⟩ trivial (by kernel_rfl) (H15_below X A D) (H15_below X A D) (by kernel_rfl)
def finBad (A : List Bool) (D : List Int) : List Bool → Nat → Bool
  | [], _ => false
  | s :: r, i => badF (A.getD i false) s (D.getD i 0) || finBad A D r (i + 1)
def F15 (X : Cx) (A : List Bool) (D : List Int) : Bool → Res
  | true => ⟨.ret, TR15, [], H15 X A D, 8⟩
  | false => ⟨.exit 4, TR15, [], H15 X A D, 8⟩
theorem f_loop (X : Cx) {A : List Bool} {D : List Int} (hN : X.N = X.S.length) (hA : A.length = X.S.length) (hD : D.length = X.S.length) : ∀ (k i : Nat), i + k = X.S.length → LoopOk Try.prog none (lp Try.prog 14 19) (T15 X i) [] (H15 X A D) 8 (F15 X A D (finBad A D (X.S.drop i) i))
  | 0, i, h => by
    have : i = X.S.length := by omega
    subst this
    rw [List.drop_length]
    exact loopOk_out (f_out X A D hN) (by show Exit.exit 4 ≠ Exit.normal; simp)
  | k + 1, i, h => by
    have hlt : i < X.S.length := by omega
    have hi : X.S[i]? = some X.S[i] := List.getElem?_eq_getElem hlt
    have h1 := f_go X hN hA hD hi
    rw [List.drop_eq_getElem_cons hlt]
    simp only [finBad]
    cases hb : badF (A.getD i false) X.S[i] (D.getD i 0) with
    | true => rw [hb] at h1; exact loopOk_out h1 (by show Exit.ret ≠ Exit.normal; simp)
    | false =>
      rw [hb] at h1
      rw [show (i : Int) + 1 = ((i + 1 : Nat) : Int) by push_cast; rfl, wrap_nat (by have := X.hS; omega)] at h1
      exact loop_step h1 (f_loop X hN hA hD k (i + 1) (by omega))
termination_by k => k
theorem right_no (X : Cx) (h : firstS X = false) : Memo.Ok Try.prog ⟨14, 2, [X.v], X.V, .bool false, [], 2⟩ := by
  unfold firstS at h
  have key : ∀ p1 p2 p3 p4, decide (X.N < 2) = p1 → decide (X.N > 12) = p2 → ((X.S.length : Int) != X.N) = p3 → decide ((X.ls.length : Int) > 24) = p4 → (!(p1 || p2) && !p3 && !p4) = false → Memo.Ok Try.prog ⟨14, 2, [X.v], X.V, .bool false, [], 2⟩ := by
    intro p1 p2 p3 p4 h1 h2 h3 h4 h5
    cases p1
    · cases p2
      · cases p3
        · cases p4
          · cases h5
          · exact memo_pure (hs := [(1, .frz), (11, .val (.bool (decide (X.N < 2))) (.bool _)), (15, .val (.bool (decide (X.N > 12))) (.bool _)), (23, .val (.bool ((X.S.length : Int) != X.N)) (.bool _)), (29, .val (.bool (decide ((X.ls.length : Int) > 24))) (.bool _))]) (ch := []) 5 (evk 50) special ⟨trivial, congrArg Value.bool h1, congrArg Value.bool h2, congrArg Value.bool h3, congrArg Value.bool h4, trivial⟩ trivial (X.hV rfl) (X.smallH 2) (by kernel_rfl)
        · exact memo_pure (hs := [(1, .frz), (11, .val (.bool (decide (X.N < 2))) (.bool _)), (15, .val (.bool (decide (X.N > 12))) (.bool _)), (23, .val (.bool ((X.S.length : Int) != X.N)) (.bool _))]) (ch := []) 4 (evk 50) special ⟨trivial, congrArg Value.bool h1, congrArg Value.bool h2, congrArg Value.bool h3, trivial⟩ trivial (X.hV rfl) (X.smallH 2) (by kernel_rfl)
      · exact memo_pure (hs := [(1, .frz), (11, .val (.bool (decide (X.N < 2))) (.bool _)), (15, .val (.bool (decide (X.N > 12))) (.bool _))]) (ch := []) 3 (evk 50) special ⟨trivial, congrArg Value.bool h1, congrArg Value.bool h2, trivial⟩ trivial (X.hV rfl) (X.smallH 2) (by kernel_rfl)
    · exact memo_pure (hs := [(1, .frz), (11, .val (.bool (decide (X.N < 2))) (.bool _))]) (ch := []) 3 (evk 50) special ⟨trivial, congrArg Value.bool h1, trivial⟩ trivial (X.hV rfl) (X.smallH 2) (by kernel_rfl)
  exact key _ _ _ _ rfl rfl rfl rfl h
def lateR (X : Cx) : Bool := soundS X && !finBad (reachR [] X.ls X.S.length 0) (cntS X) X.S 0
theorem right_yes (X : Cx) (h : firstS X = true) : Memo.Ok Try.prog ⟨14, 2, [X.v], X.V, .bool (lateR X), [], 2⟩ := by
  obtain ⟨hN, hn2, hn12, h24⟩ := first_true h
  have q1 : decide (X.N < 2) = false := decide_eq_false (by omega)
  have q2 : decide (X.N > 12) = false := decide_eq_false (by omega)
  have q3 : ((X.S.length : Int) != X.N) = false := by rw [hN]; simp
  have q4 : decide ((X.ls.length : Int) > 24) = false := decide_eq_false (by omega)
  have hg := g_loop X hN X.ls.length 0 (List.replicate X.S.length 0) (by simp) (by omega)
  rw [List.drop_zero] at hg
  have hge := gR_eq X X.ls 0 (List.replicate X.S.length 0)
  have mk := mk28 X.hS
  rw [rep_ic] at mk
  unfold lateR
  generalize hG : gR X X.ls 0 (List.replicate X.S.length 0) = g at hg hge
  obtain ⟨g1, g2⟩ := g
  cases hp : soundS X with
  | false =>
    have hg1 : g1 = false := hge.1.trans hp
    subst hg1
    have hV := X.hV (rest := []) (v := .bool (false && !finBad (reachR [] X.ls X.S.length 0) (cntS X) X.S 0)) rfl
    have hSm := X.smallH 2
    clear hge hG hp
    obtain ⟨N, sa', c, sb', d, st, lk, S, ls, a1, a2, a3, a4, a5, a6, a7, a8⟩ := X
    dsimp only at hN
    subst hN
    exact memo_pure (hs := [(1, .frz), (11, .val (.bool (decide ((S.length : Int) < 2))) (.bool _)), (15, .val (.bool (decide ((S.length : Int) > 12))) (.bool _)), (23, .val (.bool ((S.length : Int) != S.length)) (.bool _)), (29, .val (.bool (decide ((ls.length : Int) > 24))) (.bool _)), (33, .mk _ _ _ _ _)]) (ch := [⟨5, none, .loop (lp Try.prog 14 5), T14 _ 0, [], H14 _ _, 6, _, true⟩]) 6 (evk 50) special
      ⟨trivial, congrArg Value.bool q1, congrArg Value.bool q2, congrArg Value.bool q3, congrArg Value.bool q4, mk, trivial⟩ ⟨codeOk_loop hg, trivial⟩ hV hSm (by kernel_rfl)
  | true =>
    have hg1 : g1 = true := hge.1.trans hp
    subst hg1
    have hg2 : g2 = cntS X := hge.2 rfl
    subst hg2
    have he : ∀ l ∈ X.ls, Ends X.S.length l := fun l hl => hN ▸ ends_of (sndGo_mem hp l hl)
    have hcl : (cntS X).length = X.S.length := by unfold cntS; rw [cnt_len]; simp
    have hrl : (reachR [] X.ls X.S.length 0).length = X.S.length := by unfold reachR; rw [rIterR_len]; simp
    have mr := reachRn X hN he (a := 0) (by omega) 6
    have hf := f_loop X hN hrl hcl X.S.length 0 (by omega)
    rw [List.drop_zero] at hf
    have key : ∀ p, finBad (reachR [] X.ls X.S.length 0) (cntS X) X.S 0 = p → Memo.Ok Try.prog ⟨14, 2, [X.v], X.V, .bool (true && !p), [], 2⟩ := by
      intro p hpp
      rw [hpp] at hf
      have hV := X.hV (rest := []) (v := .bool (true && !p)) rfl
      have hSm := X.smallH 2
      clear hge hG hp he hcl hrl hpp
      obtain ⟨N, sa', c, sb', d, st, lk, S, ls, a1, a2, a3, a4, a5, a6, a7, a8⟩ := X
      dsimp only at hN
      subst hN
      cases p <;>
        exact memo_pure (hs := [(1, .frz), (11, .val (.bool (decide ((S.length : Int) < 2))) (.bool _)), (15, .val (.bool (decide ((S.length : Int) > 12))) (.bool _)), (23, .val (.bool ((S.length : Int) != S.length)) (.bool _)), (29, .val (.bool (decide ((ls.length : Int) > 24))) (.bool _)), (33, .mk _ _ _ _ _), (86, .call _)]) (ch := [⟨5, none, .loop (lp Try.prog 14 5), T14 _ 0, [], H14 _ _, 6, _, true⟩, ⟨19, none, .loop (lp Try.prog 14 19), T15 _ 0, [], H15 _ _ _, 8, _, true⟩]) 8 (evk 50) special
          ⟨trivial, congrArg Value.bool q1, congrArg Value.bool q2, congrArg Value.bool q3, congrArg Value.bool q4, mk, mr, trivial⟩ ⟨codeOk_loop hg, codeOk_loop hf, trivial⟩ hV hSm (by kernel_rfl)
    exact key _ rfl
/-! ### It is Check -/
theorem set_true {R : List Bool} {a : Nat} (h : R.getD a false = true) : R.set a true = R := by
  apply List.ext_getElem?
  intro j
  rw [List.getElem?_set]
  by_cases hj : a = j
  · subst hj
    rw [List.getD_eq_getElem?_getD] at h
    cases hr : R[a]? with
    | none => rw [hr] at h; cases h
    | some b =>
      rw [hr] at h
      simp at h
      subst h
      simp [(List.getElem?_eq_some_iff.1 hr).1]
  · simp [hj]
theorem step_eq {C : List Bool} {K : List Int} {i : Nat} (hCK : C.getD i false = inS K i) (l : Lk) (R : List Bool) : rstep C i l R = rstepR K i l R := by
  unfold rstep rstepR
  rw [hCK]
  cases inS K i with
  | true => rfl
  | false =>
    cases ha : R.getD l.a.toNat false with
    | false => cases hb : R.getD l.b.toNat false <;> rfl
    | true =>
      cases hb : R.getD l.b.toNat false with
      | false => rfl
      | true =>
        have h2 : (R.set l.a.toNat true).set l.b.toNat true = R := by rw [set_true ha, set_true hb]
        simp [h2]
theorem go_eq {C : List Bool} {K : List Int} : ∀ (ls : List Lk) (i : Nat) (R : List Bool), (∀ j, i ≤ j → j < i + ls.length → C.getD j false = inS K j) → rgo C ls i R = rgoR K ls i R
  | [], _, _, _ => rfl
  | l :: r, i, R, h => by
    rw [rgo, rgoR, step_eq (h i (Nat.le_refl _) (by simp)), go_eq r (i + 1) _ fun j h1 h2 => h j (by omega) (by simp; omega)]
theorem iter_eq {C : List Bool} {K : List Int} {ls : List Lk} (h : ∀ j, j < ls.length → C.getD j false = inS K j) : ∀ (n : Nat) (R : List Bool), rIter C ls n R = rIterR K ls n R
  | 0, _ => rfl
  | n + 1, R => by rw [rIter, rIterR, go_eq ls 0 R fun j _ h2 => h j (by omega), iter_eq h n]
theorem reach_eq {C : List Bool} {K : List Int} {ls : List Lk} (h : ∀ j, j < ls.length → C.getD j false = inS K j) (n a : Nat) : reachS C ls n a = reachR K ls n a := iter_eq h n _
theorem fin_eq {A : List Bool} {D : List Int} : ∀ (S : List Bool) (i : Nat), finBad A D S i = ((findF ((A.drop i).take S.length) i).isSome || stBad D S i) ∨ A.length < i + S.length
  | [], i => .inl (by simp [finBad, stBad, findF])
  | s :: r, i => by
    rcases fin_eq (A := A) (D := D) r (i + 1) with ih | ih
    · by_cases hlt : i < A.length
      · left
        rw [List.drop_eq_getElem_cons hlt, List.length_cons, List.take_succ_cons]
        simp only [finBad, stBad, findF, ih, badF]
        have hg : A.getD i false = A[i] := by simp [List.getD_eq_getElem?_getD, hlt]
        rw [hg]
        cases A[i] with
        | false => simp
        | true =>
          simp only [Bool.not_true, Bool.false_or, cond_true]
          cases badSt s (D.getD i 0) <;> cases (findF ((A.drop (i + 1)).take r.length) (i + 1)).isSome <;> rfl
      · right; simp; omega
    · right; simp at ih ⊢; omega
theorem late_eq (X : Cx) : lateR X = lateS X := by
  unfold lateR lateS allS
  have hr : reachS cut0 X.ls X.S.length 0 = reachR [] X.ls X.S.length 0 := reach_eq (fun j _ => by
    simp only [inS, List.any_nil, cut0, List.getD_eq_getElem?_getD, List.getElem?_replicate]
    split <;> rfl) _ _
  have hrl : (reachR [] X.ls X.S.length 0).length = X.S.length := by unfold reachR; rw [rIterR_len]; simp
  rw [hr]
  rcases fin_eq (A := reachR [] X.ls X.S.length 0) (D := cntS X) X.S 0 with h | h
  · rw [h, List.drop_zero]
    have ht : List.take X.S.length (reachR [] X.ls X.S.length 0) = reachR [] X.ls X.S.length 0 := by
      apply List.take_of_length_le; omega
    rw [ht]
    cases soundS X <;> cases stBad (cntS X) X.S 0 <;> cases (findF (reachR [] X.ls X.S.length 0) 0).isSome <;> rfl
  · omega
theorem right_0 (X : Cx) : Memo.Ok Try.prog ⟨14, 2, [X.v], X.V, .bool (checkS X), [], 2⟩ := by
  unfold checkS
  cases h : firstS X with
  | false => exact right_no X h
  | true =>
    rw [← late_eq]
    exact right_yes X h
theorem right_m (X : Cx) {p : Bool} (h : checkS X = p) (nx : Nat) : Memo.Ok Try.prog ⟨14, nx, [X.v], X.V, .bool p, [], nx⟩ :=
  Cx.at (rest := []) (h ▸ right_0 X) nx rfl rfl rfl
end Go.Proofs.Ytkngbmaomgfcjaa.topo
/- Contracts: few, the answers of ports. -/
namespace Go.Proofs.Ytkngbmaomgfcjaa.topo
open Go Go.En
set_option linter.unusedVariables false

def tv (N : Int) (sa : Option Addr) (n c : Nat) (sb : Option Addr) (m d : Nat) : Value := .agg ⟨tc N sa n c sb m d⟩
theorem few_0 {N : Int} {sa sb : Option Addr} {n c m d : Nat} {st lk : List Value} (ha : Sl 0 n sa) (hb : Sl 1 m sb) (hn : n ≤ c) (hc : c < openCap) (hm : m ≤ d) (hd : d < openCap) (hs1 : avL st = true) (hl1 : avL lk = true) :
    Memo.Ok Try.prog ⟨11, 2, [tv N sa n c sb m d], [(0, st), (1, lk)], tv N sa (min n 20) c sb (min m 30) d, [], 2⟩ := by
  have h1 := slc_hi (t := 22) (m := min n 20) u22 (by kernel_rfl) ha (by omega) hc
  have h2 := slc_hi (t := 23) (m := min m 30) u23 (by kernel_rfl) hb (by omega) hd
  have hsm : ∀ x y, Sl 0 x sa → Sl 1 y sb → small 2 5 (tv N sa x c sb y d) = true := by
    intro x y hx hy
    show smallL (small 2 4) [_, _, _] = true
    simp only [smallL, sl_small hx (by omega : 0 < 2), sl_small hy (by omega : 1 < 2)]
    rfl
  have hpre : (nodupN (roHp [(0, st), (1, lk)]) && below 2 [(0, st), (1, lk)] && smallL (small 2 5) [tv N sa n c sb m d] && small 2 5 (tv N sa (min n 20) c sb (min m 30) d)) = true := by
    have e1 := hsm n m ha hb
    have e2 := hsm (min n 20) (min m 30) (by rcases ha with ⟨h, h0⟩ | h; exact .inl ⟨h, by omega⟩; exact .inr h) (by rcases hb with ⟨h, h0⟩ | h; exact .inl ⟨h, by omega⟩; exact .inr h)
    simp only [smallL, e1, e2, Bool.and_true]
    rfl
  have e1 : (if (20 : Int) < n then 20 else (n : Int)) = (min n 20 : Nat) := by split <;> omega
  have e2 : (if (30 : Int) < m then 30 else (m : Int)) = (min m 30 : Nat) := by split <;> omega
  rcases ha with ⟨rfl, rfl⟩ | rfl <;> rcases hb with ⟨rfl, rfl⟩ | rfl <;>
    exact memo_pure (hs := [(8, .val _ _), (9, .slc 22 _ none _ none _), (15, .val _ _), (16, .slc 23 _ none _ none _)]) (ch := []) 8 (evk 50) special
    ⟨congrArg (Value.int .i64) e1, h1, congrArg (Value.int .i64) e2, h2, trivial⟩ trivial hpre (by simp [En.smallH, small_avL hs1, small_avL hl1]) (by kernel_rfl)
/-! ### Ports -/
def ev5 (l : Lk) (p : Int) : Value := .agg ⟨l.cells ++ [.int .i64 p]⟩
def fromS (l : Lk) (p : Int) : Int := bif p.tmod 2 == 0 then l.a else l.b
def toS (l : Lk) (p : Int) : Int := bif p.tmod 2 == 0 then l.b else l.a
def backX (p : Int) : Int := IntKind.i64.wrap ((BitVec.ofInt IntKind.i64.bits p ^^^ BitVec.ofInt IntKind.i64.bits 1).toNat : Nat)
def ansS (g : Nat) (l : Lk) (p : Int) : Int := match g with
  | 42 => fromS l p
  | 44 => toS l p
  | 54 => l.per
  | 55 => l.dl
  | _ => backX p
theorem ans_0 {g : Nat} (hg : g = 42 ∨ g = 44 ∨ g = 54 ∨ g = 55 ∨ g = 56) (l : Lk) (p : Int) : Memo.Ok Try.prog ⟨g, 0, [ev5 l p], [], .int .i64 (ansS g l p), [], 0⟩ := by
  obtain ⟨a, b, x, y⟩ := l
  have key : ∀ q, (p.tmod 2 == 0) = q → Memo.Ok Try.prog ⟨42, 0, [ev5 ⟨a, b, x, y⟩ p], [], .int .i64 (bif q then a else b), [], 0⟩ ∧ Memo.Ok Try.prog ⟨44, 0, [ev5 ⟨a, b, x, y⟩ p], [], .int .i64 (bif q then b else a), [], 0⟩ := by
    intro q hq
    constructor
    · cases q <;> exact memo_pure (hs := [(6, .val (.bool (p.tmod 2 == 0)) (.bool _))]) (ch := []) 1 (evk 50) special ⟨congrArg Value.bool hq, trivial⟩ trivial (by kernel_rfl) rfl (by kernel_rfl)
    · cases q <;> exact memo_pure (hs := [(6, .val (.bool (p.tmod 2 == 0)) (.bool _))]) (ch := []) 1 (evk 50) special ⟨congrArg Value.bool hq, trivial⟩ trivial (by kernel_rfl) rfl (by kernel_rfl)
  rcases hg with rfl | rfl | rfl | rfl | rfl
  · exact (key _ rfl).1
  · exact (key _ rfl).2
  · exact memo_pure (hs := []) (ch := []) 1 (evk 50) special trivial trivial (by kernel_rfl) rfl (by kernel_rfl)
  · exact memo_pure (hs := []) (ch := []) 1 (evk 50) special trivial trivial (by kernel_rfl) rfl (by kernel_rfl)
  · exact memo_pure (hs := []) (ch := []) 1 (evk 50) special trivial trivial (by kernel_rfl) rfl (by kernel_rfl)
def portOk (m : Nat) (p : Int) : Bool := !(decide (p < 0) || decide (p ≥ IntKind.i64.wrap (2 * m)))
theorem port_lt {m : Nat} (hm : m ≤ 1000) {p : Int} (h : portOk m p = true) : 0 ≤ p ∧ p < 2 * m ∧ IntKind.i64.wrap (p.tdiv 2) = (p.toNat / 2 : Nat) ∧ p.toNat / 2 < m := by
  have hw : IntKind.i64.wrap (2 * (m : Int)) = 2 * m := by
    have := wrap_nat (n := 2 * m) (by omega)
    push_cast at this
    exact this
  simp only [portOk, Bool.not_eq_true', Bool.or_eq_false_iff, decide_eq_false_iff_not, hw] at h
  have h0 : 0 ≤ p := by omega
  have h1 : p < 2 * m := by omega
  refine ⟨h0, h1, ?_, by omega⟩
  obtain ⟨n, rfl⟩ : ∃ n : Nat, p = n := ⟨p.toNat, by omega⟩
  have : (n : Int).tdiv 2 = ((n / 2 : Nat) : Int) := by
    rw [Int.tdiv_eq_ediv_of_nonneg (by omega)]; omega
  rw [this, wrap_nat (by omega)]
  simp
def fvv (g : Nat) : Value := .func (.func g) #[] #[]
def askV (b q : Bool) (r : Int) : Value := bif b then (bif q then .tuple #[.int .i64 r, .int .i64 0] else .tuple #[.int .i64 0, .int .i64 2]) else .tuple #[.int .i64 0, .int .i64 260]
def ansAt (X : Cx) (g : Nat) (p : Int) : Int := ansS g (X.ls.getD (p.toNat / 2) ⟨0, 0, 0, 0⟩) p
theorem ls_at {X : Cx} {i : Nat} (h : i < X.ls.length) : X.ls[i]? = some (X.ls.getD i ⟨0, 0, 0, 0⟩) := by
  rw [List.getD_eq_getElem?_getD, List.getElem?_eq_getElem h]; rfl
theorem ask_0 (X : Cx) (hd : X.ls.length ≤ X.d) (hd2 : capD X.d) {g : Nat} (hg : g = 42 ∨ g = 44 ∨ g = 54 ∨ g = 55 ∨ g = 56) (p : Int) :
    Memo.Ok Try.prog ⟨53, 2, [X.v, .int .i64 p, fvv g], X.V, askV (checkS X) (portOk X.ls.length p) (ansAt X g p), [], 2⟩ := by
  have key : ∀ b q, checkS X = b → portOk X.ls.length p = q → Memo.Ok Try.prog ⟨53, 2, [X.v, .int .i64 p, fvv g], X.V, askV b q (ansAt X g p), [], 2⟩ := by
    intro b q hb hq
    have mc := check_m X hd hd2 hb 3
    cases b with
    | false => cases q <;> exact memo_pure (hs := [(11, .call _)]) (ch := []) 3 (evk 50) special ⟨mc, trivial⟩ trivial (X.hV rfl) (X.smallH 2) (by kernel_rfl)
    | true =>
      cases q with
      | false =>
        have h2 : (decide (p < 0) || decide (p ≥ IntKind.i64.wrap (2 * X.ls.length))) = true := by
          unfold portOk at hq
          simpa only [Bool.not_eq_false'] using hq
        have key2 : ∀ p1 p2, decide (p < 0) = p1 → decide (p ≥ IntKind.i64.wrap (2 * X.ls.length)) = p2 → (p1 || p2) = true → Memo.Ok Try.prog ⟨53, 2, [X.v, .int .i64 p, fvv g], X.V, askV true false (ansAt X g p), [], 2⟩ := by
          intro p1 p2 e1 e2 e3
          cases p1
          · cases p2
            · cases e3
            · exact memo_pure (hs := [(11, .call _), (17, .val (.bool (decide (p < 0))) (.bool _)), (24, .val (.bool (decide (p ≥ IntKind.i64.wrap (2 * X.ls.length)))) (.bool _))]) (ch := []) 4 (evk 50) special ⟨mc, congrArg Value.bool e1, congrArg Value.bool e2, trivial⟩ trivial (X.hV rfl) (X.smallH 2) (by kernel_rfl)
          · exact memo_pure (hs := [(11, .call _), (17, .val (.bool (decide (p < 0))) (.bool _))]) (ch := []) 3 (evk 50) special ⟨mc, congrArg Value.bool e1, trivial⟩ trivial (X.hV rfl) (X.smallH 2) (by kernel_rfl)
        exact key2 _ _ rfl rfl h2
      | true =>
        have h2 := hq
        simp only [portOk, Bool.not_eq_true', Bool.or_eq_false_iff] at h2
        obtain ⟨e1, e2⟩ := h2
        obtain ⟨b0, b1, b2, b3⟩ := port_lt X.hL hq
        have hl := ls_at b3
        have l0 := X.ldL hl
        have mg := memo_any (ans_0 hg (X.ls.getD (p.toNat / 2) ⟨0, 0, 0, 0⟩) p) 4 (by kernel_rfl) rfl rfl
        rcases hg with rfl | rfl | rfl | rfl | rfl <;>
          exact memo_pure (hs := [(11, .call _), (17, .val (.bool (decide (p < 0))) (.bool _)), (24, .val (.bool (decide (p ≥ IntKind.i64.wrap (2 * X.ls.length)))) (.bool _)), (31, .val (.int .i64 (IntKind.i64.wrap (p.tdiv 2))) (.int .i64 (p.toNat / 2 : Nat))), (32, .ix 23 (.slice X.sb X.ls.length X.d) (.int .i64 (p.toNat / 2 : Nat)) _), (33, .ld 50 _ 1 X.lk true _), (36, .call _)]) (ch := []) 4 (evk 50) special
          ⟨mc, congrArg Value.bool e1, congrArg Value.bool e2, congrArg (Value.int .i64) b2, X.ixL b3, ⟨l0, _, rfl⟩, mg, trivial⟩ trivial (X.hV rfl) (X.smallH 2) (by kernel_rfl)
  exact key _ _ rfl rfl
theorem port_0 (X : Cx) (hd : X.ls.length ≤ X.d) (hd2 : capD X.d) {f g : Nat} (hg : (f = 24 ∧ g = 42) ∨ (f = 25 ∧ g = 44) ∨ (f = 26 ∧ g = 54) ∨ (f = 27 ∧ g = 55) ∨ (f = 28 ∧ g = 56)) (p : Int) {b q : Bool} (hb : checkS X = b) (hq : portOk X.ls.length p = q) (nx : Nat) :
    Memo.Ok Try.prog ⟨f, nx, [X.v, .int .i64 p], X.V, askV b q (ansAt X g p), [], nx⟩ := by
  have ma := ask_0 X hd hd2 (g := g) (by omega) p
  rw [hb, hq] at ma
  have m1 := Cx.at ma 3 (by cases b <;> cases q <;> kernel_rfl) rfl (by cases b <;> cases q <;> rfl)
  refine Cx.at (rest := [.int .i64 p]) ?_ nx (by cases b <;> cases q <;> kernel_rfl) rfl (by cases b <;> cases q <;> rfl)
  generalize ansAt X g p = r at m1 ⊢
  rcases hg with ⟨rfl, rfl⟩ | ⟨rfl, rfl⟩ | ⟨rfl, rfl⟩ | ⟨rfl, rfl⟩ | ⟨rfl, rfl⟩ <;> cases b <;> cases q <;>
    exact memo_pure (hs := [(8, .call _)]) (ch := []) 3 (evk 50) special ⟨m1, trivial⟩ trivial (X.hV (by kernel_rfl)) (X.smallH 2) (by kernel_rfl)
/-! ### The reference's -/
theorem portR_0 (X : Cx) (p : Int) {q : Bool} (hq : portOk X.ls.length p = q) (nx : Nat) : Memo.Ok Try.prog ⟨29, nx, [X.v, .int .i64 p], X.V, .bool q, [], nx⟩ := by
  refine Cx.at (rest := [.int .i64 p]) ?_ nx rfl rfl rfl
  have key : ∀ p1 p2, decide (p ≥ 0) = p1 → decide (p < IntKind.i64.wrap (2 * X.ls.length)) = p2 → (p1 && p2) = q → Memo.Ok Try.prog ⟨29, 2, [X.v, .int .i64 p], X.V, .bool q, [], 2⟩ := by
    intro p1 p2 h1 h2 h3
    subst h3
    cases p1
    · cases p2 <;> exact memo_pure (hs := [(6, .val (.bool (decide (p ≥ 0))) (.bool _))]) (ch := []) 3 (evk 50) special ⟨congrArg Value.bool h1, trivial⟩ trivial (X.hV rfl) (X.smallH 2) (by kernel_rfl)
    · cases p2 <;> exact memo_pure (hs := [(6, .val (.bool (decide (p ≥ 0))) (.bool _)), (13, .val (.bool (decide (p < IntKind.i64.wrap (2 * X.ls.length)))) (.bool _))]) (ch := []) 4 (evk 50) special ⟨congrArg Value.bool h1, congrArg Value.bool h2, trivial⟩ trivial (X.hV rfl) (X.smallH 2) (by kernel_rfl)
  refine key _ _ rfl rfl ?_
  rw [← hq, Bool.eq_iff_iff]
  simp only [portOk, Bool.and_eq_true, Bool.not_eq_true', Bool.or_eq_false_iff, decide_eq_true_eq, decide_eq_false_iff_not]
  omega
theorem tmod2 {p : Int} (h : 0 ≤ p) : (p.tmod 2 == 1) = !(p.tmod 2 == 0) := by
  have : p.tmod 2 = p % 2 := Int.tmod_eq_emod_of_nonneg h
  rw [this]
  rcases Int.emod_two_eq p with h | h <;> rw [h] <;> rfl
theorem ansR_0 (X : Cx) {f g : Nat} (hg : (f = 30 ∧ g = 42) ∨ (f = 31 ∧ g = 44)) {p : Int} (hq : portOk X.ls.length p = true) (nx : Nat) : Memo.Ok Try.prog ⟨f, nx, [X.v, .int .i64 p], X.V, .int .i64 (ansAt X g p), [], nx⟩ := by
  refine Cx.at (rest := [.int .i64 p]) ?_ nx rfl rfl rfl
  obtain ⟨b0, b1, b2, b3⟩ := port_lt X.hL hq
  have hl := ls_at b3
  have l0 := X.ldL hl
  have h1 := tmod2 b0
  unfold ansAt
  generalize X.ls.getD (p.toNat / 2) ⟨0, 0, 0, 0⟩ = l at l0
  obtain ⟨a, b, x, y⟩ := l
  rcases hg with ⟨rfl, rfl⟩ | ⟨rfl, rfl⟩ <;> simp only [ansS, fromS, toS] <;> generalize (p.tmod 2 == 0) = q at h1 ⊢ <;> cases q <;>
    exact memo_pure (hs := [(9, .val (.int .i64 (IntKind.i64.wrap (p.tdiv 2))) (.int .i64 (p.toNat / 2 : Nat))), (10, .ix 23 (.slice X.sb X.ls.length X.d) (.int .i64 (p.toNat / 2 : Nat)) _), (11, .ld 50 _ 1 X.lk true _), (14, .val (.bool (p.tmod 2 == 1)) (.bool _))]) (ch := []) 4 (evk 50) special
      ⟨congrArg (Value.int .i64) b2, X.ixL b3, ⟨l0, _, rfl⟩, congrArg Value.bool h1, trivial⟩ trivial (X.hV rfl) (X.smallH 2) (by kernel_rfl)
theorem perR_0 (X : Cx) {f g : Nat} (hg : (f = 32 ∧ g = 54) ∨ (f = 33 ∧ g = 55)) {p : Int} (hq : portOk X.ls.length p = true) (nx : Nat) : Memo.Ok Try.prog ⟨f, nx, [X.v, .int .i64 p], X.V, .int .i64 (ansAt X g p), [], nx⟩ := by
  refine Cx.at (rest := [.int .i64 p]) ?_ nx rfl rfl rfl
  obtain ⟨b0, b1, b2, b3⟩ := port_lt X.hL hq
  have hl := ls_at b3
  have hlk := X.hlk _ _ hl
  unfold ansAt
  generalize X.ls.getD (p.toNat / 2) ⟨0, 0, 0, 0⟩ = l at hlk
  obtain ⟨a, b, x, y⟩ := l
  rcases hg with ⟨rfl, rfl⟩ | ⟨rfl, rfl⟩ <;>
    exact memo_pure (hs := [(8, .val (.int .i64 (IntKind.i64.wrap (p.tdiv 2))) (.int .i64 (p.toNat / 2 : Nat))), (9, .win 23 (.slice X.sb X.ls.length X.d) (.int .i64 (p.toNat / 2 : Nat)) 1 _ X.lk (Lk.cells ⟨a, b, x, y⟩))]) (ch := []) 4 (evk 50) special
      ⟨congrArg (Value.int .i64) b2, ⟨X.ixL b3, hlk⟩, trivial⟩ trivial (X.hV rfl) (X.smallH 2) (by kernel_rfl)
theorem back_dec : ∀ n : Fin 2000, backX (n.val : Int) = bif (n.val : Int).tmod 2 == 1 then IntKind.i64.wrap ((n.val : Int) - 1) else IntKind.i64.wrap ((n.val : Int) + 1) := by decide +kernel
theorem backR_0 {m : Nat} (hm : m ≤ 1000) {p : Int} (hq : portOk m p = true) (nx : Nat) : Memo.Ok Try.prog ⟨34, nx, [.int .i64 p], [], .int .i64 (backX p), [], nx⟩ := by
  obtain ⟨b0, b1, b2, b3⟩ := port_lt hm hq
  suffices h0 : Memo.Ok Try.prog ⟨34, 0, [.int .i64 p], [], .int .i64 (backX p), [], 0⟩ from memo_any h0 nx (by kernel_rfl) rfl rfl
  have hb : backX p = bif p.tmod 2 == 1 then IntKind.i64.wrap (p - 1) else IntKind.i64.wrap (p + 1) := by
    obtain ⟨n, rfl⟩ : ∃ n : Nat, p = n := ⟨p.toNat, by omega⟩
    exact back_dec ⟨n, by omega⟩
  rw [hb]
  have key : ∀ q, (p.tmod 2 == 1) = q → Memo.Ok Try.prog ⟨34, 0, [.int .i64 p], [], .int .i64 (bif q then IntKind.i64.wrap (p - 1) else IntKind.i64.wrap (p + 1)), [], 0⟩ := by
    intro q hq
    cases q <;> exact memo_pure (hs := [(5, .val (.bool (p.tmod 2 == 1)) (.bool _))]) (ch := []) 0 (evk 50) special ⟨congrArg Value.bool hq, trivial⟩ trivial (by kernel_rfl) rfl (by kernel_rfl)
  exact key _ rfl
end Go.Proofs.Ytkngbmaomgfcjaa.topo
/- The law's wakes() comes to true: a closed call, in pieces. -/
namespace Go.Proofs.Ytkngbmaomgfcjaa.topo
open Go Go.En
set_option linter.unusedVariables false
def m0 : Memo := ⟨18, 405, [.agg #[.int .i64 4, .slice (some ⟨1, 0, none⟩) 4 4, .slice (some ⟨2, 0, none⟩) 3 3], .int .i64 0, .slice (some ⟨404, 0, none⟩) 1 1], [(404, [.int .i64 1]), (2, [.int .i64 0, .int .i64 1, .int .i64 8, .int .i64 50, .int .i64 1, .int .i64 2, .int .i64 8, .int .i64 0, .int .i64 2, .int .i64 3, .int .i64 80, .int .i64 7]), (1, [.bool true, .bool false, .bool false, .bool true])], .tuple #[.slice (some ⟨467, 0, none⟩) 4 4, .int .i64 0], [(467, [.bool true, .bool true, .bool false, .bool false])], 484⟩
theorem says0 : memoSays (evM Try.prog [] 400) m0 = true := by kernel_rfl
theorem ok0 : m0.Ok Try.prog := memo_of (evM_ok special (ms := []) (fun _ h => by cases h) 400) says0
def m1 : Memo := ⟨13, 326, [.agg #[.int .i64 4, .slice (some ⟨1, 0, none⟩) 4 4, .slice (some ⟨2, 0, none⟩) 3 3], .int .i64 2, .int .i64 1], [(2, [.int .i64 0, .int .i64 1, .int .i64 8, .int .i64 50, .int .i64 1, .int .i64 2, .int .i64 8, .int .i64 0, .int .i64 2, .int .i64 3, .int .i64 80, .int .i64 7]), (1, [.bool true, .bool false, .bool false, .bool true])], .tuple #[.int .i64 3, .int .i64 0], [], 404⟩
theorem says1 : memoSays (evM Try.prog [] 400) m1 = true := by kernel_rfl
theorem ok1 : m1.Ok Try.prog := memo_of (evM_ok special (ms := []) (fun _ h => by cases h) 400) says1
def m2 : Memo := ⟨12, 244, [.agg #[.int .i64 4, .slice (some ⟨1, 0, none⟩) 4 4, .slice (some ⟨2, 0, none⟩) 3 3], .int .i64 1], [(2, [.int .i64 0, .int .i64 1, .int .i64 8, .int .i64 50, .int .i64 1, .int .i64 2, .int .i64 8, .int .i64 0, .int .i64 2, .int .i64 3, .int .i64 80, .int .i64 7]), (1, [.bool true, .bool false, .bool false, .bool true])], .tuple #[.slice (some ⟨318, 0, none⟩) 2 18446744073709551617, .int .i64 0], [(318, [.int .i64 1, .int .i64 2])], 326⟩
theorem says2 : memoSays (evM Try.prog [] 400) m2 = true := by kernel_rfl
theorem ok2 : m2.Ok Try.prog := memo_of (evM_ok special (ms := []) (fun _ h => by cases h) 400) says2
def m3 : Memo := ⟨24, 484, [.agg #[.int .i64 4, .slice (some ⟨1, 0, none⟩) 4 4, .slice (some ⟨2, 0, none⟩) 3 3], .int .i64 6], [(2, [.int .i64 0, .int .i64 1, .int .i64 8, .int .i64 50, .int .i64 1, .int .i64 2, .int .i64 8, .int .i64 0, .int .i64 2, .int .i64 3, .int .i64 80, .int .i64 7]), (1, [.bool true, .bool false, .bool false, .bool true])], .tuple #[.int .i64 0, .int .i64 2], [], 543⟩
theorem says3 : memoSays (evM Try.prog [] 400) m3 = true := by kernel_rfl
theorem ok3 : m3.Ok Try.prog := memo_of (evM_ok special (ms := []) (fun _ h => by cases h) 400) says3
def m4 : Memo := ⟨24, 4, [.agg #[.int .i64 4, .slice (some ⟨1, 0, none⟩) 4 4, .slice (some ⟨2, 0, none⟩) 3 3], .int .i64 0], [(2, [.int .i64 0, .int .i64 1, .int .i64 8, .int .i64 50, .int .i64 1, .int .i64 2, .int .i64 8, .int .i64 0, .int .i64 2, .int .i64 3, .int .i64 80, .int .i64 7]), (1, [.bool true, .bool false, .bool false, .bool true])], .tuple #[.int .i64 0, .int .i64 0], [], 64⟩
theorem says4 : memoSays (evM Try.prog [] 400) m4 = true := by kernel_rfl
theorem ok4 : m4.Ok Try.prog := memo_of (evM_ok special (ms := []) (fun _ h => by cases h) 400) says4
def m5 : Memo := ⟨25, 64, [.agg #[.int .i64 4, .slice (some ⟨1, 0, none⟩) 4 4, .slice (some ⟨2, 0, none⟩) 3 3], .int .i64 3], [(2, [.int .i64 0, .int .i64 1, .int .i64 8, .int .i64 50, .int .i64 1, .int .i64 2, .int .i64 8, .int .i64 0, .int .i64 2, .int .i64 3, .int .i64 80, .int .i64 7]), (1, [.bool true, .bool false, .bool false, .bool true])], .tuple #[.int .i64 1, .int .i64 0], [], 124⟩
theorem says5 : memoSays (evM Try.prog [] 400) m5 = true := by kernel_rfl
theorem ok5 : m5.Ok Try.prog := memo_of (evM_ok special (ms := []) (fun _ h => by cases h) 400) says5
def m6 : Memo := ⟨27, 184, [.agg #[.int .i64 4, .slice (some ⟨1, 0, none⟩) 4 4, .slice (some ⟨2, 0, none⟩) 3 3], .int .i64 4], [(2, [.int .i64 0, .int .i64 1, .int .i64 8, .int .i64 50, .int .i64 1, .int .i64 2, .int .i64 8, .int .i64 0, .int .i64 2, .int .i64 3, .int .i64 80, .int .i64 7]), (1, [.bool true, .bool false, .bool false, .bool true])], .tuple #[.int .i64 7, .int .i64 0], [], 244⟩
theorem says6 : memoSays (evM Try.prog [] 400) m6 = true := by kernel_rfl
theorem ok6 : m6.Ok Try.prog := memo_of (evM_ok special (ms := []) (fun _ h => by cases h) 400) says6
def m11 : Memo := ⟨10, 0, [], [], .bool true, [], 552⟩
theorem says11 : memoSays (evM Try.prog [m0, m1, m2, m3, m4, m5, m6] 400) m11 = true := by kernel_rfl
theorem ok11 : m11.Ok Try.prog := memo_of (evM_ok special (ms := [m0, m1, m2, m3, m4, m5, m6]) (by intro x hx; simp only [List.mem_cons, List.not_mem_nil, or_false] at hx; rcases hx with rfl | rfl | rfl | rfl | rfl | rfl | rfl <;> first | exact ok0 | exact ok1 | exact ok2 | exact ok3 | exact ok4 | exact ok5 | exact ok6) 400) says11
theorem wakes_0 : Memo.Ok Try.prog ⟨10, 0, [], [], .bool true, [], 0⟩ :=
  ⟨ok11.1, call_tidy ok11.2 rfl rfl rfl rfl rfl rfl⟩
theorem wakes_m (nx : Nat) : Memo.Ok Try.prog ⟨10, nx, [], [], .bool true, [], nx⟩ := memo_any wakes_0 nx (by kernel_rfl) rfl rfl
end Go.Proofs.Ytkngbmaomgfcjaa.topo
/- A row's arguments: topologies of any size; what few makes of them. -/
namespace Go.Proofs.Ytkngbmaomgfcjaa.topo
open Go Go.En Go.ChangeShapes Go.WideShapes Go.RowKit
set_option linter.unusedVariables false

/-- A topology as it is handed in. -/
structure Raw where
  N : Int
  sa : Option Addr
  c : Nat
  sb : Option Addr
  d : Nat
  S : List Bool
  ls : List Lk
  hsa : Sl 0 S.length sa
  hsb : Sl 1 ls.length sb
  hc : S.length ≤ c
  hc2 : c < openCap
  hd : ls.length ≤ d
  hd2 : d < openCap
def lcs : List Lk → List Value
  | [] => []
  | l :: r => l.cells ++ lcs r
theorem lcs_av : ∀ l : List Lk, avL (lcs l) = true
  | [] => rfl
  | _ :: r => lcs_av r
theorem lcs_get : ∀ (ls : List Lk) (i : Nat) (l : Lk), ls[i]? = some l → ∀ (j : Nat) v, l.cells[j]? = some v → (lcs ls)[i * 4 + j]? = some v
  | [], _, _, h, _, _, _ => by simp at h
  | x :: r, 0, l, h, j, v, hv => by
    simp at h
    subst h
    have hj : j < x.cells.length := (List.getElem?_eq_some_iff.1 hv).1
    simp only [lcs, Nat.zero_mul, Nat.zero_add]
    rw [List.getElem?_append_left hj]; exact hv
  | x :: r, i + 1, l, h, j, v, hv => by
    have := lcs_get r i l (by simpa using h) j v hv
    simp only [lcs]
    have hx : x.cells.length = 4 := rfl
    rw [List.getElem?_append_right (by omega), hx, ← this]
    congr 1; omega
theorem lcs_inv : ∀ {ls : List Lk} {j : Nat} {v : Value}, (lcs ls)[j]? = some v → ∃ i l r, ls[i]? = some l ∧ l.cells[r]? = some v ∧ j = i * 4 + r
  | [], j, v, h => by simp [lcs] at h
  | p :: l, j, v, h => by
    simp only [lcs] at h
    by_cases hj : j < p.cells.length
    · rw [List.getElem?_append_left hj] at h
      exact ⟨0, p, j, rfl, h, by omega⟩
    · rw [List.getElem?_append_right (by omega)] at h
      obtain ⟨i, q, r, h1, h2, h3⟩ := lcs_inv h
      have : p.cells.length = 4 := rfl
      exact ⟨i + 1, q, r, by simpa using h1, h2, by omega⟩
def Raw.v (Y : Raw) : Value := tv Y.N Y.sa Y.S.length Y.c Y.sb Y.ls.length Y.d
def Raw.V (Y : Raw) : List (Nat × List Value) := [(0, bc Y.S), (1, lcs Y.ls)]
theorem sl_take {b n m : Nat} {sa : Option Addr} (h : Sl b n sa) (hm : m ≤ n) : Sl b m sa := by
  rcases h with ⟨h, h0⟩ | h
  · exact .inl ⟨h, by omega⟩
  · exact .inr h
def Raw.few (Y : Raw) : Cx where
  N := Y.N
  sa := Y.sa
  c := Y.c
  sb := Y.sb
  d := Y.d
  st := bc Y.S
  lk := lcs Y.ls
  S := Y.S.take 20
  ls := Y.ls.take 30
  hst := fun i b h => by
    rw [List.getElem?_take] at h
    split at h
    · exact bc_get h
    · cases h
  hlk := fun i l h j v hv => by
    rw [List.getElem?_take] at h
    split at h
    · have := lcs_get _ i l h j v hv
      simpa using this
    · cases h
  hsa := sl_take Y.hsa (by simp; omega)
  hsb := sl_take Y.hsb (by simp; omega)
  avs := bc_av _
  avk := lcs_av _
  hS := by simp; omega
  hL := by simp; omega
theorem Raw.few_d (Y : Raw) : Y.few.ls.length ≤ Y.few.d := by
  have := Y.hd
  show (Y.ls.take 30).length ≤ Y.d
  simp; omega
theorem Raw.few_d2 (Y : Raw) : Y.few.d < openCap := Y.hd2
theorem Raw.small (Y : Raw) {k : Nat} (hk : 2 ≤ k) : En.small k 5 Y.v = true := by
  show En.smallL (En.small k 4) [_, _, _] = true
  simp only [En.smallL, sl_small Y.hsa (by omega : 0 < k), sl_small Y.hsb (by omega : 1 < k)]
  rfl
theorem Raw.smallH (Y : Raw) (k : Nat) : En.smallH k Y.V = true := by simp [En.smallH, Raw.V, small_avL (bc_av _), small_avL (lcs_av _)]
theorem Raw.hV (Y : Raw) {rest : List Value} {v : Value} (h : (En.smallL (En.small 2 5) rest && En.small 2 5 v) = true) : (nodupN (roHp Y.V) && below 2 Y.V && En.smallL (En.small 2 5) (Y.v :: rest) && En.small 2 5 v) = true := by
  simp only [Bool.and_eq_true] at h
  have h1 : (nodupN (roHp Y.V) && below 2 Y.V) = true := by kernel_rfl
  simp only [h1, En.smallL, Y.small (Nat.le_refl 2), h.1, h.2, Bool.and_self]
theorem Raw.fewv (Y : Raw) : Y.few.v = tv Y.N Y.sa (min Y.S.length 20) Y.c Y.sb (min Y.ls.length 30) Y.d := by
  show tv _ _ (Y.S.take 20).length _ _ (Y.ls.take 30).length _ = _
  rw [List.length_take, List.length_take, Nat.min_comm, Nat.min_comm 30]
  rfl
theorem few_m (Y : Raw) (nx : Nat) : Memo.Ok Try.prog ⟨11, nx, [Y.v], Y.V, Y.few.v, [], nx⟩ := by
  have h := few_0 (N := Y.N) Y.hsa Y.hsb Y.hc Y.hc2 Y.hd Y.hd2 (bc_av Y.S) (lcs_av Y.ls)
  rw [← Y.fewv] at h
  have hb : below 2 Y.V = true := by kernel_rfl
  have hr : renV (shift (fun b => b) 2 nx) 5 Y.v = Y.v := by
    show Value.agg ([_, _, _] : List Value).toArray = _
    have h0 : shift (fun b => b) 2 nx 0 = 0 := rfl
    have h1 : shift (fun b => b) 2 nx 1 = 1 := rfl
    rw [sl_ren Y.hsa h0, sl_ren Y.hsb h1]
    rfl
  have := memo_ren h (fun b => b) nx Y.V (by simp only [En.smallL, show En.small 2 5 (tv Y.N Y.sa Y.S.length Y.c Y.sb Y.ls.length Y.d) = true from Y.small (Nat.le_refl 2), Y.few.small (Nat.le_refl 2), show below 2 [(0, bc Y.S), (1, lcs Y.ls)] = true from hb, inNew, Bool.and_self]) (Y.smallH 2) rfl (fun b cs hb => by
    by_cases h0 : 0 = b
    · subst h0
      simp [Raw.V, roHp, Hp.get] at hb ⊢
      subst hb
      exact (renV_avL (bc_av _)).symm
    · by_cases h1 : 1 = b
      · subst h1
        simp [Raw.V, roHp, Hp.get] at hb ⊢
        subst hb
        exact (renV_avL (lcs_av _)).symm
      · simp [roHp, Hp.get, h0, h1] at hb)
  simp only [List.map_cons, List.map_nil, show renV (shift (fun b => b) 2 nx) 5 (tv Y.N Y.sa Y.S.length Y.c Y.sb Y.ls.length Y.d) = Y.v from hr, Y.few.ren, renH, Nat.sub_self, Nat.add_zero] at this
  exact this
end Go.Proofs.Ytkngbmaomgfcjaa.topo
/- A row's topology, opened. -/
namespace Go.Proofs.Ytkngbmaomgfcjaa.topo
open Go Go.En Go.ChangeShapes Go.WideShapes Go.RowKit
set_option linter.unusedVariables false

theorem row1 {row : List Value} (h : LeafL [.b] row) : ∃ a : Bool, row = [Value.bool a] := by
  obtain ⟨a, r1, rfl, h1⟩ := h.bool
  have := h1.done
  subst this
  exact ⟨a, rfl⟩
theorem row4 {row : List Value} (h : LeafL [.i .i64, .i .i64, .i .i64, .i .i64] row) : ∃ a : Lk, row = a.cells := by
  obtain ⟨a, r1, rfl, _, h1⟩ := h.int
  obtain ⟨b, r2, rfl, _, h2⟩ := h1.int
  obtain ⟨c, r3, rfl, _, h3⟩ := h2.int
  obtain ⟨d, r4, rfl, _, h4⟩ := h3.int
  have := h4.done
  subst this
  exact ⟨⟨a, b, c, d⟩, rfl⟩
theorem bc_cells : ∀ S : List Bool, cellsOfL (fun x => [Value.bool x]) S = bc S
  | [] => rfl
  | x :: S => by simp only [cellsOfL, bc_cells S]; rfl
theorem lcs_cells : ∀ S : List Lk, cellsOfL Lk.cells S = lcs S
  | [] => rfl
  | x :: S => by simp only [cellsOfL, lcs_cells S, lcs]
section
variable {T : Type} {enc : TypeId × Value → T} {w : World} {base : Nat} {spare : Nat → Bool} {held : Bool} {r : Reach} {b0 : Nat}
set_option maxRecDepth 100000 in
/-- The abstract topology over blocks b and b + 1. -/
theorem open_topo {v : Value} {d : DataW T} {ps : List MemPlace} (hv : Value.okWide Try.prog w r b0 25 v) (hd : DataW.Trod enc Try.prog w base spare held 25 v d ps) (h0 : CellsAt w 0) (b : Nat) :
    ∃ (N : Int) (S : List Bool) (ls : List Lk) (sa : Option Addr) (c : Nat) (sb : Option Addr) (d : Nat) (L1 L2 : En.Loc) (v1 v2 : Value), v = .agg #[.int .i64 N, v1, v2] ∧ SlAt w b S.length c sa (bc S) v1 L1 ∧ SlAt w (b + 1) ls.length d sb (lcs ls) v2 L2 := by
  have q1 : fieldsOf Try.prog 25 = some [(3, 0), (22, 1), (23, 2)] := by kernel_rfl
  have q2 : Try.prog.cellTypes Try.prog.depth 25 = some [3, 22, 23] := by kernel_rfl
  have q4 := open_agg (P := Try.prog) (w := w) (r := r) (b0 := b0) (t := 25) (v := v) (enc := enc) (base := base) (spare := spare) (held := held) (d := d) (ps := ps) q1 q2 hv hd
  obtain ⟨cs, rfl, hlen, hfl, hcell⟩ := q4
  have c25 : Try.prog.cellsOf 25 = 3 := by kernel_rfl
  have c3 : Try.prog.cellsOf 3 = 1 := by kernel_rfl
  have c22 : Try.prog.cellsOf 22 = 1 := by kernel_rfl
  have c23 : Try.prog.cellsOf 23 = 1 := by kernel_rfl
  rw [c25] at hlen
  obtain ⟨x, y, z, rfl⟩ : ∃ x y z, cs = [x, y, z] := by
    match cs, hlen with
    | [x, y, z], _ => exact ⟨x, y, z, rfl⟩
  obtain ⟨n0, y0, g0⟩ := hfl (3, 0) (by simp)
  obtain ⟨n1, y1, g1⟩ := hfl (22, 1) (by simp)
  obtain ⟨n2, y2, g2⟩ := hfl (23, 2) (by simp)
  simp only [c3, c22, c23] at g0 g1 g2
  have u3 : Try.prog.underlying 3 = some (.int .i64) := by kernel_rfl
  obtain ⟨N, hN, _, _⟩ := DataW.trod_int u3 g0
  have hN : x = .int .i64 N := by simpa using hN
  subst hN
  have g1 : DataW.trod enc Try.prog w base spare held n1 22 [y] = some y1 := by simpa using g1
  have g2 : DataW.trod enc Try.prog w base spare held n2 23 [z] = some y2 := by simpa using g2
  obtain ⟨t1, e1, k1⟩ := hcell 1 y rfl
  have e1 : t1 = 22 := by simpa using e1.symm
  subst e1
  obtain ⟨t2, e2, k2⟩ := hcell 2 z rfl
  have e2 : t2 = 23 := by simpa using e2.symm
  subst e2
  obtain ⟨S, sa, c, L1, hS⟩ := open_at (P := Try.prog) (f := fun x : Bool => [Value.bool x]) (n := 5) u22 k1 g1 (ls := [.b]) (by kernel_rfl) (s := 1) (by kernel_rfl) (fun _ => rfl) (fun _ => row1) h0 b
  obtain ⟨ls, sb, d', L2, hL⟩ := open_at (P := Try.prog) (f := Lk.cells) (n := 5) u23 k2 g2 (ls := [.i .i64, .i .i64, .i .i64, .i .i64]) (by kernel_rfl) (s := 4) (by kernel_rfl) (fun _ => rfl) (fun _ => row4) h0 (b + 1)
  rw [bc_cells] at hS
  rw [lcs_cells] at hL
  exact ⟨N, S, ls, sa, c, sb, d', L1, L2, y, z, rfl, hS, hL⟩
set_option maxRecDepth 100000 in
/-- The law's function is called with a topology and other arguments without blocks. -/
theorem calls_t {f : FuncId} {v : Value} {rest : List Value} {d : DataW T} {ps : List MemPlace} (h0 : CellsAt w 0) (hv : Value.okWide Try.prog w r b0 25 v) (hd : DataW.Trod enc Try.prog w base spare held 25 v d ps) (hrest : ∀ φ : Ren, LRel φ rest rest)
    (h : ∀ Y : Raw, Memo.Ok Try.prog ⟨f, 2, Y.v :: rest, Y.V, .bool true, [], 2⟩) :
    Calls Try.prog f (v :: rest).toArray w fun e w' => e = .returned (.bool true) ∧ Below w.heap.size w w' := by
  obtain ⟨N, S, ls, sa, c, sb, d', L1, L2, v1, v2, rfl, hS, hL⟩ := open_topo (w := w) (r := r) (b0 := b0) (v := v) (enc := enc) (base := base) (spare := spare) (held := held) (d := d) (ps := ps) hv hd h0 0
  let Y : Raw := ⟨N, sa, c, sb, d', S, ls, hS.sl, hL.sl, hS.le, hS.lt, hL.le, hL.lt⟩
  refine calls_open (φ := renL [L1, L2]) (h Y) (good_V fun b cs hb => ?_) ⟨?_, hrest _⟩
  · by_cases h0 : 0 = b
    · subst h0
      simp [Raw.V, roHp, Hp.get] at hb
      subst hb
      exact ⟨L1, rfl, hS.brel (bc_av _)⟩
    · by_cases h1 : 1 = b
      · subst h1
        simp [Raw.V, roHp, Hp.get] at hb
        subst hb
        exact ⟨L2, rfl, hL.brel (lcs_av _)⟩
      · simp [Raw.V, roHp, Hp.get, h0, h1] at hb
  · exact .agg' ⟨.int _ _, hS.rel rfl, hL.rel rfl, trivial⟩
end
theorem first_block {w : World} (hw : w.ShapedOpen Try.prog) : CellsAt w 0 := by
  have hg : Try.prog.globals.size = 0 := by kernel_rfl
  refine cells_0 hw hg ?_
  have h : (match (begin Try.prog (fun _ _ => 0) default).world.heap[0]? with | some (.cells _ _ _) => true | _ => false) = true := by kernel_rfl
  cases he : (begin Try.prog (fun _ _ => 0) default).world.heap[0]? with
  | none => rw [he] at h; cases h
  | some o =>
    rw [he] at h
    cases o with
    | cells a b c => exact ⟨a, b, c, rfl⟩
    | _ => cases h
end Go.Proofs.Ytkngbmaomgfcjaa.topo
/- Contracts: slices.Equal, Reach. -/
namespace Go.Proofs.Ytkngbmaomgfcjaa.topo
open Go Go.En
set_option linter.unusedVariables false

def BH (st : List Value) (S : List Bool) : Prop := ∀ (i : Nat) b, S[i]? = some b → st[0 + i * 1]? = some (.bool b)
theorem ld_h {b i : Nat} {x : Bool} {st : List Value} {S : List Bool} {ro : Bool} (h : BH st S) (hi : S[i]? = some x) : doLoad Try.prog [(b, .cells st ro)] 4 (.pointer (some ⟨b, 0 + i * 1, none⟩)) = some (.bool x) := ld1 z4 (h i x hi)
def T19 (n m c e : Nat) (i : Int) : List Value := [.slice (some ⟨0, 0, none⟩) n c, .slice (some ⟨1, 0, none⟩) m e, J, J, .bool false, J, J, J, J, J, J, J, .int .i64 n, .int .i64 i] ++ List.replicate 12 J
def TR19 : List Value := [J, J, J, J, .bool false, J, J, J, J, J, J, J, J, J] ++ List.replicate 12 J
def H19 (s t : List Value) : Hp := [(0, .cells s true), (1, .cells t true)]
section
variable {s t : List Value} {A B : List Bool} {c e : Nat} (hs : avL s = true) (ht : avL t = true) (hA : BH s A) (hB : BH t B)
theorem H19_below (hs : avL s = true) (ht : avL t = true) : hpBelow 5 (H19 s t) = true := by
  have a1 : tidyB 5 (.cells s true) = true := small_avL hs
  have a2 : tidyB 5 (.cells t true) = true := small_avL ht
  simp [H19, hpBelow, a1, a2]
def Q19 (s t : List Value) (n m c e : Nat) (j : Int) : Bool → Res
  | true => ⟨.normal, T19 n m c e j, [], H19 s t, 5⟩
  | false => ⟨.ret, TR19, [], H19 s t, 5⟩
theorem e_go (hs : avL s = true) (ht : avL t = true) (hA : BH s A) (hB : BH t B) {i : Nat} {x y : Bool} (hx : A[i]? = some x) (hy : B[i]? = some y) :
    CodeOk Try.prog none (lp Try.prog 19 4) (T19 A.length B.length c e i) [] (H19 s t) 5 (Q19 s t A.length B.length c e (IntKind.i64.wrap (i + 1)) (x == y)) := by
  have i1 : doIndexAddr Try.prog 22 (.slice (some ⟨0, 0, none⟩) A.length c) (.int .i64 i) = _ := ix_b (lt_of hx)
  have i2 : doIndexAddr Try.prog 22 (.slice (some ⟨1, 0, none⟩) B.length e) (.int .i64 i) = _ := ix_b (lt_of hy)
  have l1 := ld_h (b := 0) (ro := true) hA hx
  have l2 := ld_h (b := 1) (ro := true) hB hy
  have hlt := lt_of hx
  cases x <;> cases y <;>
    exact code_at (hs := [(14, .val (.bool (decide ((i : Int) < A.length))) (.bool true)), (18, .ix 22 (.slice (some ⟨0, 0, none⟩) A.length c) (.int .i64 i) _), (19, .ld 4 _ 0 s true _), (22, .ix 22 (.slice (some ⟨1, 0, none⟩) B.length e) (.int .i64 i) _), (23, .ld 4 _ 1 t true _)]) (ch := []) (evk 50) special
      ⟨congrArg Value.bool (decide_eq_true (by omega)), i1, ⟨l1, _, rfl⟩, i2, ⟨l2, _, rfl⟩, trivial⟩ trivial (by kernel_rfl) (H19_below hs ht) (H19_below hs ht) (by kernel_rfl)
theorem e_out (hs : avL s = true) (ht : avL t = true) (n m : Nat) : CodeOk Try.prog none (lp Try.prog 19 4) (T19 n m c e n) [] (H19 s t) 5 ⟨.exit 0, TR19, [], H19 s t, 5⟩ :=
  code_at (hs := [(14, .val (.bool (decide ((n : Int) < n))) (.bool false))]) (ch := []) (evk 50) special ⟨congrArg Value.bool (decide_eq_false (by omega)), trivial⟩ trivial (by kernel_rfl) (H19_below hs ht) (H19_below hs ht) (by kernel_rfl)
def F19 (s t : List Value) : Bool → Res
  | true => ⟨.exit 0, TR19, [], H19 s t, 5⟩
  | false => ⟨.ret, TR19, [], H19 s t, 5⟩
theorem e_loop (hs : avL s = true) (ht : avL t = true) (hA : BH s A) (hB : BH t B) (hAl : A.length ≤ 1000) (hAB : A.length = B.length) : ∀ (k i : Nat), i + k = A.length → LoopOk Try.prog none (lp Try.prog 19 4) (T19 A.length B.length c e i) [] (H19 s t) 5 (F19 s t (A.drop i == B.drop i))
  | 0, i, h => by
    have : i = A.length := by omega
    subst this
    rw [List.drop_length, hAB, List.drop_length]
    exact loopOk_out (e_out hs ht _ _) (by show Exit.exit 0 ≠ Exit.normal; simp)
  | k + 1, i, h => by
    have hlt : i < A.length := by omega
    have hlt2 : i < B.length := by omega
    have hx : A[i]? = some A[i] := List.getElem?_eq_getElem hlt
    have hy : B[i]? = some B[i] := List.getElem?_eq_getElem hlt2
    have h1 := e_go (c := c) (e := e) hs ht hA hB hx hy
    rw [List.drop_eq_getElem_cons hlt, List.drop_eq_getElem_cons hlt2, List.cons_beq_cons]
    cases hb : (A[i] == B[i]) with
    | false => rw [hb] at h1; exact loopOk_out h1 (by show Exit.ret ≠ Exit.normal; simp)
    | true =>
      rw [hb] at h1
      rw [show (i : Int) + 1 = ((i + 1 : Nat) : Int) by push_cast; rfl, wrap_nat (by omega)] at h1
      rw [Bool.true_and]
      exact loop_step h1 (e_loop hs ht hA hB hAl hAB k (i + 1) (by omega))
termination_by k => k
theorem equal_0 (hs : avL s = true) (ht : avL t = true) (hA : BH s A) (hB : BH t B) (hAl : A.length ≤ 1000) :
    Memo.Ok Try.prog ⟨19, 2, [.slice (some ⟨0, 0, none⟩) A.length c, .slice (some ⟨1, 0, none⟩) B.length e], [(0, s), (1, t)], .bool (A == B), [], 2⟩ := by
  have hS : En.smallH 2 [(0, s), (1, t)] = true := by simp [En.smallH, small_avL hs, small_avL ht]
  by_cases hAB : A.length = B.length
  · have hlo := e_loop (c := c) (e := e) hs ht hA hB hAl hAB A.length 0 (by omega)
    rw [List.drop_zero, List.drop_zero] at hlo
    have hne : ((A.length : Int) != (B.length : Int)) = false := by rw [hAB]; simp
    generalize (A == B) = g at hlo ⊢
    cases g <;>
      exact memo_pure (hs := [(10, .val (.bool ((A.length : Int) != (B.length : Int))) (.bool false))]) (ch := [⟨4, none, .loop (lp Try.prog 19 4), T19 A.length B.length c e 0, [], H19 s t, 5, _, true⟩]) 5 (evk 50) special ⟨congrArg Value.bool hne, trivial⟩ ⟨codeOk_loop hlo, trivial⟩ (by kernel_rfl) hS (by kernel_rfl)
  · have hne : ((A.length : Int) != (B.length : Int)) = true := by simp; omega
    have hf : (A == B) = false := by
      cases h : (A == B) with
      | false => rfl
      | true => exact absurd (congrArg List.length (beq_iff_eq.1 h)) hAB
    rw [hf]
    exact memo_pure (hs := [(10, .val (.bool ((A.length : Int) != (B.length : Int))) (.bool true))]) (ch := []) 4 (evk 50) special ⟨congrArg Value.bool hne, trivial⟩ trivial (by kernel_rfl) hS (by kernel_rfl)
end
def ρab (a b : Nat) : Nat → Nat
  | 0 => a
  | _ => b
theorem equal_m {s t : List Value} {A B : List Bool} {c e : Nat} (hs : avL s = true) (ht : avL t = true) (hA : BH s A) (hB : BH t B) (hAl : A.length ≤ 1000) {p : Bool} (hp : (A == B) = p) (a b nx : Nat) (hab : a ≠ b) :
    Memo.Ok Try.prog ⟨19, nx, [.slice (some ⟨a, 0, none⟩) A.length c, .slice (some ⟨b, 0, none⟩) B.length e], [(a, s), (b, t)], .bool p, [], nx⟩ := by
  have h := equal_0 (c := c) (e := e) hs ht hA hB hAl
  rw [hp] at h
  have := memo_ren h (ρab a b) nx [(a, s), (b, t)] (by kernel_rfl) (by simp [En.smallH, small_avL hs, small_avL ht]) rfl (fun x es hc => by
    by_cases h0 : 0 = x
    · subst h0
      simp [roHp, Hp.get, ρab] at hc ⊢
      subst hc
      exact (renV_avL hs).symm
    · by_cases h1 : 1 = x
      · subst h1
        simp [roHp, Hp.get, ρab, hab] at hc ⊢
        subst hc
        exact (renV_avL ht).symm
      · simp [roHp, Hp.get, h0, h1] at hc)
  exact this
end Go.Proofs.Ytkngbmaomgfcjaa.topo
/- Contract: Reach. -/
namespace Go.Proofs.Ytkngbmaomgfcjaa.topo
open Go Go.En
set_option linter.unusedVariables false

def cutv (b k e : Nat) : Value := .slice (some ⟨b, 0, none⟩) k e
def T18 (K : List Int) (e : Nat) (p j : Int) : List Value := [J, .int .i64 p, J, pt 3, J, J, .slice none 0 0, .int .i64 0, J, pt 4] ++ List.replicate 15 J ++ [cutv 2 K.length e, .int .i64 K.length, .int .i64 j] ++ List.replicate 19 J
def TO18 (K : List Int) (e : Nat) (p : Int) : List Value := [J, .int .i64 p, J, pt 3, J, J, .slice none 0 0, .int .i64 0, J, pt 4] ++ List.replicate 37 J
def TR18 : List Value := [J, J, J, J, J, J, .slice none 0 0, .int .i64 2, J, J] ++ List.replicate 37 J
def H18 (X : Cx) (K : List Int) (C : List Bool) : Hp := [(4, .cells (bc C) false), (3, .cells X.cells true), (0, .cells X.st true), (1, .cells X.lk true), (2, .cells (ic K) true)]
theorem H18_below (X : Cx) (K : List Int) (C : List Bool) : hpBelow 6 (H18 X K C) = true := by
  have a1 : tidyB 6 (.cells X.cells true) = true := X.smallL (by omega) 5
  have a2 : tidyB 6 (.cells X.st true) = true := small_avL X.avs
  have a3 : tidyB 6 (.cells X.lk true) = true := small_avL X.avk
  have a4 : tidyB 6 (.cells (bc C) false) = true := small_avL (bc_av C)
  have a5 : tidyB 6 (.cells (ic K) true) = true := small_avL (ic_av K)
  simp [H18, hpBelow, a1, a2, a3, a4, a5]
def badK (m : Nat) (x : Int) : Bool := decide (x < 0) || decide (x ≥ m)
def Q18 (X : Cx) (K : List Int) (C C' : List Bool) (e : Nat) (p j : Int) : Bool → Res
  | true => ⟨.ret, TR18, [], H18 X K C, 6⟩
  | false => ⟨.normal, T18 K e p j, [], H18 X K C', 6⟩
theorem m_go (X : Cx) (h24 : X.ls.length ≤ 24) {K : List Int} {C : List Bool} (hC : C.length = 24) {e j : Nat} {p : Int} (hj : j < K.length) :
    CodeOk Try.prog none (lp Try.prog 18 8) (T18 K e p j) [] (H18 X K C) 6 (Q18 X K C (C.set (K.getD j 0).toNat true) e p (IntKind.i64.wrap (j + 1)) (badK X.ls.length (K.getD j 0))) := by
  have i1 : doIndexAddr Try.prog 28 (cutv 2 K.length e) (.int .i64 j) = _ := ix_i hj
  have l1 := ld_i (b := 2) (ro := true) hj
  unfold badK
  generalize K.getD j 0 = x at l1
  have key : ∀ p1 p2, decide (x < 0) = p1 → decide (x ≥ X.ls.length) = p2 → CodeOk Try.prog none (lp Try.prog 18 8) (T18 K e p j) [] (H18 X K C) 6 (Q18 X K C (C.set x.toNat true) e p (IntKind.i64.wrap (j + 1)) (p1 || p2)) := by
    intro p1 p2 h1 h2
    cases p1 with
    | true => cases p2 <;> exact code_at (hs := [(28, .val (.bool (decide ((j : Int) < K.length))) (.bool true)), (29, .ix 28 (cutv 2 K.length e) (.int .i64 j) _), (30, .ld 3 _ 2 (ic K) true _), (32, .val (.bool (decide (x < 0))) (.bool _))]) (ch := []) (evk 50) special ⟨congrArg Value.bool (decide_eq_true (by omega)), i1, ⟨l1, _, rfl⟩, congrArg Value.bool h1, trivial⟩ trivial (by kernel_rfl) (H18_below X K C) (H18_below X K C) (by kernel_rfl)
    | false =>
      cases p2 with
      | true => exact code_at (hs := [(28, .val (.bool (decide ((j : Int) < K.length))) (.bool true)), (29, .ix 28 (cutv 2 K.length e) (.int .i64 j) _), (30, .ld 3 _ 2 (ic K) true _), (32, .val (.bool (decide (x < 0))) (.bool _)), (38, .val (.bool (decide (x ≥ X.ls.length))) (.bool _))]) (ch := []) (evk 50) special ⟨congrArg Value.bool (decide_eq_true (by omega)), i1, ⟨l1, _, rfl⟩, congrArg Value.bool h1, congrArg Value.bool h2, trivial⟩ trivial (by kernel_rfl) (H18_below X K C) (H18_below X K C) (by kernel_rfl)
      | false =>
        have h1' := of_decide_eq_false h1
        have h2' := of_decide_eq_false h2
        obtain ⟨x, rfl⟩ : ∃ n : Nat, x = n := ⟨x.toNat, by omega⟩
        have i2 : doIndexAddr Try.prog 71 (pt 4) (.int .i64 x) = _ := ix_71 (by omega)
        have s1 := st_b (b := 4) (x := true) (R := C) (i := x) (by omega)
        exact code_at (hs := [(28, .val (.bool (decide ((j : Int) < K.length))) (.bool true)), (29, .ix 28 (cutv 2 K.length e) (.int .i64 j) _), (30, .ld 3 _ 2 (ic K) true _), (32, .val (.bool (decide ((x : Int) < 0))) (.bool _)), (38, .val (.bool (decide ((x : Int) ≥ X.ls.length))) (.bool _)), (41, .ix 71 (pt 4) (.int .i64 x) _), (100041, .st 4 _ (.bool true) 4 (bc C) _)]) (ch := []) (evk 50) special ⟨congrArg Value.bool (decide_eq_true (by omega)), i1, ⟨l1, _, rfl⟩, congrArg Value.bool h1, congrArg Value.bool h2, i2, ⟨s1, _, rfl⟩, trivial⟩ trivial (by kernel_rfl) (H18_below X K C) (H18_below X K _) (by kernel_rfl)
  exact key _ _ rfl rfl
theorem m_out (X : Cx) (K : List Int) (C : List Bool) (e : Nat) (p : Int) : CodeOk Try.prog none (lp Try.prog 18 8) (T18 K e p K.length) [] (H18 X K C) 6 ⟨.exit 0, TO18 K e p, [], H18 X K C, 6⟩ :=
  code_at (hs := [(28, .val (.bool (decide ((K.length : Int) < K.length))) (.bool false))]) (ch := []) (evk 50) special ⟨congrArg Value.bool (decide_eq_false (by omega)), trivial⟩ trivial (by kernel_rfl) (H18_below X K C) (H18_below X K C) (by kernel_rfl)
def cutGo (m : Nat) : List Int → List Bool → Bool × List Bool
  | [], C => (true, C)
  | x :: r, C => bif badK m x then (false, C) else cutGo m r (C.set x.toNat true)
def F18 (X : Cx) (K : List Int) (e : Nat) (p : Int) : Bool × List Bool → Res
  | (true, C) => ⟨.exit 0, TO18 K e p, [], H18 X K C, 6⟩
  | (false, C) => ⟨.ret, TR18, [], H18 X K C, 6⟩
theorem m_loop (X : Cx) (h24 : X.ls.length ≤ 24) {K : List Int} (hK : K.length ≤ 1000) {e : Nat} {p : Int} : ∀ (k j : Nat) (C : List Bool), C.length = 24 → j + k = K.length → LoopOk Try.prog none (lp Try.prog 18 8) (T18 K e p j) [] (H18 X K C) 6 (F18 X K e p (cutGo X.ls.length (K.drop j) C))
  | 0, j, C, hC, h => by
    have : j = K.length := by omega
    subst this
    rw [List.drop_length]
    exact loopOk_out (m_out X K C e p) (by show Exit.exit 0 ≠ Exit.normal; simp)
  | k + 1, j, C, hC, h => by
    have hlt : j < K.length := by omega
    have hg : K.getD j 0 = K[j] := by simp [List.getD_eq_getElem?_getD, hlt]
    have h1 := m_go X h24 (e := e) (p := p) hC hlt
    rw [hg] at h1
    rw [List.drop_eq_getElem_cons hlt]
    simp only [cutGo]
    cases hb : badK X.ls.length K[j] with
    | true => rw [hb] at h1; exact loopOk_out h1 (by show Exit.ret ≠ Exit.normal; simp)
    | false =>
      rw [hb] at h1
      rw [show (j : Int) + 1 = ((j + 1 : Nat) : Int) by push_cast; rfl, wrap_nat (by omega)] at h1
      exact loop_step h1 (m_loop X h24 hK k (j + 1) _ (by simpa using hC) (by omega))
termination_by k => k
theorem cutGo_len (m : Nat) : ∀ (K : List Int) (C : List Bool), (cutGo m K C).2.length = C.length
  | [], _ => rfl
  | x :: r, C => by
    simp only [cutGo]
    cases badK m x with
    | true => rfl
    | false => simp [cutGo_len m r]
def nodeBad (N p : Int) : Bool := decide (p < 0) || decide (p ≥ N)
/-- What Reach hands out: an error, or a new slice. -/
def rErr (X : Cx) (K : List Int) (p : Int) : Option Int := bif checkS X then (bif nodeBad X.N p then some 2 else bif (cutGo X.ls.length K cut0).1 then none else some 2) else some 260
theorem V20_hV (X : Cx) (K : List Int) {rest : List Value} {v : Value} (h : (En.smallL (En.small 3 5) rest && En.small 3 5 v) = true) : (nodupN (roHp (V20 X K)) && below 3 (V20 X K) && En.smallL (En.small 3 5) (X.v :: rest) && En.small 3 5 v) = true := by
  simp only [Bool.and_eq_true] at h
  have h1 : (nodupN (roHp (V20 X K)) && below 3 (V20 X K)) = true := by kernel_rfl
  simp only [h1, En.smallL, X.small (by omega : 2 ≤ 3), h.1, h.2, Bool.and_self]
theorem V20_smallH (X : Cx) (K : List Int) (k : Nat) : En.smallH k (V20 X K) = true := by simp [En.smallH, V20, small_avL X.avs, small_avL X.avk, small_avL (ic_av K)]
theorem reachE_0 (X : Cx) (hd : X.ls.length ≤ X.d) (hd2 : capD X.d) {K : List Int} (hK : K.length ≤ 1000) {e : Nat} {p : Int} {x : Int} (h : rErr X K p = some x) :
    Memo.Ok Try.prog ⟨18, 3, [X.v, .int .i64 p, cutv 2 K.length e], V20 X K, .tuple #[.slice none 0 0, .int .i64 x], [], 3⟩ := by
  unfold rErr at h
  cases hc : checkS X with
  | false =>
    have mc := check_m X hd hd2 hc 4
    rw [hc] at h
    simp at h
    subst h
    exact memo_pure (hs := [(3, .frz), (13, .call _)]) (ch := []) 4 (evk 50) special ⟨trivial, mc, trivial⟩ trivial (V20_hV X K rfl) (V20_smallH X K 3) (by kernel_rfl)
  | true =>
    have mc := check_m X hd hd2 hc 4
    rw [hc] at h
    simp only [cond_true] at h
    have key : ∀ p1 p2, decide (p < 0) = p1 → decide (p ≥ X.N) = p2 → (bif (p1 || p2) then some 2 else bif (cutGo X.ls.length K cut0).1 then none else some 2) = some x → Memo.Ok Try.prog ⟨18, 3, [X.v, .int .i64 p, cutv 2 K.length e], V20 X K, .tuple #[.slice none 0 0, .int .i64 x], [], 3⟩ := by
      intro p1 p2 h1 h2 h3
      cases p1 with
      | true =>
        simp at h3
        subst h3
        exact memo_pure (hs := [(3, .frz), (13, .call _), (18, .val (.bool (decide (p < 0))) (.bool _))]) (ch := []) 4 (evk 50) special ⟨trivial, mc, congrArg Value.bool h1, trivial⟩ trivial (V20_hV X K rfl) (V20_smallH X K 3) (by kernel_rfl)
      | false =>
        cases p2 with
        | true =>
          simp at h3
          subst h3
          exact memo_pure (hs := [(3, .frz), (13, .call _), (18, .val (.bool (decide (p < 0))) (.bool _)), (23, .val (.bool (decide (p ≥ X.N))) (.bool _))]) (ch := []) 4 (evk 50) special ⟨trivial, mc, congrArg Value.bool h1, congrArg Value.bool h2, trivial⟩ trivial (V20_hV X K rfl) (V20_smallH X K 3) (by kernel_rfl)
        | false =>
          have hf : firstS X = true := by
            unfold checkS at hc
            simp only [Bool.and_eq_true] at hc
            exact hc.1
          obtain ⟨hN, hn2, hn12, h24⟩ := first_true hf
          have hlo := m_loop X h24 hK (e := e) (p := p) K.length 0 cut0 (by simp [cut0]) (by omega)
          rw [List.drop_zero] at hlo
          generalize cutGo X.ls.length K cut0 = g at hlo h3
          obtain ⟨g1, g2⟩ := g
          cases g1 with
          | true => simp at h3
          | false =>
            simp at h3
            subst h3
            exact memo_pure (hs := [(3, .frz), (13, .call _), (18, .val (.bool (decide (p < 0))) (.bool _)), (23, .val (.bool (decide (p ≥ X.N))) (.bool _))]) (ch := [⟨8, none, .loop (lp Try.prog 18 8), T18 K e p 0, [], H18 X K cut0, 6, _, true⟩]) 6 (evk 50) special ⟨trivial, mc, congrArg Value.bool h1, congrArg Value.bool h2, trivial⟩ ⟨codeOk_loop hlo, trivial⟩ (V20_hV X K rfl) (V20_smallH X K 3) (by kernel_rfl)
    exact key _ _ rfl rfl h
def cutC (X : Cx) (K : List Int) : List Bool := (cutGo X.ls.length K cut0).2
theorem u71 : szIs Try.prog 71 (23 + 1) true = true := by kernel_rfl
theorem reachY_0 (X : Cx) (hd : X.ls.length ≤ X.d) (hd2 : capD X.d) {K : List Int} (hK : K.length ≤ 1000) {e : Nat} {p : Int} (h : rErr X K p = none) :
    0 ≤ p ∧ p < X.S.length ∧ Memo.Ok Try.prog ⟨18, 3, [X.v, .int .i64 p, cutv 2 K.length e], V20 X K, .tuple #[.slice (some ⟨8, 0, none⟩) X.S.length X.S.length, .int .i64 0], [(8, bc (reachS (cutC X K) X.ls X.S.length p.toNat))], 9⟩ := by
  unfold rErr at h
  cases hc : checkS X with
  | false => rw [hc] at h; cases h
  | true =>
    have mc := check_m X hd hd2 hc 4
    rw [hc] at h
    simp only [cond_true] at h
    cases hn : nodeBad X.N p with
    | true => rw [hn] at h; cases h
    | false =>
      rw [hn] at h
      have hn2 := hn
      simp only [nodeBad, Bool.or_eq_false_iff] at hn2
      obtain ⟨h1, h2⟩ := hn2
      have h1' := of_decide_eq_false h1
      have h2' := of_decide_eq_false h2
      have hc2 := hc
      unfold checkS lateS at hc2
      simp only [Bool.and_eq_true] at hc2
      obtain ⟨hN, hn2, hn12, h24⟩ := first_true hc2.1
      have he : ∀ l ∈ X.ls, Ends X.S.length l := fun l hl => hN ▸ ends_of (sndGo_mem hc2.2.1.1 l hl)
      have hcl : (cutC X K).length = 24 := by unfold cutC; rw [cutGo_len]; simp [cut0]
      have hlo := m_loop X h24 hK (e := e) (p := p) K.length 0 cut0 (by simp [cut0]) (by omega)
      rw [List.drop_zero] at hlo
      refine ⟨by omega, by omega, ?_⟩
      obtain ⟨a, rfl⟩ : ∃ n : Nat, p = n := ⟨p.toNat, by omega⟩
      have mr := reach_m X (C := cutC X K) (a := a) hN hcl h24 he (by omega) 6
      have hld : doLoad Try.prog [(4, .cells (bc (cutC X K)) false)] 71 (.pointer (some ⟨4, 0, none⟩)) = some (.agg (bc (cutC X K)).toArray) := ldN u71 (by rw [bc_len]; exact hcl) (fun j v hv => by simpa using hv)
      unfold cutC at mr hld ⊢
      generalize cutGo X.ls.length K cut0 = g at hlo h mr hld
      obtain ⟨g1, g2⟩ := g
      cases g1 with
      | false => cases h
      | true =>
        exact memo_new (hs := [(3, .frz), (13, .call _), (18, .val (.bool (decide ((a : Int) < 0))) (.bool _)), (23, .val (.bool (decide ((a : Int) ≥ X.N))) (.bool _)), (45, .ld 71 _ 4 (bc g2) false _), (46, .call _)]) (ch := [⟨8, none, .loop (lp Try.prog 18 8), T18 K e a 0, [], H18 X K cut0, 6, _, true⟩]) (evk 50) special ⟨trivial, mc, congrArg Value.bool h1, congrArg Value.bool h2, ⟨hld, _, rfl⟩, mr, trivial⟩ ⟨codeOk_loop hlo, trivial⟩ (by kernel_rfl)
end Go.Proofs.Ytkngbmaomgfcjaa.topo
/- TopoReaches returns true for every topology, node and cut, and its arguments read as before. No condition. -/
namespace Go.Proofs.Ytkngbmaomgfcjaa.topo
open Go Go.En Go.ChangeShapes Go.WideShapes Go.RowKit
set_option linter.unusedVariables false

theorem getD_set {C : List Bool} {x j : Nat} (hx : x < C.length) : (C.set x true).getD j false = (C.getD j false || decide (x = j)) := by
  rw [List.getD_eq_getElem?_getD, List.getD_eq_getElem?_getD, List.getElem?_set]
  by_cases h : x = j
  · subst h; simp [hx]
  · simp [h]
theorem cutGo_get {m : Nat} (hm : m ≤ 24) : ∀ {K : List Int} {C : List Bool}, C.length = 24 → (cutGo m K C).1 = true → ∀ j : Nat, (cutGo m K C).2.getD j false = (C.getD j false || inS K j)
  | [], C, _, _, j => by simp [cutGo, inS]
  | x :: r, C, hC, h, j => by
    simp only [cutGo] at h ⊢
    cases hb : badK m x with
    | true => rw [hb] at h; cases h
    | false =>
      rw [hb] at h
      simp only [cond_false] at h ⊢
      have hb2 := hb
      simp only [badK, Bool.or_eq_false_iff, decide_eq_false_iff_not] at hb2
      rw [cutGo_get hm (by simpa using hC) h j, getD_set (by omega)]
      have : decide (x.toNat = j) = (x == (j : Int)) := by
        rw [Bool.eq_iff_iff]
        simp only [decide_eq_true_eq, beq_iff_eq]
        omega
      rw [this]
      simp only [inS, List.any_cons, Bool.or_assoc]
theorem cutGo_any {m : Nat} : ∀ (K : List Int) (C : List Bool), (cutGo m K C).1 = !(K.any (badK m))
  | [], _ => rfl
  | x :: r, C => by
    simp only [cutGo, List.any_cons]
    cases badK m x with
    | true => rfl
    | false => simpa using cutGo_any r _
theorem reach_law (X : Cx) {K : List Int} (h24 : X.ls.length ≤ 24) (h : (cutGo X.ls.length K cut0).1 = true) (n a : Nat) : reachS (cutC X K) X.ls n a = reachR K X.ls n a := by
  refine reach_eq (fun j hj => ?_) n a
  unfold cutC
  rw [cutGo_get h24 (by simp [cut0]) h j]
  have : cut0.getD j false = false := by
    simp only [cut0, List.getD_eq_getElem?_getD, List.getElem?_replicate]
    split <;> rfl
  rw [this]; rfl
/-- A contract about a topology and a cut, at other names. -/
def ρc (c : Nat) : Nat → Nat
  | 2 => c
  | b => b
def V20b (X : Cx) (K : List Int) (c : Nat) : List (Nat × List Value) := [(0, X.st), (1, X.lk), (c, ic K)]
theorem Cx.at20 {X : Cx} {K : List Int} {f : FuncId} {q : Int} {e : Nat} {v v' : Value} {new new' : List (Nat × List Value)} {n' nx' : Nat} (h : Memo.Ok Try.prog ⟨f, 3, [X.v, .int .i64 q, cutv 2 K.length e], V20 X K, v, new, n'⟩) (c nx : Nat) (hc : c ≠ 0 ∧ c ≠ 1) (hv : (En.small n' 5 v && inNew 3 n' new) = true) (hns : En.smallH n' new = true)
    (h2 : renV (shift (ρc c) 3 nx) 5 v = v') (h3 : renH (shift (ρc c) 3 nx) new = new') (h4 : nx + (n' - 3) = nx') : Memo.Ok Try.prog ⟨f, nx, [X.v, .int .i64 q, cutv c K.length e], V20b X K c, v', new', nx'⟩ := by
  simp only [Bool.and_eq_true] at hv
  have hr : renV (shift (ρc c) 3 nx) 5 X.v = X.v := by
    show Value.agg ([_, _, _] : List Value).toArray = _
    have h0 : shift (ρc c) 3 nx 0 = 0 := rfl
    have h1 : shift (ρc c) 3 nx 1 = 1 := rfl
    rw [sl_ren X.hsa h0, sl_ren X.hsb h1]
    rfl
  have hb : below 3 (V20 X K) = true := by kernel_rfl
  have := memo_ren h (ρc c) nx (V20b X K c) (by simp only [En.smallL, X.small (by omega : 2 ≤ 3), hb, hv.1, hv.2, Bool.true_and, Bool.and_true]; rfl) (V20_smallH X K 3) hns (fun b cs hb => by
    by_cases h0 : 0 = b
    · subst h0
      simp [V20, V20b, roHp, Hp.get, ρc] at hb ⊢
      subst hb
      exact (renV_avL X.avs).symm
    · by_cases h1 : 1 = b
      · subst h1
        simp [V20, V20b, roHp, Hp.get, ρc] at hb ⊢
        subst hb
        exact (renV_avL X.avk).symm
      · by_cases h2 : 2 = b
        · subst h2
          simp [V20, V20b, roHp, Hp.get, ρc, Ne.symm hc.1, Ne.symm hc.2] at hb ⊢
          subst hb
          exact (renV_avL (ic_av K)).symm
        · simp [V20, roHp, Hp.get, h0, h1, h2] at hb)
  simp only [List.map_cons, List.map_nil, hr, h2, h3, h4] at this
  exact this
theorem ren_bc (ρ : Nat → Nat) (k : Nat) (R : List Bool) : renH ρ [(k, bc R)] = [(ρ k, bc R)] := by simp [renH, renV_avL (bc_av R)]
theorem reachE_m (X : Cx) (hd : X.ls.length ≤ X.d) (hd2 : capD X.d) {K : List Int} (hK : K.length ≤ 1000) {e : Nat} {q x : Int} (h : rErr X K q = some x) (c nx : Nat) (hc : c ≠ 0 ∧ c ≠ 1) :
    Memo.Ok Try.prog ⟨18, nx, [X.v, .int .i64 q, cutv c K.length e], V20b X K c, .tuple #[.slice none 0 0, .int .i64 x], [], nx⟩ :=
  Cx.at20 (reachE_0 X hd hd2 hK h) c nx hc (by kernel_rfl) rfl rfl rfl rfl
theorem reachY_m (X : Cx) (hd : X.ls.length ≤ X.d) (hd2 : capD X.d) {K : List Int} (hK : K.length ≤ 1000) {e : Nat} {q : Int} (h : rErr X K q = none) (c nx : Nat) (hc : c ≠ 0 ∧ c ≠ 1) :
    Memo.Ok Try.prog ⟨18, nx, [X.v, .int .i64 q, cutv c K.length e], V20b X K c, .tuple #[.slice (some ⟨nx + 5, 0, none⟩) X.S.length X.S.length, .int .i64 0], [(nx + 5, bc (reachS (cutC X K) X.ls X.S.length q.toNat))], nx + 6⟩ :=
  Cx.at20 (reachY_0 X hd hd2 hK h).2.2 c nx hc (by kernel_rfl) (by simp [En.smallH, small_avL (bc_av _)]) rfl (ren_bc _ _ _) rfl
theorem reachR_m (X : Cx) {K : List Int} (hK : K.length ≤ 1000) {e a : Nat} (hN : X.N = X.S.length) (he : ∀ l ∈ X.ls, Ends X.S.length l) (ha : a < X.S.length) (c nx : Nat) (hc : c ≠ 0 ∧ c ≠ 1) :
    Memo.Ok Try.prog ⟨20, nx, [X.v, .int .i64 a, cutv c K.length e], V20b X K c, .slice (some ⟨nx + 1, 0, none⟩) X.S.length X.S.length, [(nx + 1, bc (reachR K X.ls X.S.length a))], nx + 2⟩ :=
  Cx.at20 (reachR_0 X hK (.inr rfl) hN he ha) c nx hc (by kernel_rfl) (by simp [En.smallH, small_avL (bc_av _)]) rfl (ren_bc _ _ _) rfl
/-- The cells of a slice of ints. -/
theorem src_i {H : Hp} {b k e : Nat} {K0 : List Int} {ro : Bool} (hb : H.get b = some (.cells (ic K0) ro)) (hk : k ≤ K0.length) : srcCells H 1 (.slice (some ⟨b, 0, none⟩) k e) = some (k, ic (K0.take k)) := by
  by_cases h0 : k = 0
  · subst h0; rfl
  · have hl : 0 + k * 1 ≤ (ic K0).length := by simp [ic]; omega
    simp only [srcCells, h0, if_false, hb, hl, if_true]
    simp [ic]
theorem i3 : ∃ inf z, Try.prog.info? 3 = some inf ∧ inf.size = 1 ∧ inf.bytes = 8 ∧ inf.zero = some z ∧ z.cells.size = 1 := by
  have hi : (Try.prog.info? 3).map (fun i => (i.size, i.bytes, i.zero.map (·.cells.size))) = some (1, 8, some 1) := by kernel_rfl
  cases he : Try.prog.info? 3 with
  | none => rw [he] at hi; cases hi
  | some inf =>
    rw [he] at hi
    simp only [Option.map_some, Option.some.injEq, Prod.mk.injEq] at hi
    obtain ⟨h1, h2, h3⟩ := hi
    cases hz : inf.zero with
    | none => rw [hz] at h3; cases h3
    | some z => rw [hz] at h3; exact ⟨inf, z, rfl, h1, h2, hz, by simpa using h3⟩
def oc1 : Nat := openCap + 1
theorem app_i {b k e : Nat} {K0 : List Int} (h0 : 0 < k) (hk : k ≤ K0.length) (h1000 : k ≤ 1000) :
    Hint.Ok Try.prog (.app [28, 28] 28 [.slice (some ⟨4, 0, none⟩) 0 0, .slice (some ⟨b, 0, none⟩) k e] [(4, []), (b, ic K0)] none k oc1 (ic (K0.take k))) := by
  intro H nx hV _
  obtain ⟨inf, z, h1, h2, h3, h4, h5⟩ := i3
  obtain ⟨r2, g2⟩ := hV b (ic K0) (by simp)
  have e2 := src_i (e := e) g2 hk
  have hne : ¬ (k = 0) := by omega
  have hnc : ¬ (openCap ≤ 0) := by simp [openCap]
  have hml : k ≤ maxLen := by unfold maxLen; omega
  have hby : k * 8 ≤ 140737488355328 := by omega
  have e1 : srcCells H 1 (.slice (some ⟨4, 0, none⟩) 0 0) = some (0, []) := rfl
  simp only [doBuiltin, if_true, doAppend, u28, h1, h2, h3, h4, e2, h5, e1, hne, h0, hml, hby, hnc, if_false, and_self, false_imp_iff, Nat.zero_lt_one, delO, oc1, List.nil_append, Nat.zero_add]
def T4 (cb ck : Nat) (K : List Int) (q : Int) (rv : Value) (er : Int) (b : Bool) (j : Int) : List Value := [J, .int .i64 q, cutv cb K.length ck, pt 3, J, J, .bool false, rv, .int .i64 er, .bool b] ++ List.replicate 38 J ++ [cutv cb K.length ck, .int .i64 K.length, .int .i64 j] ++ List.replicate 34 J
def TO4 (cb ck : Nat) (K : List Int) (q : Int) (rv : Value) (er : Int) (b : Bool) : List Value := [J, .int .i64 q, cutv cb K.length ck, pt 3, J, J, .bool false, rv, .int .i64 er, .bool b] ++ List.replicate 75 J
def H4 (X : Cx) (cb : Nat) (K : List Int) : Hp := [(3, .cells X.cells false), (cb, .cells (ic K) false)]
def accK (m : Nat) (b : Bool) : List Int → Bool
  | [] => b
  | x :: r => accK m (b || badK m x) r
theorem accK_eq (m : Nat) : ∀ (K : List Int) (b : Bool), accK m b K = (b || K.any (badK m))
  | [], b => by simp [accK]
  | x :: r, b => by rw [accK, accK_eq m r, List.any_cons, Bool.or_assoc]

theorem H4_below_4_9 (X : Cx) (K : List Int) : hpBelow 9 (H4 X 4 K) = true := by
  have a1 : tidyB 9 (.cells X.cells false) = true := X.smallL (by omega) 5
  have a2 : tidyB 9 (.cells (ic K) false) = true := small_avL (ic_av K)
  simp [H4, hpBelow, a1, a2]
theorem b_go_4_9 (X : Cx) {K : List Int} {ck j : Nat} {q er : Int} {b : Bool} (hj : j < K.length) :
    CodeOk Try.prog none (lp Try.prog 4 9) (T4 4 ck K q (.slice none 0 0) er b j) [] (H4 X 4 K) 9 ⟨.normal, T4 4 ck K q (.slice none 0 0) er (b || badK X.ls.length (K.getD j 0)) (IntKind.i64.wrap (j + 1)), [], H4 X 4 K, 9⟩ := by
  have i1 : doIndexAddr Try.prog 28 (cutv 4 K.length ck) (.int .i64 j) = _ := ix_i hj
  have l1 := ld_i (b := 4) (ro := false) hj
  unfold badK
  generalize K.getD j 0 = x at l1
  have key : ∀ p1 p2, decide (x < 0) = p1 → decide (x ≥ X.ls.length) = p2 → CodeOk Try.prog none (lp Try.prog 4 9) (T4 4 ck K q (.slice none 0 0) er b j) [] (H4 X 4 K) 9 ⟨.normal, T4 4 ck K q (.slice none 0 0) er (b || (p1 || p2)) (IntKind.i64.wrap (j + 1)), [], H4 X 4 K, 9⟩ := by
    intro p1 p2 h1 h2
    cases b <;> cases p1 <;> cases p2 <;>
      exact code_at (hs := [(51, .val (.bool (decide ((j : Int) < K.length))) (.bool true)), (52, .ix 28 (cutv 4 K.length ck) (.int .i64 j) _), (53, .ld 3 _ 4 (ic K) false _), (57, .val (.bool (decide (x < 0))) (.bool _)), (64, .val (.bool (decide (x ≥ X.ls.length))) (.bool _))]) (ch := []) (evk 50) special ⟨congrArg Value.bool (decide_eq_true (by omega)), i1, ⟨l1, _, rfl⟩, congrArg Value.bool h1, congrArg Value.bool h2, trivial⟩ trivial (by kernel_rfl) (H4_below_4_9 X K) (H4_below_4_9 X K) (by kernel_rfl)
  exact key _ _ rfl rfl
theorem b_loop_4_9 (X : Cx) {K : List Int} (hK : K.length ≤ 1000) {ck : Nat} {q er : Int} : ∀ (k j : Nat) (b : Bool), j + k = K.length → LoopOk Try.prog none (lp Try.prog 4 9) (T4 4 ck K q (.slice none 0 0) er b j) [] (H4 X 4 K) 9 ⟨.exit 0, TO4 4 ck K q (.slice none 0 0) er (accK X.ls.length b (K.drop j)), [], H4 X 4 K, 9⟩
  | 0, j, b, h => by
    have : j = K.length := by omega
    subst this
    rw [List.drop_length]
    exact loopOk_out (code_at (R := ⟨.exit 0, TO4 4 ck K q (.slice none 0 0) er b, [], H4 X 4 K, 9⟩) (hs := [(51, .val (.bool (decide ((K.length : Int) < K.length))) (.bool false))]) (ch := []) (evk 50) special ⟨congrArg Value.bool (decide_eq_false (by omega)), trivial⟩ trivial (by kernel_rfl) (H4_below_4_9 X K) (H4_below_4_9 X K) (by kernel_rfl)) (by show Exit.exit 0 ≠ Exit.normal; simp)
  | k + 1, j, b, h => by
    have hlt : j < K.length := by omega
    have hg : K.getD j 0 = K[j] := by simp [List.getD_eq_getElem?_getD, hlt]
    have h1 := b_go_4_9 X (ck := ck) (q := q) (er := er) (b := b) hlt
    rw [hg, show (j : Int) + 1 = ((j + 1 : Nat) : Int) by push_cast; rfl, wrap_nat (by omega)] at h1
    rw [List.drop_eq_getElem_cons hlt]
    exact loop_step h1 (b_loop_4_9 X hK k (j + 1) _ (by omega))
termination_by k => k
theorem H4_below_4_15 (X : Cx) (K : List Int) : hpBelow 15 (H4 X 4 K) = true := by
  have a1 : tidyB 15 (.cells X.cells false) = true := X.smallL (by omega) 5
  have a2 : tidyB 15 (.cells (ic K) false) = true := small_avL (ic_av K)
  simp [H4, hpBelow, a1, a2]
theorem b_go_4_15 (X : Cx) {K : List Int} {ck j : Nat} {n : Nat} {q er : Int} {b : Bool} (hj : j < K.length) :
    CodeOk Try.prog none (lp Try.prog 4 9) (T4 4 ck K q (.slice (some ⟨13, 0, none⟩) n n) er b j) [] (H4 X 4 K) 15 ⟨.normal, T4 4 ck K q (.slice (some ⟨13, 0, none⟩) n n) er (b || badK X.ls.length (K.getD j 0)) (IntKind.i64.wrap (j + 1)), [], H4 X 4 K, 15⟩ := by
  have i1 : doIndexAddr Try.prog 28 (cutv 4 K.length ck) (.int .i64 j) = _ := ix_i hj
  have l1 := ld_i (b := 4) (ro := false) hj
  unfold badK
  generalize K.getD j 0 = x at l1
  have key : ∀ p1 p2, decide (x < 0) = p1 → decide (x ≥ X.ls.length) = p2 → CodeOk Try.prog none (lp Try.prog 4 9) (T4 4 ck K q (.slice (some ⟨13, 0, none⟩) n n) er b j) [] (H4 X 4 K) 15 ⟨.normal, T4 4 ck K q (.slice (some ⟨13, 0, none⟩) n n) er (b || (p1 || p2)) (IntKind.i64.wrap (j + 1)), [], H4 X 4 K, 15⟩ := by
    intro p1 p2 h1 h2
    cases b <;> cases p1 <;> cases p2 <;>
      exact code_at (hs := [(51, .val (.bool (decide ((j : Int) < K.length))) (.bool true)), (52, .ix 28 (cutv 4 K.length ck) (.int .i64 j) _), (53, .ld 3 _ 4 (ic K) false _), (57, .val (.bool (decide (x < 0))) (.bool _)), (64, .val (.bool (decide (x ≥ X.ls.length))) (.bool _))]) (ch := []) (evk 50) special ⟨congrArg Value.bool (decide_eq_true (by omega)), i1, ⟨l1, _, rfl⟩, congrArg Value.bool h1, congrArg Value.bool h2, trivial⟩ trivial (by kernel_rfl) (H4_below_4_15 X K) (H4_below_4_15 X K) (by kernel_rfl)
  exact key _ _ rfl rfl
theorem b_loop_4_15 (X : Cx) {K : List Int} (hK : K.length ≤ 1000) {ck : Nat} {n : Nat} {q er : Int} : ∀ (k j : Nat) (b : Bool), j + k = K.length → LoopOk Try.prog none (lp Try.prog 4 9) (T4 4 ck K q (.slice (some ⟨13, 0, none⟩) n n) er b j) [] (H4 X 4 K) 15 ⟨.exit 0, TO4 4 ck K q (.slice (some ⟨13, 0, none⟩) n n) er (accK X.ls.length b (K.drop j)), [], H4 X 4 K, 15⟩
  | 0, j, b, h => by
    have : j = K.length := by omega
    subst this
    rw [List.drop_length]
    exact loopOk_out (code_at (R := ⟨.exit 0, TO4 4 ck K q (.slice (some ⟨13, 0, none⟩) n n) er b, [], H4 X 4 K, 15⟩) (hs := [(51, .val (.bool (decide ((K.length : Int) < K.length))) (.bool false))]) (ch := []) (evk 50) special ⟨congrArg Value.bool (decide_eq_false (by omega)), trivial⟩ trivial (by kernel_rfl) (H4_below_4_15 X K) (H4_below_4_15 X K) (by kernel_rfl)) (by show Exit.exit 0 ≠ Exit.normal; simp)
  | k + 1, j, b, h => by
    have hlt : j < K.length := by omega
    have hg : K.getD j 0 = K[j] := by simp [List.getD_eq_getElem?_getD, hlt]
    have h1 := b_go_4_15 X (ck := ck) (n := n) (q := q) (er := er) (b := b) hlt
    rw [hg, show (j : Int) + 1 = ((j + 1 : Nat) : Int) by push_cast; rfl, wrap_nat (by omega)] at h1
    rw [List.drop_eq_getElem_cons hlt]
    exact loop_step h1 (b_loop_4_15 X hK k (j + 1) _ (by omega))
termination_by k => k
theorem H4_below_7_9 (X : Cx) (K : List Int) : hpBelow 9 (H4 X 7 K) = true := by
  have a1 : tidyB 9 (.cells X.cells false) = true := X.smallL (by omega) 5
  have a2 : tidyB 9 (.cells (ic K) false) = true := small_avL (ic_av K)
  simp [H4, hpBelow, a1, a2]
theorem b_go_7_9 (X : Cx) {K : List Int} {ck j : Nat} {q er : Int} {b : Bool} (hj : j < K.length) :
    CodeOk Try.prog none (lp Try.prog 4 9) (T4 7 ck K q (.slice none 0 0) er b j) [] (H4 X 7 K) 9 ⟨.normal, T4 7 ck K q (.slice none 0 0) er (b || badK X.ls.length (K.getD j 0)) (IntKind.i64.wrap (j + 1)), [], H4 X 7 K, 9⟩ := by
  have i1 : doIndexAddr Try.prog 28 (cutv 7 K.length ck) (.int .i64 j) = _ := ix_i hj
  have l1 := ld_i (b := 7) (ro := false) hj
  unfold badK
  generalize K.getD j 0 = x at l1
  have key : ∀ p1 p2, decide (x < 0) = p1 → decide (x ≥ X.ls.length) = p2 → CodeOk Try.prog none (lp Try.prog 4 9) (T4 7 ck K q (.slice none 0 0) er b j) [] (H4 X 7 K) 9 ⟨.normal, T4 7 ck K q (.slice none 0 0) er (b || (p1 || p2)) (IntKind.i64.wrap (j + 1)), [], H4 X 7 K, 9⟩ := by
    intro p1 p2 h1 h2
    cases b <;> cases p1 <;> cases p2 <;>
      exact code_at (hs := [(51, .val (.bool (decide ((j : Int) < K.length))) (.bool true)), (52, .ix 28 (cutv 7 K.length ck) (.int .i64 j) _), (53, .ld 3 _ 7 (ic K) false _), (57, .val (.bool (decide (x < 0))) (.bool _)), (64, .val (.bool (decide (x ≥ X.ls.length))) (.bool _))]) (ch := []) (evk 50) special ⟨congrArg Value.bool (decide_eq_true (by omega)), i1, ⟨l1, _, rfl⟩, congrArg Value.bool h1, congrArg Value.bool h2, trivial⟩ trivial (by kernel_rfl) (H4_below_7_9 X K) (H4_below_7_9 X K) (by kernel_rfl)
  exact key _ _ rfl rfl
theorem b_loop_7_9 (X : Cx) {K : List Int} (hK : K.length ≤ 1000) {ck : Nat} {q er : Int} : ∀ (k j : Nat) (b : Bool), j + k = K.length → LoopOk Try.prog none (lp Try.prog 4 9) (T4 7 ck K q (.slice none 0 0) er b j) [] (H4 X 7 K) 9 ⟨.exit 0, TO4 7 ck K q (.slice none 0 0) er (accK X.ls.length b (K.drop j)), [], H4 X 7 K, 9⟩
  | 0, j, b, h => by
    have : j = K.length := by omega
    subst this
    rw [List.drop_length]
    exact loopOk_out (code_at (R := ⟨.exit 0, TO4 7 ck K q (.slice none 0 0) er b, [], H4 X 7 K, 9⟩) (hs := [(51, .val (.bool (decide ((K.length : Int) < K.length))) (.bool false))]) (ch := []) (evk 50) special ⟨congrArg Value.bool (decide_eq_false (by omega)), trivial⟩ trivial (by kernel_rfl) (H4_below_7_9 X K) (H4_below_7_9 X K) (by kernel_rfl)) (by show Exit.exit 0 ≠ Exit.normal; simp)
  | k + 1, j, b, h => by
    have hlt : j < K.length := by omega
    have hg : K.getD j 0 = K[j] := by simp [List.getD_eq_getElem?_getD, hlt]
    have h1 := b_go_7_9 X (ck := ck) (q := q) (er := er) (b := b) hlt
    rw [hg, show (j : Int) + 1 = ((j + 1 : Nat) : Int) by push_cast; rfl, wrap_nat (by omega)] at h1
    rw [List.drop_eq_getElem_cons hlt]
    exact loop_step h1 (b_loop_7_9 X hK k (j + 1) _ (by omega))
termination_by k => k
theorem H4_below_7_15 (X : Cx) (K : List Int) : hpBelow 15 (H4 X 7 K) = true := by
  have a1 : tidyB 15 (.cells X.cells false) = true := X.smallL (by omega) 5
  have a2 : tidyB 15 (.cells (ic K) false) = true := small_avL (ic_av K)
  simp [H4, hpBelow, a1, a2]
theorem b_go_7_15 (X : Cx) {K : List Int} {ck j : Nat} {n : Nat} {q er : Int} {b : Bool} (hj : j < K.length) :
    CodeOk Try.prog none (lp Try.prog 4 9) (T4 7 ck K q (.slice (some ⟨13, 0, none⟩) n n) er b j) [] (H4 X 7 K) 15 ⟨.normal, T4 7 ck K q (.slice (some ⟨13, 0, none⟩) n n) er (b || badK X.ls.length (K.getD j 0)) (IntKind.i64.wrap (j + 1)), [], H4 X 7 K, 15⟩ := by
  have i1 : doIndexAddr Try.prog 28 (cutv 7 K.length ck) (.int .i64 j) = _ := ix_i hj
  have l1 := ld_i (b := 7) (ro := false) hj
  unfold badK
  generalize K.getD j 0 = x at l1
  have key : ∀ p1 p2, decide (x < 0) = p1 → decide (x ≥ X.ls.length) = p2 → CodeOk Try.prog none (lp Try.prog 4 9) (T4 7 ck K q (.slice (some ⟨13, 0, none⟩) n n) er b j) [] (H4 X 7 K) 15 ⟨.normal, T4 7 ck K q (.slice (some ⟨13, 0, none⟩) n n) er (b || (p1 || p2)) (IntKind.i64.wrap (j + 1)), [], H4 X 7 K, 15⟩ := by
    intro p1 p2 h1 h2
    cases b <;> cases p1 <;> cases p2 <;>
      exact code_at (hs := [(51, .val (.bool (decide ((j : Int) < K.length))) (.bool true)), (52, .ix 28 (cutv 7 K.length ck) (.int .i64 j) _), (53, .ld 3 _ 7 (ic K) false _), (57, .val (.bool (decide (x < 0))) (.bool _)), (64, .val (.bool (decide (x ≥ X.ls.length))) (.bool _))]) (ch := []) (evk 50) special ⟨congrArg Value.bool (decide_eq_true (by omega)), i1, ⟨l1, _, rfl⟩, congrArg Value.bool h1, congrArg Value.bool h2, trivial⟩ trivial (by kernel_rfl) (H4_below_7_15 X K) (H4_below_7_15 X K) (by kernel_rfl)
  exact key _ _ rfl rfl
theorem b_loop_7_15 (X : Cx) {K : List Int} (hK : K.length ≤ 1000) {ck : Nat} {n : Nat} {q er : Int} : ∀ (k j : Nat) (b : Bool), j + k = K.length → LoopOk Try.prog none (lp Try.prog 4 9) (T4 7 ck K q (.slice (some ⟨13, 0, none⟩) n n) er b j) [] (H4 X 7 K) 15 ⟨.exit 0, TO4 7 ck K q (.slice (some ⟨13, 0, none⟩) n n) er (accK X.ls.length b (K.drop j)), [], H4 X 7 K, 15⟩
  | 0, j, b, h => by
    have : j = K.length := by omega
    subst this
    rw [List.drop_length]
    exact loopOk_out (code_at (R := ⟨.exit 0, TO4 7 ck K q (.slice (some ⟨13, 0, none⟩) n n) er b, [], H4 X 7 K, 15⟩) (hs := [(51, .val (.bool (decide ((K.length : Int) < K.length))) (.bool false))]) (ch := []) (evk 50) special ⟨congrArg Value.bool (decide_eq_false (by omega)), trivial⟩ trivial (by kernel_rfl) (H4_below_7_15 X K) (H4_below_7_15 X K) (by kernel_rfl)) (by show Exit.exit 0 ≠ Exit.normal; simp)
  | k + 1, j, b, h => by
    have hlt : j < K.length := by omega
    have hg : K.getD j 0 = K[j] := by simp [List.getD_eq_getElem?_getD, hlt]
    have h1 := b_go_7_15 X (ck := ck) (n := n) (q := q) (er := er) (b := b) hlt
    rw [hg, show (j : Int) + 1 = ((j + 1 : Nat) : Int) by push_cast; rfl, wrap_nat (by omega)] at h1
    rw [List.drop_eq_getElem_cons hlt]
    exact loop_step h1 (b_loop_7_15 X hK k (j + 1) _ (by omega))
termination_by k => k
end Go.Proofs.Ytkngbmaomgfcjaa.topo
