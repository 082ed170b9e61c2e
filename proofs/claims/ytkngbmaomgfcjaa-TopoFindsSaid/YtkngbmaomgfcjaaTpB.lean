/- Contracts: the reference's link, few, the four checks of a link. -/
import Derived.Test.YtkngbmaomgfcjaaTpA
namespace Go.Proofs.Ytkngbmaomgfcjaa.topo
open Go Go.En
set_option linter.unusedVariables false

def J : Value := junk
def pt (b : Nat) : Value := .pointer (some ⟨b, 0, none⟩)
theorem u22 : Try.prog.underlying 22 = some (.slice 4) := by kernel_rfl
theorem u23 : Try.prog.underlying 23 = some (.slice 50) := by kernel_rfl
theorem u28 : Try.prog.underlying 28 = some (.slice 3) := by kernel_rfl
theorem z4 : szIs Try.prog 4 1 false = true := by kernel_rfl
theorem z3 : szIs Try.prog 3 1 false = true := by kernel_rfl
theorem z50 : szIs Try.prog 50 (3 + 1) true = true := by kernel_rfl
theorem Cx.ixS (X : Cx) {i : Nat} (h : i < X.S.length) : doIndexAddr Try.prog 22 (.slice X.sa X.S.length X.c) (.int .i64 i) = some (.pointer (some ⟨0, 0 + i * 1, none⟩)) := X.hsa.ix' u22 z4 h
theorem Cx.ixL (X : Cx) {i : Nat} (h : i < X.ls.length) : doIndexAddr Try.prog 23 (.slice X.sb X.ls.length X.d) (.int .i64 i) = some (.pointer (some ⟨1, 0 + i * 4, none⟩)) := X.hsb.ix' u23 z50 h
theorem Cx.ldS (X : Cx) {i : Nat} {b : Bool} (h : X.S[i]? = some b) : doLoad Try.prog [(0, .cells X.st true)] 4 (.pointer (some ⟨0, 0 + i * 1, none⟩)) = some (.bool b) := ld1 z4 (X.hst i b h)
theorem Cx.ldL (X : Cx) {i : Nat} {l : Lk} (h : X.ls[i]? = some l) : doLoad Try.prog [(1, .cells X.lk true)] 50 (.pointer (some ⟨1, 0 + i * 4, none⟩)) = some l.v := ldN z50 rfl (X.hlk i l h)
theorem lt_of {α : Type} {l : List α} {i : Nat} {a : α} (h : l[i]? = some a) : i < l.length := (List.getElem?_eq_some_iff.1 h).1

/-- A topology in a box. -/
def Cx.V3 (X : Cx) : List (Nat × List Value) := [(0, X.st), (1, X.lk), (2, X.cells)]
theorem Cx.smallH3 (X : Cx) {k : Nat} (hk : 2 ≤ k) : En.smallH k X.V3 = true := by
  simp only [En.smallH, Cx.V3, small_avL X.avs, small_avL X.avk, X.smallL hk 5, Bool.and_self]
theorem Cx.renC (X : Cx) (ρ : Nat → Nat) (h0 : ρ 0 = 0) (h1 : ρ 1 = 1) (m : Nat) : X.cells.map (renV ρ m) = X.cells := by
  show [_, _, _] = _
  rw [sl_ren X.hsa h0, sl_ren X.hsb h1]
  cases m <;> rfl
theorem Cx.at3 {X : Cx} {f : FuncId} {args : List Value} {v : Value} (h : Memo.Ok Try.prog ⟨f, 3, args, X.V3, v, [], 3⟩) (nx : Nat) (hc : (En.smallL (En.small 3 5) args && En.small 3 5 v) = true)
    (h1 : args.map (renV (shift (fun b => b) 3 nx) 5) = args) (h2 : renV (shift (fun b => b) 3 nx) 5 v = v) : Memo.Ok Try.prog ⟨f, nx, args, X.V3, v, [], nx⟩ := by
  simp only [Bool.and_eq_true] at hc
  have hb : below 3 X.V3 = true := by kernel_rfl
  have := memo_ren h (fun b => b) nx X.V3 (by simp only [hc.1, hc.2, hb, inNew, Bool.and_self]) (X.smallH3 (by omega)) rfl (fun b cs hb => by
    by_cases h0 : 0 = b
    · subst h0
      simp [Cx.V3, roHp, Hp.get] at hb ⊢
      subst hb
      exact (renV_avL X.avs).symm
    · by_cases h1 : 1 = b
      · subst h1
        simp [Cx.V3, roHp, Hp.get] at hb ⊢
        subst hb
        exact (renV_avL X.avk).symm
      · by_cases h2 : 2 = b
        · subst h2
          simp [Cx.V3, roHp, Hp.get] at hb ⊢
          subst hb
          exact (X.renC _ rfl rfl 5).symm
        · simp [Cx.V3, roHp, Hp.get, h0, h1, h2] at hb)
  simpa [h1, h2, renH] using this

def k1 (N : Int) (l : Lk) : Bool := (nodeS N l.a && nodeS N l.b) && (l.a != l.b)
theorem k1_0 (X : Cx) {i : Nat} {l : Lk} (h : X.ls[i]? = some l) : Memo.Ok Try.prog ⟨62, 3, [.int .i64 i, pt 2], X.V3, .bool (k1 X.N l), [], 3⟩ := by
  have key : ∀ p1 p2, nodeS X.N l.a = p1 → nodeS X.N l.b = p2 → Memo.Ok Try.prog ⟨62, 3, [.int .i64 i, pt 2], X.V3, .bool ((p1 && p2) && (l.a != l.b)), [], 3⟩ := by
    intro p1 p2 h1 h2
    have m1 := node_m X l.a h1 4
    have m2 := node_m X l.b h2 4
    have l0 := X.ldL h
    obtain ⟨a, b, p, q⟩ := l
    cases p1 <;> cases p2 <;>
      exact memo_pure (hs := [(8, .ix 23 (.slice X.sb X.ls.length X.d) (.int .i64 i) _), (9, .ld 50 _ 1 X.lk true _), (13, .call _), (18, .call _)]) (ch := []) 4 (evk 50) special
        ⟨X.ixL (lt_of h), ⟨l0, _, rfl⟩, m1, m2, trivial⟩ trivial (by kernel_rfl) (X.smallH3 (by omega)) (by kernel_rfl)
  exact key _ _ rfl rfl
def k2 (x y : Bool) : Bool := !x || !y
theorem k2_0 (X : Cx) {i a b : Nat} {l : Lk} {x y : Bool} (h : X.ls[i]? = some l) (ha : l.a = a) (hb : l.b = b) (hx : X.S[a]? = some x) (hy : X.S[b]? = some y) : Memo.Ok Try.prog ⟨63, 3, [.int .i64 i, pt 2], X.V3, .bool (k2 x y), [], 3⟩ := by
  have l0 := X.ldL h
  obtain ⟨a', b', p, q⟩ := l
  dsimp only at ha hb
  subst ha
  subst hb
  cases x <;>
    exact memo_pure (hs := [(8, .ix 23 (.slice X.sb X.ls.length X.d) (.int .i64 i) _), (9, .ld 50 _ 1 X.lk true _), (14, .ix 22 (.slice X.sa X.S.length X.c) (.int .i64 a) _), (15, .ld 4 _ 0 X.st true _), (22, .ix 22 (.slice X.sa X.S.length X.c) (.int .i64 b) _), (23, .ld 4 _ 0 X.st true _)]) (ch := []) 4 (evk 50) special
      ⟨X.ixL (lt_of h), ⟨l0, _, rfl⟩, X.ixS (lt_of hx), ⟨X.ldS hx, _, rfl⟩, X.ixS (lt_of hy), ⟨X.ldS hy, _, rfl⟩, trivial⟩ trivial (by kernel_rfl) (X.smallH3 (by omega)) (by kernel_rfl)
def k4 (l : Lk) : Bool := ((decide (l.per ≥ 1) && decide (l.per ≤ 1000)) && decide (l.dl ≥ 0)) && decide (l.dl ≤ 10000)
theorem k4_0 (X : Cx) {i : Nat} {l : Lk} (h : X.ls[i]? = some l) : Memo.Ok Try.prog ⟨65, 3, [.int .i64 i, pt 2], X.V3, .bool (k4 l), [], 3⟩ := by
  have key : ∀ p1 p2 p3, decide (l.per ≥ 1) = p1 → decide (l.per ≤ 1000) = p2 → decide (l.dl ≥ 0) = p3 → Memo.Ok Try.prog ⟨65, 3, [.int .i64 i, pt 2], X.V3, .bool (((p1 && p2) && p3) && decide (l.dl ≤ 10000)), [], 3⟩ := by
    intro p1 p2 p3 h1 h2 h3
    have l0 := X.ldL h
    obtain ⟨a, b, p, q⟩ := l
    cases p1 <;> cases p2 <;> cases p3 <;>
      exact memo_pure (hs := [(8, .ix 23 (.slice X.sb X.ls.length X.d) (.int .i64 i) _), (9, .ld 50 _ 1 X.lk true _), (12, .val (.bool (decide (p ≥ 1))) (.bool _)), (16, .val (.bool (decide (p ≤ 1000))) (.bool _)), (21, .val (.bool (decide (q ≥ 0))) (.bool _))]) (ch := []) 4 (evk 50) special
        ⟨X.ixL (lt_of h), ⟨l0, _, rfl⟩, congrArg Value.bool h1, congrArg Value.bool h2, congrArg Value.bool h3, trivial⟩ trivial (by kernel_rfl) (X.smallH3 (by omega)) (by kernel_rfl)
  exact key _ _ _ rfl rfl rfl
/-- The reference's link. -/
theorem link_bad (X : Cx) {l : Lk} (h : k1 X.N l = false) : Memo.Ok Try.prog ⟨45, 2, [X.v, l.v], X.V, .bool false, [], 2⟩ := by
  have key : ∀ p1 p2 p3, nodeS X.N l.a = p1 → nodeS X.N l.b = p2 → (l.a == l.b) = p3 → (p1 && p2 && !p3) = false → Memo.Ok Try.prog ⟨45, 2, [X.v, l.v], X.V, .bool false, [], 2⟩ := by
    intro p1 p2 p3 h1 h2 h3 h4
    have m1 := nodeR_m X l.a h1 4
    have m2 := nodeR_m X l.b h2 4
    obtain ⟨a, b, p, q⟩ := l
    cases p1 <;> cases p2 <;> cases p3 <;> first
      | (exfalso; revert h4; decide)
      | exact memo_pure (hs := [(8, .call _), (14, .call _), (22, .val (.bool (a == b)) (.bool _))]) (ch := []) 4 (evk 50) special ⟨m1, m2, congrArg Value.bool h3, trivial⟩ trivial (X.hV rfl) (X.smallH 2) (by kernel_rfl)
  exact key _ _ _ rfl rfl rfl h
theorem link_0 (X : Cx) {a b : Nat} {l : Lk} {x y : Bool} (h : k1 X.N l = true) (ha : l.a = a) (hb : l.b = b) (hx : X.S[a]? = some x) (hy : X.S[b]? = some y) : Memo.Ok Try.prog ⟨45, 2, [X.v, l.v], X.V, .bool (k2 x y && k4 l), [], 2⟩ := by
  have key : ∀ p1 p2 p3, decide (l.per ≥ 1) = p1 → decide (l.per ≤ 1000) = p2 → decide (l.dl ≥ 0) = p3 → Memo.Ok Try.prog ⟨45, 2, [X.v, l.v], X.V, .bool (k2 x y && (((p1 && p2) && p3) && decide (l.dl ≤ 10000))), [], 2⟩ := by
    intro p1 p2 p3 h1 h2 h3
    simp only [k1, Bool.and_eq_true] at h
    have m1 := nodeR_m X l.a h.1.1 4
    have m2 := nodeR_m X l.b h.1.2 4
    have h0 : (l.a == l.b) = false := by simpa using h.2
    obtain ⟨a', b', p, q⟩ := l
    dsimp only at ha hb
    subst ha
    subst hb
    cases x <;> cases y <;> cases p1 <;> cases p2 <;> cases p3 <;>
      exact memo_pure (hs := [(8, .call _), (14, .call _), (22, .val (.bool ((a : Int) == (b : Int))) (.bool false)), (29, .ix 22 (.slice X.sa X.S.length X.c) (.int .i64 a) _), (30, .ld 4 _ 0 X.st true _), (36, .ix 22 (.slice X.sa X.S.length X.c) (.int .i64 b) _), (37, .ld 4 _ 0 X.st true _), (42, .val (.bool (decide (p ≥ 1))) (.bool _)), (46, .val (.bool (decide (p ≤ 1000))) (.bool _)), (51, .val (.bool (decide (q ≥ 0))) (.bool _))]) (ch := []) 4 (evk 50) special
        ⟨m1, m2, congrArg Value.bool h0, X.ixS (lt_of hx), ⟨X.ldS hx, _, rfl⟩, X.ixS (lt_of hy), ⟨X.ldS hy, _, rfl⟩, congrArg Value.bool h1, congrArg Value.bool h2, congrArg Value.bool h3, trivial⟩ trivial (X.hV (by kernel_rfl)) (X.smallH 2) (by kernel_rfl)
  exact key _ _ _ rfl rfl rfl
end Go.Proofs.Ytkngbmaomgfcjaa.topo
