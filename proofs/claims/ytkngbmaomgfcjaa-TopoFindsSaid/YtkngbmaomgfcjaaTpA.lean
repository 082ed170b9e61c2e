/- Contracts of the topology's small functions. -/
import Derived.Test.YtkngbmaomgfcjaaRows
import Derived.Test.YtkngbmaomgfcjaaEnOK
import Derived.WalkKit
namespace Go.Proofs.Ytkngbmaomgfcjaa.topo
open Go Go.En
set_option linter.unusedVariables false

theorem special : NoSpecial Try.prog := noSpecial_of (by kernel_rfl)
theorem evk (n : Nat) : (ev Try.prog n).Ok Try.prog := ev_ok special n

structure Lk where
  a : Int
  b : Int
  per : Int
  dl : Int
def Lk.cells (x : Lk) : List Value := [.int .i64 x.a, .int .i64 x.b, .int .i64 x.per, .int .i64 x.dl]
def Lk.v (x : Lk) : Value := .agg ⟨x.cells⟩
/-- A topology: its value, and the blocks of its lists. -/
structure Cx where
  N : Int
  sa : Option Addr
  c : Nat
  sb : Option Addr
  d : Nat
  st : List Value
  lk : List Value
  S : List Bool
  ls : List Lk
  hst : ∀ (i : Nat) b, S[i]? = some b → st[0 + i * 1]? = some (.bool b)
  hlk : ∀ (i : Nat) l, ls[i]? = some l → ∀ (j : Nat) v, l.cells[j]? = some v → lk[0 + i * 4 + j]? = some v
  hsa : Sl 0 S.length sa
  hsb : Sl 1 ls.length sb
  avs : avL st = true
  avk : avL lk = true
  hS : S.length ≤ 1000
  hL : ls.length ≤ 1000
def tc (N : Int) (sa : Option Addr) (n c : Nat) (sb : Option Addr) (m d : Nat) : List Value := [.int .i64 N, .slice sa n c, .slice sb m d]
def Cx.cells (X : Cx) : List Value := tc X.N X.sa X.S.length X.c X.sb X.ls.length X.d
def Cx.v (X : Cx) : Value := .agg ⟨X.cells⟩
def Cx.V (X : Cx) : List (Nat × List Value) := [(0, X.st), (1, X.lk)]
theorem sl_small {b n c k : Nat} {sa : Option Addr} (h : Sl b n sa) (hb : b < k) (m : Nat) : small k m (.slice sa n c) = true := by
  rcases h with ⟨rfl, _⟩ | rfl <;> cases m <;> simp [small, hb]
theorem Cx.smallL (X : Cx) {k : Nat} (hk : 2 ≤ k) (m : Nat) : smallL (small k m) X.cells = true := by
  simp only [Cx.cells, tc, En.smallL, sl_small X.hsa (by omega : 0 < k), sl_small X.hsb (by omega : 1 < k), Bool.and_true]
  cases m <;> rfl
theorem Cx.small (X : Cx) {k : Nat} (hk : 2 ≤ k) : small k 5 X.v = true := X.smallL hk 4
theorem Cx.smallH (X : Cx) (k : Nat) : smallH k X.V = true := by simp [En.smallH, Cx.V, small_avL X.avs, small_avL X.avk]
theorem Cx.hV (X : Cx) {rest : List Value} {v : Value} (h : (En.smallL (En.small 2 5) rest && En.small 2 5 v) = true) : (nodupN (roHp X.V) && below 2 X.V && En.smallL (En.small 2 5) (X.v :: rest) && En.small 2 5 v) = true := by
  simp only [Bool.and_eq_true] at h
  have h1 : (nodupN (roHp X.V) && below 2 X.V) = true := by kernel_rfl
  simp only [h1, En.smallL, X.small (Nat.le_refl 2), h.1, h.2, Bool.and_self]
theorem sl_ren {b n c : Nat} {sa : Option Addr} (h : Sl b n sa) {ρ : Nat → Nat} (hb : ρ b = b) (m : Nat) : renV ρ m (.slice sa n c) = .slice sa n c := by
  rcases h with ⟨rfl, _⟩ | rfl <;> cases m <;> simp [renV, hb]
theorem Cx.ren (X : Cx) (nx : Nat) : renV (shift (fun b => b) 2 nx) 5 X.v = X.v := by
  show Value.agg ([_, _, _] : List Value).toArray = _
  have h0 : shift (fun b => b) 2 nx 0 = 0 := rfl
  have h1 : shift (fun b => b) 2 nx 1 = 1 := rfl
  rw [sl_ren X.hsa h0, sl_ren X.hsb h1]
  rfl
/-- A contract about a topology, at other new names. -/
theorem Cx.at {X : Cx} {f : FuncId} {rest : List Value} {v : Value} (h : Memo.Ok Try.prog ⟨f, 2, X.v :: rest, X.V, v, [], 2⟩) (nx : Nat) (hc : (En.smallL (En.small 2 5) rest && En.small 2 5 v) = true)
    (h1 : rest.map (renV (shift (fun b => b) 2 nx) 5) = rest) (h2 : renV (shift (fun b => b) 2 nx) 5 v = v) : Memo.Ok Try.prog ⟨f, nx, X.v :: rest, X.V, v, [], nx⟩ := by
  simp only [Bool.and_eq_true] at hc
  have hb : below 2 X.V = true := by kernel_rfl
  have := memo_ren h (fun b => b) nx X.V (by simp only [En.smallL, X.small (Nat.le_refl 2), hc.1, hc.2, hb, inNew, Bool.and_self]) (X.smallH 2) rfl (fun b cs hb => by
    by_cases h0 : 0 = b
    · subst h0
      simp [Cx.V, roHp, Hp.get] at hb ⊢
      subst hb
      exact (renV_avL X.avs).symm
    · by_cases h1 : 1 = b
      · subst h1
        simp [Cx.V, roHp, Hp.get] at hb ⊢
        subst hb
        exact (renV_avL X.avk).symm
      · simp [Cx.V, roHp, Hp.get, h0, h1] at hb)
  simpa [X.ren, h1, h2, renH] using this

def nodeS (N n : Int) : Bool := decide (n ≥ 0) && decide (n < N)
theorem node_0 (X : Cx) (n : Int) {f : FuncId} (hf : f = 43 ∨ f = 61) : Memo.Ok Try.prog ⟨f, 2, [X.v, .int .i64 n], X.V, .bool (nodeS X.N n), [], 2⟩ := by
  have key : ∀ p, decide (n ≥ 0) = p → Memo.Ok Try.prog ⟨f, 2, [X.v, .int .i64 n], X.V, .bool (p && decide (n < X.N)), [], 2⟩ := by
    intro p hp
    rcases hf with rfl | rfl <;> cases p <;>
      exact memo_pure (hs := [(6, .val (.bool (decide (n ≥ 0))) (.bool _))]) (ch := []) 3 (evk 50) special ⟨congrArg Value.bool hp, trivial⟩ trivial (X.hV rfl) (X.smallH 2) (by kernel_rfl)
  exact key _ rfl
theorem node_m (X : Cx) (n : Int) {p : Bool} (h : nodeS X.N n = p) (nx : Nat) : Memo.Ok Try.prog ⟨43, nx, [X.v, .int .i64 n], X.V, .bool p, [], nx⟩ :=
  Cx.at (h ▸ node_0 X n (.inl rfl)) nx rfl rfl rfl
theorem nodeR_m (X : Cx) (n : Int) {p : Bool} (h : nodeS X.N n = p) (nx : Nat) : Memo.Ok Try.prog ⟨61, nx, [X.v, .int .i64 n], X.V, .bool p, [], nx⟩ :=
  Cx.at (h ▸ node_0 X n (.inr rfl)) nx rfl rfl rfl
def joinsS (l : Lk) (a b : Int) : Bool := (l.a == a && l.b == b) || (l.a == b && l.b == a)
theorem joins_0 (l : Lk) (a b : Int) : Memo.Ok Try.prog ⟨46, 0, [l.v, .int .i64 a, .int .i64 b], [], .bool (joinsS l a b), [], 0⟩ := by
  obtain ⟨x, y, p, q⟩ := l
  have key : ∀ p1 p2 p3 p4, (x == a) = p1 → (y == b) = p2 → (x == b) = p3 → (y == a) = p4 → Memo.Ok Try.prog ⟨46, 0, [Lk.v ⟨x, y, p, q⟩, .int .i64 a, .int .i64 b], [], .bool ((p1 && p2) || (p3 && p4)), [], 0⟩ := by
    intro p1 p2 p3 p4 h1 h2 h3 h4
    cases p1 <;> cases p2 <;> cases p3 <;> cases p4 <;>
      exact memo_pure (hs := [(10, .val (.bool (x == a)) (.bool _)), (15, .val (.bool (y == b)) (.bool _)), (21, .val (.bool (x == b)) (.bool _)), (26, .val (.bool (y == a)) (.bool _))]) (ch := []) 1 (evk 50) special
        ⟨congrArg Value.bool h1, congrArg Value.bool h2, congrArg Value.bool h3, congrArg Value.bool h4, trivial⟩ trivial (by kernel_rfl) rfl (by kernel_rfl)
  exact key _ _ _ _ rfl rfl rfl rfl
theorem joins_m (l : Lk) (a b : Int) {p : Bool} (h : joinsS l a b = p) (nx : Nat) : Memo.Ok Try.prog ⟨46, nx, [l.v, .int .i64 a, .int .i64 b], [], .bool p, [], nx⟩ :=
  memo_any (h ▸ joins_0 l a b) nx (by kernel_rfl) rfl rfl
end Go.Proofs.Ytkngbmaomgfcjaa.topo
