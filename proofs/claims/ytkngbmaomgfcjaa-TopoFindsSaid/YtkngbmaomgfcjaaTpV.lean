/- Contract: Ports, the loop and the call. -/
import Derived.Test.YtkngbmaomgfcjaaTpU
import Derived.Test.YtkngbmaomgfcjaaEnON
namespace Go.Proofs.Ytkngbmaomgfcjaa.topo
open Go Go.En
set_option linter.unusedVariables false

def σc (c : Nat) : Nat → Nat := fun b => if b = 9 then c else b
theorem σc_lt {c : Nat} : ∀ b, b < 9 → σc c b = b := fun b hb => by simp only [σc]; rw [if_neg (by omega)]
theorem T61_ren (X : Cx) (c : Nat) (i : Int) : (T61 X i).map (renV (σc c) 5) = T61 X i := by
  have h5 : renV (σc c) 5 (pt 5) = pt 5 := by simp [renV, pt, σc]
  have h7 : renV (σc c) 5 Y7 = Y7 := by simp [renV, Y7, σc]
  rcases X.hsb with ⟨h, _⟩ | h
  · simp only [T61, h, List.cons_append, List.nil_append, List.map_cons, h5, h7]
    rfl
  · simp only [T61, h, List.cons_append, List.nil_append, List.map_cons, h5, h7, renV, σc_lt 1 (by omega)]
    rfl
theorem T61_below (X : Cx) (i : Int) : tmBelow 10 (T61 X i) = true := by
  rcases X.hsb with ⟨h, _⟩ | h
  · simp only [T61, h]
    show _ = true
    kernel_rfl
  · simp only [T61, h]
    show _ = true
    kernel_rfl
theorem G12_fix (X : Cx) (a : Int) (L : List Int) : fixB 9 (G12 Try.prog X a 9 L) = true := by
  have a4 : (En.smallL (En.small 9 5) (L12 Try.prog X a).tmps.toList) = true := by
    have := T12_small X a (n := 9) (by omega)
    show En.smallL (En.small 9 5) (T12 X a).toArray.toList = true
    simpa using this
  have hk : ∀ sv, fixB 9 (K12 Try.prog X a sv) = true := fun sv => by
    show (decide (7 < 9) && En.smallL (En.small 9 5) (L12 Try.prog X a).tmps.toList && decide (6 < 9) && _) = true
    rw [a4]; rfl
  cases L with
  | nil => exact hk _
  | cons x r => exact hk _
theorem G12_nodup (X : Cx) (a : Int) {c : Nat} (hc : c = 9 ∨ c = 13 ∨ c = 14 ∨ c = 16) (L : List Int) : nodupN (G12 Try.prog X a c L) = true := by
  rcases hc with rfl | rfl | rfl | rfl <;> cases L <;> (show _ = true; kernel_rfl)
theorem pg_step (X : Cx) {a : Int} {i j : Int} {L L2 : List Int} {c n2 : Nat} {R : Res} (hc : c = 9 ∨ c = 13 ∨ c = 14 ∨ c = 16) (hn : n2 ≤ 17) (hR : R.nx = 17)
    (h1 : CodeOk Try.prog none (lp Try.prog 60 1) (T61 X i) [] (G12 Try.prog X a 9 L) 10 ⟨.normal, T61 X j, [], G12 Try.prog X a c L2, n2⟩)
    (h2 : LoopL Try.prog 9 none (lp Try.prog 60 1) (T61 X j) [] (G12 Try.prog X a 9 L2) 10 R) : LoopL Try.prog 9 none (lp Try.prog 60 1) (T61 X i) [] (G12 Try.prog X a 9 L) 10 R := by
  have e := G12_ren X a (σ := σc c) σc_lt (c := c) (by simp [σc]) L2
  refine loopL_step (σc c) (n1 := n2) ?_ h2 (by omega) σc_lt ?_ (G12_below X a L2)
  · rw [e, T61_ren]; exact h1
  · rw [e, T61_below, G12_nodup X a hc, G12_fix]; rfl
def twoS (a : Int) (l : Lk) (i : Nat) (L : List Int) : List Int := two2 a l i (two1 a l i L)
theorem pg_go (X : Cx) {a : Int} {i : Nat} {l : Lk} {L : List Int} (hlen : L.length ≤ 800) (hi : X.ls[i]? = some l) :
    ∃ c n2, (c = 9 ∨ c = 13 ∨ c = 14 ∨ c = 16) ∧ n2 ≤ 17 ∧ CodeOk Try.prog none (lp Try.prog 60 1) (T61 X i) [] (G12 Try.prog X a 9 L) 10 ⟨.normal, T61 X (IntKind.i64.wrap (i + 1)), [], G12 Try.prog X a c (twoS a l i L), n2⟩ := by
  unfold twoS two2 two1
  cases h1 : (fromS l (2 * i : Nat) == a) <;> cases h2 : (fromS l (2 * i + 1 : Nat) == a) <;> cases L with
  | nil => first
    | exact ⟨_, _, .inl rfl, by omega, pg_nil_false_false X hi h1 h2⟩
    | exact ⟨_, _, .inr (.inr (.inl rfl)), by omega, pg_nil_false_true X hi h1 h2⟩
    | exact ⟨_, _, .inr (.inl rfl), by omega, pg_nil_true_false X hi h1 h2⟩
    | exact ⟨_, _, .inr (.inr (.inr rfl)), by omega, pg_nil_true_true X hi h1 h2⟩
  | cons x r => first
    | exact ⟨_, _, .inl rfl, by omega, pg_cons_false_false X hlen hi h1 h2⟩
    | exact ⟨_, _, .inr (.inr (.inl rfl)), by omega, pg_cons_false_true X hlen hi h1 h2⟩
    | exact ⟨_, _, .inr (.inl rfl), by omega, pg_cons_true_false X hlen hi h1 h2⟩
    | exact ⟨_, _, .inr (.inr (.inr rfl)), by omega, pg_cons_true_true X hlen hi h1 h2⟩
def TJ61 : List Value := [Y7, pt 5] ++ List.replicate 29 J
theorem pg_out (X : Cx) (a : Int) (L : List Int) : CodeOk Try.prog none (lp Try.prog 60 1) (T61 X X.ls.length) [] (G12 Try.prog X a 9 L) 10 ⟨.exit 0, TJ61, [], G12 Try.prog X a 9 L, 10⟩ := by
  cases L with
  | nil => exact code_k [7, 6, 5, 4, 3, 2, 0, 1] (hs := [(9, .val (.bool (decide ((X.ls.length : Int) < X.ls.length))) (.bool false))]) (ch := []) (evk 50) special ⟨congrArg Value.bool (decide_eq_false (by omega)), trivial⟩ trivial (by kernel_rfl)
  | cons x r => exact code_k [9, 7, 6, 5, 4, 3, 2, 0, 1] (hs := [(9, .val (.bool (decide ((X.ls.length : Int) < X.ls.length))) (.bool false))]) (ch := []) (evk 50) special ⟨congrArg Value.bool (decide_eq_false (by omega)), trivial⟩ trivial (by kernel_rfl)
theorem two_len {a : Int} {l : Lk} {i : Nat} {L : List Int} : (twoS a l i L).length ≤ L.length + 2 := by
  unfold twoS two2 two1
  cases (fromS l (2 * i : Nat) == a) <;> cases (fromS l (2 * i + 1 : Nat) == a) <;> simp <;> omega
def goL (a : Int) : List Lk → Nat → List Int → List Int
  | [], _, L => L
  | l :: r, i, L => goL a r (i + 1) (twoS a l i L)
theorem pg_loop (X : Cx) {a : Int} (h24 : X.ls.length ≤ 24) : ∀ (k i : Nat) (L : List Int), i + k = X.ls.length → L.length ≤ 2 * i →
    LoopL Try.prog 9 none (lp Try.prog 60 1) (T61 X i) [] (G12 Try.prog X a 9 L) 10 ⟨.exit 0, TJ61, [], G12 Try.prog X a 9 (goL a (X.ls.drop i) i L), 17⟩
  | 0, i, L, h, hL => by
    have : i = X.ls.length := by omega
    subst this
    rw [List.drop_length]
    exact loopL_out (pg_out X a L) (by show Exit.exit 0 ≠ Exit.normal; simp) (by omega) (M := 17) (by show 10 ≤ 17; omega)
  | k + 1, i, L, h, hL => by
    have hlt : i < X.ls.length := by omega
    have hi : X.ls[i]? = some X.ls[i] := List.getElem?_eq_getElem hlt
    obtain ⟨c, n2, hc, hn, h1⟩ := pg_go X (a := a) (L := L) (by omega) hi
    rw [List.drop_eq_getElem_cons hlt]
    simp only [goL]
    rw [show (i : Int) + 1 = ((i + 1 : Nat) : Int) by push_cast; rfl, wrap_nat (by omega)] at h1
    have hl := two_len (a := a) (l := X.ls[i]) (i := i) (L := L)
    exact pg_step X hc hn rfl h1 (pg_loop X h24 k (i + 1) _ (by omega) (by omega))
termination_by k => k
theorem ans_eq (X : Cx) {i p : Nat} (hp : p / 2 = i) (hi : i < X.ls.length) : ansAt X 42 p = fromS X.ls[i] p := by
  unfold ansAt
  have : ((p : Int)).toNat / 2 = i := by simpa using hp
  rw [this, ls_getD hi]
  rfl
theorem go_col (X : Cx) (a : Int) : ∀ (k i : Nat) (L : List Int), i + k = X.ls.length → goL a (X.ls.drop i) i L = colS X a (2 * k) (2 * i) L
  | 0, i, L, h => by
    rw [List.drop_eq_nil_of_le (by omega)]
    rfl
  | k + 1, i, L, h => by
    have hlt : i < X.ls.length := by omega
    rw [List.drop_eq_getElem_cons hlt]
    simp only [goL]
    rw [go_col X a k (i + 1) _ (by omega), show 2 * (k + 1) = 2 * k + 1 + 1 by omega]
    simp only [colS]
    rw [ans_eq X (p := 2 * i) (by omega) hlt, ans_eq X (p := 2 * i + 1) (by omega) hlt]
    rfl
theorem goL_eq (X : Cx) (a : Int) : goL a X.ls 0 [] = portsS X a := by
  have := go_col X a X.ls.length 0 [] (by omega)
  rwa [List.drop_zero] at this
theorem call_61 (X : Cx) {a : Int} (h24 : X.ls.length ≤ 24) {L : List Int} (hL : portsS X a = L) :
    (∃ fn, Try.prog.funcs[60]? = some fn ∧ fn.body.isSome = true) ∧ CallOk Try.prog 60 ([] ++ [Y7] ++ [pt 5]) (K12 Try.prog X a (slL 9 [])) 8 (.tuple #[]) (G12 Try.prog X a 9 L) 17 := by
  have hlo := loopOk_of_L (pg_loop X (a := a) h24 X.ls.length 0 [] (by omega) (by simp))
  rw [List.drop_zero, goL_eq, hL] at hlo
  cases L <;>
    exact call_k [9] (hs := []) (ch := [⟨1, none, .loop (lp Try.prog 60 1), T61 X 0, [], G12 Try.prog X a 9 [], 9, _, true⟩]) (evk 50) special trivial ⟨codeOk_loop hlo, trivial⟩ (by kernel_rfl)
def R12 (X : Cx) (a : Int) (L : List Int) : Res := ⟨.normal, T12 X a, [6], hpL 9 L ((6, .defd) :: H12 X a (slL 9 L)), 17⟩
theorem range_12 (X : Cx) {a : Int} (h24 : X.ls.length ≤ 24) {L : List Int} (hL : portsS X a = L) : CodeOk Try.prog none (rf Try.prog 12 9) (T12 X a) [] (H12 X a (.slice none 0 0)) 6 (R12 X a L) := by
  have h := call_61 X h24 hL
  cases L with
  | nil => exact range_by special (by kernel_rfl) (by kernel_rfl) h (show (G12 Try.prog X a 9 []).get 7 = some (.loop (L12 Try.prog X a)) from rfl) (by kernel_rfl)
  | cons x r => exact range_by special (by kernel_rfl) (by kernel_rfl) h (show (G12 Try.prog X a 9 (x :: r)).get 7 = some (.loop (L12 Try.prog X a)) from rfl) (by kernel_rfl)
def portsV (b : Nat) (c n1 : Bool) (L : List Int) : Value := bif c then (bif n1 then .tuple #[slL b L, .int .i64 0] else .tuple #[.slice none 0 0, .int .i64 2]) else .tuple #[.slice none 0 0, .int .i64 260]
theorem node_two {N a : Int} {n1 : Bool} (h1 : nodeS N a = n1) : n1 = (!decide (a < 0) && !decide (a ≥ N)) := by
  subst h1
  unfold nodeS
  by_cases h : a < 0 <;> by_cases h' : a ≥ N <;> simp [h, h'] <;> omega
theorem ports_0 (X : Cx) (hd : X.ls.length ≤ X.d) (hd2 : X.d < openCap) (a : Int) {c n1 : Bool} {L : List Int} (h24 : c = true → X.ls.length ≤ 24) (hc : checkS X = c) (h1 : nodeS X.N a = n1) (hL : portsS X a = L) :
    Memo.Ok Try.prog ⟨12, 2, [X.v, .int .i64 a], X.V, portsV 9 c n1 L, (bif c && n1 then newL 9 L else []), (bif c && n1 then 17 else 4)⟩ := by
  have mc := check_m X hd hd2 hc 4
  have key : ∀ p1 p2, decide (a < 0) = p1 → decide (a ≥ X.N) = p2 → n1 = (!p1 && !p2) → Memo.Ok Try.prog ⟨12, 2, [X.v, .int .i64 a], X.V, portsV 9 c n1 L, (bif c && n1 then newL 9 L else []), (bif c && n1 then 17 else 4)⟩ := by
    intro p1 p2 e1 e2 e
    subst e
    cases c
    · cases p1 <;> cases p2 <;> cases L <;> exact memo_new (hs := [(2, .frz), (3, .frz), (10, .call _)]) (ch := []) (evk 50) special ⟨trivial, trivial, mc, trivial⟩ trivial (by kernel_rfl)
    · have hr := range_12 X (h24 rfl) hL
      cases p1
      · cases p2
        · cases L <;> exact memo_new (hs := [(2, .frz), (3, .frz), (10, .call _), (15, .val (.bool (decide (a < 0))) (.bool false)), (20, .val (.bool (decide (a ≥ X.N))) (.bool false)), (23, .call _)]) (ch := [⟨9, none, rf Try.prog 12 9, T12 X a, [], H12 X a (.slice none 0 0), 6, _, true⟩]) (evk 50) special ⟨trivial, trivial, mc, congrArg Value.bool e1, congrArg Value.bool e2, ends_5 X, trivial⟩ ⟨hr, trivial⟩ (by kernel_rfl)
        · cases L <;> exact memo_new (hs := [(2, .frz), (3, .frz), (10, .call _), (15, .val (.bool (decide (a < 0))) (.bool false)), (20, .val (.bool (decide (a ≥ X.N))) (.bool true))]) (ch := []) (evk 50) special ⟨trivial, trivial, mc, congrArg Value.bool e1, congrArg Value.bool e2, trivial⟩ trivial (by kernel_rfl)
      · cases p2 <;> cases L <;> exact memo_new (hs := [(2, .frz), (3, .frz), (10, .call _), (15, .val (.bool (decide (a < 0))) (.bool true))]) (ch := []) (evk 50) special ⟨trivial, trivial, mc, congrArg Value.bool e1, trivial⟩ trivial (by kernel_rfl)
  exact key _ _ rfl rfl (node_two h1)
end Go.Proofs.Ytkngbmaomgfcjaa.topo
