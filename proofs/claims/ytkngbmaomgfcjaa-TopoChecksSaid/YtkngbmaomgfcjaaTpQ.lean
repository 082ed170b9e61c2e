/- Contracts: the reference's Same; few and Same at other blocks. -/
import Derived.Test.YtkngbmaomgfcjaaTpP
namespace Go.Proofs.Ytkngbmaomgfcjaa.topo
open Go Go.En
set_option linter.unusedVariables false

def TA (i : Int) : List Value := [J, J, pt 4, pt 5, .bool false, .int .i64 i, J] ++ List.replicate 59 J
def TB (k : Int) : List Value := [J, J, pt 4, pt 5, .bool false, J, .int .i64 k] ++ List.replicate 59 J
def TC : List Value := [J, J, pt 4, pt 5, .bool false, J, J] ++ List.replicate 59 J
theorem H39_b10 (X Z : Cx) : hpBelow 10 (H39 X Z) = true := by
  have a1 : tidyB 10 (.cells X.cells true) = true := X.smallL (by omega) 5
  have a2 : tidyB 10 (.cells Z.cells2 true) = true := Z.smallL2 (by omega) 5
  have a3 : tidyB 10 (.cells X.st true) = true := small_avL X.avs
  have a4 : tidyB 10 (.cells X.lk true) = true := small_avL X.avk
  have a5 : tidyB 10 (.cells Z.st true) = true := small_avL Z.avs
  have a6 : tidyB 10 (.cells Z.lk true) = true := small_avL Z.avk
  simp [H39, hpBelow, a1, a2, a3, a4, a5, a6]
theorem Cx.ixS2 (Z : Cx) {i : Nat} (h : i < Z.S.length) : doIndexAddr Try.prog 22 (.slice (mv 2 Z.sa) Z.S.length Z.c) (.int .i64 i) = some (.pointer (some ⟨2, 0 + i * 1, none⟩)) := (mv_sl Z.hsa).ix' u22 z4 h
theorem Cx.ldS2 (Z : Cx) {i : Nat} {b : Bool} (h : Z.S[i]? = some b) : doLoad Try.prog [(2, .cells Z.st true)] 4 (.pointer (some ⟨2, 0 + i * 1, none⟩)) = some (.bool b) := ld1 z4 (Z.hst i b h)
theorem sa_go (X Z : Cx) {i : Nat} {x y : Bool} (hx : X.S[i]? = some x) (hy : Z.S[i]? = some y) :
    CodeOk Try.prog none (lp Try.prog 38 4) (TA i) [] (H39 X Z) 10 (bif x == y then ⟨.normal, TA (IntKind.i64.wrap (i + 1)), [], H39 X Z, 10⟩ else ⟨.ret, TC, [], H39 X Z, 10⟩) := by
  have l1 := X.ldS hx
  have l2 := Z.ldS2 hy
  have hlt := lt_of hx
  have hlt2 := lt_of hy
  cases x <;> cases y <;>
    exact code_at (hs := [(34, .val (.bool (decide ((i : Int) < X.S.length))) (.bool true)), (40, .ix 22 (.slice X.sa X.S.length X.c) (.int .i64 i) _), (41, .ld 4 _ 0 X.st true _), (45, .ix 22 (.slice (mv 2 Z.sa) Z.S.length Z.c) (.int .i64 i) _), (46, .ld 4 _ 2 Z.st true _)]) (ch := []) (evk 50) special
      ⟨congrArg Value.bool (decide_eq_true (by omega)), X.ixS hlt, ⟨l1, _, rfl⟩, Z.ixS2 hlt2, ⟨l2, _, rfl⟩, trivial⟩ trivial (by kernel_rfl) (H39_b10 X Z) (H39_b10 X Z) (by kernel_rfl)
theorem sa_out (X Z : Cx) : CodeOk Try.prog none (lp Try.prog 38 4) (TA X.S.length) [] (H39 X Z) 10 ⟨.exit 0, TC, [], H39 X Z, 10⟩ :=
  code_at (hs := [(34, .val (.bool (decide ((X.S.length : Int) < X.S.length))) (.bool false))]) (ch := []) (evk 50) special ⟨congrArg Value.bool (decide_eq_false (by omega)), trivial⟩ trivial (by kernel_rfl) (H39_b10 X Z) (H39_b10 X Z) (by kernel_rfl)
def FA (X Z : Cx) (e : Nat) : Bool → Res
  | true => ⟨.exit e, TC, [], H39 X Z, 10⟩
  | false => ⟨.ret, TC, [], H39 X Z, 10⟩
theorem sa_loop (X Z : Cx) (hm : X.S.length = Z.S.length) : ∀ (k i : Nat), i + k = X.S.length → LoopOk Try.prog none (lp Try.prog 38 4) (TA i) [] (H39 X Z) 10 (FA X Z 0 (X.S.drop i == Z.S.drop i))
  | 0, i, h => by
    have : i = X.S.length := by omega
    subst this
    rw [List.drop_length, hm, List.drop_length]
    have := sa_out X Z
    rw [hm] at this
    exact loopOk_out this (by show Exit.exit 0 ≠ Exit.normal; simp)
  | k + 1, i, h => by
    have hlt : i < X.S.length := by omega
    have hlt2 : i < Z.S.length := by omega
    have hx : X.S[i]? = some X.S[i] := List.getElem?_eq_getElem hlt
    have hy : Z.S[i]? = some Z.S[i] := List.getElem?_eq_getElem hlt2
    have h1 := sa_go X Z hx hy
    rw [List.drop_eq_getElem_cons hlt, List.drop_eq_getElem_cons hlt2, List.cons_beq_cons]
    cases hb : (X.S[i] == Z.S[i]) with
    | false => rw [hb] at h1; exact loopOk_out h1 (by show Exit.ret ≠ Exit.normal; simp)
    | true =>
      rw [hb] at h1
      simp only [cond_true] at h1
      rw [show (i : Int) + 1 = ((i + 1 : Nat) : Int) by push_cast; rfl, wrap_nat (by have := X.hS; omega)] at h1
      rw [Bool.true_and]
      exact loop_step h1 (sa_loop X Z hm k (i + 1) (by omega))
termination_by k => k
theorem sb_go (X Z : Cx) {i : Nat} {l o : Lk} (hi : X.ls[i]? = some l) (ho : Z.ls[i]? = some o) {b : Bool} (hb : eqLk l o = b) :
    CodeOk Try.prog none (lp Try.prog 38 9) (TB i) [] (H39 X Z) 10 (bif b then ⟨.normal, TB (IntKind.i64.wrap (i + 1)), [], H39 X Z, 10⟩ else ⟨.ret, TC, [], H39 X Z, 10⟩) := by
  have l1 := X.ldL hi
  have l2 := Z.ldL2 ho
  have hlt := lt_of hi
  have hlt2 := lt_of ho
  have e2 := fun xo yo => hb ▸ (eql_lk l o xo yo).2
  obtain ⟨a, b1, p, q⟩ := l
  obtain ⟨a', b1', p', q'⟩ := o
  cases b <;>
    exact code_at (hs := [(52, .val (.bool (decide ((i : Int) < X.ls.length))) (.bool true)), (58, .ix 23 (.slice X.sb X.ls.length X.d) (.int .i64 i) _), (59, .ld 50 _ 1 X.lk true _), (63, .ix 23 (.slice (mv 3 Z.sb) Z.ls.length Z.d) (.int .i64 i) _), (64, .ld 50 _ 3 Z.lk true _), (65, .bin .neq 50 _ _ _)]) (ch := []) (evk 50) special
      ⟨congrArg Value.bool (decide_eq_true (by omega)), X.ixL hlt, ⟨l1, _, rfl⟩, Z.ixL2 hlt2, ⟨l2, _, rfl⟩, e2, trivial⟩ trivial (by kernel_rfl) (H39_b10 X Z) (H39_b10 X Z) (by kernel_rfl)
theorem sb_out (X Z : Cx) : CodeOk Try.prog none (lp Try.prog 38 9) (TB X.ls.length) [] (H39 X Z) 10 ⟨.exit 2, TC, [], H39 X Z, 10⟩ :=
  code_at (hs := [(52, .val (.bool (decide ((X.ls.length : Int) < X.ls.length))) (.bool false))]) (ch := []) (evk 50) special ⟨congrArg Value.bool (decide_eq_false (by omega)), trivial⟩ trivial (by kernel_rfl) (H39_b10 X Z) (H39_b10 X Z) (by kernel_rfl)
theorem sb_loop (X Z : Cx) (hm : X.ls.length = Z.ls.length) : ∀ (k i : Nat), i + k = X.ls.length → LoopOk Try.prog none (lp Try.prog 38 9) (TB i) [] (H39 X Z) 10 (FA X Z 2 (eqLs (X.ls.drop i) (Z.ls.drop i)))
  | 0, i, h => by
    have : i = X.ls.length := by omega
    subst this
    rw [List.drop_length]
    exact loopOk_out (sb_out X Z) (by show Exit.exit 2 ≠ Exit.normal; simp)
  | k + 1, i, h => by
    have hlt : i < X.ls.length := by omega
    have hlt2 : i < Z.ls.length := by omega
    have hi : X.ls[i]? = some X.ls[i] := List.getElem?_eq_getElem hlt
    have ho : Z.ls[i]? = some Z.ls[i] := List.getElem?_eq_getElem hlt2
    rw [List.drop_eq_getElem_cons hlt, List.drop_eq_getElem_cons hlt2]
    simp only [eqLs]
    cases hb : eqLk X.ls[i] Z.ls[i] with
    | false => exact loopOk_out (sb_go X Z hi ho hb) (by show Exit.ret ≠ Exit.normal; simp)
    | true =>
      have h1 := sb_go X Z hi ho hb
      simp only [cond_true] at h1
      rw [show (i : Int) + 1 = ((i + 1 : Nat) : Int) by push_cast; rfl, wrap_nat (by have := X.hL; omega)] at h1
      exact loop_step h1 (sb_loop X Z hm k (i + 1) (by omega))
termination_by k => k
theorem sameR_0 (X Z : Cx) : Memo.Ok Try.prog ⟨38, 4, [X.v, Z.v2], VV X Z, .bool (!(X.N != Z.N) && !((X.S.length : Int) != Z.S.length) && !((X.ls.length : Int) != Z.ls.length) && (X.S == Z.S) && eqLs X.ls Z.ls), [], 4⟩ := by
  have hS := VV_smallH X Z 4
  have key : ∀ p1 p2 p3, (X.N != Z.N) = p1 → ((X.S.length : Int) != Z.S.length) = p2 → ((X.ls.length : Int) != Z.ls.length) = p3 → Memo.Ok Try.prog ⟨38, 4, [X.v, Z.v2], VV X Z, .bool (!p1 && !p2 && !p3 && (X.S == Z.S) && eqLs X.ls Z.ls), [], 4⟩ := by
    intro p1 p2 p3 h1 h2 h3
    cases p1 with
    | true => exact memo_pure (hs := [(2, .frz), (3, .frz), (11, .val (.bool (X.N != Z.N)) (.bool _))]) (ch := []) 6 (evk 50) special ⟨trivial, trivial, congrArg Value.bool h1, trivial⟩ trivial (VV_hV X Z rfl) hS (by kernel_rfl)
    | false =>
      cases p2 with
      | true => exact memo_pure (hs := [(2, .frz), (3, .frz), (11, .val (.bool (X.N != Z.N)) (.bool _)), (19, .val (.bool ((X.S.length : Int) != Z.S.length)) (.bool _))]) (ch := []) 8 (evk 50) special ⟨trivial, trivial, congrArg Value.bool h1, congrArg Value.bool h2, trivial⟩ trivial (VV_hV X Z rfl) hS (by kernel_rfl)
      | false =>
        cases p3 with
        | true => exact memo_pure (hs := [(2, .frz), (3, .frz), (11, .val (.bool (X.N != Z.N)) (.bool _)), (19, .val (.bool ((X.S.length : Int) != Z.S.length)) (.bool _)), (28, .val (.bool ((X.ls.length : Int) != Z.ls.length)) (.bool _))]) (ch := []) 10 (evk 50) special ⟨trivial, trivial, congrArg Value.bool h1, congrArg Value.bool h2, congrArg Value.bool h3, trivial⟩ trivial (VV_hV X Z rfl) hS (by kernel_rfl)
        | false =>
          have e1 := sa_loop X Z (by simp only [bne_eq_false_iff_eq] at h2; omega) X.S.length 0 (by omega)
          have e2 := sb_loop X Z (by simp only [bne_eq_false_iff_eq] at h3; omega) X.ls.length 0 (by omega)
          rw [List.drop_zero, List.drop_zero] at e1 e2
          generalize (X.S == Z.S) = g at e1 ⊢
          generalize eqLs X.ls Z.ls = g2 at e2 ⊢
          cases g
          · exact memo_pure (hs := [(2, .frz), (3, .frz), (11, .val (.bool (X.N != Z.N)) (.bool _)), (19, .val (.bool ((X.S.length : Int) != Z.S.length)) (.bool _)), (28, .val (.bool ((X.ls.length : Int) != Z.ls.length)) (.bool _))]) (ch := [⟨4, none, .loop (lp Try.prog 38 4), TA 0, [], H39 X Z, 10, _, true⟩]) 10 (evk 50) special ⟨trivial, trivial, congrArg Value.bool h1, congrArg Value.bool h2, congrArg Value.bool h3, trivial⟩ ⟨codeOk_loop e1, trivial⟩ (VV_hV X Z rfl) hS (by kernel_rfl)
          · cases g2 <;> exact memo_pure (hs := [(2, .frz), (3, .frz), (11, .val (.bool (X.N != Z.N)) (.bool _)), (19, .val (.bool ((X.S.length : Int) != Z.S.length)) (.bool _)), (28, .val (.bool ((X.ls.length : Int) != Z.ls.length)) (.bool _))]) (ch := [⟨4, none, .loop (lp Try.prog 38 4), TA 0, [], H39 X Z, 10, _, true⟩, ⟨9, none, .loop (lp Try.prog 38 9), TB 0, [], H39 X Z, 10, _, true⟩]) 10 (evk 50) special ⟨trivial, trivial, congrArg Value.bool h1, congrArg Value.bool h2, congrArg Value.bool h3, trivial⟩ ⟨codeOk_loop e1, codeOk_loop e2, trivial⟩ (VV_hV X Z rfl) hS (by kernel_rfl)
  exact key _ _ _ rfl rfl rfl
/-! ### Same is an equation -/
theorem eqLk_iff {l o : Lk} : eqLk l o = true ↔ l = o := by
  obtain ⟨a, b, c, d⟩ := l
  obtain ⟨a', b', c', d'⟩ := o
  simp [eqLk]
theorem eqLs_iff : ∀ {l m : List Lk}, l.length = m.length → (eqLs l m = true ↔ l = m)
  | [], [], _ => by simp [eqLs]
  | x :: l, y :: m, h => by
    simp only [eqLs, Bool.and_eq_true, eqLk_iff, eqLs_iff (l := l) (m := m) (by simpa using h), List.cons.injEq]
  | [], _ :: _, h => by simp at h
  | _ :: _, [], h => by simp at h
theorem eqT_iff (X Z : Cx) : eqT X Z = true ↔ X.N = Z.N ∧ X.S = Z.S ∧ X.ls = Z.ls := by
  unfold eqT
  simp only [Bool.and_eq_true, Bool.not_eq_true', bne_eq_false_iff_eq, beq_iff_eq]
  constructor
  · rintro ⟨⟨⟨h1, h2⟩, h3⟩, h4⟩
    exact ⟨h1, h3, (eqLs_iff (by omega)).1 h4⟩
  · rintro ⟨h1, h3, h4⟩
    exact ⟨⟨⟨h1, by rw [h4]⟩, h3⟩, (eqLs_iff (by rw [h4])).2 h4⟩
theorem eqT_refl (X : Cx) : eqT X X = true := (eqT_iff X X).2 ⟨rfl, rfl, rfl⟩
theorem eqT_symm (X Z : Cx) : eqT Z X = eqT X Z := by
  rw [Bool.eq_iff_iff, eqT_iff, eqT_iff]
  constructor <;> rintro ⟨h1, h2, h3⟩ <;> exact ⟨h1.symm, h2.symm, h3.symm⟩
theorem eqR_eq (X Z : Cx) : (!(X.N != Z.N) && !((X.S.length : Int) != Z.S.length) && !((X.ls.length : Int) != Z.ls.length) && (X.S == Z.S) && eqLs X.ls Z.ls) = eqT X Z := by
  unfold eqT
  cases hs : (X.S == Z.S) with
  | false => simp
  | true =>
    have : ((X.S.length : Int) != Z.S.length) = false := by rw [beq_iff_eq.1 hs]; simp
    rw [this]
    cases (X.N != Z.N) <;> cases ((X.ls.length : Int) != Z.ls.length) <;> rfl
/-! ### At other names -/
def ρ4 (a b c d : Nat) : Nat → Nat
  | 0 => a
  | 1 => b
  | 2 => c
  | _ => d
theorem sl_renm {b c n e : Nat} {sa : Option Addr} {k : Nat} (h : Sl b n sa) {ρ : Nat → Nat} (hb : ρ k = c) (m : Nat) : renV ρ m (.slice (mv k sa) n e) = .slice (mv c sa) n e := by
  rcases h with ⟨rfl, _⟩ | rfl <;> cases m <;> simp [renV, hb, mv]
theorem mv_self {b n : Nat} {sa : Option Addr} (h : Sl b n sa) : mv b sa = sa := by
  rcases h with ⟨rfl, _⟩ | rfl <;> rfl
section
variable {X Z : Cx} {f : FuncId} {p : Bool} (h : Memo.Ok Try.prog ⟨f, 4, [X.v, Z.v2], VV X Z, .bool p, [], 4⟩) (nx : Nat)
theorem at_ab (h : Memo.Ok Try.prog ⟨f, 4, [X.v, Z.v2], VV X Z, .bool p, [], 4⟩) (nx : Nat) : Memo.Ok Try.prog ⟨f, nx, [X.v, Z.v2], VV X Z, .bool p, [], nx⟩ := by
  have hb : below 4 (VV X Z) = true := by kernel_rfl
  have h2 : En.small 4 5 Z.v2 = true := Z.smallL2 (Nat.le_refl 4) 4
  have r1 : renV (shift (fun b => b) 4 nx) 5 X.v = X.v := by
    show Value.agg ([_, _, _] : List Value).toArray = _
    rw [sl_ren X.hsa (show shift (fun b => b) 4 nx 0 = 0 from rfl), sl_ren X.hsb (show shift (fun b => b) 4 nx 1 = 1 from rfl)]
    rfl
  have r2 : renV (shift (fun b => b) 4 nx) 5 Z.v2 = Z.v2 := by
    show Value.agg ([_, _, _] : List Value).toArray = _
    rw [sl_ren (mv_sl (c := 2) Z.hsa) (show shift (fun b => b) 4 nx 2 = 2 from rfl), sl_ren (mv_sl (c := 3) Z.hsb) (show shift (fun b => b) 4 nx 3 = 3 from rfl)]
    rfl
  have := memo_ren h (fun b => b) nx (VV X Z) (by simp only [En.smallL, X.small (by omega : 2 ≤ 4), h2, hb, inNew, Bool.and_self, Bool.and_true]; rfl) (VV_smallH X Z 4) rfl (fun b cs hb => by
    rw [hb]
    have : avL cs = true := by
      simp only [VV, Cx.V, Cx.V2, roHp, List.cons_append, List.nil_append, Hp.get] at hb
      (repeat' split at hb) <;> first | (cases hb; first | exact X.avs | exact X.avk | exact Z.avs | exact Z.avk) | cases hb
    rw [renV_avL this])
  simp only [List.map_cons, List.map_nil, r1, r2, renH] at this
  exact this
/-- The second first. -/
theorem at_ba (h : Memo.Ok Try.prog ⟨f, 4, [X.v, Z.v2], VV X Z, .bool p, [], 4⟩) (nx : Nat) : Memo.Ok Try.prog ⟨f, nx, [X.v2, Z.v], X.V2 ++ Z.V, .bool p, [], nx⟩ := by
  have hb : below 4 (VV X Z) = true := by kernel_rfl
  have h2 : En.small 4 5 Z.v2 = true := Z.smallL2 (Nat.le_refl 4) 4
  have r1 : renV (shift (ρ4 2 3 0 1) 4 nx) 5 X.v = X.v2 := by
    show Value.agg ([_, _, _] : List Value).toArray = _
    rw [sl_ren2 X.hsa (show shift (ρ4 2 3 0 1) 4 nx 0 = 2 from rfl), sl_ren2 X.hsb (show shift (ρ4 2 3 0 1) 4 nx 1 = 3 from rfl)]
    rfl
  have r2 : renV (shift (ρ4 2 3 0 1) 4 nx) 5 Z.v2 = Z.v := by
    show Value.agg ([_, _, _] : List Value).toArray = _
    rw [sl_renm Z.hsa (show shift (ρ4 2 3 0 1) 4 nx 2 = 0 from rfl), sl_renm Z.hsb (show shift (ρ4 2 3 0 1) 4 nx 3 = 1 from rfl), mv_self Z.hsa, mv_self Z.hsb]
    rfl
  have := memo_ren h (ρ4 2 3 0 1) nx (X.V2 ++ Z.V) (by simp only [En.smallL, X.small (by omega : 2 ≤ 4), h2, hb, inNew, Bool.and_self, Bool.and_true]; rfl) (VV_smallH X Z 4) rfl (fun b cs hb => by
    simp only [VV, Cx.V, Cx.V2, roHp, List.cons_append, List.nil_append, Hp.get] at hb
    (repeat' split at hb) <;> first
      | (rename_i hk; simp only [beq_iff_eq] at hk; subst hk; cases hb; simp [Cx.V, Cx.V2, roHp, Hp.get, ρ4, renV_avL X.avs, renV_avL X.avk, renV_avL Z.avs, renV_avL Z.avk])
      | cases hb)
  simp only [List.map_cons, List.map_nil, r1, r2, renH] at this
  exact this
/-- Both the same. -/
theorem at_aa {X : Cx} (h : Memo.Ok Try.prog ⟨f, 4, [X.v, X.v2], VV X X, .bool p, [], 4⟩) (nx : Nat) : Memo.Ok Try.prog ⟨f, nx, [X.v, X.v], X.V, .bool p, [], nx⟩ := by
  have hb : below 4 (VV X X) = true := by kernel_rfl
  have h2 : En.small 4 5 X.v2 = true := X.smallL2 (Nat.le_refl 4) 4
  have r1 : renV (shift (ρ4 0 1 0 1) 4 nx) 5 X.v = X.v := by
    show Value.agg ([_, _, _] : List Value).toArray = _
    rw [sl_ren X.hsa (show shift (ρ4 0 1 0 1) 4 nx 0 = 0 from rfl), sl_ren X.hsb (show shift (ρ4 0 1 0 1) 4 nx 1 = 1 from rfl)]
    rfl
  have r2 : renV (shift (ρ4 0 1 0 1) 4 nx) 5 X.v2 = X.v := by
    show Value.agg ([_, _, _] : List Value).toArray = _
    rw [sl_renm X.hsa (show shift (ρ4 0 1 0 1) 4 nx 2 = 0 from rfl), sl_renm X.hsb (show shift (ρ4 0 1 0 1) 4 nx 3 = 1 from rfl), mv_self X.hsa, mv_self X.hsb]
    rfl
  have := memo_ren h (ρ4 0 1 0 1) nx X.V (by simp only [En.smallL, X.small (by omega : 2 ≤ 4), h2, hb, inNew, Bool.and_self, Bool.and_true]; rfl) (VV_smallH X X 4) rfl (fun b cs hb => by
    simp only [VV, Cx.V, Cx.V2, roHp, List.cons_append, List.nil_append, Hp.get] at hb
    (repeat' split at hb) <;> first
      | (rename_i hk; simp only [beq_iff_eq] at hk; subst hk; cases hb; simp [Cx.V, roHp, Hp.get, ρ4, renV_avL X.avs, renV_avL X.avk])
      | cases hb)
  simp only [List.map_cons, List.map_nil, r1, r2, renH] at this
  exact this
end
end Go.Proofs.Ytkngbmaomgfcjaa.topo
