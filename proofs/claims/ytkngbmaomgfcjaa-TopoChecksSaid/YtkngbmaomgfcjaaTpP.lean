/- Contracts: the program's Same, at two topologies. -/
import Derived.Test.YtkngbmaomgfcjaaTpO
import Derived.Test.YtkngbmaomgfcjaaTpL
namespace Go.Proofs.Ytkngbmaomgfcjaa.topo
open Go Go.En
set_option linter.unusedVariables false

/-- The same slice over another block. -/
def mv (b : Nat) : Option Addr → Option Addr
  | none => none
  | some _ => some ⟨b, 0, none⟩
theorem mv_sl {b c n : Nat} {sa : Option Addr} (h : Sl b n sa) : Sl c n (mv c sa) := by
  rcases h with ⟨rfl, h⟩ | rfl
  · exact .inl ⟨rfl, h⟩
  · exact .inr rfl
def Cx.cells2 (X : Cx) : List Value := tc X.N (mv 2 X.sa) X.S.length X.c (mv 3 X.sb) X.ls.length X.d
def Cx.v2 (X : Cx) : Value := .agg ⟨X.cells2⟩
def Cx.V2 (X : Cx) : List (Nat × List Value) := [(2, X.st), (3, X.lk)]
theorem sl_ren2 {b c n e : Nat} {sa : Option Addr} (h : Sl b n sa) {ρ : Nat → Nat} (hb : ρ b = c) (m : Nat) : renV ρ m (.slice sa n e) = .slice (mv c sa) n e := by
  rcases h with ⟨rfl, _⟩ | rfl <;> cases m <;> simp [renV, hb, mv]
theorem mv_mv {b n : Nat} {sa : Option Addr} (h : Sl b n sa) (c : Nat) : mv b (mv c sa) = sa := by
  rcases h with ⟨rfl, _⟩ | rfl <;> rfl
def ρ23 : Nat → Nat
  | 0 => 2
  | 1 => 3
  | b => b
theorem Cx.at23 {X : Cx} {f : FuncId} {v : Value} (h : Memo.Ok Try.prog ⟨f, 2, [X.v], X.V, v, [], 2⟩) (nx : Nat) (hc : En.small 2 5 v = true) (h2 : renV (shift ρ23 2 nx) 5 v = v) : Memo.Ok Try.prog ⟨f, nx, [X.v2], X.V2, v, [], nx⟩ := by
  have hb : below 2 X.V = true := by kernel_rfl
  have hr : renV (shift ρ23 2 nx) 5 X.v = X.v2 := by
    show Value.agg ([_, _, _] : List Value).toArray = _
    have h0 : shift ρ23 2 nx 0 = 2 := rfl
    have h1 : shift ρ23 2 nx 1 = 3 := rfl
    rw [sl_ren2 X.hsa h0, sl_ren2 X.hsb h1]
    rfl
  have := memo_ren h ρ23 nx X.V2 (by simp only [En.smallL, X.small (Nat.le_refl 2), hc, hb, inNew, Bool.and_self]) (X.smallH 2) rfl (fun b cs hb => by
    by_cases h0 : 0 = b
    · subst h0
      simp [Cx.V, Cx.V2, roHp, Hp.get, ρ23] at hb ⊢
      subst hb
      exact (renV_avL X.avs).symm
    · by_cases h1 : 1 = b
      · subst h1
        simp [Cx.V, Cx.V2, roHp, Hp.get, ρ23] at hb ⊢
        subst hb
        exact (renV_avL X.avk).symm
      · simp [Cx.V, roHp, Hp.get, h0, h1] at hb)
  simpa [hr, h2, renH] using this
theorem check_m2 (X : Cx) (hd : X.ls.length ≤ X.d) (hd2 : X.d < openCap) {p : Bool} (h : checkS X = p) (nx : Nat) : Memo.Ok Try.prog ⟨37, nx, [X.v2], X.V2, .int .i64 (bif p then 0 else 260), [], nx⟩ :=
  Cx.at23 (h ▸ check_0 X hd hd2) nx rfl rfl
theorem right_m2 (X : Cx) {p : Bool} (h : checkS X = p) (nx : Nat) : Memo.Ok Try.prog ⟨14, nx, [X.v2], X.V2, .bool p, [], nx⟩ :=
  Cx.at23 (h ▸ right_0 X) nx rfl rfl
def eqLk (l o : Lk) : Bool := (l.a == o.a) && ((l.b == o.b) && ((l.per == o.per) && ((l.dl == o.dl) && true)))
theorem eql_lk (l o : Lk) (xo yo : Operand) : doBin Try.prog .eql 50 xo yo l.v o.v = some (.bool (eqLk l o)) ∧ doBin Try.prog .neq 50 xo yo l.v o.v = some (.bool (!eqLk l o)) :=
  bin_eql (by kernel_rfl) (by kernel_rfl) (by kernel_rfl) (by kernel_rfl) xo yo
/-- Both topologies' blocks. -/
def VV (X Z : Cx) : List (Nat × List Value) := X.V ++ Z.V2
theorem VV_smallH (X Z : Cx) (k : Nat) : En.smallH k (VV X Z) = true := by simp [En.smallH, VV, Cx.V, Cx.V2, small_avL X.avs, small_avL X.avk, small_avL Z.avs, small_avL Z.avk]
theorem Cx.smallL2 (X : Cx) {k : Nat} (hk : 4 ≤ k) (m : Nat) : En.smallL (En.small k m) X.cells2 = true := by
  simp only [Cx.cells2, tc, En.smallL, sl_small (mv_sl (c := 2) X.hsa) (by omega : 2 < k), sl_small (mv_sl (c := 3) X.hsb) (by omega : 3 < k), Bool.and_true]
  cases m <;> rfl
theorem VV_hV (X Z : Cx) {v : Value} (h : En.small 4 5 v = true) : (nodupN (roHp (VV X Z)) && below 4 (VV X Z) && En.smallL (En.small 4 5) [X.v, Z.v2] && En.small 4 5 v) = true := by
  have h1 : (nodupN (roHp (VV X Z)) && below 4 (VV X Z)) = true := by kernel_rfl
  have h2 : En.small 4 5 Z.v2 = true := Z.smallL2 (Nat.le_refl 4) 4
  simp only [h1, En.smallL, X.small (by omega : 2 ≤ 4), h2, h, Bool.and_self]
def T39 (X : Cx) (i : Int) : List Value := [J, J, pt 4, pt 5, .bool false] ++ List.replicate 33 J ++ [.slice X.sb X.ls.length X.d, .int .i64 X.ls.length, .int .i64 i] ++ List.replicate 12 J
def TR39 : List Value := [J, J, J, J, .bool false] ++ List.replicate 48 J
def H39 (X Z : Cx) : Hp := [(5, .cells Z.cells2 true), (4, .cells X.cells true), (0, .cells X.st true), (1, .cells X.lk true), (2, .cells Z.st true), (3, .cells Z.lk true)]
theorem H39_below (X Z : Cx) : hpBelow 9 (H39 X Z) = true := by
  have a1 : tidyB 9 (.cells X.cells true) = true := X.smallL (by omega) 5
  have a2 : tidyB 9 (.cells Z.cells2 true) = true := Z.smallL2 (by omega) 5
  have a3 : tidyB 9 (.cells X.st true) = true := small_avL X.avs
  have a4 : tidyB 9 (.cells X.lk true) = true := small_avL X.avk
  have a5 : tidyB 9 (.cells Z.st true) = true := small_avL Z.avs
  have a6 : tidyB 9 (.cells Z.lk true) = true := small_avL Z.avk
  simp [H39, hpBelow, a1, a2, a3, a4, a5, a6]
theorem pre39 (X Z : Cx) (i : Int) : (nodupN (H39 X Z) && tmBelow 9 (T39 X i) && dsBelow 9 [] && rBelow 9 none) = true := by
  rcases X.hsb with ⟨h, _⟩ | h
  · simp only [T39, h]
    show _ = true
    kernel_rfl
  · simp only [T39, h]
    show _ = true
    kernel_rfl
theorem Cx.ixL2 (Z : Cx) {i : Nat} (h : i < Z.ls.length) : doIndexAddr Try.prog 23 (.slice (mv 3 Z.sb) Z.ls.length Z.d) (.int .i64 i) = some (.pointer (some ⟨3, 0 + i * 4, none⟩)) := (mv_sl Z.hsb).ix' u23 z50 h
theorem Cx.ldL2 (Z : Cx) {i : Nat} {l : Lk} (h : Z.ls[i]? = some l) : doLoad Try.prog [(3, .cells Z.lk true)] 50 (.pointer (some ⟨3, 0 + i * 4, none⟩)) = some l.v := ldN z50 rfl (Z.hlk i l h)
theorem x_go (X Z : Cx) {i : Nat} {l o : Lk} (hi : X.ls[i]? = some l) (ho : Z.ls[i]? = some o) {b : Bool} (hb : eqLk l o = b) :
    CodeOk Try.prog none (lp Try.prog 39 6) (T39 X i) [] (H39 X Z) 9 (bif b then ⟨.normal, T39 X (IntKind.i64.wrap (i + 1)), [], H39 X Z, 9⟩ else ⟨.ret, TR39, [], H39 X Z, 9⟩) := by
  have l1 := X.ldL hi
  have l2 := Z.ldL2 ho
  have hlt := lt_of hi
  have hlt2 := lt_of ho
  have e2 := fun xo yo => hb ▸ (eql_lk l o xo yo).2
  have pre := pre39 X Z i
  have hsb := X.hsb
  obtain ⟨a, b1, p, q⟩ := l
  obtain ⟨a', b1', p', q'⟩ := o
  rcases hsb with ⟨hsb, _⟩ | hsb <;> cases b <;>
    (refine code_at (hs := [(41, .val (.bool (decide ((i : Int) < X.ls.length))) (.bool true)), (43, .ix 23 (.slice X.sb X.ls.length X.d) (.int .i64 i) _), (44, .ld 50 _ 1 X.lk true _), (49, .ix 23 (.slice (mv 3 Z.sb) Z.ls.length Z.d) (.int .i64 i) _), (50, .ld 50 _ 3 Z.lk true _), (51, .bin .neq 50 _ _ _)]) (ch := []) (evk 50) special
        ⟨congrArg Value.bool (decide_eq_true (by omega)), X.ixL hlt, ⟨l1, _, rfl⟩, Z.ixL2 hlt2, ⟨l2, _, rfl⟩, e2, trivial⟩ trivial pre (H39_below X Z) (H39_below X Z) ?_
     simp only [T39, hsb, cond_true, cond_false]; kernel_rfl)
theorem x_out (X Z : Cx) : CodeOk Try.prog none (lp Try.prog 39 6) (T39 X X.ls.length) [] (H39 X Z) 9 ⟨.exit 0, TR39, [], H39 X Z, 9⟩ := by
  have pre := pre39 X Z X.ls.length
  have hsb := X.hsb
  rcases hsb with ⟨hsb, _⟩ | hsb <;>
    (refine code_at (hs := [(41, .val (.bool (decide ((X.ls.length : Int) < X.ls.length))) (.bool false))]) (ch := []) (evk 50) special ⟨congrArg Value.bool (decide_eq_false (by omega)), trivial⟩ trivial pre (H39_below X Z) (H39_below X Z) ?_
     simp only [T39, hsb]; kernel_rfl)
def eqLs : List Lk → List Lk → Bool
  | l :: r, o :: s => eqLk l o && eqLs r s
  | _, _ => true
def F39 (X Z : Cx) : Bool → Res
  | true => ⟨.exit 0, TR39, [], H39 X Z, 9⟩
  | false => ⟨.ret, TR39, [], H39 X Z, 9⟩
theorem x_loop (X Z : Cx) (hm : X.ls.length = Z.ls.length) : ∀ (k i : Nat), i + k = X.ls.length → LoopOk Try.prog none (lp Try.prog 39 6) (T39 X i) [] (H39 X Z) 9 (F39 X Z (eqLs (X.ls.drop i) (Z.ls.drop i)))
  | 0, i, h => by
    have : i = X.ls.length := by omega
    subst this
    rw [List.drop_length]
    exact loopOk_out (x_out X Z) (by show Exit.exit 0 ≠ Exit.normal; simp)
  | k + 1, i, h => by
    have hlt : i < X.ls.length := by omega
    have hlt2 : i < Z.ls.length := by omega
    have hi : X.ls[i]? = some X.ls[i] := List.getElem?_eq_getElem hlt
    have ho : Z.ls[i]? = some Z.ls[i] := List.getElem?_eq_getElem hlt2
    rw [List.drop_eq_getElem_cons hlt, List.drop_eq_getElem_cons hlt2]
    simp only [eqLs]
    cases hb : eqLk X.ls[i] Z.ls[i] with
    | false => exact loopOk_out (x_go X Z hi ho hb) (by show Exit.ret ≠ Exit.normal; simp)
    | true =>
      have h1 := x_go X Z hi ho hb
      simp only [cond_true] at h1
      rw [show (i : Int) + 1 = ((i + 1 : Nat) : Int) by push_cast; rfl, wrap_nat (by have := X.hL; omega)] at h1
      exact loop_step h1 (x_loop X Z hm k (i + 1) (by omega))
termination_by k => k
def eqT (X Z : Cx) : Bool := !(X.N != Z.N) && !((X.ls.length : Int) != Z.ls.length) && (X.S == Z.S) && eqLs X.ls Z.ls
theorem some_of {b n : Nat} {sa : Option Addr} (h : Sl b n sa) (hn : 0 < n) : sa = some ⟨b, 0, none⟩ := by
  rcases h with ⟨_, h⟩ | h
  · omega
  · exact h
theorem same_0 (X Z : Cx) (hd : X.ls.length ≤ X.d) (hd2 : X.d < openCap) (hz : Z.ls.length ≤ Z.d) (hz2 : Z.d < openCap) : Memo.Ok Try.prog ⟨39, 4, [X.v, Z.v2], VV X Z, .bool (checkS X && checkS Z && eqT X Z), [], 4⟩ := by
  have hS := VV_smallH X Z 4
  cases hc : checkS X with
  | false =>
    have m1 := check_m X hd hd2 hc 6
    exact memo_pure (hs := [(8, .call _)]) (ch := []) 6 (evk 50) special ⟨m1, trivial⟩ trivial (VV_hV X Z rfl) hS (by kernel_rfl)
  | true =>
    cases hc2 : checkS Z with
    | false =>
      have m1 := check_m X hd hd2 hc 6
      have m2 := check_m2 Z hz hz2 hc2 6
      exact memo_pure (hs := [(8, .call _), (12, .call _)]) (ch := []) 6 (evk 50) special ⟨m1, m2, trivial⟩ trivial (VV_hV X Z rfl) hS (by kernel_rfl)
    | true =>
      have m1 := check_m X hd hd2 hc 6
      have m2 := check_m2 Z hz hz2 hc2 6
      have f1 : firstS X = true := by unfold checkS at hc; simp only [Bool.and_eq_true] at hc; exact hc.1
      have f2 : firstS Z = true := by unfold checkS at hc2; simp only [Bool.and_eq_true] at hc2; exact hc2.1
      obtain ⟨_, a2, _, _⟩ := first_true f1
      obtain ⟨_, b2, _, _⟩ := first_true f2
      have sx := some_of X.hsa (by omega)
      have sz : mv 2 Z.sa = some ⟨2, 0, none⟩ := some_of (mv_sl Z.hsa) (by omega)
      unfold eqT
      have key : ∀ p1 p2 p3, (X.N != Z.N) = p1 → ((X.ls.length : Int) != Z.ls.length) = p2 → (X.S == Z.S) = p3 → Memo.Ok Try.prog ⟨39, 4, [X.v, Z.v2], VV X Z, .bool (true && true && (!p1 && !p2 && p3 && eqLs X.ls Z.ls)), [], 4⟩ := by
        intro p1 p2 p3 h1 h2 h3
        have me := equal_m (c := X.c) (e := Z.c) X.avs Z.avs (A := X.S) (B := Z.S) X.hst Z.hst X.hS h3 0 2 8 (by omega)
        rw [← sx, ← sz] at me
        cases p1 with
        | true => exact memo_pure (hs := [(2, .frz), (3, .frz), (8, .call _), (12, .call _), (19, .val (.bool (X.N != Z.N)) (.bool _))]) (ch := []) 6 (evk 50) special ⟨trivial, trivial, m1, m2, congrArg Value.bool h1, trivial⟩ trivial (VV_hV X Z rfl) hS (by kernel_rfl)
        | false =>
          cases p2 with
          | true => exact memo_pure (hs := [(2, .frz), (3, .frz), (8, .call _), (12, .call _), (19, .val (.bool (X.N != Z.N)) (.bool _)), (27, .val (.bool ((X.ls.length : Int) != Z.ls.length)) (.bool _))]) (ch := []) 8 (evk 50) special ⟨trivial, trivial, m1, m2, congrArg Value.bool h1, congrArg Value.bool h2, trivial⟩ trivial (VV_hV X Z rfl) hS (by kernel_rfl)
          | false =>
            cases p3 with
            | false => exact memo_pure (hs := [(2, .frz), (3, .frz), (8, .call _), (12, .call _), (19, .val (.bool (X.N != Z.N)) (.bool _)), (27, .val (.bool ((X.ls.length : Int) != Z.ls.length)) (.bool _)), (34, .call _)]) (ch := []) 8 (evk 50) special ⟨trivial, trivial, m1, m2, congrArg Value.bool h1, congrArg Value.bool h2, me, trivial⟩ trivial (VV_hV X Z rfl) hS (by kernel_rfl)
            | true =>
              have hm : X.ls.length = Z.ls.length := by
                have := h2
                simp only [bne_eq_false_iff_eq] at this
                omega
              have hlo := x_loop X Z hm X.ls.length 0 (by omega)
              rw [List.drop_zero, List.drop_zero] at hlo
              generalize eqLs X.ls Z.ls = g at hlo ⊢
              cases g <;>
                exact memo_pure (hs := [(2, .frz), (3, .frz), (8, .call _), (12, .call _), (19, .val (.bool (X.N != Z.N)) (.bool _)), (27, .val (.bool ((X.ls.length : Int) != Z.ls.length)) (.bool _)), (34, .call _)]) (ch := [⟨6, none, .loop (lp Try.prog 39 6), T39 X 0, [], H39 X Z, 9, _, true⟩]) 9 (evk 50) special ⟨trivial, trivial, m1, m2, congrArg Value.bool h1, congrArg Value.bool h2, me, trivial⟩ ⟨codeOk_loop hlo, trivial⟩ (VV_hV X Z rfl) hS (by kernel_rfl)
      exact key _ _ _ rfl rfl rfl
end Go.Proofs.Ytkngbmaomgfcjaa.topo
