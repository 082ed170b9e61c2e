/- Contract: Reach. -/
import Derived.Test.YtkngbmaomgfcjaaTpL
namespace Go.Proofs.Ytkngbmaomgfcjaa.topo
open Go Go.En
set_option linter.unusedVariables false

def cutv (b k e : Nat) : Value := .slice (some ⟨b, 0, none⟩) k e
def T18 (K : List Int) (e : Nat) (p j : Int) : List Value := [J, .int .i64 p, J, pt 3, J, J, .slice none 0 0, .int .i64 0, J, pt 4] ++ List.replicate 15 J ++ [cutv 2 K.length e, .int .i64 K.length, .int .i64 j] ++ List.replicate 19 J
def TO18 (K : List Int) (e : Nat) (p : Int) : List Value := [J, .int .i64 p, J, pt 3, J, J, .slice none 0 0, .int .i64 0, J, pt 4] ++ List.replicate 37 J
def TR18 : List Value := [J, J, J, J, J, J, .slice none 0 0, .int .i64 2, J, J] ++ List.replicate 37 J
def H18 (X : Cx) (K : List Int) (C : List Bool) : Hp := [(4, .cells (bc C) false), (3, .cells X.cells true), (0, .cells X.st true), (1, .cells X.lk true), (2, .cells (ic K) true)]
theorem H18_below (X : Cx) (K : List Int) (C : List Bool) : hpBelow 6 (H18 X K C) = true := by
  have a1 : tidyB 6 (.cells X.cells true) = true := X.smallL (by omega) 5
  have a2 : tidyB 6 (.cells X.st true) = true := small_avL X.avs
  have a3 : tidyB 6 (.cells X.lk true) = true := small_avL X.avk
  have a4 : tidyB 6 (.cells (bc C) false) = true := small_avL (bc_av C)
  have a5 : tidyB 6 (.cells (ic K) true) = true := small_avL (ic_av K)
  simp [H18, hpBelow, a1, a2, a3, a4, a5]
def badK (m : Nat) (x : Int) : Bool := decide (x < 0) || decide (x ≥ m)
def Q18 (X : Cx) (K : List Int) (C C' : List Bool) (e : Nat) (p j : Int) : Bool → Res
  | true => ⟨.ret, TR18, [], H18 X K C, 6⟩
  | false => ⟨.normal, T18 K e p j, [], H18 X K C', 6⟩
theorem m_go (X : Cx) (h24 : X.ls.length ≤ 24) {K : List Int} {C : List Bool} (hC : C.length = 24) {e j : Nat} {p : Int} (hj : j < K.length) :
    CodeOk Try.prog none (lp Try.prog 18 8) (T18 K e p j) [] (H18 X K C) 6 (Q18 X K C (C.set (K.getD j 0).toNat true) e p (IntKind.i64.wrap (j + 1)) (badK X.ls.length (K.getD j 0))) := by
  have i1 : doIndexAddr Try.prog 28 (cutv 2 K.length e) (.int .i64 j) = _ := ix_i hj
  have l1 := ld_i (b := 2) (ro := true) hj
  unfold badK
  generalize K.getD j 0 = x at l1
  have key : ∀ p1 p2, decide (x < 0) = p1 → decide (x ≥ X.ls.length) = p2 → CodeOk Try.prog none (lp Try.prog 18 8) (T18 K e p j) [] (H18 X K C) 6 (Q18 X K C (C.set x.toNat true) e p (IntKind.i64.wrap (j + 1)) (p1 || p2)) := by
    intro p1 p2 h1 h2
    cases p1 with
    | true => cases p2 <;> exact code_at (hs := [(28, .val (.bool (decide ((j : Int) < K.length))) (.bool true)), (29, .ix 28 (cutv 2 K.length e) (.int .i64 j) _), (30, .ld 3 _ 2 (ic K) true _), (32, .val (.bool (decide (x < 0))) (.bool _))]) (ch := []) (evk 50) special ⟨congrArg Value.bool (decide_eq_true (by omega)), i1, ⟨l1, _, rfl⟩, congrArg Value.bool h1, trivial⟩ trivial (by kernel_rfl) (H18_below X K C) (H18_below X K C) (by kernel_rfl)
    | false =>
      cases p2 with
      | true => exact code_at (hs := [(28, .val (.bool (decide ((j : Int) < K.length))) (.bool true)), (29, .ix 28 (cutv 2 K.length e) (.int .i64 j) _), (30, .ld 3 _ 2 (ic K) true _), (32, .val (.bool (decide (x < 0))) (.bool _)), (38, .val (.bool (decide (x ≥ X.ls.length))) (.bool _))]) (ch := []) (evk 50) special ⟨congrArg Value.bool (decide_eq_true (by omega)), i1, ⟨l1, _, rfl⟩, congrArg Value.bool h1, congrArg Value.bool h2, trivial⟩ trivial (by kernel_rfl) (H18_below X K C) (H18_below X K C) (by kernel_rfl)
      | false =>
        have h1' := of_decide_eq_false h1
        have h2' := of_decide_eq_false h2
        obtain ⟨x, rfl⟩ : ∃ n : Nat, x = n := ⟨x.toNat, by omega⟩
        have i2 : doIndexAddr Try.prog 71 (pt 4) (.int .i64 x) = _ := ix_71 (by omega)
        have s1 := st_b (b := 4) (x := true) (R := C) (i := x) (by omega)
        exact code_at (hs := [(28, .val (.bool (decide ((j : Int) < K.length))) (.bool true)), (29, .ix 28 (cutv 2 K.length e) (.int .i64 j) _), (30, .ld 3 _ 2 (ic K) true _), (32, .val (.bool (decide ((x : Int) < 0))) (.bool _)), (38, .val (.bool (decide ((x : Int) ≥ X.ls.length))) (.bool _)), (41, .ix 71 (pt 4) (.int .i64 x) _), (100041, .st 4 _ (.bool true) 4 (bc C) _)]) (ch := []) (evk 50) special ⟨congrArg Value.bool (decide_eq_true (by omega)), i1, ⟨l1, _, rfl⟩, congrArg Value.bool h1, congrArg Value.bool h2, i2, ⟨s1, _, rfl⟩, trivial⟩ trivial (by kernel_rfl) (H18_below X K C) (H18_below X K _) (by kernel_rfl)
  exact key _ _ rfl rfl
theorem m_out (X : Cx) (K : List Int) (C : List Bool) (e : Nat) (p : Int) : CodeOk Try.prog none (lp Try.prog 18 8) (T18 K e p K.length) [] (H18 X K C) 6 ⟨.exit 0, TO18 K e p, [], H18 X K C, 6⟩ :=
  code_at (hs := [(28, .val (.bool (decide ((K.length : Int) < K.length))) (.bool false))]) (ch := []) (evk 50) special ⟨congrArg Value.bool (decide_eq_false (by omega)), trivial⟩ trivial (by kernel_rfl) (H18_below X K C) (H18_below X K C) (by kernel_rfl)
def cutGo (m : Nat) : List Int → List Bool → Bool × List Bool
  | [], C => (true, C)
  | x :: r, C => bif badK m x then (false, C) else cutGo m r (C.set x.toNat true)
def F18 (X : Cx) (K : List Int) (e : Nat) (p : Int) : Bool × List Bool → Res
  | (true, C) => ⟨.exit 0, TO18 K e p, [], H18 X K C, 6⟩
  | (false, C) => ⟨.ret, TR18, [], H18 X K C, 6⟩
theorem m_loop (X : Cx) (h24 : X.ls.length ≤ 24) {K : List Int} (hK : K.length ≤ 1000) {e : Nat} {p : Int} : ∀ (k j : Nat) (C : List Bool), C.length = 24 → j + k = K.length → LoopOk Try.prog none (lp Try.prog 18 8) (T18 K e p j) [] (H18 X K C) 6 (F18 X K e p (cutGo X.ls.length (K.drop j) C))
  | 0, j, C, hC, h => by
    have : j = K.length := by omega
    subst this
    rw [List.drop_length]
    exact loopOk_out (m_out X K C e p) (by show Exit.exit 0 ≠ Exit.normal; simp)
  | k + 1, j, C, hC, h => by
    have hlt : j < K.length := by omega
    have hg : K.getD j 0 = K[j] := by simp [List.getD_eq_getElem?_getD, hlt]
    have h1 := m_go X h24 (e := e) (p := p) hC hlt
    rw [hg] at h1
    rw [List.drop_eq_getElem_cons hlt]
    simp only [cutGo]
    cases hb : badK X.ls.length K[j] with
    | true => rw [hb] at h1; exact loopOk_out h1 (by show Exit.ret ≠ Exit.normal; simp)
    | false =>
      rw [hb] at h1
      rw [show (j : Int) + 1 = ((j + 1 : Nat) : Int) by push_cast; rfl, wrap_nat (by omega)] at h1
      exact loop_step h1 (m_loop X h24 hK k (j + 1) _ (by simpa using hC) (by omega))
termination_by k => k
theorem cutGo_len (m : Nat) : ∀ (K : List Int) (C : List Bool), (cutGo m K C).2.length = C.length
  | [], _ => rfl
  | x :: r, C => by
    simp only [cutGo]
    cases badK m x with
    | true => rfl
    | false => simp [cutGo_len m r]
def nodeBad (N p : Int) : Bool := decide (p < 0) || decide (p ≥ N)
/-- What Reach hands out: an error, or a new slice. -/
def rErr (X : Cx) (K : List Int) (p : Int) : Option Int := bif checkS X then (bif nodeBad X.N p then some 2 else bif (cutGo X.ls.length K cut0).1 then none else some 2) else some 260
theorem V20_hV (X : Cx) (K : List Int) {rest : List Value} {v : Value} (h : (En.smallL (En.small 3 5) rest && En.small 3 5 v) = true) : (nodupN (roHp (V20 X K)) && below 3 (V20 X K) && En.smallL (En.small 3 5) (X.v :: rest) && En.small 3 5 v) = true := by
  simp only [Bool.and_eq_true] at h
  have h1 : (nodupN (roHp (V20 X K)) && below 3 (V20 X K)) = true := by kernel_rfl
  simp only [h1, En.smallL, X.small (by omega : 2 ≤ 3), h.1, h.2, Bool.and_self]
theorem V20_smallH (X : Cx) (K : List Int) (k : Nat) : En.smallH k (V20 X K) = true := by simp [En.smallH, V20, small_avL X.avs, small_avL X.avk, small_avL (ic_av K)]
theorem reachE_0 (X : Cx) (hd : X.ls.length ≤ X.d) (hd2 : X.d < openCap) {K : List Int} (hK : K.length ≤ 1000) {e : Nat} {p : Int} {x : Int} (h : rErr X K p = some x) :
    Memo.Ok Try.prog ⟨18, 3, [X.v, .int .i64 p, cutv 2 K.length e], V20 X K, .tuple #[.slice none 0 0, .int .i64 x], [], 3⟩ := by
  unfold rErr at h
  cases hc : checkS X with
  | false =>
    have mc := check_m X hd hd2 hc 4
    rw [hc] at h
    simp at h
    subst h
    exact memo_pure (hs := [(3, .frz), (13, .call _)]) (ch := []) 4 (evk 50) special ⟨trivial, mc, trivial⟩ trivial (V20_hV X K rfl) (V20_smallH X K 3) (by kernel_rfl)
  | true =>
    have mc := check_m X hd hd2 hc 4
    rw [hc] at h
    simp only [cond_true] at h
    have key : ∀ p1 p2, decide (p < 0) = p1 → decide (p ≥ X.N) = p2 → (bif (p1 || p2) then some 2 else bif (cutGo X.ls.length K cut0).1 then none else some 2) = some x → Memo.Ok Try.prog ⟨18, 3, [X.v, .int .i64 p, cutv 2 K.length e], V20 X K, .tuple #[.slice none 0 0, .int .i64 x], [], 3⟩ := by
      intro p1 p2 h1 h2 h3
      cases p1 with
      | true =>
        simp at h3
        subst h3
        exact memo_pure (hs := [(3, .frz), (13, .call _), (18, .val (.bool (decide (p < 0))) (.bool _))]) (ch := []) 4 (evk 50) special ⟨trivial, mc, congrArg Value.bool h1, trivial⟩ trivial (V20_hV X K rfl) (V20_smallH X K 3) (by kernel_rfl)
      | false =>
        cases p2 with
        | true =>
          simp at h3
          subst h3
          exact memo_pure (hs := [(3, .frz), (13, .call _), (18, .val (.bool (decide (p < 0))) (.bool _)), (23, .val (.bool (decide (p ≥ X.N))) (.bool _))]) (ch := []) 4 (evk 50) special ⟨trivial, mc, congrArg Value.bool h1, congrArg Value.bool h2, trivial⟩ trivial (V20_hV X K rfl) (V20_smallH X K 3) (by kernel_rfl)
        | false =>
          have hf : firstS X = true := by
            unfold checkS at hc
            simp only [Bool.and_eq_true] at hc
            exact hc.1
          obtain ⟨hN, hn2, hn12, h24⟩ := first_true hf
          have hlo := m_loop X h24 hK (e := e) (p := p) K.length 0 cut0 (by simp [cut0]) (by omega)
          rw [List.drop_zero] at hlo
          generalize cutGo X.ls.length K cut0 = g at hlo h3
          obtain ⟨g1, g2⟩ := g
          cases g1 with
          | true => simp at h3
          | false =>
            simp at h3
            subst h3
            exact memo_pure (hs := [(3, .frz), (13, .call _), (18, .val (.bool (decide (p < 0))) (.bool _)), (23, .val (.bool (decide (p ≥ X.N))) (.bool _))]) (ch := [⟨8, none, .loop (lp Try.prog 18 8), T18 K e p 0, [], H18 X K cut0, 6, _, true⟩]) 6 (evk 50) special ⟨trivial, mc, congrArg Value.bool h1, congrArg Value.bool h2, trivial⟩ ⟨codeOk_loop hlo, trivial⟩ (V20_hV X K rfl) (V20_smallH X K 3) (by kernel_rfl)
    exact key _ _ rfl rfl h
def cutC (X : Cx) (K : List Int) : List Bool := (cutGo X.ls.length K cut0).2
theorem u71 : szIs Try.prog 71 (23 + 1) true = true := by kernel_rfl
theorem reachY_0 (X : Cx) (hd : X.ls.length ≤ X.d) (hd2 : X.d < openCap) {K : List Int} (hK : K.length ≤ 1000) {e : Nat} {p : Int} (h : rErr X K p = none) :
    0 ≤ p ∧ p < X.S.length ∧ Memo.Ok Try.prog ⟨18, 3, [X.v, .int .i64 p, cutv 2 K.length e], V20 X K, .tuple #[.slice (some ⟨8, 0, none⟩) X.S.length X.S.length, .int .i64 0], [(8, bc (reachS (cutC X K) X.ls X.S.length p.toNat))], 9⟩ := by
  unfold rErr at h
  cases hc : checkS X with
  | false => rw [hc] at h; cases h
  | true =>
    have mc := check_m X hd hd2 hc 4
    rw [hc] at h
    simp only [cond_true] at h
    cases hn : nodeBad X.N p with
    | true => rw [hn] at h; cases h
    | false =>
      rw [hn] at h
      have hn2 := hn
      simp only [nodeBad, Bool.or_eq_false_iff] at hn2
      obtain ⟨h1, h2⟩ := hn2
      have h1' := of_decide_eq_false h1
      have h2' := of_decide_eq_false h2
      have hc2 := hc
      unfold checkS lateS at hc2
      simp only [Bool.and_eq_true] at hc2
      obtain ⟨hN, hn2, hn12, h24⟩ := first_true hc2.1
      have he : ∀ l ∈ X.ls, Ends X.S.length l := fun l hl => hN ▸ ends_of (sndGo_mem hc2.2.1.1 l hl)
      have hcl : (cutC X K).length = 24 := by unfold cutC; rw [cutGo_len]; simp [cut0]
      have hlo := m_loop X h24 hK (e := e) (p := p) K.length 0 cut0 (by simp [cut0]) (by omega)
      rw [List.drop_zero] at hlo
      refine ⟨by omega, by omega, ?_⟩
      obtain ⟨a, rfl⟩ : ∃ n : Nat, p = n := ⟨p.toNat, by omega⟩
      have mr := reach_m X (C := cutC X K) (a := a) hN hcl h24 he (by omega) 6
      have hld : doLoad Try.prog [(4, .cells (bc (cutC X K)) false)] 71 (.pointer (some ⟨4, 0, none⟩)) = some (.agg (bc (cutC X K)).toArray) := ldN u71 (by rw [bc_len]; exact hcl) (fun j v hv => by simpa using hv)
      unfold cutC at mr hld ⊢
      generalize cutGo X.ls.length K cut0 = g at hlo h mr hld
      obtain ⟨g1, g2⟩ := g
      cases g1 with
      | false => cases h
      | true =>
        exact memo_new (hs := [(3, .frz), (13, .call _), (18, .val (.bool (decide ((a : Int) < 0))) (.bool _)), (23, .val (.bool (decide ((a : Int) ≥ X.N))) (.bool _)), (45, .ld 71 _ 4 (bc g2) false _), (46, .call _)]) (ch := [⟨8, none, .loop (lp Try.prog 18 8), T18 K e a 0, [], H18 X K cut0, 6, _, true⟩]) (evk 50) special ⟨trivial, mc, congrArg Value.bool h1, congrArg Value.bool h2, ⟨hld, _, rfl⟩, mr, trivial⟩ ⟨codeOk_loop hlo, trivial⟩ (by kernel_rfl)
end Go.Proofs.Ytkngbmaomgfcjaa.topo
